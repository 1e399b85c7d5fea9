/- HoldRound: rows that are built; its walk. -/
import Derived.Test.YteiclengdlhnnaaHold11b
import Derived.Test.YteiclengdlhnnaaSim29
namespace Go.Proofs.Yteiclengdlhnnaa
open Go Go.Sh
def pl3 : Nat → Option (List Nat × List Ent) := fun _ => none

set_option maxRecDepth 20000
set_option maxHeartbeats 4000000
set_option linter.unusedSimpArgs false
set_option linter.unusedVariables false
attribute [local simp] sWanted sOp ev put pl1 pl0 sResults sResL oneOf sBin sGuardOk sEqT sInt sUn sConvNum sNil sField sFieldV sPart sIndex sLoad sStore sBuiltin sLen sLookup sMapUpdate sAlloc sBox sMakeMap SW.set SW.new setL Value.cells Value.oneCell' opAt cls stable sNew ancB readsHeap noResult Go.undef List.replicate ite_lt ite_gt frL Nat.testBit
attribute [local simp ↓] vcD_skip vcD_label vcD_exit vcD_goto vcD_ret vcD_seq vcD_cond vcD_block vcD_region vcD_draw vcD_loop vcD_scope vcOps_nil vcOps_cons vcOp_eq vcEnts_nil vcEnts_chk vcEnts_run thenQ_normal thenQ_exit thenQ_goto thenQ_ret inBlockQ_normal inBlockQ_exit inBlockQ_goto inBlockQ_ret bodyQ_normal bodyQ_ret Kont_apply entK_apply

/-- A row of leaves that was made. -/
def LeavesRow (s : SW) (l : List Leaf) (v : Value) : Prop := (l = [] ∧ v = .slice none 0 0) ∨ (l ≠ [] ∧ ∃ b, v = .slice (some ⟨b, 0, none⟩) l.length l.length ∧ s.heap b = some (.cells (leafCells l) true 2))

theorem LeavesRow.leaves {s : SW} {l : List Leaf} {v : Value} (h : LeavesRow s l v) : LeavesIn s l v := by
  rcases h with ⟨rfl, rfl⟩ | ⟨h0, b, rfl, hb⟩
  · exact .nil
  · exact .lit h0 rfl hb

theorem LeavesRow.agree {s s' : SW} {l : List Leaf} {v : Value} (h : LeavesRow s l v) (hwf : s.wf) (ha : Agree s s') : LeavesRow s' l v := by
  rcases h with h | ⟨h0, b, h1, h2⟩
  · exact .inl h
  · exact .inr ⟨h0, b, h1, (ha.2 b (hwf.lt h2)).trans h2⟩

theorem firstL_get (k : Nat) (hk : k < 8) : firstL[k]? = some (20 + (k : Int), 1 + ((k % 7 : Nat) : Int)) := by
  simp [firstL, hk]

def baseOf : Value → Option Nat
  | .slice (some a) _ _ => some a.block
  | _ => none

/-- What an append leaves as it was. -/
def Kept (v : Value) (s s' : SW) : Prop := s.next ≤ s'.next ∧ ∀ j, j < s.next → ¬ baseOf v = some j → s'.heap j = s.heap j

theorem sBounds_one (n : Nat) (h : 1 ≤ n) : sBounds n n none (some (.int .i64 1)) none = some (0, 1, n) := by
  have h' : (1 : Int) ≤ n := by omega
  delta sBounds
  simp [sBound, h']

theorem append_leaf (s : SW) (hwf : s.wf) (l : List Leaf) (v : Value) (x : Leaf) (hrow : LeavesRow s l v) (hl : l.length ≤ 1000) :
    ∃ bv s1 v' s', sBuildSlice Try.prog 23 1 [(0, .agg #[.int .i64 x.1, .int .i64 x.2])] s = some (bv, s1) ∧ sAppend Try.prog #[23, 23] #[v, bv] s1 = some (v', s') ∧
      LeavesRow s' (l ++ [x]) v' ∧ Kept v s s' ∧ (∀ b, baseOf v' = some b → s.next ≤ b) ∧ s'.wf := by
  rcases hrow with ⟨rfl, rfl⟩ | ⟨h0, b, rfl, hb⟩
  · refine ⟨_, _, _, _, by simp [sBuildSlice, partOk, Instr.fill, sZeros]; exact ⟨rfl, rfl⟩, by simp [sAppend, sFirst, sLenOf, intD]; exact ⟨rfl, rfl⟩, .inr ⟨by simp, _, rfl, ?_⟩, ⟨?_, ?_⟩, ?_, ?_⟩
    · simp [leafCells]
    · simp; omega
    · intro j hj _
      simp (disch := omega)
    · intro b hb
      simp [baseOf] at hb
      omega
    · intro j hj
      have := hwf j
      simp at hj ⊢
      grind
  · have lb := hwf.lt hb
    have e1 : ¬ b = s.next := by omega
    have e2 : ¬ 1073741823 < l.length := by omega
    have e3 : ¬ l.length + 1 ≤ l.length := by omega
    have hll := leafCells_length l
    refine ⟨_, _, _, _, by simp [sBuildSlice, partOk, Instr.fill, sZeros]; exact ⟨rfl, rfl⟩, by simp [sAppend, sFirst, sLenOf, intD, hb, e1, e2, e3, hll, SW.kill, List.take_of_length_le]; exact ⟨rfl, rfl⟩, .inr ⟨by simp, _, by simp; rfl, ?_⟩, ⟨?_, ?_⟩, ?_, ?_⟩
    · simp [leafCells]
    · simp; omega
    · intro j hj hne
      have : ¬ j = b := fun e => hne (by simp [baseOf, e])
      simp (disch := omega) [this]
    · intro b' hb'
      simp [baseOf] at hb'
      omega
    · intro j hj
      have := hwf j
      simp at hj ⊢
      grind

theorem rem_k (k : Nat) (hk : k < 8) : IntKind.i64.wrap (1 + ((k : Int)).tmod 7) = 1 + ((k % 7 : Nat) : Int) := by
  have : ((k : Int)).tmod 7 = ((k % 7 : Nat) : Int) := by
    rw [Int.tmod_eq_emod_of_nonneg (by omega)]
    omega
  rw [this]
  exact Sh.wrap_small (by omega) (by omega)

theorem append_int (s : SW) (hwf : s.wf) (l : List Int) (v : Value) (x : Int) (hrow : RowIs s l v) (hl : l.length ≤ 1000) :
    ∃ bv s1 v' s', sBuildSlice Try.prog 28 1 [(0, .int .i64 x)] s = some (bv, s1) ∧ sAppend Try.prog #[28, 28] #[v, bv] s1 = some (v', s') ∧
      RowIs s' (l ++ [x]) v' ∧ Kept v s s' ∧ (∀ b, baseOf v' = some b → s.next ≤ b) ∧ s'.wf := by
  rcases hrow with ⟨rfl, rfl⟩ | ⟨h0, b, rfl, hb⟩
  · refine ⟨_, _, _, _, by simp [sBuildSlice, partOk, Instr.fill, sZeros]; exact ⟨rfl, rfl⟩, by simp [sAppend, sFirst, sLenOf, intD]; exact ⟨rfl, rfl⟩, .inr ⟨by simp, _, rfl, ?_⟩, ⟨?_, ?_⟩, ?_, ?_⟩
    · simp [intsC]
    · simp; omega
    · intro j hj _
      simp (disch := omega)
    · intro b hb
      simp [baseOf] at hb
      omega
    · intro j hj
      have := hwf j
      simp at hj ⊢
      grind
  · have lb := hwf.lt hb
    have e1 : ¬ b = s.next := by omega
    have e2 : ¬ 1073741823 < l.length := by omega
    have e3 : ¬ l.length + 1 ≤ l.length := by omega
    simp only [intsC] at hb
    refine ⟨_, _, _, _, by simp [sBuildSlice, partOk, Instr.fill, sZeros]; exact ⟨rfl, rfl⟩, by simp [sAppend, sFirst, sLenOf, intD, hb, e1, e2, e3, SW.kill, List.take_of_length_le]; exact ⟨rfl, rfl⟩, .inr ⟨by simp, _, by simp; rfl, ?_⟩, ⟨?_, ?_⟩, ?_, ?_⟩
    · simp [intsC]
    · simp; omega
    · intro j hj hne
      have : ¬ j = b := fun e => hne (by simp [baseOf, e])
      simp (disch := omega) [this]
    · intro b' hb'
      simp [baseOf] at hb'
      omega
    · intro j hj
      have := hwf j
      simp at hj ⊢
      grind

theorem Kept.agree {s0 s s' : SW} {v : Value} (ha : Agree s0 s) (hk : Kept v s s') (hb : ∀ b, baseOf v = some b → s0.next ≤ b) : Agree s0 s' :=
  ⟨Nat.le_trans ha.1 hk.1, fun j hj => (hk.2 j (Nat.lt_of_lt_of_le hj ha.1) (fun e => by have := hb j e; omega)).trans (ha.2 j hj)⟩

theorem shr_u8 (g k : Nat) (hk : k < 8) : sBin Try.prog .shr 5 (.int .u8 (g : Int)) (.int .i64 (k : Int)) = some (.int .u8 ((g / 2 ^ k : Nat) : Int)) := by
  have h1 : min k 8 = k := by omega
  have h2 : ¬ (k : Int) < 0 := by omega
  have h3 : ((g : Int)).fdiv (2 ^ k) = ((g / 2 ^ k : Nat) : Int) := by
    rw [Int.fdiv_eq_ediv_of_nonneg _ (by exact_mod_cast Nat.zero_le _)]
    push_cast
    rfl
  simp [sBin, IntKind.bits, h1, h2, h3]

theorem and1_u8 (a : Nat) : sBin Try.prog .and 5 (.int .u8 (a : Int)) (.int .u8 1) = some (.int .u8 ((a % 2 : Nat) : Int)) := by
  have h1 : (BitVec.ofInt 8 (a : Int) &&& BitVec.ofInt 8 1).toNat = a % 2 := by
    rw [BitVec.toNat_and, BitVec.ofInt_natCast, BitVec.toNat_ofNat]
    show a % 2 ^ 8 &&& 1 = _
    rw [Nat.and_one_is_mod]
    omega
  have h2 : IntKind.u8.wrap ((a % 2 : Nat) : Int) = ((a % 2 : Nat) : Int) := by
    show (if (false && decide (((a % 2 : Nat) : Int) % (2 ^ 8 : Int) ≥ (2 ^ 7 : Int))) = true then ((a % 2 : Nat) : Int) % (2 ^ 8 : Int) - 2 ^ 8 else ((a % 2 : Nat) : Int) % (2 ^ 8 : Int)) = ((a % 2 : Nat) : Int)
    simp only [Bool.false_and, Bool.false_eq_true, if_false]
    omega
  have h3 : sBin Try.prog .and 5 (.int .u8 (a : Int)) (.int .u8 1) = some (.int .u8 (IntKind.u8.wrap ((BitVec.ofInt 8 (a : Int) &&& BitVec.ofInt 8 1).toNat : Int))) := rfl
  rw [h3, h1, h2]

theorem shr_u8' (g k : Nat) (hk : k < 8) : sBin Try.prog .shr 5 (.int .u8 (g : Int)) (.int .i64 (k : Int)) = some (.int .u8 ((g : Int) / 2 ^ k)) := by
  have := shr_u8 g k hk
  push_cast at this
  exact this

theorem and1_u8' (g k : Nat) : sBin Try.prog .and 5 (.int .u8 ((g : Int) / 2 ^ k)) (.int .u8 1) = some (.int .u8 ((g : Int) / 2 ^ k % 2)) := by
  have := and1_u8 (g / 2 ^ k)
  push_cast at this
  exact this

theorem rem_u8 (a : Int) : sBin Try.prog .rem 5 (.int .u8 a) (.int .u8 3) = some (.int .u8 (a.tmod 3)) := rfl
theorem lss_i64 (a b : Int) : sBin Try.prog .lss 3 (.int .i64 a) (.int .i64 b) = some (.bool (decide (a < b))) := rfl
theorem eql_u8 (a b : Int) : sBin Try.prog .eql 5 (.int .u8 a) (.int .u8 b) = some (.bool (a == b)) := rfl
theorem add_i64 (a b : Int) : sBin Try.prog .add 3 (.int .i64 a) (.int .i64 b) = some (.int .i64 (IntKind.i64.wrap (a + b))) := rfl


theorem wf_i64 {n : Int} (h0 : -9223372036854775808 ≤ n) (h1 : n ≤ 9223372036854775807) : (Lit.int .i64 n).wf = true := by
  have e0 : IntKind.i64.min = -9223372036854775808 := by decide
  have e1 : IntKind.i64.max = 9223372036854775807 := by decide
  simp [Lit.wf, e0, e1, h0, h1]

theorem rem_i64 (a b : Int) (hb : ¬ b = 0) : sBin Try.prog .rem 3 (.int .i64 a) (.int .i64 b) = some (.int .i64 (a.tmod b)) := by
  simp [sBin, sInt, hb]

theorem rem7 (k : Nat) (hk : k < 8) : sBin Try.prog .rem 3 (.int .i64 (k : Int)) (.int .i64 7) = some (.int .i64 ((k : Int) % 7)) := by
  have : ((k : Int)).tmod 7 = (k : Int) % 7 := Int.tmod_eq_emod_of_nonneg (by omega)
  rw [rem_i64 _ _ (by omega), this]

theorem wrapk7 (k : Nat) (hk : k < 8) : IntKind.i64.wrap (1 + (k : Int) % 7) = 1 + (k : Int) % 7 := wrap_i64 (by omega) (by omega)

theorem neq37 (a b c d a' b' c' d' : Int) : sBin Try.prog .neq 37 (.agg #[.int .i64 a, .int .i64 b, .int .i64 c, .int .u64 d]) (.agg #[.int .i64 a', .int .i64 b', .int .i64 c', .int .u64 d']) =
    some (.bool (!(a == a' && (b == b' && (c == c' && (d == d' && true)))))) := by kernel_rfl

theorem neq37_same (a b c d : Int) : sBin Try.prog .neq 37 (.agg #[.int .i64 a, .int .i64 b, .int .i64 c, .int .u64 d]) (.agg #[.int .i64 a, .int .i64 b, .int .i64 c, .int .u64 d]) = some (.bool false) := by
  rw [neq37]
  simp

theorem suchL_nil (q : Pg → Bool) : suchL [] q = [] := by simp [suchL, rising]

theorem pages_call_at {h la c : Nat} {ms : List Nat} {H : List Mp} (hs : Small H) (part : Int) (s : SW) (hh : HoldAt s h la c ms H) :
    SCalls Try.prog 20 [.pointer (some ⟨h, 0, none⟩), .int .i64 part] s (RowOut (suchOf H part fun _ => true) s) := pages_call hh hs part

theorem out_at {h la c : Nat} {ms : List Nat} {H : List Mp} (hnd : ms.Nodup) (hs : Small H) (part mark : Int) (s : SW) (hh : HoldAt s h la c ms H) :
    SCalls Try.prog 21 [.pointer (some ⟨h, 0, none⟩), .int .i64 part, .int .u64 mark] s fun v s' =>
      RowIs s' (suchOf H part fun p => p.mark == mark && p.state == 4) v ∧ HoldPost h la c ms (hAway H part (suchOf H part fun p => p.mark == mark && p.state == 4)) s s' := out_call hh hnd hs part mark

theorem back_at {h la c : Nat} {ms : List Nat} {H : List Mp} (hnd : ms.Nodup) (hs : Small H) (part mark : Int) (s : SW) (hh : HoldAt s h la c ms H) :
    SCalls Try.prog 22 [.pointer (some ⟨h, 0, none⟩), .int .i64 part, .int .u64 mark] s fun v s' =>
      RowIs s' (suchOf H part fun p => p.mark == mark && (p.state == 2 || p.state == 3)) v ∧ HoldPost h la c ms (hBack H part (suchOf H part fun p => p.mark == mark && (p.state == 2 || p.state == 3))) s s' := back_call hh hnd hs part mark

theorem round_walk (g : Nat) (kd at_ n : Int) (s : SW) (hg1 : g ≤ 255) (hk0 : 0 ≤ kd) (hk1 : kd ≤ 255) (ha0 : 0 ≤ at_) (ha1 : at_ ≤ 255) :
    SCalls Try.prog 3 [.int .u8 g, .int .u8 kd, .int .u8 at_, .int .u8 n] s fun v s' => v = .bool true ∧ Agree s s' := by
  refine SCalls.bodyL Try.func3 rfl rfl fun hwf => vcD_ok (D := fun _ => none) (n := 182) mixed (by kernel_rfl) ?_
  simp
  refine (begun_call s).monoW ?_
  rintro v s1 hwf1 ⟨rfl, ag1⟩
  simp
  refine SWp.uptoR 8 (fun k (v : Value) s2 => Agree s s2 ∧ LeavesRow s2 (firstL.take k) v ∧ ∀ b, baseOf v = some b → s.next ≤ b)
    (fun k v => [.int .u8 g, .int .u8 kd, .int .u8 at_, junk, junk, junk, junk, junk, junk, v, .int .i64 k, junk, junk, junk, junk, junk, junk, junk, junk, junk, junk, junk, junk, junk, junk, junk, junk, junk, junk, junk, junk, junk, junk, junk, junk, junk, junk, junk, junk, junk, junk, junk, junk, junk, junk, junk, junk, junk, junk, junk, junk, junk, junk, junk, junk, junk, junk, junk, junk, junk, junk, junk, junk, junk, junk, junk, junk, junk, junk, junk, junk, junk, junk, junk, junk, junk, junk, junk, junk, junk, junk, junk, junk, junk, junk, junk, junk, junk, junk, junk, junk, junk, junk, junk, junk, junk, junk, junk, junk, junk, junk, junk, junk, junk, junk, junk, junk, junk, junk, junk, junk, junk, junk, junk, junk, junk, junk, junk, junk, junk, junk, junk, junk, junk, junk, junk, junk, junk, junk, junk, junk, junk, junk, junk, junk, junk, junk, junk, junk, junk, junk, junk, junk, junk, junk, junk, junk, junk, junk, junk, junk, junk, junk, junk, junk, junk, junk, junk, junk, junk, junk, junk, junk, junk, junk, junk, junk, junk, junk, junk, junk, junk, junk, junk, junk, junk, junk, junk, junk, junk, junk, junk])
    (.slice none 0 0) ⟨ag1, .inl ⟨by simp, rfl⟩, by simp [baseOf]⟩ (by simp) ?_ ?_
  · rintro k v s2 hk hwf2 ⟨ag2, hrow, hbase⟩
    have hw : IntKind.i64.wrap ((k : Int) + 1) = k + 1 := Sh.wrap_small (by omega) (by omega)
    have hw2 : IntKind.i64.wrap (20 + (k : Int)) = 20 + k := Sh.wrap_small (by omega) (by omega)
    have hk8 : (k : Int) < 8 := by omega
    obtain ⟨bv, sx, v', s', e1, e2, hr, hkp, hb, _⟩ := append_leaf s2 hwf2 _ v (20 + (k : Int), 1 + ((k % 7 : Nat) : Int)) hrow (Nat.le_trans (List.length_take_le _ _) (by omega))
    have htk : firstL.take k ++ [(20 + (k : Int), 1 + ((k % 7 : Nat) : Int))] = firstL.take (k + 1) := by
      rw [List.take_add_one, firstL_get k hk]; rfl
    rw [htk] at hr
    push_cast at e1 e2
    refine vcD_ok (D := fun _ => none) (n := 182) mixed (by kernel_rfl) ?_
    simp [hk8, hw, hw2, rem_k k hk, build25, e1, e2]
    exact ⟨v', ⟨hkp.agree ag2 hbase, hr, fun b hb' => Nat.le_trans ag2.1 (hb b hb')⟩, .inr rfl⟩
  rintro v s2 hwf2 ⟨ag2, hrow, hbase⟩
  have hall : firstL.take 8 = firstL := List.take_of_length_le (by simp [firstL])
  rw [hall] at hrow
  rcases hrow with ⟨h0, _⟩ | ⟨_, b, rfl, hbl⟩
  · exact absurd h0 (by simp [firstL])
  have lbl := hwf2.lt hbl
  refine vcD_ok (D := fun _ => none) (n := 182) mixed (by kernel_rfl) ?_
  simp [sBuildSlice, partOk, Instr.fill, sZeros]
  refine (new_call _ s2.next 2 _ true 0 [firstL, []] (by simp; rfl) rfl (by simp) (by simp) ?_).monoW ?_
  · intro k v l hv hl
    match k with
    | 0 =>
      simp at hv hl
      subst hv hl
      exact ⟨.lit (own := true) (g := 2) (by simp [firstL]) rfl (by simp (disch := omega) [hbl]), by simp [firstL]⟩
    | 1 =>
      simp at hv hl
      subst hv hl
      exact ⟨.nil, by simp⟩
    | k + 2 => simp at hl
  rintro v s3 hwf3 ⟨h, la, ms, rfl, hh, hnd, ha, hlo, _, _⟩
  have ha3 : Agree s s3 := (ag2.trans ⟨by simp, fun j hj => by simp (disch := omega)⟩).trans ha
  have hlo3 : ∀ m ∈ ms, s.next ≤ m := fun m hm => by have := hlo m hm; have := ag2.1; simp at *; omega
  clear ha hlo
  have hR : [firstL, []].map newM = [R0, []] := rfl
  rw [hR] at hh
  simp
  refine SWp.uptoR 8 (fun k (x : Value × Value) s4 => Agree s3 s4 ∧ RowIs s4 (((List.range k).filter fun k => g / 2 ^ k % 2 == 1).map fun (k : Nat) => (k : Int)) x.1 ∧
      LeavesRow s4 (((List.range k).filter fun k => g / 2 ^ k % 2 == 1).map fun (k : Nat) => (20 + (k : Int), 1)) x.2 ∧
      (∀ b, baseOf x.1 = some b → s3.next ≤ b) ∧ (∀ b, baseOf x.2 = some b → s3.next ≤ b) ∧ (∀ b, baseOf x.1 = some b → ¬ baseOf x.2 = some b))
    (fun k x => [.int .u8 g, .int .u8 kd, .int .u8 at_, junk, junk, junk, junk, junk, junk, junk, junk, .pointer (some ⟨h, 0, none⟩), x.1, x.2, .int .i64 k, junk, junk, junk, junk, junk, junk, junk, junk, junk, junk, junk, junk, junk, junk, junk, junk, junk, junk, junk, junk, junk, junk, junk, junk, junk, junk, junk, junk, junk, junk, junk, junk, junk, junk, junk, junk, junk, junk, junk, junk, junk, junk, junk, junk, junk, junk, junk, junk, junk, junk, junk, junk, junk, junk, junk, junk, junk, junk, junk, junk, junk, junk, junk, junk, junk, junk, junk, junk, junk, junk, junk, junk, junk, junk, junk, junk, junk, junk, junk, junk, junk, junk, junk, junk, junk, junk, junk, junk, junk, junk, junk, junk, junk, junk, junk, junk, junk, junk, junk, junk, junk, junk, junk, junk, junk, junk, junk, junk, junk, junk, junk, junk, junk, junk, junk, junk, junk, junk, junk, junk, junk, junk, junk, junk, junk, junk, junk, junk, junk, junk, junk, junk, junk, junk, junk, junk, junk, junk, junk, junk, junk, junk, junk, junk, junk, junk, junk, junk, junk, junk, junk, junk, junk, junk, junk, junk, junk, junk, junk, junk, junk, junk, junk, junk, junk, junk, junk])
    (.slice none 0 0, .slice none 0 0) ⟨.refl _, .inl ⟨by simp, rfl⟩, .inl ⟨by simp, rfl⟩, by simp [baseOf], by simp [baseOf], by simp [baseOf]⟩ (by simp) ?_ ?_
  · rintro k ⟨v1, v2⟩ s4 hk hwf4 ⟨ag4, hr1, hr2, hb1, hb2, hb12⟩
    have hk8 : (k : Int) < 8 := by omega
    have hw : IntKind.i64.wrap ((k : Int) + 1) = k + 1 := Sh.wrap_small (by omega) (by omega)
    have hw2 : IntKind.i64.wrap (20 + (k : Int)) = 20 + k := Sh.wrap_small (by omega) (by omega)
    have hrange : ∀ f : Nat → Bool, (List.range (k + 1)).filter f = (List.range k).filter f ++ if f k then [k] else [] := by
      intro f
      rw [List.range_succ, List.filter_append]
      congr 1
      cases hf : f k <;> simp [hf]
    have hlen : ((List.range k).filter fun k => g / 2 ^ k % 2 == 1).length ≤ 1000 := Nat.le_trans (List.length_filter_le _ _) (by simp; omega)
    cases hbit : g / 2 ^ k % 2 == 1
    · have hne : ¬ g / 2 ^ k % 2 = 1 := by simpa using hbit
      have hz : g / 2 ^ k % 2 = 0 := by omega
      refine vcD_ok (D := fun _ => none) (n := 182) mixed (by kernel_rfl) ?_
      have hz' : (g : Int) / 2 ^ k % 2 = 0 := by exact_mod_cast hz
      simp [-sBin, shr_u8', and1_u8', lss_i64, eql_u8, add_i64, hk, hk8, hw, hz']
      rw [hrange]
      simp only [hbit, Bool.false_eq_true, if_false, List.append_nil]
      exact ⟨v1, v2, ⟨ag4, hr1, hr2, hb1, hb2, hb12⟩, .inr rfl, .inr rfl⟩
    · have hz : g / 2 ^ k % 2 = 1 := by simpa using hbit
      refine vcD_ok (D := fun _ => none) (n := 182) mixed (by kernel_rfl) ?_
      have hz' : (g : Int) / 2 ^ k % 2 = 1 := by exact_mod_cast hz
      simp [-sBin, shr_u8', and1_u8', lss_i64, eql_u8, add_i64, hk, hk8, hw, hw2, hz', build25]
      obtain ⟨bv1, sx1, v1', s5, a1, a2, a3, a4, a5, hwf5⟩ := append_int s4 hwf4 _ v1 (k : Int) hr1 (by rw [List.length_map]; exact hlen)
      have hr2' : LeavesRow s5 (((List.range k).filter fun k => g / 2 ^ k % 2 == 1).map fun (k : Nat) => (20 + (k : Int), 1)) v2 := by
        rcases hr2 with h | ⟨h0, b, rfl, hb⟩
        · exact .inl h
        · refine .inr ⟨h0, b, rfl, ?_⟩
          rw [a4.2 b (hwf4.lt hb) (fun e => hb12 b e rfl)]
          exact hb
      obtain ⟨bv2, sx2, v2', s6, c1, c2, c3, c4, c5, _⟩ := append_leaf s5 hwf5 _ v2 (20 + (k : Int), 1) hr2' (by rw [List.length_map]; exact hlen)
      simp only [a1, a2, c1, c2]
      rw [hrange]
      simp only [hbit, if_true, List.map_append, List.map_cons, List.map_nil]
      have hv2 : ∀ b, baseOf v2 = some b → b < s4.next := by
        intro b hb
        rcases hr2 with ⟨_, rfl⟩ | ⟨_, b', rfl, hb'⟩
        · cases hb
        · cases hb; exact hwf4.lt hb'
      have hv1 : ∀ b, baseOf v1' = some b → b < s5.next := by
        intro b hb
        rcases a3 with ⟨_, rfl⟩ | ⟨_, b', rfl, hb'⟩
        · cases hb
        · cases hb; exact hwf5.lt hb'
      have hrow6 : RowIs s6 (((List.range k).filter fun k => g / 2 ^ k % 2 == 1).map (fun (k : Nat) => (k : Int)) ++ [(k : Int)]) v1' := by
        rcases a3 with h | ⟨h0, b, rfl, hb⟩
        · exact .inl h
        · refine .inr ⟨h0, b, rfl, ?_⟩
          rw [c4.2 b (hwf5.lt hb) (fun e => by have := hv2 b e; have := a5 b rfl; omega)]
          exact hb
      have := ag4.1
      have := a4.1
      exact ⟨v1', v2', ⟨c4.agree (a4.agree ag4 hb1) hb2, hrow6, c3, fun b hb => by have := a5 b hb; omega, fun b hb => by have := c5 b hb; omega, fun b h1 h2 => by have := hv1 b h1; have := c5 b h2; omega⟩, .inr rfl, .inr rfl⟩
  rintro ⟨vp, vl⟩ s4 hwf4 ⟨ag4, hr1, hr2, hb1, hb2, hb12⟩
  have hps : ((List.range 8).filter fun k => g / 2 ^ k % 2 == 1).map (fun (k : Nat) => (k : Int)) = pagesOf g := rfl
  have hls : ((List.range 8).filter fun k => g / 2 ^ k % 2 == 1).map (fun (k : Nat) => (20 + (k : Int), (1 : Int))) = leavesOf g := rfl
  rw [hps] at hr1
  rw [hls] at hr2
  refine vcD_ok (D := fun _ => none) (n := 182) mixed (by kernel_rfl) ?_
  obtain ⟨w, hw, hw13⟩ : ∃ w : Int, w = 1 + kd.tmod 3 ∧ (w = 1 ∨ w = 2 ∨ w = 3) := by
    refine ⟨_, rfl, ?_⟩
    have h1 : kd.tmod 3 = kd % 3 := Int.tmod_eq_emod_of_nonneg hk0
    omega
  have hw1 : IntKind.i64.wrap (kd.tmod 3) = kd.tmod 3 := wrap_i64 (by omega) (by omega)
  have hw2 : IntKind.i64.wrap (1 + kd.tmod 3) = w := by rw [← hw]; exact wrap_i64 (by omega) (by omega)
  simp [-sBin, lss_i64, rem_u8, add_i64, hw1, hw2]
  have hlen : (pagesOf g).length ≤ 8 := by
    simp only [pagesOf, List.length_map, bitsOf]
    exact Nat.le_trans (List.length_filter_le _ _) (by simp)
  have hh4 := hh.of_agree hwf3 ag4
  have hgc := give_call hh4 hnd 0 w 9 (pagesOf g) vp hr1.ints (by omega)
  by_cases hp0 : pagesOf g = []
  · have hl0 : leavesOf g = [] := by
      simp only [pagesOf, List.map_eq_nil_iff] at hp0
      simp [leavesOf, hp0]
    rw [hp0] at hgc hr1
    rw [hl0] at hr2
    have hG : hGive [R0, []] 0 [] w 9 = (-2, [R0, []]) := by simp [hGive, partM]
    rw [hG] at hgc
    refine hgc.monoW ?_
    rintro v s5 hwf5 ⟨rfl, hp5⟩
    have hr2' := hp5.leaves hh4 hwf4 hr2.leaves
    have ha5 := hp5.agree (ha3.trans ag4) hlo3
    rcases hr1 with ⟨_, rfl⟩ | ⟨h0, _⟩
    · simp
      have hpc := put_call hp5.1 hnd 1 0 9 [] vl hr2' (by simp)
      have hP : hPut [R0, []] 1 0 [] 9 = (-2, [R0, []]) := by simp [hPut, partM]
      rw [hP] at hpc
      refine hpc.monoW ?_
      rintro v s6 hwf6 ⟨rfl, hp6⟩
      simp
      exact Post.refl ⟨rfl, hp6.agree ha5 hlo3⟩
    · exact absurd rfl h0
  · have hF := round_facts g hg1 w hw13
    generalize hm1 : giveAll w 9 R0 (pagesOf g) = m1 at hF
    generalize hm2 : backAll m1 (pagesOf g) = m2 at hF
    have hG : hGive [R0, []] 0 (pagesOf g) w 9 = (0, [m1, []]) := by
      have k1 : ¬ w < 1 := by omega
      have k2 : ¬ 3 < w := by omega
      simp [hGive, partM, k1, k2, hp0, hF.may, hm1]
    rw [hG] at hgc
    refine hgc.monoW ?_
    rintro v s5 hwf5 ⟨rfl, hp5⟩
    have hr1' := hp5.row hh4 hwf4 hr1
    have hr2' := hp5.leaves hh4 hwf4 hr2.leaves
    have ha5 := hp5.agree (ha3.trans ag4) hlo3
    have hh5 := hp5.1
    have hlenL : (leavesOf g).length = (pagesOf g).length := by simp [leavesOf, pagesOf]
    have hn0 : (((pagesOf g).length : Int) == 0) = false := by
      have : (pagesOf g).length ≠ 0 := fun e => hp0 (List.eq_nil_of_length_eq_zero e)
      simp; omega
    clear hr1
    rcases hr1' with ⟨h0, _⟩ | ⟨_, bp, rfl, hbp⟩
    · exact absurd h0 hp0
    have hwat : IntKind.i64.wrap at_ = at_ := wrap_i64 (by omega) (by omega)
    simp [hn0, hwat]
    have hpc := put_call hh5 hnd 1 at_ 9 (leavesOf g) vl hr2' (by omega)
    have hL0 : ¬ leavesOf g = [] := fun e => hp0 (List.eq_nil_of_length_eq_zero (by rw [← hlenL, e]; rfl))
    have hP : hPut [m1, []] 1 at_ (leavesOf g) 9 = (0, [m1, boxM at_ (leavesOf g) (leavesOf g).length]) := by
      have k1 : ¬ at_ < 0 := by omega
      have k2 : ¬ 3840 - ((leavesOf g).length : Int) < at_ := by omega
      have k3 : free [] at_ (leavesOf g).length := fun j _ => rfl
      simp [hPut, partM, hL0, k1, k2, k3, putUp_box at_ _ _ (Nat.le_refl _)]
    rw [hP] at hpc
    refine hpc.monoW ?_
    rintro v s6 hwf6 ⟨rfl, hp6⟩
    have hbp6 := hp6.cells hh5 hwf5 hbp
    have hr26 := hp6.leaves hh5 hwf5 hr2'
    have ha6 := hp6.agree ha5 hlo3
    have hh6 := hp6.1
    have hp1 : 1 ≤ (pagesOf g).length := by
      rcases Nat.eq_zero_or_pos (pagesOf g).length with h | h
      · exact absurd (List.eq_nil_of_length_eq_zero h) hp0
      · exact h
    have hp1' : 0 < (pagesOf g).length := hp1
    simp [sSlice, sBounds_one _ hp1, evenB, hbp6, hp1']
    obtain ⟨x0, ps, hps0⟩ : ∃ x l, pagesOf g = x :: l := by
      cases hc : pagesOf g with
      | nil => exact absurd hc hp0
      | cons x l => exact ⟨x, l, rfl⟩
    have hx0 := hF.head x0 ps hps0
    have hin0 : IntsIn s6 [x0] (.slice (some ⟨bp, 0, none⟩) 1 (pagesOf g).length) := by
      refine .inr ⟨by simp, bp, 0, _, _, _, _, rfl, hbp6, fun k x hx => ?_⟩
      match k with
      | 0 =>
        simp at hx
        subst hx
        simp [hps0]
      | k + 1 => simp at hx
    have hgc2 := give_call hh6 hnd 0 w 9 [x0] _ hin0 (by simp)
    have hG2 : hGive [m1, boxM at_ (leavesOf g) (leavesOf g).length] 0 [x0] w 9 = (-6, [m1, boxM at_ (leavesOf g) (leavesOf g).length]) := by
      have k1 : ¬ w < 1 := by omega
      have k2 : ¬ 3 < w := by omega
      have k3 : ¬ mayGive m1 [x0] 1 := fun h => hx0 (h 0 x0 (by omega) rfl).1
      simp [hGive, partM, k1, k2, k3]
    rw [hG2] at hgc2
    refine hgc2.monoW ?_
    rintro v s7 hwf7 ⟨rfl, hp7⟩
    have hbp7 := hp7.cells hh6 hwf6 hbp6
    have hr27 := hp7.leaves hh6 hwf6 hr26
    have ha7 := hp7.agree ha6 hlo3
    have hh7 := hp7.1
    simp [hwat]
    have hpc2 := put_call hh7 hnd 1 at_ 9 (leavesOf g) vl hr27 (by omega)
    have hP2 : hPut [m1, boxM at_ (leavesOf g) (leavesOf g).length] 1 at_ (leavesOf g) 9 = (-6, [m1, boxM at_ (leavesOf g) (leavesOf g).length]) := by
      have k1 : ¬ at_ < 0 := by omega
      have k2 : ¬ 3840 - ((leavesOf g).length : Int) < at_ := by omega
      have k3 : ¬ free (boxM at_ (leavesOf g) (leavesOf g).length) at_ (leavesOf g).length := by
        intro h
        have h0 := h 0 (by omega)
        rw [boxM_get _ _ _ 0 (by omega)] at h0
        cases h0
      simp [hPut, partM, hL0, k1, k2, k3]
    rw [hP2] at hpc2
    refine hpc2.monoW ?_
    rintro v s8 hwf8 ⟨rfl, hp8⟩
    have hbp8 := hp8.cells hh7 hwf7 hbp7
    have ha8 := hp8.agree ha7 hlo3
    have hh8 := hp8.1
    simp only [] at hh8
    have hsmall : Small [m1, boxM at_ (leavesOf g) (leavesOf g).length] := by
      intro m hm
      simp only [List.mem_cons, List.not_mem_nil, or_false] at hm
      rcases hm with rfl | rfl
      · exact hF.small1
      · refine ⟨by simp [boxM]; omega, fun kv hkv => ?_⟩
        simp only [boxM, List.mem_map, List.mem_range] at hkv
        obtain ⟨j, hj, rfl⟩ := hkv
        exact wf_i64 (by omega) (by omega)
    generalize hbox : boxM at_ (leavesOf g) (leavesOf g).length = box at *
    have hbS : ∀ q : Pg → Bool, (∀ p : Pg, p.state = 4 → p.mark = 9 → q p = true) → suchL box q = (List.range (leavesOf g).length).map fun (j : Nat) => at_ + (j : Int) :=
      fun q hq => by rw [← hbox]; exact boxM_such _ _ _ q hq
    have hbG : delAll box ((List.range (leavesOf g).length).map fun (j : Nat) => at_ + (j : Int)) = [] := by rw [← hbox]; exact boxM_gone _ _ _
    clear hbox
    have hseen : (if w = 1 then (8 : Int) else 8 - ((pagesOf g).length : Int)) = ((suchL m1 fun p => !(p.state == 3)).length : Int) := by
      rw [hF.seen]
      split <;> omega
    have hws : IntKind.i64.wrap (8 - ((pagesOf g).length : Int)) = 8 - ((pagesOf g).length : Int) := wrap_i64 (by omega) (by omega)
    obtain ⟨sv, hsv1, hsv2⟩ : ∃ sv : Int, (w = 1 → sv = 8) ∧ (¬ w = 1 → sv = 8 - ((pagesOf g).length : Int)) := by
      by_cases hw : w = 1
      · exact ⟨8, fun _ => rfl, fun h => absurd hw h⟩
      · exact ⟨_, fun h => absurd h hw, fun _ => rfl⟩
    have hsv : ((suchL m1 fun p => !(p.state == 3)).length : Int) = sv := by
      rw [← hseen]
      split
      · rename_i h; exact (hsv1 h).symm
      · rename_i h; exact (hsv2 h).symm
    have hsc := seen_call hh8 hsmall 0
    have hS : suchOf [m1, box] 0 (fun p => !(p.state == 3)) = suchL m1 (fun p => !(p.state == 3)) := rfl
    rw [hS] at hsc
    have hpg := pages_call_at (h := h) (la := la) (c := [firstL, []].length) (ms := ms) hsmall 0
    have hS : suchOf [m1, box] 0 (fun _ => true) = suchL m1 (fun _ => true) := rfl
    rw [hS] at hpg
    have hpg1 := pages_call_at (h := h) (la := la) (c := [firstL, []].length) (ms := ms) hsmall 1
    have hS : suchOf [m1, box] 1 (fun _ => true) = (List.range (leavesOf g).length).map fun (j : Nat) => at_ + (j : Int) := (show _ = suchL box (fun _ => true) from rfl).trans (hbS _ fun _ _ _ => rfl)
    rw [hS] at hpg1
    have hall8 := hF.all
    generalize (suchL m1 fun p => !(p.state == 3)) = LS at hsv hsc
    generalize (suchL m1 fun _ => true) = LA at hall8 hpg
    have hall8' : (LA.length : Int) = 8 := by omega
    have hlb : (((List.range (leavesOf g).length).map fun (j : Nat) => at_ + (j : Int)).length : Int) = (pagesOf g).length := by simp [hlenL]
    have hoc0 := out_at (h := h) (la := la) (c := [firstL, []].length) (ms := ms) hnd hsmall 1 9
    have hS : suchOf [m1, box] 1 (fun p => p.mark == 9 && p.state == 4) = (List.range (leavesOf g).length).map fun (j : Nat) => at_ + (j : Int) :=
      (show _ = suchL box (fun p => p.mark == 9 && p.state == 4) from rfl).trans (hbS _ fun p h1 h2 => by simp [h1, h2])
    rw [hS] at hoc0
    generalize ((List.range (leavesOf g).length).map fun (j : Nat) => at_ + (j : Int)) = LB at hlb hbG hpg1 hoc0
    have hA : hAway [m1, box] 1 LB = [m1, []] := by simp [hAway, partM, hbG]
    rw [hA] at hoc0
    have hsm1 : Small [m1, []] := by
      intro m hm
      simp only [List.mem_cons, List.not_mem_nil, or_false] at hm
      rcases hm with rfl | rfl
      · exact hF.small1
      · simp
    have hbc0 := back_at (h := h) (la := la) (c := [firstL, []].length) (ms := ms) hnd hsm1 0 9
    have hS : suchOf [m1, []] 0 (fun p => p.mark == 9 && (p.state == 2 || p.state == 3)) = pagesOf g := hF.given
    rw [hS] at hbc0
    have hB : hBack [m1, []] 0 (pagesOf g) = [m2, []] := by simp [hBack, partM, hm2]
    rw [hB] at hbc0
    have hsm2 : Small [m2, []] := by
      intro m hm
      simp only [List.mem_cons, List.not_mem_nil, or_false] at hm
      rcases hm with rfl | rfl
      · exact hF.small2
      · simp
    have hpgz := pages_call_at (h := h) (la := la) (c := [firstL, []].length) (ms := ms) hsm2 1
    have hS : suchOf [m2, []] 1 (fun _ => true) = [] := (show _ = suchL [] (fun _ => true) from rfl).trans (suchL_nil _)
    rw [hS] at hpgz
    have hocz := out_at (h := h) (la := la) (c := [firstL, []].length) (ms := ms) hnd hsm2 1 9
    have hS : suchOf [m2, []] 1 (fun p => p.mark == 9 && p.state == 4) = [] := (show _ = suchL [] (fun p => p.mark == 9 && p.state == 4) from rfl).trans (suchL_nil _)
    rw [hS] at hocz
    have hA : hAway [m2, []] 1 [] = [m2, []] := rfl
    rw [hA] at hocz
    have hbcz := back_at (h := h) (la := la) (c := [firstL, []].length) (ms := ms) hnd hsm2 0 9
    have hS : suchOf [m2, []] 0 (fun p => p.mark == 9 && (p.state == 2 || p.state == 3)) = [] := hF.gone
    rw [hS] at hbcz
    have hB : hBack [m2, []] 0 [] = [m2, []] := rfl
    rw [hB] at hbcz
    have hget := hF.get
    clear hseen hS hA hB hF
    have hget' : ∀ k : Nat, k < 8 → getOf [m2, []] 0 (k : Int) = some ⟨20 + (k : Int), 1 + ((k % 7 : Nat) : Int), 1, 0⟩ := fun k hk => hget k hk
    have hsplit : ∃ b : Bool, (w == 1) = b ∧ (b = true → sv = 8) ∧ (b = false → sv = 8 - ((pagesOf g).length : Int)) := by
      by_cases hw : w = 1
      · exact ⟨true, by simp [hw], fun _ => hsv1 hw, nofun⟩
      · exact ⟨false, by simpa using hw, nofun, fun _ => hsv2 hw⟩
    obtain ⟨bw, hbw, hbt, hbf⟩ := hsplit
    clear hsv1 hsv2
    cases bw
    case' false =>
      have hsv' := hbf rfl
      clear hbf hbt
      rw [← hsv'] at hws
      simp [hbw, bne, hws, ← hsv']
    case' true =>
      obtain rfl := hbt rfl
      clear hbf hbt
      simp [hbw, bne]
    all_goals
      refine hsc.monoW ?_
      rintro r9 s9 hwf9 ⟨hr9, ag9⟩
      have hh9 := hh8.of_agree hwf8 ag9
      have ha9 := ha8.trans ag9
      have hbp9 := (ag9.2 bp (hwf8.lt hbp8)).trans hbp8
      obtain ⟨a9, c9, rfl⟩ := hr9.len
      simp [hsv, bne]
      refine (hpg s9 hh9).monoW ?_
      rintro r10 s10 hwf10 ⟨hr10, ag10⟩
      have hh10 := hh9.of_agree hwf9 ag10
      have ha10 := ha9.trans ag10
      have hbp10 := (ag10.2 bp (hwf9.lt hbp9)).trans hbp9
      obtain ⟨a10, c10, rfl⟩ := hr10.len
      simp [hall8', bne]
      refine (hpg1 s10 hh10).monoW ?_
      rintro r11 s11 hwf11 ⟨hr11, ag11⟩
      have hh11 := hh10.of_agree hwf10 ag11
      have ha11 := ha10.trans ag11
      have hbp11 := (ag11.2 bp (hwf10.lt hbp10)).trans hbp10
      obtain ⟨a11, c11, rfl⟩ := hr11.len
      simp [hlb, bne]
      refine (hoc0 s11 hh11).monoW ?_
      rintro r12 s12 hwf12 ⟨hr12, hp12⟩
      have hh12 := hp12.1
      have ha12 := hp12.agree ha11 hlo3
      have hbp12 := hp12.cells hh11 hwf11 hbp11
      obtain ⟨a12, c12, rfl⟩ := hr12.len
      simp
      refine (hbc0 s12 hh12).monoW ?_
      rintro r13 s13 hwf13 ⟨hr13, hp13⟩
      have hh13 := hp13.1
      have ha13 := hp13.agree ha12 hlo3
      have hbp13 := hp13.cells hh12 hwf12 hbp12
      simp [hlb, bne]
      have hpin : IntsIn s13 (pagesOf g) (.slice (some ⟨bp, 0, none⟩) (pagesOf g).length (pagesOf g).length) := .lit (own := true) (g := 1) hp0 rfl hbp13
      refine (same_call s13 (pagesOf g) (pagesOf g) _ _ hr13.ints hpin (by omega) (by omega)).monoW ?_
      rintro r14 s14 hwf14 ⟨rfl, rfl⟩
      simp
      refine SWp.uptoR 8 (fun k (_ : Unit) s15 => HoldAt s15 h la [firstL, []].length ms [m2, []] ∧ Agree s s15)
        (fun k _ => [junk, junk, junk, junk, junk, junk, junk, junk, junk, junk, junk, .pointer (some ⟨h, 0, none⟩), junk, junk, junk, junk, junk, junk, junk, junk, junk, .int .i64 k, junk, junk, junk, junk, junk, junk, junk, junk, junk, junk, junk, junk, junk, junk, junk, junk, junk, junk, junk, junk, junk, junk, junk, junk, junk, junk, junk, junk, junk, junk, junk, junk, junk, junk, junk, junk, junk, junk, junk, junk, junk, junk, junk, junk, junk, junk, junk, junk, junk, junk, junk, junk, junk, junk, junk, junk, junk, junk, junk, junk, junk, junk, junk, junk, junk, junk, junk, junk, junk, junk, junk, junk, junk, junk, junk, junk, junk, junk, junk, junk, junk, junk, junk, junk, junk, junk, junk, junk, junk, junk, junk, junk, junk, junk, junk, junk, junk, junk, junk, junk, junk, junk, junk, junk, junk, junk, junk, junk, junk, junk, junk, junk, junk, junk, junk, junk, junk, junk, junk, junk, junk, junk, junk, junk, junk, junk, junk, junk, junk, junk, junk, junk, junk, junk, junk, junk, junk, junk, junk, junk, junk, junk, junk, junk, junk, junk, junk, junk, junk, junk, junk, junk, junk, junk, junk, junk, junk, junk, junk, junk]) () ⟨hh13, ha13⟩ (by simp) ?_ ?_
      · rintro k _ s15 hk hwf15 ⟨hh15, ha15⟩
        have hw : IntKind.i64.wrap ((k : Int) + 1) = k + 1 := Sh.wrap_small (by omega) (by omega)
        have hw2 : IntKind.i64.wrap (20 + (k : Int)) = 20 + k := Sh.wrap_small (by omega) (by omega)
        have hk8 : (k : Int) < 8 := by omega
        have hgk := get_call hh15 0 (k : Int)
        rw [hget' k hk] at hgk
        refine vcD_ok (D := fun _ => none) (n := 182) mixed (by kernel_rfl) ?_
        simp [hk8]
        refine hgk.monoW ?_
        rintro r16 s16 hwf16 ⟨rfl, ag16⟩
        simp [-sBin, hw, hw2, wrapk7 k hk, rem7 k hk, build37', pv, bne, add_i64, neq37_same]
        have ag17 : Agree s16 ⟨fun j => if j = s16.next then some (.cells [.int .i64 (20 + (k : Int)), .int .i64 (1 + (k : Int) % 7), .int .i64 1, .int .u64 0] true 0) else if j = s16.next then some (.cells [.int .i64 0, .int .i64 0, .int .i64 0, .int .u64 0] true 0) else s16.heap j, s16.next + 1⟩ :=
          ⟨by simp, fun j hj => by simp (disch := omega)⟩
        exact ⟨(hh15.of_agree hwf15 ag16).of_agree hwf16 ag17, (ha15.trans ag16).trans ag17⟩
      · rintro _ s15 hwf15 ⟨hh15, ha15⟩
        refine vcD_ok (D := fun _ => none) (n := 182) mixed (by kernel_rfl) ?_
        simp
        refine (hpgz s15 hh15).monoW ?_
        rintro r17 s17 hwf17 ⟨hr17, ag17⟩
        have hh17 := hh15.of_agree hwf15 ag17
        have ha17 := ha15.trans ag17
        obtain ⟨a17, c17, rfl⟩ := hr17.len
        simp
        refine (hocz s17 hh17).monoW ?_
        rintro r18 s18 hwf18 ⟨hr18, hp18⟩
        have hh18 := hp18.1
        have ha18 := hp18.agree ha17 hlo3
        obtain ⟨a18, c18, rfl⟩ := hr18.len
        simp
        refine (hbcz s18 hh18).monoW ?_
        rintro r19 s19 hwf19 ⟨hr19, hp19⟩
        have ha19 := hp19.agree ha18 hlo3
        obtain ⟨a19, c19, rfl⟩ := hr19.len
        have hw0 : IntKind.i64.wrap 0 = 0 := Sh.wrap_small (by omega) (by omega)
        simp [hw0]
        exact Post.refl ⟨rfl, ha19⟩

end Go.Proofs.Yteiclengdlhnnaa
