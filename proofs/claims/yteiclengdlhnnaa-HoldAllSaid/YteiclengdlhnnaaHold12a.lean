/- Rows that are built; small numbers; and calls of hold at whatever shadow. -/
import Derived.Test.YteiclengdlhnnaaHold10
namespace Go.Proofs.Yteiclengdlhnnaa
open Go Go.Sh
set_option maxRecDepth 20000
set_option maxHeartbeats 4000000
set_option linter.unusedSimpArgs false
set_option linter.unusedVariables false
attribute [local simp] sWanted sOp ev put pl1 pl0 sResults sResL oneOf sBin sGuardOk sEqT sInt sUn sConvNum sNil sField sFieldV sPart sIndex sLoad sStore sBuiltin sLen sLookup sMapUpdate sAlloc sBox sMakeMap SW.set SW.new setL Value.cells Value.oneCell' opAt cls stable sNew ancB readsHeap noResult Go.undef List.replicate ite_lt ite_gt frL Nat.testBit
attribute [local simp ↓] vcD_skip vcD_label vcD_exit vcD_goto vcD_ret vcD_seq vcD_cond vcD_block vcD_region vcD_draw vcD_loop vcD_scope vcOps_nil vcOps_cons vcOp_eq vcEnts_nil vcEnts_chk vcEnts_run thenQ_normal thenQ_exit thenQ_goto thenQ_ret inBlockQ_normal inBlockQ_exit inBlockQ_goto inBlockQ_ret bodyQ_normal bodyQ_ret Kont_apply entK_apply

/-- A row of leaves that was made. -/
def LeavesRow (s : SW) (l : List Leaf) (v : Value) : Prop := (l = [] ∧ v = .slice none 0 0) ∨ (l ≠ [] ∧ ∃ b, v = .slice (some ⟨b, 0, none⟩) l.length l.length ∧ s.heap b = some (.cells (leafCells l) true 2))

theorem LeavesRow.leaves {s : SW} {l : List Leaf} {v : Value} (h : LeavesRow s l v) : LeavesIn s l v := by
  rcases h with ⟨rfl, rfl⟩ | ⟨h0, b, rfl, hb⟩
  · exact .nil
  · exact .lit h0 rfl hb

theorem LeavesRow.agree {s s' : SW} {l : List Leaf} {v : Value} (h : LeavesRow s l v) (hwf : s.wf) (ha : Agree s s') : LeavesRow s' l v := by
  rcases h with h | ⟨h0, b, h1, h2⟩
  · exact .inl h
  · exact .inr ⟨h0, b, h1, (ha.2 b (hwf.lt h2)).trans h2⟩

def baseOf : Value → Option Nat
  | .slice (some a) _ _ => some a.block
  | _ => none

/-- What an append leaves as it was. -/
def Kept (v : Value) (s s' : SW) : Prop := s.next ≤ s'.next ∧ ∀ j, j < s.next → ¬ baseOf v = some j → s'.heap j = s.heap j

theorem sBounds_one (n : Nat) (h : 1 ≤ n) : sBounds n n none (some (.int .i64 1)) none = some (0, 1, n) := by
  have h' : (1 : Int) ≤ n := by omega
  delta sBounds
  simp [sBound, h']

theorem append_leaf (s : SW) (hwf : s.wf) (l : List Leaf) (v : Value) (x : Leaf) (hrow : LeavesRow s l v) (hl : l.length ≤ 1000000) :
    ∃ bv s1 v' s', sBuildSlice Try.prog 23 1 [(0, .agg #[.int .i64 x.1, .int .i64 x.2])] s = some (bv, s1) ∧ sAppend Try.prog #[23, 23] #[v, bv] s1 = some (v', s') ∧
      LeavesRow s' (l ++ [x]) v' ∧ Kept v s s' ∧ (∀ b, baseOf v' = some b → s.next ≤ b) ∧ s'.wf := by
  rcases hrow with ⟨rfl, rfl⟩ | ⟨h0, b, rfl, hb⟩
  · refine ⟨_, _, _, _, by simp [sBuildSlice, partOk, Instr.fill, sZeros]; exact ⟨rfl, rfl⟩, by simp [sAppend, sFirst, sLenOf, intD]; exact ⟨rfl, rfl⟩, .inr ⟨by simp, _, rfl, ?_⟩, ⟨?_, ?_⟩, ?_, ?_⟩
    · simp [leafCells]
    · simp; omega
    · intro j hj _
      simp (disch := omega)
    · intro b hb
      simp [baseOf] at hb
      omega
    · intro j hj
      have := hwf j
      simp at hj ⊢
      grind
  · have lb := hwf.lt hb
    have e1 : ¬ b = s.next := by omega
    have e2 : ¬ 1073741823 < l.length := by omega
    have e3 : ¬ l.length + 1 ≤ l.length := by omega
    have hll := leafCells_length l
    refine ⟨_, _, _, _, by simp [sBuildSlice, partOk, Instr.fill, sZeros]; exact ⟨rfl, rfl⟩, by simp [sAppend, sFirst, sLenOf, intD, hb, e1, e2, e3, hll, SW.kill, List.take_of_length_le]; exact ⟨rfl, rfl⟩, .inr ⟨by simp, _, by simp; rfl, ?_⟩, ⟨?_, ?_⟩, ?_, ?_⟩
    · simp [leafCells]
    · simp; omega
    · intro j hj hne
      have : ¬ j = b := fun e => hne (by simp [baseOf, e])
      simp (disch := omega) [this]
    · intro b' hb'
      simp [baseOf] at hb'
      omega
    · intro j hj
      have := hwf j
      simp at hj ⊢
      grind

theorem rem_k (k : Nat) (hk : k < 8) : IntKind.i64.wrap (1 + ((k : Int)).tmod 7) = 1 + ((k % 7 : Nat) : Int) := by
  have : ((k : Int)).tmod 7 = ((k % 7 : Nat) : Int) := by
    rw [Int.tmod_eq_emod_of_nonneg (by omega)]
    omega
  rw [this]
  exact Sh.wrap_small (by omega) (by omega)

theorem append_int (s : SW) (hwf : s.wf) (l : List Int) (v : Value) (x : Int) (hrow : RowIs s l v) (hl : l.length ≤ 1000000) :
    ∃ bv s1 v' s', sBuildSlice Try.prog 28 1 [(0, .int .i64 x)] s = some (bv, s1) ∧ sAppend Try.prog #[28, 28] #[v, bv] s1 = some (v', s') ∧
      RowIs s' (l ++ [x]) v' ∧ Kept v s s' ∧ (∀ b, baseOf v' = some b → s.next ≤ b) ∧ s'.wf := by
  rcases hrow with ⟨rfl, rfl⟩ | ⟨h0, b, rfl, hb⟩
  · refine ⟨_, _, _, _, by simp [sBuildSlice, partOk, Instr.fill, sZeros]; exact ⟨rfl, rfl⟩, by simp [sAppend, sFirst, sLenOf, intD]; exact ⟨rfl, rfl⟩, .inr ⟨by simp, _, rfl, ?_⟩, ⟨?_, ?_⟩, ?_, ?_⟩
    · simp [intsC]
    · simp; omega
    · intro j hj _
      simp (disch := omega)
    · intro b hb
      simp [baseOf] at hb
      omega
    · intro j hj
      have := hwf j
      simp at hj ⊢
      grind
  · have lb := hwf.lt hb
    have e1 : ¬ b = s.next := by omega
    have e2 : ¬ 1073741823 < l.length := by omega
    have e3 : ¬ l.length + 1 ≤ l.length := by omega
    simp only [intsC] at hb
    refine ⟨_, _, _, _, by simp [sBuildSlice, partOk, Instr.fill, sZeros]; exact ⟨rfl, rfl⟩, by simp [sAppend, sFirst, sLenOf, intD, hb, e1, e2, e3, SW.kill, List.take_of_length_le]; exact ⟨rfl, rfl⟩, .inr ⟨by simp, _, by simp; rfl, ?_⟩, ⟨?_, ?_⟩, ?_, ?_⟩
    · simp [intsC]
    · simp; omega
    · intro j hj hne
      have : ¬ j = b := fun e => hne (by simp [baseOf, e])
      simp (disch := omega) [this]
    · intro b' hb'
      simp [baseOf] at hb'
      omega
    · intro j hj
      have := hwf j
      simp at hj ⊢
      grind

theorem Kept.agree {s0 s s' : SW} {v : Value} (ha : Agree s0 s) (hk : Kept v s s') (hb : ∀ b, baseOf v = some b → s0.next ≤ b) : Agree s0 s' :=
  ⟨Nat.le_trans ha.1 hk.1, fun j hj => (hk.2 j (Nat.lt_of_lt_of_le hj ha.1) (fun e => by have := hb j e; omega)).trans (ha.2 j hj)⟩

theorem shr_u8 (g k : Nat) (hk : k < 8) : sBin Try.prog .shr 5 (.int .u8 (g : Int)) (.int .i64 (k : Int)) = some (.int .u8 ((g / 2 ^ k : Nat) : Int)) := by
  have h1 : min k 8 = k := by omega
  have h2 : ¬ (k : Int) < 0 := by omega
  have h3 : ((g : Int)).fdiv (2 ^ k) = ((g / 2 ^ k : Nat) : Int) := by
    rw [Int.fdiv_eq_ediv_of_nonneg _ (by exact_mod_cast Nat.zero_le _)]
    push_cast
    rfl
  simp [sBin, IntKind.bits, h1, h2, h3]

theorem and1_u8 (a : Nat) : sBin Try.prog .and 5 (.int .u8 (a : Int)) (.int .u8 1) = some (.int .u8 ((a % 2 : Nat) : Int)) := by
  have h1 : (BitVec.ofInt 8 (a : Int) &&& BitVec.ofInt 8 1).toNat = a % 2 := by
    rw [BitVec.toNat_and, BitVec.ofInt_natCast, BitVec.toNat_ofNat]
    show a % 2 ^ 8 &&& 1 = _
    rw [Nat.and_one_is_mod]
    omega
  have h2 : IntKind.u8.wrap ((a % 2 : Nat) : Int) = ((a % 2 : Nat) : Int) := by
    show (if (false && decide (((a % 2 : Nat) : Int) % (2 ^ 8 : Int) ≥ (2 ^ 7 : Int))) = true then ((a % 2 : Nat) : Int) % (2 ^ 8 : Int) - 2 ^ 8 else ((a % 2 : Nat) : Int) % (2 ^ 8 : Int)) = ((a % 2 : Nat) : Int)
    simp only [Bool.false_and, Bool.false_eq_true, if_false]
    omega
  have h3 : sBin Try.prog .and 5 (.int .u8 (a : Int)) (.int .u8 1) = some (.int .u8 (IntKind.u8.wrap ((BitVec.ofInt 8 (a : Int) &&& BitVec.ofInt 8 1).toNat : Int))) := rfl
  rw [h3, h1, h2]

theorem shr_u8' (g k : Nat) (hk : k < 8) : sBin Try.prog .shr 5 (.int .u8 (g : Int)) (.int .i64 (k : Int)) = some (.int .u8 ((g : Int) / 2 ^ k)) := by
  have := shr_u8 g k hk
  push_cast at this
  exact this

theorem and1_u8' (g k : Nat) : sBin Try.prog .and 5 (.int .u8 ((g : Int) / 2 ^ k)) (.int .u8 1) = some (.int .u8 ((g : Int) / 2 ^ k % 2)) := by
  have := and1_u8 (g / 2 ^ k)
  push_cast at this
  exact this

theorem rem_u8 (a : Int) : sBin Try.prog .rem 5 (.int .u8 a) (.int .u8 3) = some (.int .u8 (a.tmod 3)) := rfl
theorem lss_i64 (a b : Int) : sBin Try.prog .lss 3 (.int .i64 a) (.int .i64 b) = some (.bool (decide (a < b))) := rfl
theorem eql_u8 (a b : Int) : sBin Try.prog .eql 5 (.int .u8 a) (.int .u8 b) = some (.bool (a == b)) := rfl
theorem add_i64 (a b : Int) : sBin Try.prog .add 3 (.int .i64 a) (.int .i64 b) = some (.int .i64 (IntKind.i64.wrap (a + b))) := rfl


theorem wf_i64 {n : Int} (h0 : -9223372036854775808 ≤ n) (h1 : n ≤ 9223372036854775807) : (Lit.int .i64 n).wf = true := by
  have e0 : IntKind.i64.min = -9223372036854775808 := by decide
  have e1 : IntKind.i64.max = 9223372036854775807 := by decide
  simp [Lit.wf, e0, e1, h0, h1]

theorem rem_i64 (a b : Int) (hb : ¬ b = 0) : sBin Try.prog .rem 3 (.int .i64 a) (.int .i64 b) = some (.int .i64 (a.tmod b)) := by
  simp [sBin, sInt, hb]

theorem rem7 (k : Nat) (hk : k < 8) : sBin Try.prog .rem 3 (.int .i64 (k : Int)) (.int .i64 7) = some (.int .i64 ((k : Int) % 7)) := by
  have : ((k : Int)).tmod 7 = (k : Int) % 7 := Int.tmod_eq_emod_of_nonneg (by omega)
  rw [rem_i64 _ _ (by omega), this]

theorem wrapk7 (k : Nat) (hk : k < 8) : IntKind.i64.wrap (1 + (k : Int) % 7) = 1 + (k : Int) % 7 := wrap_i64 (by omega) (by omega)

theorem neq37 (a b c d a' b' c' d' : Int) : sBin Try.prog .neq 37 (.agg #[.int .i64 a, .int .i64 b, .int .i64 c, .int .u64 d]) (.agg #[.int .i64 a', .int .i64 b', .int .i64 c', .int .u64 d']) =
    some (.bool (!(a == a' && (b == b' && (c == c' && (d == d' && true)))))) := by kernel_rfl

theorem neq37_same (a b c d : Int) : sBin Try.prog .neq 37 (.agg #[.int .i64 a, .int .i64 b, .int .i64 c, .int .u64 d]) (.agg #[.int .i64 a, .int .i64 b, .int .i64 c, .int .u64 d]) = some (.bool false) := by
  rw [neq37]
  simp

theorem suchL_nil (q : Pg → Bool) : suchL [] q = [] := by simp [suchL, rising]

theorem pages_call_at {h la c : Nat} {ms : List Nat} {H : List Mp} (hs : Small H) (part : Int) (s : SW) (hh : HoldAt s h la c ms H) :
    SCalls Try.prog 20 [.pointer (some ⟨h, 0, none⟩), .int .i64 part] s (RowOut (suchOf H part fun _ => true) s) := pages_call hh hs part

theorem out_at {h la c : Nat} {ms : List Nat} {H : List Mp} (hnd : ms.Nodup) (hs : Small H) (part mark : Int) (s : SW) (hh : HoldAt s h la c ms H) :
    SCalls Try.prog 21 [.pointer (some ⟨h, 0, none⟩), .int .i64 part, .int .u64 mark] s fun v s' =>
      RowIs s' (suchOf H part fun p => p.mark == mark && p.state == 4) v ∧ HoldPost h la c ms (hAway H part (suchOf H part fun p => p.mark == mark && p.state == 4)) s s' := out_call hh hnd hs part mark

theorem back_at {h la c : Nat} {ms : List Nat} {H : List Mp} (hnd : ms.Nodup) (hs : Small H) (part mark : Int) (s : SW) (hh : HoldAt s h la c ms H) :
    SCalls Try.prog 22 [.pointer (some ⟨h, 0, none⟩), .int .i64 part, .int .u64 mark] s fun v s' =>
      RowIs s' (suchOf H part fun p => p.mark == mark && (p.state == 2 || p.state == 3)) v ∧ HoldPost h la c ms (hBack H part (suchOf H part fun p => p.mark == mark && (p.state == 2 || p.state == 3))) s s' := back_call hh hnd hs part mark

end Go.Proofs.Yteiclengdlhnnaa
