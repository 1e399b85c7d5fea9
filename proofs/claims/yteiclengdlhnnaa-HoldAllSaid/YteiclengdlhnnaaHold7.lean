/- hold: pages that are put; a new hold. -/
import Derived.Test.YteiclengdlhnnaaHold6
namespace Go.Proofs.Yteiclengdlhnnaa
open Go Go.Sh
set_option maxRecDepth 20000
set_option maxHeartbeats 4000000
set_option linter.unusedSimpArgs false
set_option linter.unusedVariables false
attribute [local simp] sWanted sOp ev put pl1 pl0 sResults sResL oneOf sBin sGuardOk sEqT sInt sUn sConvNum sNil sField sFieldV sPart sIndex sLoad sStore sBuiltin sLen sLookup sMapUpdate sAlloc sBox sMakeMap SW.set SW.new setL Value.cells Value.oneCell' opAt cls stable sNew ancB readsHeap noResult Go.undef List.replicate ite_lt ite_gt frL Nat.testBit
attribute [local simp ↓] vcD_skip vcD_label vcD_exit vcD_goto vcD_ret vcD_seq vcD_cond vcD_block vcD_region vcD_draw vcD_loop vcD_scope vcOps_nil vcOps_cons vcOp_eq vcEnts_nil vcEnts_chk vcEnts_run thenQ_normal thenQ_exit thenQ_goto thenQ_ret inBlockQ_normal inBlockQ_exit inBlockQ_goto inBlockQ_ret bodyQ_normal bodyQ_ret Kont_apply entK_apply

theorem wrap_i64 {n : Int} (h0 : -9223372036854775808 ≤ n) (h1 : n < 9223372036854775808) : IntKind.i64.wrap n = n := by
  show (if (true && decide (n % (2 ^ 64 : Int) ≥ (2 ^ 63 : Int))) = true then n % (2 ^ 64 : Int) - 2 ^ 64 else n % (2 ^ 64 : Int)) = n
  simp only [Bool.true_and, decide_eq_true_eq]
  split <;> omega

abbrev Leaf := Int × Int

/-- Leaves that are handed in. -/
def LeavesIn (s : SW) (l : List Leaf) (v : Value) : Prop :=
  (l = [] ∧ ∃ a c, v = .slice a 0 c ∧ (a = none ∨ ∃ b, a = some b)) ∨
  (l ≠ [] ∧ ∃ b o c cs own g, v = .slice (some ⟨b, o, none⟩) l.length c ∧ s.heap b = some (.cells cs own g) ∧ o + l.length * 2 ≤ cs.length ∧
    ∀ (k : Nat) (x : Leaf), l[k]? = some x → cs[o + k * 2]? = some (.int .i64 x.1) ∧ cs[o + k * 2 + 1]? = some (.int .i64 x.2))

theorem LeavesIn.agree {s s' : SW} {l : List Leaf} {v : Value} (h : LeavesIn s l v) (hwf : s.wf) (ha : Agree s s') : LeavesIn s' l v := by
  rcases h with h | ⟨h0, b, o, c, cs, own, g, h1, h2, h3⟩
  · exact .inl h
  · exact .inr ⟨h0, b, o, c, cs, own, g, h1, (ha.2 b (hwf.lt h2)).trans h2, h3⟩

def putUp (m : Mp) (at_ : Int) (l : List Leaf) (mark : Int) : Nat → Mp
  | 0 => m
  | k + 1 => match l[k]? with
    | some x => pset (putUp m at_ l mark k) (at_ + k) ⟨x.1, x.2, if mark = 0 then 1 else 4, mark⟩
    | none => putUp m at_ l mark k

def free (m : Mp) (at_ : Int) (k : Nat) : Prop := ∀ j : Nat, j < k → pgGet m (at_ + j) = none

theorem free_iff (m : Mp) (at_ : Int) (k : Nat) : ((List.range k).all fun j => (pgGet m (at_ + j)).isNone) = true ↔ free m at_ k := by
  unfold free
  rw [List.all_eq_true]
  constructor
  · intro h j hj
    simpa using h j (List.mem_range.2 hj)
  · intro h j hj
    simpa using h j (List.mem_range.1 hj)

instance (m : Mp) (at_ : Int) (k : Nat) : Decidable (free m at_ k) := decidable_of_iff _ (free_iff m at_ k)

def hPut (H : List Mp) (part at_ : Int) (l : List Leaf) (mark : Int) : Int × List Mp := match partM H part with
  | none => (-2, H)
  | some m => if l = [] ∨ at_ < 0 ∨ at_ > 3840 - l.length then (-2, H) else if free m at_ l.length then (0, H.set part.toNat (putUp m at_ l mark l.length)) else (-6, H)

theorem build37 (a b c d : Int) : sBuild Try.prog 37 [(0, .int .i64 a), (1, .int .i64 b), (2, .int .i64 c), (3, .int .u64 d)] = some (.agg #[.int .i64 a, .int .i64 b, .int .i64 c, .int .u64 d]) := by kernel_rfl

theorem build37' (a b c : Int) : sBuild Try.prog 37 [(0, .int .i64 a), (1, .int .i64 b), (2, .int .i64 c)] = some (.agg #[.int .i64 a, .int .i64 b, .int .i64 c, .int .u64 0]) := by kernel_rfl

theorem build25 (a b : Int) : sBuild Try.prog 25 [(0, .int .i64 a), (1, .int .i64 b)] = some (.agg #[.int .i64 a, .int .i64 b]) := by kernel_rfl

theorem drop_two {cs : List Value} {k : Nat} {a b : Value} (h1 : cs[k]? = some a) (h2 : cs[k + 1]? = some b) : (cs.drop k).take 2 = [a, b] := by
  have e1 : cs.drop k = a :: cs.drop (k + 1) := by
    obtain ⟨h, rfl⟩ := List.getElem?_eq_some_iff.1 h1
    exact List.drop_eq_getElem_cons h
  have e2 : cs.drop (k + 1) = b :: cs.drop (k + 1 + 1) := by
    obtain ⟨h, rfl⟩ := List.getElem?_eq_some_iff.1 h2
    exact List.drop_eq_getElem_cons h
  rw [e1, e2]; rfl

theorem put_call {s : SW} {h la c : Nat} {ms : List Nat} {H : List Mp} (hh : HoldAt s h la c ms H) (hnd : ms.Nodup) (part at_ mark : Int) (l : List Leaf) (v : Value) (hv : LeavesIn s l v) (hl : l.length ≤ 1000000) :
    SCalls Try.prog 18 [.pointer (some ⟨h, 0, none⟩), .int .i64 part, .int .i64 at_, v, .int .u64 mark] s fun v s' =>
      v = .int .i64 (hPut H part at_ l mark).1 ∧ HoldPost h la c ms (hPut H part at_ l mark).2 s s' := by
  rcases of_call hh part with ⟨hn, hc⟩ | ⟨p, i, m, rfl, hp, hm, hmi, hHm, hi, hc⟩
  · refine SCalls.bodyL Try.func18 rfl rfl fun hwf => vcD_ok (D := fun _ => none) (n := 75) mixed (by kernel_rfl) ?_
    simp
    refine hc.mono ?_
    rintro v s' ⟨rfl, rfl⟩
    simp
    refine Post.refl ?_
    simp only [hPut, hn]
    exact ⟨trivial, .same hh hwf (.refl _)⟩
  have hto : ((p : Nat) : Int).toNat = p := by simp
  rcases hv with ⟨rfl, a, c', rfl, _⟩ | ⟨hne, b, o, c', cs, own, g, rfl, hb, hcl, hcs⟩
  · refine SCalls.bodyL Try.func18 rfl rfl fun hwf => vcD_ok (D := fun _ => none) (n := 75) mixed (by kernel_rfl) ?_
    simp
    refine hc.mono ?_
    rintro v' s' ⟨rfl, rfl⟩
    simp
    refine Post.refl ?_
    simp only [hPut, hm, true_or, if_true]
    exact ⟨trivial, .same hh hwf (.refl _)⟩
  have hlen0 : ¬ (l.length : Int) = 0 := by
    have : l.length ≠ 0 := fun e => hne (List.eq_nil_of_length_eq_zero e)
    omega
  have hlen0' : ((l.length : Int) == 0) = false := by simpa using hlen0
  have hws : IntKind.i64.wrap (3840 - (l.length : Int)) = 3840 - l.length := wrap_i64 (by omega) (by omega)
  by_cases k1 : at_ < 0
  · refine SCalls.bodyL Try.func18 rfl rfl fun hwf => vcD_ok (D := fun _ => none) (n := 75) mixed (by kernel_rfl) ?_
    simp
    refine hc.mono ?_
    rintro v' s' ⟨rfl, rfl⟩
    simp [k1, hlen0']
    refine Post.refl ?_
    simp only [hPut, hm, k1, true_or, or_true, if_true]
    exact ⟨trivial, .same hh hwf (.refl _)⟩
  by_cases k2 : 3840 - (l.length : Int) < at_
  · refine SCalls.bodyL Try.func18 rfl rfl fun hwf => vcD_ok (D := fun _ => none) (n := 75) mixed (by kernel_rfl) ?_
    simp
    refine hc.mono ?_
    rintro v' s' ⟨rfl, rfl⟩
    simp [k1, k2, hlen0', hws]
    refine Post.refl ?_
    simp only [hPut, hm, k2, gt_iff_lt, or_true, if_true]
    exact ⟨trivial, .same hh hwf (.refl _)⟩
  have n3 := ne_of_heap hb hi
  refine SCalls.bodyL Try.func18 rfl rfl fun hwf => vcD_ok (D := fun _ => none) (n := 75) mixed (by kernel_rfl) ?_
  have l4 := hwf.lt hi
  have l3 := hwf.lt hb
  simp
  refine hc.mono ?_
  rintro v' s' ⟨rfl, rfl⟩
  simp [k1, k2, hlen0', hws]
  refine SWp.upto l.length (fun k (_ : Unit) => free m at_ k)
    (fun k _ => [junk, junk, .int .i64 at_, .slice (some ⟨b, o, none⟩) l.length c', .int .u64 mark, junk, junk, junk, junk, junk, junk, .map (some i), junk, junk, junk, junk, junk, junk, junk, junk, junk, junk, junk, junk, junk, junk, junk, junk, junk, junk, junk, junk, junk, junk, junk, junk, junk, junk, junk, junk, .int .i64 l.length, .int .i64 k, junk, junk, junk, junk, junk, junk, junk, junk, junk, junk, junk, junk, junk, junk, junk, junk, junk, junk, junk, junk, junk, junk, junk, junk, junk, junk, junk, junk, junk, junk, junk, junk, junk])
    (fun k _ => ⟨s'.heap, s'.next + k⟩) () (fun j hj => by omega) (by simp) ?_ ?_ ?_
  · exact SW.less_refl _
  · intro k _ hk hI
    have hw : IntKind.i64.wrap ((k : Int) + 1) = k + 1 := Sh.wrap_small (by omega) (by omega)
    have hw2 : IntKind.i64.wrap (at_ + (k : Int)) = at_ + k := wrap_i64 (by omega) (by omega)
    have e2 : ¬ i = s'.next + k := by omega
    cases hg : (pgGet m (at_ + k)).isSome
    · refine vcD_ok (D := fun _ => none) (n := 75) mixed (by kernel_rfl) ?_
      simp [hk, hi, e2, look_enc, look_is, pv, hw, hw2, hg]
      refine ⟨fun j hj => ?_, fun j o hj => ?_, by simp; omega⟩
      · rcases Nat.lt_or_ge j k with h | h
        · exact hI j h
        · have : j = k := by omega
          subst this
          simpa using hg
      · simp at hj ⊢
        have := hwf.lt hj
        simp (disch := omega) [hj]
    · refine vcD_ok (D := fun _ => none) (n := 75) mixed (by kernel_rfl) ?_
      simp [hk, hi, e2, look_enc, look_is, pv, hw, hw2, hg]
      refine Post.refl ?_
      have hbad : ¬ free m at_ l.length := fun hf => by rw [hf k hk] at hg; cases hg
      have : hPut H (p : Int) at_ l mark = (-6, H) := by simp [hPut, hm, k1, k2, hne, hbad]
      rw [this]
      exact ⟨rfl, .same hh hwf ⟨by simp; omega, fun j hj => by simp (disch := omega)⟩⟩
  · intro _ hI
    have hgood : hPut H (p : Int) at_ l mark = (0, H.set p (putUp m at_ l mark l.length)) := by
      simp [hPut, hm, k1, k2, hne, hI]
    cases hmk : mark == 0
    · have hmk' : ¬ mark = 0 := by simpa using hmk
      refine vcD_ok (D := fun _ => none) (n := 75) mixed (by kernel_rfl) ?_
      simp [hmk]
      refine SWp.upto l.length (fun k (_ : Unit) => True)
        (fun k _ => [junk, junk, .int .i64 at_, junk, .int .u64 mark, junk, junk, junk, junk, junk, junk, .map (some i), junk, junk, junk, .int .i64 4, junk, junk, junk, junk, junk, junk, junk, junk, junk, junk, junk, junk, junk, junk, junk, junk, junk, junk, junk, junk, junk, junk, junk, junk, junk, junk, junk, junk, junk, junk, junk, junk, junk, junk, junk, junk, junk, junk, junk, junk, .slice (some ⟨b, o, none⟩) l.length c', .int .i64 l.length, .int .i64 k, junk, junk, junk, junk, junk, junk, junk, junk, junk, junk, junk, junk, junk, junk, junk, junk])
        (fun k _ => ⟨fun j => if j = i then some (.map .i64 true (encM (putUp m at_ l mark k))) else s'.heap j, s'.next + l.length + k⟩) () trivial (by simp) ?_ ?_ ?_
      · refine ⟨fun j o hj => ?_, by simp⟩
        simp [putUp] at hj
        simp
        grind
      · intro k _ hk _
        obtain ⟨x, hx⟩ : ∃ x, l[k]? = some x := ⟨_, List.getElem?_eq_getElem hk⟩
        have hw : IntKind.i64.wrap ((k : Int) + 1) = k + 1 := Sh.wrap_small (by omega) (by omega)
        have hw2 : IntKind.i64.wrap (at_ + (k : Int)) = at_ + k := wrap_i64 (by omega) (by omega)
        have hc2 := hcs k x hx
        have hdt := drop_two hc2.1 hc2.2
        have hle : o + k * 2 + 2 ≤ cs.length := by omega
        have hd : putUp m at_ l mark (k + 1) = pset (putUp m at_ l mark k) (at_ + k) ⟨x.1, x.2, 4, mark⟩ := by
          simp [putUp, hx, hmk']
        have hset := mput_enc (putUp m at_ l mark k) (at_ + k) ⟨x.1, x.2, 4, mark⟩
        simp only [pv] at hset
        have e1 : ¬ b = s'.next + l.length + k := by omega
        have e2 : ¬ i = s'.next + l.length + k := by omega
        refine vcD_ok (D := fun _ => none) (n := 75) mixed (by kernel_rfl) ?_
        simp [hk, hb, n3, e1, e2, hw, hw2, hdt, hle, hd, hset, build37]
        refine ⟨fun j o hj => ?_, by simp; omega⟩
        simp at hj ⊢
        have := hwf j
        grind
      · intro _ _
        refine vcD_ok (D := fun _ => none) (n := 75) mixed (by kernel_rfl) ?_
        simp
        refine Post.refl ?_
        rw [hgood]
        refine ⟨rfl, .turned hh hwf hnd hmi ⟨by simp; omega, by simp, fun j hj hji => by simp [hji]⟩⟩
    · have hmk' : mark = 0 := by simpa using hmk
      refine vcD_ok (D := fun _ => none) (n := 75) mixed (by kernel_rfl) ?_
      simp [hmk]
      refine SWp.upto l.length (fun k (_ : Unit) => True)
        (fun k _ => [junk, junk, .int .i64 at_, junk, .int .u64 mark, junk, junk, junk, junk, junk, junk, .map (some i), junk, junk, junk, .int .i64 1, junk, junk, junk, junk, junk, junk, junk, junk, junk, junk, junk, junk, junk, junk, junk, junk, junk, junk, junk, junk, junk, junk, junk, junk, junk, junk, junk, junk, junk, junk, junk, junk, junk, junk, junk, junk, junk, junk, junk, junk, .slice (some ⟨b, o, none⟩) l.length c', .int .i64 l.length, .int .i64 k, junk, junk, junk, junk, junk, junk, junk, junk, junk, junk, junk, junk, junk, junk, junk, junk])
        (fun k _ => ⟨fun j => if j = i then some (.map .i64 true (encM (putUp m at_ l mark k))) else s'.heap j, s'.next + l.length + k⟩) () trivial (by simp) ?_ ?_ ?_
      · refine ⟨fun j o hj => ?_, by simp⟩
        simp [putUp] at hj
        simp
        grind
      · intro k _ hk _
        obtain ⟨x, hx⟩ : ∃ x, l[k]? = some x := ⟨_, List.getElem?_eq_getElem hk⟩
        have hw : IntKind.i64.wrap ((k : Int) + 1) = k + 1 := Sh.wrap_small (by omega) (by omega)
        have hw2 : IntKind.i64.wrap (at_ + (k : Int)) = at_ + k := wrap_i64 (by omega) (by omega)
        have hc2 := hcs k x hx
        have hdt := drop_two hc2.1 hc2.2
        have hle : o + k * 2 + 2 ≤ cs.length := by omega
        have hd : putUp m at_ l mark (k + 1) = pset (putUp m at_ l mark k) (at_ + k) ⟨x.1, x.2, 1, mark⟩ := by
          simp [putUp, hx, hmk']
        have hset := mput_enc (putUp m at_ l mark k) (at_ + k) ⟨x.1, x.2, 1, mark⟩
        simp only [pv] at hset
        have e1 : ¬ b = s'.next + l.length + k := by omega
        have e2 : ¬ i = s'.next + l.length + k := by omega
        refine vcD_ok (D := fun _ => none) (n := 75) mixed (by kernel_rfl) ?_
        simp [hk, hb, n3, e1, e2, hw, hw2, hdt, hle, hd, hset, build37]
        refine ⟨fun j o hj => ?_, by simp; omega⟩
        simp at hj ⊢
        have := hwf j
        grind
      · intro _ _
        refine vcD_ok (D := fun _ => none) (n := 75) mixed (by kernel_rfl) ?_
        simp
        refine Post.refl ?_
        rw [hgood]
        refine ⟨rfl, .turned hh hwf hnd hmi ⟨by simp; omega, by simp, fun j hj hji => by simp [hji]⟩⟩

end Go.Proofs.Yteiclengdlhnnaa
