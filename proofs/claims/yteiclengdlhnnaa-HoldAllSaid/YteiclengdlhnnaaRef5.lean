/- ref18's hold: pages that are put. -/
import Derived.Test.YteiclengdlhnnaaRef4
namespace Go.Proofs.Yteiclengdlhnnaa
open Go Go.Sh
def pl30 : Nat → Option (List Nat × List Ent)
  | 7 => some ([0, 0, 3, 7, 15, 0, 0, 96, 224, 480, 0, 2047, 0, 8191], [.run 0, .run 1, .run 2, .run 3, .run 4, .run 5, .run 6, .run 7, .run 8, .run 9, .run 10, .run 11, .chk 12, .run 12, .run 13])
  | 10 => some ([0, 1, 3, 7, 0, 31, 63, 0, 0, 384, 0, 2047], [.run 0, .run 1, .run 2, .run 3, .run 4, .run 5, .run 6, .run 7, .run 8, .run 9, .run 10, .run 11])
  | _ => none

set_option maxRecDepth 20000
set_option maxHeartbeats 4000000
set_option linter.unusedSimpArgs false
set_option linter.unusedVariables false
attribute [local simp] sWanted sOp ev put pl1 pl0 sResults sResL oneOf sBin sGuardOk sEqT sInt sUn sConvNum sNil sField sFieldV sPart sIndex sLoad sStore sBuiltin sLen sLookup sMapUpdate sAlloc sBox sMakeMap SW.set SW.new setL Value.cells Value.oneCell' opAt cls stable sNew ancB readsHeap noResult Go.undef List.replicate ite_lt ite_gt frL Nat.testBit
attribute [local simp ↓] vcD_skip vcD_label vcD_exit vcD_goto vcD_ret vcD_seq vcD_cond vcD_block vcD_region vcD_draw vcD_loop vcD_scope vcOps_nil vcOps_cons vcOp_eq vcEnts_nil vcEnts_chk vcEnts_run thenQ_normal thenQ_exit thenQ_goto thenQ_ret inBlockQ_normal inBlockQ_exit inBlockQ_goto inBlockQ_ret bodyQ_normal bodyQ_ret Kont_apply entK_apply

def mayPutE (H : List Mp) (part at_ : Int) (n : Nat) : Int := match partM H part with
  | none => -2
  | some m => if n = 0 ∨ at_ < 0 ∨ at_ > 3840 - n then -2 else if free m at_ n then 0 else -6

theorem mayPut_call {s : SW} {h la c : Nat} {ms : List Nat} {H : List Mp} (hh : HoldAt s h la c ms H) (part at_ : Int) (n : Nat) (hn1 : n ≤ 1000000) :
    SCalls Try.prog 92 [.pointer (some ⟨h, 0, none⟩), .int .i64 part, .int .i64 at_, .int .i64 n] s fun v s' =>
      v = .int .i64 (mayPutE H part at_ n) ∧ Agree s s' := by
  rcases part_cases hh part with ⟨hn, _⟩ | ⟨p, i, m, rfl, hp, hm, hmi, hHm, hi⟩
  · refine SCalls.bodyL Try.func92 rfl rfl fun hwf => vcD_ok (D := fun _ => none) (n := 54) mixed (by kernel_rfl) ?_
    simp
    refine (has_call hh part).mono ?_
    rintro v s' ⟨rfl, rfl⟩
    rw [hn]
    simp
    refine Post.refl ?_
    simp only [mayPutE, hn]
    exact ⟨trivial, .refl _⟩
  by_cases k0 : n = 0
  · subst k0
    refine SCalls.bodyL Try.func92 rfl rfl fun hwf => vcD_ok (D := fun _ => none) (n := 54) mixed (by kernel_rfl) ?_
    simp
    refine (has_call hh p).mono ?_
    rintro v s' ⟨rfl, rfl⟩
    rw [hm]
    simp
    refine Post.refl ?_
    simp only [mayPutE, hm, true_or, if_true]
    exact ⟨trivial, .refl _⟩
  have k0' : ¬ (n : Int) < 1 := by omega
  by_cases k1 : at_ < 0
  · refine SCalls.bodyL Try.func92 rfl rfl fun hwf => vcD_ok (D := fun _ => none) (n := 54) mixed (by kernel_rfl) ?_
    simp
    refine (has_call hh p).mono ?_
    rintro v s' ⟨rfl, rfl⟩
    rw [hm]
    simp [k0', k1]
    refine Post.refl ?_
    simp only [mayPutE, hm, k1, true_or, or_true, if_true]
    exact ⟨trivial, .refl _⟩
  by_cases k2 : 3840 < at_
  · refine SCalls.bodyL Try.func92 rfl rfl fun hwf => vcD_ok (D := fun _ => none) (n := 54) mixed (by kernel_rfl) ?_
    simp
    refine (has_call hh p).mono ?_
    rintro v s' ⟨rfl, rfl⟩
    rw [hm]
    simp [k0', k1, k2]
    refine Post.refl ?_
    have k3 : at_ > 3840 - (n : Int) := by omega
    simp only [mayPutE, hm, k3, or_true, if_true]
    exact ⟨trivial, .refl _⟩
  have hws : IntKind.i64.wrap (3840 - at_) = 3840 - at_ := wrap_i64 (by omega) (by omega)
  by_cases k3 : 3840 - at_ < (n : Int)
  · refine SCalls.bodyL Try.func92 rfl rfl fun hwf => vcD_ok (D := fun _ => none) (n := 54) mixed (by kernel_rfl) ?_
    simp
    refine (has_call hh p).mono ?_
    rintro v s' ⟨rfl, rfl⟩
    rw [hm]
    simp [k0', k1, k2, hws, k3]
    refine Post.refl ?_
    have k3 : at_ > 3840 - (n : Int) := by omega
    simp only [mayPutE, hm, k3, or_true, if_true]
    exact ⟨trivial, .refl _⟩
  have k4 : ¬ at_ > 3840 - (n : Int) := by omega
  have hh0 := hh
  refine SCalls.bodyL Try.func92 rfl rfl fun hwf => vcD_ok (D := fun _ => none) (n := 54) mixed (by kernel_rfl) ?_
  simp
  refine (has_call hh p).mono ?_
  rintro v s' ⟨rfl, rfl⟩
  rw [hm]
  simp [k0', k1, k2, hws, k3]
  obtain ⟨h1, ⟨g', h2⟩, _, _⟩ := hh
  have l1 := hwf.lt h1
  have l2 := hwf.lt h2
  have l3 := hwf.lt hi
  have hmi' : ms[p] = i := by rw [List.getElem?_eq_getElem hp] at hmi; exact Option.some.inj hmi
  refine SWp.upto n (fun k (_ : Unit) => free m at_ k)
    (fun k _ => [.pointer (some ⟨h, 0, none⟩), .int .i64 p, .int .i64 at_, .int .i64 n, junk, junk, junk, junk, junk, .int .i64 k, junk, junk, junk, junk, junk, junk, junk, junk, junk, junk, junk, junk, junk, junk, junk, junk, junk, junk, junk, junk, junk, junk, junk, junk, junk, junk, junk, junk, junk, junk, junk, junk, junk, junk, junk, junk, junk, junk, junk, junk, junk, junk, junk, junk])
    (fun k _ => ⟨s'.heap, s'.next + k⟩) () (fun j hj => by omega) (by simp) ?_ ?_ ?_
  · exact SW.less_refl _
  · intro k _ hk hI
    have hw : IntKind.i64.wrap ((k : Int) + 1) = k + 1 := Sh.wrap_small (by omega) (by omega)
    have hw2 : IntKind.i64.wrap (at_ + (k : Int)) = at_ + k := wrap_i64 (by omega) (by omega)
    have hk' : (k : Int) < n := by omega
    have e1 : ¬ h = s'.next + k := by omega
    have e2 : ¬ la = s'.next + k := by omega
    have e3 : ¬ i = s'.next + k := by omega
    cases hg : (pgGet m (at_ + k)).isSome
    · refine vcD_ok (D := fun _ => none) (n := 54) mixed (by kernel_rfl) ?_
      simp [hk, hk', h1, h2, hi, e1, e2, e3, hp, hmi', look_enc, look_is, pv, hw, hw2, hg]
      refine ⟨fun j hj => ?_, fun j o hj => ?_, by simp; omega⟩
      · rcases Nat.lt_or_ge j k with h | h
        · exact hI j h
        · have : j = k := by omega
          subst this
          simpa using hg
      · simp at hj ⊢
        have := hwf.lt hj
        simp (disch := omega) [hj]
    · refine vcD_ok (D := fun _ => none) (n := 54) mixed (by kernel_rfl) ?_
      simp [hk, hk', h1, h2, hi, e1, e2, e3, hp, hmi', look_enc, look_is, pv, hw, hw2, hg]
      refine Post.refl ?_
      have hbad : ¬ free m at_ n := fun hf => by rw [hf k hk] at hg; cases hg
      have : mayPutE H (p : Int) at_ n = -6 := by simp only [mayPutE, hm, k0, k1, k4, hbad, or_self, if_false]
      rw [this]
      exact ⟨rfl, by simp; omega, fun j hj => by simp (disch := omega)⟩
  · intro _ hI
    refine vcD_ok (D := fun _ => none) (n := 54) mixed (by kernel_rfl) ?_
    simp
    refine Post.refl ?_
    have : mayPutE H (p : Int) at_ n = 0 := by simp only [mayPutE, hm, k0, k1, k4, hI, or_self, if_false, if_true]
    rw [this]
    exact ⟨rfl, by simp, fun j hj => by simp⟩

theorem hPut_err (H : List Mp) (part at_ : Int) (l : List Leaf) (mark : Int) : (hPut H part at_ l mark).1 = mayPutE H part at_ l.length := by
  have e : (l = []) ↔ l.length = 0 := by simp
  unfold hPut mayPutE
  cases partM H part with
  | none => rfl
  | some m =>
    simp only [e]
    split
    · rfl
    · split <;> rfl

theorem rput_call {s : SW} {h la c : Nat} {ms : List Nat} {H : List Mp} (hh : HoldAt s h la c ms H) (hnd : ms.Nodup) (part at_ mark : Int) (l : List Leaf) (v : Value) (hv : LeavesIn s l v) (hl : l.length ≤ 1000000) :
    SCalls Try.prog 30 [.pointer (some ⟨h, 0, none⟩), .int .i64 part, .int .i64 at_, v, .int .u64 mark] s fun v s' =>
      v = .int .i64 (hPut H part at_ l mark).1 ∧ HoldPost h la c ms (hPut H part at_ l mark).2 s s' := by
  have hvl : ∃ a c', v = .slice a l.length c' := by
    rcases hv with ⟨rfl, a, c', rfl, _⟩ | ⟨_, b, o, c', _, _, _, rfl, _⟩
    · exact ⟨a, c', rfl⟩
    · exact ⟨_, c', rfl⟩
  by_cases hz : mayPutE H part at_ l.length = 0
  · rcases part_cases hh part with ⟨hn, _⟩ | ⟨p, i, m, rfl, hp, hm, hmi, hHm, hi⟩
    · exfalso
      simp [mayPutE, hn] at hz
    have hto : ((p : Nat) : Int).toNat = p := by simp
    have hz2 := hz
    simp only [mayPutE, hm] at hz2
    split at hz2
    · cases hz2
    rename_i hnot
    split at hz2
    · rename_i hfree
      rcases hv with ⟨rfl, _⟩ | ⟨hne, b, o, c', cs, own, g, rfl, hb, hcl, hcs⟩
      · simp at hnot
      have hgood : hPut H (p : Int) at_ l mark = (0, H.set p (putUp m at_ l mark l.length)) := by
        have : ¬ (l = [] ∨ at_ < 0 ∨ at_ > 3840 - (l.length : Int)) := by
          intro h
          apply hnot
          rcases h with rfl | h
          · exact .inl rfl
          · exact .inr h
        simp only [hPut, hm, this, if_false, hfree, if_true, hto]
      have k1 : ¬ at_ < 0 := fun h => hnot (.inr (.inl h))
      have k2 : ¬ at_ > 3840 - (l.length : Int) := fun h => hnot (.inr (.inr h))
      have n3 := ne_of_heap hb hi
      refine SCalls.bodyL Try.func30 rfl rfl fun hwf => vcD_ok (D := pl30) (n := 55) mixed (by kernel_rfl) ?_
      simp
      refine (mayPut_call hh p at_ l.length hl).monoW ?_
      rintro v' s1 hwf1 ⟨rfl, ag1⟩
      have hh1 := hh.of_agree hwf ag1
      have hb1 := (ag1.2 b (hwf.lt hb)).trans hb
      have hi1 := (ag1.2 i (hwf.lt hi)).trans hi
      rw [hz]
      simp
      obtain ⟨h1, ⟨g', h2⟩, _, _⟩ := hh1
      have l1 := hwf1.lt h1
      have l2 := hwf1.lt h2
      have l3 := hwf1.lt hb1
      have l4 := hwf1.lt hi1
      have n1 := ne_of_heap h1 hi1
      have n2 := ne_of_heap h2 hi1
      have hmi' : ms[p] = i := by rw [List.getElem?_eq_getElem hp] at hmi; exact Option.some.inj hmi
      refine SWp.upto l.length (fun k (_ : Unit) => True)
        (fun k _ => [.pointer (some ⟨h, 0, none⟩), .int .i64 p, .int .i64 at_, .slice (some ⟨b, o, none⟩) l.length c', .int .u64 mark, junk, junk, junk, junk, junk, junk, junk, .int .i64 k, junk, junk, junk, junk, junk, junk, junk, junk, junk, junk, junk, junk, junk, junk, junk, junk, junk, junk, junk, junk, junk, junk, junk, junk, junk, junk, junk, junk, junk, junk, junk, junk, junk, junk, junk, junk, junk, junk, junk, junk, junk, junk])
        (fun k _ => ⟨fun j => if j = i then some (.map .i64 true (encM (putUp m at_ l mark k))) else s1.heap j, s1.next + k⟩) () trivial (by simp) ?_ ?_ ?_
      · refine ⟨fun j o hj => ?_, by simp⟩
        simp [putUp] at hj
        grind
      · intro k _ hk _
        obtain ⟨x, hx⟩ : ∃ x, l[k]? = some x := ⟨_, List.getElem?_eq_getElem hk⟩
        have hw : IntKind.i64.wrap ((k : Int) + 1) = k + 1 := Sh.wrap_small (by omega) (by omega)
        have hw2 : IntKind.i64.wrap (at_ + (k : Int)) = at_ + k := wrap_i64 (by omega) (by omega)
        obtain ⟨c1, c2⟩ := hcs k x hx
        have hle : o + k * 2 + 2 ≤ cs.length := by omega
        have e1 : ¬ b = s1.next + k := by omega
        have e2 : ¬ i = s1.next + k := by omega
        have e3 : ¬ h = s1.next + k := by omega
        have e4 : ¬ la = s1.next + k := by omega
        have e5 : ¬ s1.next + k = i := by omega
        by_cases hmk : mark = 0
        · subst hmk
          have hd : putUp m at_ l 0 (k + 1) = pset (putUp m at_ l 0 k) (at_ + k) ⟨x.1, x.2, 1, 0⟩ := by
            simp [putUp, hx]
          have hset := mput_enc (putUp m at_ l 0 k) (at_ + k) ⟨x.1, x.2, 1, 0⟩
          simp only [pv] at hset
          refine vcD_ok (D := pl30) (n := 55) mixed (by kernel_rfl) ?_
          simp [hk, hb1, h1, h2, n1, n2, n3, e1, e2, e3, e4, e5, hw, hw2, hp, hmi', c1, c2, hle, hd, hset, build37, pl30]
          refine ⟨fun j o hj => ?_, by simp; omega⟩
          simp at hj ⊢
          have := hwf1 j
          grind
        · have hmk' : (mark == 0) = false := by simpa using hmk
          have hd : putUp m at_ l mark (k + 1) = pset (putUp m at_ l mark k) (at_ + k) ⟨x.1, x.2, 4, mark⟩ := by
            simp [putUp, hx, hmk]
          have hset := mput_enc (putUp m at_ l mark k) (at_ + k) ⟨x.1, x.2, 4, mark⟩
          simp only [pv] at hset
          refine vcD_ok (D := pl30) (n := 55) mixed (by kernel_rfl) ?_
          simp [hk, hb1, h1, h2, n1, n2, n3, e1, e2, e3, e4, e5, hw, hw2, hp, hmi', c1, c2, hle, hd, hset, build37, hmk', pl30]
          refine ⟨fun j o hj => ?_, by simp; omega⟩
          simp at hj ⊢
          have := hwf1 j
          grind
      · intro _ _
        refine vcD_ok (D := pl30) (n := 55) mixed (by kernel_rfl) ?_
        simp
        refine Post.refl ?_
        rw [hgood]
        have ht : Turned s1 i (.map .i64 true (encM (putUp m at_ l mark l.length))) ⟨fun j => if j = i then some (.map .i64 true (encM (putUp m at_ l mark l.length))) else s1.heap j, s1.next + l.length⟩ :=
          ⟨by simp, by simp, fun j hj hji => by simp [hji]⟩
        exact ⟨rfl, .turned hh hwf hnd hmi (ht.agree ag1 hwf hi)⟩
    · cases hz2
  · obtain ⟨a, c', rfl⟩ := hvl
    have hz' : (mayPutE H part at_ l.length == 0) = false := by simpa using hz
    have hsame : (hPut H part at_ l mark).2 = H := by
      have he := hPut_err H part at_ l mark
      unfold hPut at he ⊢
      cases hm : partM H part with
      | none => rfl
      | some m =>
        rw [hm] at he
        simp only at he ⊢
        split
        · rfl
        · rename_i hx
          rw [if_neg hx] at he
          split
          · rename_i hy
            rw [if_pos hy] at he
            exact absurd he.symm hz
          · rfl
    refine SCalls.bodyL Try.func30 rfl rfl fun hwf => vcD_ok (D := pl30) (n := 55) mixed (by kernel_rfl) ?_
    simp
    refine (mayPut_call hh part at_ l.length hl).monoW ?_
    rintro v' s1 hwf1 ⟨rfl, ag1⟩
    simp [hz', bne]
    refine Post.refl ?_
    rw [hPut_err, hsame]
    exact ⟨rfl, .same hh hwf ag1⟩

end Go.Proofs.Yteiclengdlhnnaa
