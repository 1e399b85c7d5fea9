/- ref18's hold: the small functions. -/
import Derived.Test.YteiclengdlhnnaaHold9
import Derived.Test.YteiclengdlhnnaaSimC
namespace Go.Proofs.Yteiclengdlhnnaa
open Go Go.Sh
def pl94 : Nat → Option (List Nat × List Ent)
  | 7 => some ([0, 1, 3, 7, 0, 31, 63, 0, 0, 511], [.run 0, .run 1, .run 2, .run 3, .run 4, .run 5, .run 6, .run 7, .run 8, .run 9])
  | _ => none

set_option maxRecDepth 20000
set_option maxHeartbeats 4000000
set_option linter.unusedSimpArgs false
set_option linter.unusedVariables false
attribute [local simp] sWanted sOp ev put pl1 pl0 sResults sResL oneOf sBin sGuardOk sEqT sInt sUn sConvNum sNil sField sFieldV sPart sIndex sLoad sStore sBuiltin sLen sLookup sMapUpdate sAlloc sBox sMakeMap SW.set SW.new setL Value.cells Value.oneCell' opAt cls stable sNew ancB readsHeap noResult Go.undef List.replicate ite_lt ite_gt frL Nat.testBit
attribute [local simp ↓] vcD_skip vcD_label vcD_exit vcD_goto vcD_ret vcD_seq vcD_cond vcD_block vcD_region vcD_draw vcD_loop vcD_scope vcOps_nil vcOps_cons vcOp_eq vcEnts_nil vcEnts_chk vcEnts_run thenQ_normal thenQ_exit thenQ_goto thenQ_ret inBlockQ_normal inBlockQ_exit inBlockQ_goto inBlockQ_ret bodyQ_normal bodyQ_ret Kont_apply entK_apply

theorem build37z : sBuild Try.prog 37 [] = some (.agg #[.int .i64 0, .int .i64 0, .int .i64 0, .int .u64 0]) := by kernel_rfl

theorem part_cases {s : SW} {h la c : Nat} {ms : List Nat} {H : List Mp} (hh : HoldAt s h la c ms H) (part : Int) :
    (partM H part = none ∧ (part < 0 ∨ (ms.length : Int) ≤ part)) ∨
    (∃ p i m, part = (p : Nat) ∧ p < ms.length ∧ partM H part = some m ∧ ms[p]? = some i ∧ H[p]? = some m ∧ s.heap i = some (.map .i64 true (encM m))) := by
  by_cases h0 : 0 ≤ part
  · obtain ⟨p, rfl⟩ : ∃ p : Nat, part = p := ⟨part.toNat, by omega⟩
    by_cases hp : p < ms.length
    · right
      have hp' : p < H.length := by rw [← hh.len]; exact hp
      exact ⟨p, ms[p], H[p], rfl, hp, by simp [partM, hp'], List.getElem?_eq_getElem hp, List.getElem?_eq_getElem hp', hh.maps p _ _ (List.getElem?_eq_getElem hp) (List.getElem?_eq_getElem hp')⟩
    · left
      have hp' : ¬ p < H.length := by rw [← hh.len]; exact hp
      exact ⟨by simp [partM]; omega, .inr (by omega)⟩
  · left
    exact ⟨by simp [partM, h0], .inl (by omega)⟩

theorem has_call {s : SW} {h la c : Nat} {ms : List Nat} {H : List Mp} (hh : HoldAt s h la c ms H) (part : Int) :
    SCalls Try.prog 90 [.pointer (some ⟨h, 0, none⟩), .int .i64 part] s fun v s' => s' = s ∧ v = .bool (partM H part).isSome := by
  rcases part_cases hh part with ⟨hn, hp⟩ | ⟨p, i, m, rfl, hp, hm, _⟩
  · rw [hn]
    obtain ⟨h1, ⟨g, h2⟩, _, _⟩ := hh
    refine SCalls.body Try.func90 rfl rfl (vcD_ok (D := fun _ => none) (n := 16) mixed (by kernel_rfl) ?_)
    by_cases hr : part < 0
    · have hr' : ¬ 0 ≤ part := by omega
      simp [h1, hr']
    · have hr' : 0 ≤ part := by omega
      have hq : ¬ part < ms.length := by omega
      simp [h1, hr', hq]
  · rw [hm]
    obtain ⟨h1, ⟨g, h2⟩, _, _⟩ := hh
    refine SCalls.body Try.func90 rfl rfl (vcD_ok (D := fun _ => none) (n := 16) mixed (by kernel_rfl) ?_)
    simp [h1, hp]

theorem rget_call {s : SW} {h la c : Nat} {ms : List Nat} {H : List Mp} (hh : HoldAt s h la c ms H) (part page : Int) :
    SCalls Try.prog 38 [.pointer (some ⟨h, 0, none⟩), .int .i64 part, .int .i64 page] s fun v s' =>
      v = .tuple #[pv ((getOf H part page).getD pg0), .bool (getOf H part page).isSome] ∧ Agree s s' := by
  refine SCalls.bodyL Try.func38 rfl rfl fun hwf => vcD_ok (D := fun _ => none) (n := 29) mixed (by kernel_rfl) ?_
  simp
  refine (has_call (hh.of_agree hwf (agree_new s _)) part).mono ?_
  rintro v s' ⟨rfl, rfl⟩
  rcases part_cases hh part with ⟨hn, hp⟩ | ⟨p, i, m, rfl, hp, hm, hmi, hHm, hi⟩
  · rw [hn]
    simp [build37z]
    exact Post.refl ⟨by simp [getOf, hn, pv, pg0], by simp, fun j hj => by simp (disch := omega)⟩
  · rw [hm]
    obtain ⟨h1, ⟨g, h2⟩, _, _⟩ := hh
    have hmi' : ms[p] = i := by rw [List.getElem?_eq_getElem hp] at hmi; exact Option.some.inj hmi
    have l1 := hwf.lt h1
    have l2 := hwf.lt h2
    have l3 := hwf.lt hi
    have e1 : ¬ h = s.next := by omega
    have e2 : ¬ la = s.next := by omega
    have e3 : ¬ i = s.next := by omega
    simp [h1, h2, hi, e1, e2, e3, hp, hmi', look_enc, look_is, pv]
    exact Post.refl ⟨by simp [getOf, hm, pv, pgOf], by simp; omega, fun j hj => by simp (disch := omega)⟩

theorem pgOf_none {m : Mp} {n : Int} (h : pgGet m n = none) : pgOf m n = pg0 := by simp [pgOf, h]

theorem rturn_call {s : SW} {h la c : Nat} {ms : List Nat} {H : List Mp} (hh : HoldAt s h la c ms H) (hnd : ms.Nodup) (part page a b : Int) (ha0 : ¬ a = 0) :
    SCalls Try.prog 94 [.pointer (some ⟨h, 0, none⟩), .int .i64 part, .int .i64 page, .int .i64 a, .int .i64 b] s fun v s' =>
      v = .int .i64 (hTurn H part page a b).1 ∧ HoldPost h la c ms (hTurn H part page a b).2 s s' := by
  refine SCalls.bodyL Try.func94 rfl rfl fun hwf => vcD_ok (D := pl94) (n := 48) mixed (by kernel_rfl) ?_
  simp
  refine (has_call hh part).mono ?_
  rintro v s' ⟨rfl, rfl⟩
  rcases part_cases hh part with ⟨hn, hp⟩ | ⟨p, i, m, rfl, hp, hm, hmi, hHm, hi⟩
  · rw [hn]
    simp
    refine Post.refl ?_
    simp only [hTurn, hn]
    exact ⟨trivial, HoldPost.same hh hwf (Agree.refl _)⟩
  · have hh0 := hh
    obtain ⟨h1, ⟨g, h2⟩, _, _⟩ := hh
    have hmi' : ms[p] = i := by rw [List.getElem?_eq_getElem hp] at hmi; exact Option.some.inj hmi
    have l1 := hwf.lt h1
    have l2 := hwf.lt h2
    have l3 := hwf.lt hi
    have e1 : ¬ h = s'.next := by omega
    have e2 : ¬ la = s'.next := by omega
    have e3 : ¬ i = s'.next := by omega
    have n1 := ne_of_heap h1 hi
    have n2 := ne_of_heap h2 hi
    have hto : ((p : Nat) : Int).toNat = p := by simp
    have hset := mput_enc m page { pgOf m page with state := b }
    simp only [pv] at hset
    have hbad : ¬ (pgOf m page).state = a → hTurn H (p : Int) page a b = (-6, H) := by
      intro h; simp [hTurn, hm, turnM, h]
    cases hg : (pgGet m page).isSome
    · have hst : ¬ (pgOf m page).state = a := by
        rw [pgOf_none (by simpa using hg)]
        exact fun e => ha0 e.symm
      rw [hm]
      simp [h1, h2, hi, e1, e2, e3, hp, hmi', look_enc, look_is, pv, hg]
      refine Post.refl ?_
      rw [hbad hst]
      exact ⟨rfl, HoldPost.same hh0 hwf ⟨by simp, fun j hj => by simp (disch := omega)⟩⟩
    · rw [hm]
      cases hst : (pgOf m page).state == a
      · have hst' : ¬ (pgOf m page).state = a := by simpa using hst
        simp [h1, h2, hi, e1, e2, e3, hp, hmi', look_enc, look_is, pv, hg, hst, bne]
        refine Post.refl ?_
        rw [hbad hst']
        exact ⟨rfl, HoldPost.same hh0 hwf ⟨by simp, fun j hj => by simp (disch := omega)⟩⟩
      · have hst' : (pgOf m page).state = a := by simpa using hst
        simp [h1, h2, hi, e1, e2, e3, hp, hmi', look_enc, look_is, pv, hg, hst, bne, hset, pl94]
        refine Post.refl ⟨by simp [hTurn, hm, turnM, hst'], ?_⟩
        simp only [hTurn, hm, turnM, hst', if_true, hto]
        refine HoldPost.turned hh0 hwf hnd hmi ⟨by simp, by simp, fun j hj hji => by simp (disch := omega) [hji]⟩

theorem rbox_call {s : SW} {h la c : Nat} {ms : List Nat} {H : List Mp} (hh : HoldAt s h la c ms H) (hnd : ms.Nodup) (part page : Int) :
    SCalls Try.prog 33 [.pointer (some ⟨h, 0, none⟩), .int .i64 part, .int .i64 page] s fun v s' =>
      v = .int .i64 (hTurn H part page 1 5).1 ∧ HoldPost h la c ms (hTurn H part page 1 5).2 s s' := by
  refine SCalls.bodyL Try.func33 rfl rfl fun hwf => vcD_ok (D := fun _ => none) (n := 11) mixed (by kernel_rfl) ?_
  simp
  refine (rturn_call hh hnd part page 1 5 (by decide)).mono ?_
  rintro v s' ⟨rfl, h1⟩
  simp
  exact Post.refl ⟨rfl, h1⟩

theorem runbox_call {s : SW} {h la c : Nat} {ms : List Nat} {H : List Mp} (hh : HoldAt s h la c ms H) (hnd : ms.Nodup) (part page : Int) :
    SCalls Try.prog 35 [.pointer (some ⟨h, 0, none⟩), .int .i64 part, .int .i64 page] s fun v s' =>
      v = .int .i64 (hTurn H part page 5 1).1 ∧ HoldPost h la c ms (hTurn H part page 5 1).2 s s' := by
  refine SCalls.bodyL Try.func35 rfl rfl fun hwf => vcD_ok (D := fun _ => none) (n := 11) mixed (by kernel_rfl) ?_
  simp
  refine (rturn_call hh hnd part page 5 1 (by decide)).mono ?_
  rintro v s' ⟨rfl, h1⟩
  simp
  exact Post.refl ⟨rfl, h1⟩

end Go.Proofs.Yteiclengdlhnnaa
