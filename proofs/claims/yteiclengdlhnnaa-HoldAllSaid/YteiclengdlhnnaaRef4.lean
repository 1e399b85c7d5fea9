/- ref18's hold: pages that are given. -/
import Derived.Test.YteiclengdlhnnaaRef3
namespace Go.Proofs.Yteiclengdlhnnaa
open Go Go.Sh
def pl26 : Nat → Option (List Nat × List Ent)
  | 6 => some ([0, 1, 3, 7, 0, 31, 63, 0, 0, 384, 896, 2047, 4095, 8191, 8191, 0, 49151, 131071], [.run 0, .run 1, .run 2, .run 3, .run 4, .run 5, .run 6, .run 7, .run 8, .run 9, .run 10, .run 11, .run 12, .run 13, .run 14, .chk 15, .run 15, .run 16, .run 17])
  | 12 => some ([0, 0, 3, 7, 0, 0, 48, 112, 255], [.run 0, .run 1, .run 2, .run 3, .run 4, .run 5, .run 6, .run 7, .run 8])
  | 17 => some ([0, 1, 3, 7, 0, 31, 63, 0, 0, 384, 896, 2047, 0, 8191], [.run 0, .run 1, .run 2, .run 3, .run 4, .run 5, .run 6, .run 7, .run 8, .run 9, .run 10, .run 11, .chk 12, .run 12, .run 13])
  | 21 => some ([0, 1, 3, 7, 0, 31, 63, 0, 0, 384, 896, 0, 4095], [.run 0, .run 1, .run 2, .run 3, .run 4, .run 5, .run 6, .run 7, .run 8, .run 9, .run 10, .run 11, .run 12])
  | _ => none

set_option maxRecDepth 20000
set_option maxHeartbeats 4000000
set_option linter.unusedSimpArgs false
set_option linter.unusedVariables false
attribute [local simp] sWanted sOp ev put pl1 pl0 sResults sResL oneOf sBin sGuardOk sEqT sInt sUn sConvNum sNil sField sFieldV sPart sIndex sLoad sStore sBuiltin sLen sLookup sMapUpdate sAlloc sBox sMakeMap SW.set SW.new setL Value.cells Value.oneCell' opAt cls stable sNew ancB readsHeap noResult Go.undef List.replicate ite_lt ite_gt frL Nat.testBit
attribute [local simp ↓] vcD_skip vcD_label vcD_exit vcD_goto vcD_ret vcD_seq vcD_cond vcD_block vcD_region vcD_draw vcD_loop vcD_scope vcOps_nil vcOps_cons vcOp_eq vcEnts_nil vcEnts_chk vcEnts_run thenQ_normal thenQ_exit thenQ_goto thenQ_ret inBlockQ_normal inBlockQ_exit inBlockQ_goto inBlockQ_ret bodyQ_normal bodyQ_ret Kont_apply entK_apply

theorem rgive_call {s : SW} {h la c : Nat} {ms : List Nat} {H : List Mp} (hh : HoldAt s h la c ms H) (hnd : ms.Nodup) (part kind mark : Int) (l : List Int) (v : Value) (hv : IntsIn s l v) (hl : l.length ≤ 1000000) :
    SCalls Try.prog 26 [.pointer (some ⟨h, 0, none⟩), .int .i64 part, v, .int .i64 kind, .int .u64 mark] s fun v s' =>
      v = .int .i64 (hGive H part l kind mark).1 ∧ HoldPost h la c ms (hGive H part l kind mark).2 s s' := by
  rcases part_cases hh part with ⟨hn, _⟩ | ⟨p, i, m, rfl, hp, hm, hmi, hHm, hi⟩
  · refine SCalls.bodyL Try.func26 rfl rfl fun hwf => vcD_ok (D := pl26) (n := 112) mixed (by kernel_rfl) ?_
    simp
    refine (has_call hh part).mono ?_
    rintro v s' ⟨rfl, rfl⟩
    rw [hn]
    simp
    refine Post.refl ?_
    simp only [hGive, hn]
    exact ⟨trivial, .same hh hwf (.refl _)⟩
  have hto : ((p : Nat) : Int).toNat = p := by simp
  rcases hv with ⟨rfl, a, c', rfl, _⟩ | ⟨hne, b, o, c', cs, own, g, rfl, hb, hcs⟩
  · refine SCalls.bodyL Try.func26 rfl rfl fun hwf => vcD_ok (D := pl26) (n := 112) mixed (by kernel_rfl) ?_
    simp
    refine (has_call hh p).mono ?_
    rintro v s' ⟨rfl, rfl⟩
    rw [hm]
    simp
    refine Post.refl ?_
    simp only [hGive, hm, or_true, if_true]
    exact ⟨trivial, .same hh hwf (.refl _)⟩
  have hlen0' : ((l.length : Int) == 0) = false := by
    have : l.length ≠ 0 := fun e => hne (List.eq_nil_of_length_eq_zero e)
    simp; omega
  by_cases k1 : kind < 1
  · refine SCalls.bodyL Try.func26 rfl rfl fun hwf => vcD_ok (D := pl26) (n := 112) mixed (by kernel_rfl) ?_
    simp
    refine (has_call hh p).mono ?_
    rintro v s' ⟨rfl, rfl⟩
    rw [hm]
    simp [k1, hlen0']
    refine Post.refl ?_
    simp only [hGive, hm, k1, true_or, if_true]
    exact ⟨trivial, .same hh hwf (.refl _)⟩
  by_cases k2 : 3 < kind
  · refine SCalls.bodyL Try.func26 rfl rfl fun hwf => vcD_ok (D := pl26) (n := 112) mixed (by kernel_rfl) ?_
    simp
    refine (has_call hh p).mono ?_
    rintro v s' ⟨rfl, rfl⟩
    rw [hm]
    simp [k1, k2, hlen0']
    refine Post.refl ?_
    simp only [hGive, hm, k2, gt_iff_lt, true_or, or_true, if_true]
    exact ⟨trivial, .same hh hwf (.refl _)⟩
  have n3 := ne_of_heap hb hi
  have hh0 := hh
  refine SCalls.bodyL Try.func26 rfl rfl fun hwf => vcD_ok (D := pl26) (n := 112) mixed (by kernel_rfl) ?_
  have l4 := hwf.lt hi
  have l3 := hwf.lt hb
  simp
  refine (has_call hh p).mono ?_
  rintro v' s' ⟨rfl, rfl⟩
  rw [hm]
  simp [k1, k2, hlen0']
  obtain ⟨h1, ⟨g', h2⟩, _, _⟩ := hh
  have l1 := hwf.lt h1
  have l2 := hwf.lt h2
  have n1 := ne_of_heap h1 hi
  have n2 := ne_of_heap h2 hi
  have hmi' : ms[p] = i := by rw [List.getElem?_eq_getElem hp] at hmi; exact Option.some.inj hmi
  refine SWp.upto l.length (fun k (_ : Unit) => mayGive m l k)
    (fun k _ => [.pointer (some ⟨h, 0, none⟩), .int .i64 p, .slice (some ⟨b, o, none⟩) l.length c', .int .i64 kind, .int .u64 mark, junk, junk, junk, junk, junk, junk, .int .i64 k, junk, junk, junk, junk, junk, junk, junk, junk, junk, junk, junk, junk, junk, junk, junk, junk, junk, junk, junk, junk, junk, junk, junk, junk, junk, junk, junk, junk, junk, junk, junk, junk, junk, junk, junk, junk, junk, junk, junk, junk, junk, junk, junk, junk, junk, junk, junk, junk, junk, junk, junk, junk, junk, junk, junk, junk, junk, junk, junk, junk, junk, junk, junk, junk, junk, junk, junk, junk, junk, junk, junk, junk, junk, junk, junk, junk, junk, junk, junk, junk, junk, junk, junk, junk, junk, junk, junk, junk, junk, junk, junk, junk, junk, junk, junk, junk, junk, junk, junk, junk])
    (fun k _ => ⟨s'.heap, s'.next + k⟩) () (fun j x hj => by omega) (by simp) ?_ ?_ ?_
  · exact SW.less_refl _
  · intro k _ hk hI
    obtain ⟨x, hx⟩ : ∃ x, l[k]? = some x := ⟨_, List.getElem?_eq_getElem hk⟩
    have hw : IntKind.i64.wrap ((k : Int) + 1) = k + 1 := Sh.wrap_small (by omega) (by omega)
    have hcx := hcs k x hx
    have e1 : ¬ b = s'.next + k := by omega
    have e2 : ¬ i = s'.next + k := by omega
    have e3 : ¬ h = s'.next + k := by omega
    have e4 : ¬ la = s'.next + k := by omega
    have hbad : ((pgOf m x).state = 1 ∧ ¬ x ∈ l.take k → False) → hGive H (p : Int) l kind mark = (-6, H) := by
      intro hb
      have : ¬ mayGive m l l.length := fun hg => hb (hg k x hk hx)
      simp [hGive, hm, k1, k2, hne, this]
    cases hg : (pgGet m x).isSome
    · have hst : ¬ (pgOf m x).state = 1 := by
        rw [pgOf_none (by simpa using hg)]
        decide
      refine vcD_ok (D := pl26) (n := 112) mixed (by kernel_rfl) ?_
      simp [hk, hcx, h1, h2, hb, hi, e1, e2, e3, e4, hp, hmi', look_enc, look_is, pv, hg, pl26]
      refine Post.refl ?_
      rw [hbad fun h => hst h.1]
      exact ⟨rfl, .same hh0 hwf ⟨by simp; omega, fun j hj => by simp (disch := omega)⟩⟩
    · cases hst : (pgOf m x).state == 1
      · have hst' : ¬ (pgOf m x).state = 1 := by simpa using hst
        refine vcD_ok (D := pl26) (n := 112) mixed (by kernel_rfl) ?_
        simp [hk, hcx, h1, h2, hb, hi, e1, e2, e3, e4, hp, hmi', look_enc, look_is, pv, hg, hst, bne, pl26]
        refine Post.refl ?_
        rw [hbad fun h => hst' h.1]
        exact ⟨rfl, .same hh0 hwf ⟨by simp; omega, fun j hj => by simp (disch := omega)⟩⟩
      · have hst' : (pgOf m x).state = 1 := by simpa using hst
        refine vcD_ok (D := pl26) (n := 112) mixed (by kernel_rfl) ?_
        simp [hk, hcx, h1, h2, hb, hi, e1, e2, e3, e4, hp, hmi', look_enc, look_is, pv, hg, hst, bne, pl26]
        refine SWp.upto k (fun j (_ : Unit) => ¬ x ∈ l.take j)
          (fun j _ => [.pointer (some ⟨h, 0, none⟩), .int .i64 p, .slice (some ⟨b, o, none⟩) l.length c', .int .i64 kind, .int .u64 mark, junk, junk, junk, junk, junk, junk, .int .i64 k, junk, junk, .int .i64 j, junk, junk, junk, junk, junk, junk, junk, junk, junk, junk, junk, junk, junk, junk, junk, junk, junk, junk, junk, junk, junk, junk, junk, junk, junk, junk, junk, junk, junk, junk, junk, junk, junk, junk, junk, junk, junk, junk, junk, junk, junk, junk, junk, junk, junk, junk, junk, junk, junk, junk, junk, junk, junk, junk, junk, junk, junk, junk, junk, junk, junk, junk, junk, junk, junk, junk, junk, junk, junk, junk, junk, junk, junk, junk, junk, junk, junk, junk, junk, junk, junk, junk, junk, junk, junk, junk, junk, junk, junk, junk, junk, junk, junk, junk, junk, junk, junk])
          (fun _ _ => ⟨s'.heap, s'.next + k + 1⟩) () (by simp) (by simp) ?_ ?_ ?_
        · refine ⟨fun j o hj => ?_, by simp⟩
          have := hwf j
          simp at hj ⊢
          grind
        · intro j _ hj hJ
          obtain ⟨y, hy⟩ : ∃ y, l[j]? = some y := ⟨_, List.getElem?_eq_getElem (by omega)⟩
          have hcy := hcs j y hy
          have hjl : j < l.length := by omega
          have hwj : IntKind.i64.wrap ((j : Int) + 1) = j + 1 := Sh.wrap_small (by omega) (by omega)
          cases hxy : y == x
          · have hxy' : ¬ y = x := by simpa using hxy
            refine vcD_ok (D := pl26) (n := 112) mixed (by kernel_rfl) ?_
            simp [hj, hk, hjl, hb, hcx, hcy, hxy, hwj, pl26]
            refine ⟨?_, SW.less_refl _⟩
            rw [List.take_add_one, hy]
            simp [hJ, Ne.symm hxy']
          · have hxy' : y = x := by simpa using hxy
            refine vcD_ok (D := pl26) (n := 112) mixed (by kernel_rfl) ?_
            simp [hj, hk, hjl, hb, hcx, hcy, hxy, hwj, pl26]
            refine Post.refl ?_
            rw [hbad fun h => h.2 (by
              rw [← hxy']
              exact List.mem_of_getElem? (l := l.take k) (i := j) (by rw [List.getElem?_take_of_lt hj, hy]))]
            exact ⟨rfl, .same hh0 hwf ⟨by simp; omega, fun j hj => by simp⟩⟩
        · intro _ hJ
          refine vcD_ok (D := pl26) (n := 112) mixed (by kernel_rfl) ?_
          simp [hw]
          refine ⟨fun j y hj hy => ?_, fun j o hj => ?_, by simp; omega⟩
          · rcases Nat.lt_or_ge j k with h | h
            · exact hI j y h hy
            · have : j = k := by omega
              subst this
              rw [hx] at hy; cases hy
              exact ⟨hst', hJ⟩
          · exact hj
  · intro _ hI
    refine vcD_ok (D := pl26) (n := 112) mixed (by kernel_rfl) ?_
    simp
    have hgood : hGive H (p : Int) l kind mark = (0, H.set p (giveAll kind mark m l)) := by
      simp [hGive, hm, k1, k2, hne, hI]
    refine SWp.upto l.length (fun k (_ : Unit) => True)
      (fun k _ => [.pointer (some ⟨h, 0, none⟩), .int .i64 p, .slice (some ⟨b, o, none⟩) l.length c', .int .i64 kind, .int .u64 mark, junk, junk, junk, junk, junk, junk, junk, junk, junk, junk, .int .i64 k, junk, junk, junk, junk, junk, junk, junk, junk, junk, junk, junk, junk, junk, junk, junk, junk, junk, junk, junk, junk, junk, junk, junk, junk, junk, junk, junk, junk, junk, junk, junk, junk, junk, junk, junk, junk, junk, junk, junk, junk, junk, junk, junk, junk, junk, junk, junk, junk, junk, junk, junk, junk, junk, junk, junk, junk, junk, junk, junk, junk, junk, junk, junk, junk, junk, junk, junk, junk, junk, junk, junk, junk, junk, junk, junk, junk, junk, junk, junk, junk, junk, junk, junk, junk, junk, junk, junk, junk, junk, junk, junk, junk, junk, junk, junk, junk])
      (fun k _ => ⟨fun j => if j = i then some (.map .i64 true (encM (giveAll kind mark m (l.take k)))) else s'.heap j, s'.next + l.length + k⟩) () trivial (by simp) ?_ ?_ ?_
    · refine ⟨fun j o hj => ?_, by simp⟩
      simp [giveAll] at hj
      have := hwf j
      simp
      grind
    · intro k _ hk _
      obtain ⟨x, hx⟩ : ∃ x, l[k]? = some x := ⟨_, List.getElem?_eq_getElem hk⟩
      have hw : IntKind.i64.wrap ((k : Int) + 1) = k + 1 := Sh.wrap_small (by omega) (by omega)
      have hcx := hcs k x hx
      have hd : giveAll kind mark m (l.take (k + 1)) = giveOne kind mark (giveAll kind mark m (l.take k)) x := by
        simp [giveAll, List.take_add_one, hx, List.foldl_append]
      have hset := mput_enc (giveAll kind mark m (l.take k)) x { pgOf (giveAll kind mark m (l.take k)) x with state := if kind = 1 then 2 else 3, mark := mark }
      simp only [pv] at hset
      have e1 : ¬ b = s'.next + l.length + k := by omega
      have e2 : ¬ i = s'.next + l.length + k := by omega
      have e3 : ¬ s'.next + l.length + k = i := by omega
      have e4 : ¬ h = s'.next + l.length + k := by omega
      have e5 : ¬ la = s'.next + l.length + k := by omega
      by_cases hk1 : kind = 1
      · subst hk1
        simp only [if_true] at hset
        refine vcD_ok (D := pl26) (n := 112) mixed (by kernel_rfl) ?_
        simp [hk, hcx, hb, h1, h2, n1, n2, n3, e1, e2, e3, e4, e5, hp, hmi', look_enc, pv, hw, hd, giveOne, hset, pl26]
        refine ⟨fun j o hj => ?_, by simp; omega⟩
        simp at hj ⊢
        have := hwf j
        grind
      · simp only [hk1, if_false] at hset
        have hk1' : (kind == 1) = false := by simpa using hk1
        refine vcD_ok (D := pl26) (n := 112) mixed (by kernel_rfl) ?_
        simp [hk, hcx, hb, h1, h2, n1, n2, n3, e1, e2, e3, e4, e5, hp, hmi', look_enc, pv, hw, hd, giveOne, hset, hk1, hk1', pl26]
        refine ⟨fun j o hj => ?_, by simp; omega⟩
        simp at hj ⊢
        have := hwf j
        grind
    · intro _ _
      refine vcD_ok (D := pl26) (n := 112) mixed (by kernel_rfl) ?_
      simp
      refine Post.refl ?_
      rw [hgood]
      refine ⟨rfl, .turned hh0 hwf hnd hmi ⟨by simp; omega, by simp, fun j hj hji => by simp [hji]⟩⟩

end Go.Proofs.Yteiclengdlhnnaa
