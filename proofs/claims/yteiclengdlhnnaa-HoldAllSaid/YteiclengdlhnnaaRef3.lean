/- ref18's hold: pages that come back, and go. -/
import Derived.Test.YteiclengdlhnnaaRef2
namespace Go.Proofs.Yteiclengdlhnnaa
open Go Go.Sh
def pl27 : Nat → Option (List Nat × List Ent)
  | 5 => some ([0, 1, 3, 7, 0, 31, 63, 0, 0, 384, 896, 2047, 0, 8191], [.run 0, .run 1, .run 2, .run 3, .run 4, .run 5, .run 6, .run 7, .run 8, .run 9, .run 10, .run 11, .chk 12, .run 12, .run 13])
  | 7 => some ([0, 1, 3, 7, 0, 31, 63, 0, 0, 384, 896, 0, 4095], [.run 0, .run 1, .run 2, .run 3, .run 4, .run 5, .run 6, .run 7, .run 8, .run 9, .run 10, .run 11, .run 12])
  | _ => none
def pl29 : Nat → Option (List Nat × List Ent)
  | 5 => some ([0, 1, 3, 7, 0, 31, 63, 0, 0, 384, 896, 2047], [.run 0, .run 1, .run 2, .run 3, .run 4, .run 5, .run 6, .run 7, .run 8, .run 9, .run 10, .run 11])
  | _ => none
def pl31 : Nat → Option (List Nat × List Ent)
  | 5 => some ([0, 1, 3, 7, 0, 31, 63, 0, 0, 384, 896, 2047], [.run 0, .run 1, .run 2, .run 3, .run 4, .run 5, .run 6, .run 7, .run 8, .run 9, .run 10, .run 11])
  | _ => none

set_option maxRecDepth 20000
set_option maxHeartbeats 4000000
set_option linter.unusedSimpArgs false
set_option linter.unusedVariables false
attribute [local simp] sWanted sOp ev put pl1 pl0 sResults sResL oneOf sBin sGuardOk sEqT sInt sUn sConvNum sNil sField sFieldV sPart sIndex sLoad sStore sBuiltin sLen sLookup sMapUpdate sAlloc sBox sMakeMap SW.set SW.new setL Value.cells Value.oneCell' opAt cls stable sNew ancB readsHeap noResult Go.undef List.replicate ite_lt ite_gt frL Nat.testBit
attribute [local simp ↓] vcD_skip vcD_label vcD_exit vcD_goto vcD_ret vcD_seq vcD_cond vcD_block vcD_region vcD_draw vcD_loop vcD_scope vcOps_nil vcOps_cons vcOp_eq vcEnts_nil vcEnts_chk vcEnts_run thenQ_normal thenQ_exit thenQ_goto thenQ_ret inBlockQ_normal inBlockQ_exit inBlockQ_goto inBlockQ_ret bodyQ_normal bodyQ_ret Kont_apply entK_apply

theorem rsuchOf_length (H : List Mp) (part : Int) (q : Pg → Bool) : (rsuchOf H part q).length ≤ 4096 := by
  unfold rsuchOf
  split
  · exact rsuchK_length _ _ _
  · simp

theorem set_same {α : Type} (H : List α) (p : Nat) (m : α) (h : H[p]? = some m) : H.set p m = H := by
  apply List.ext_getElem?
  intro j
  rw [List.getElem?_set]
  split
  · rename_i e
    subst e
    rw [if_pos (List.getElem?_eq_some_iff.1 h).1]
    exact h.symm
  · rfl

theorem hBack_nil (H : List Mp) (part : Int) : hBack H part [] = H := by
  unfold hBack partM
  split
  · rename_i m hm
    split at hm
    · simp only [backAll, List.foldl_nil]
      exact set_same _ _ _ hm
    · cases hm
  · rfl

theorem hAway_nil (H : List Mp) (part : Int) : hAway H part [] = H := by
  unfold hAway partM
  split
  · rename_i m hm
    split at hm
    · simp only [delAll, List.foldl_nil]
      exact set_same _ _ _ hm
    · cases hm
  · rfl

theorem rback_call {s : SW} {h la c : Nat} {ms : List Nat} {H : List Mp} (hh : HoldAt s h la c ms H) (hnd : ms.Nodup) (part mark : Int) :
    SCalls Try.prog 27 [.pointer (some ⟨h, 0, none⟩), .int .i64 part, .int .u64 mark] s fun v s' =>
      RowIs s' (rsuchOf H part (marksQ mark [2, 3])) v ∧ HoldPost h la c ms (hBack H part (rsuchOf H part (marksQ mark [2, 3]))) s s' := by
  refine SCalls.bodyL Try.func27 rfl rfl fun hwf => vcD_ok (D := pl27) (n := 48) mixed (by kernel_rfl) ?_
  simp [sBuildSlice, partOk, Instr.fill, sZeros]
  have ag0 := agree_new s (.cells [.int .i64 2, .int .i64 3] true 0)
  have hh0 := hh.of_agree hwf ag0
  refine (rmarks_call hh0 part mark [2, 3] _ (by simp) (.lit (own := true) (g := 0) (b := s.next) (by simp) rfl (by simp)) (by simp)).monoW ?_
  rintro v s₁ hwf1 ⟨hv, ha⟩
  replace ha := ag0.trans ha
  have hh1 := hh.of_agree hwf ha
  have hlen := rsuchOf_length H part (marksQ mark [2, 3])
  have hnone : partM H part = none → rsuchOf H part (marksQ mark [2, 3]) = [] := fun h => by simp [rsuchOf, h]
  generalize rsuchOf H part (marksQ mark [2, 3]) = l at *
  rcases hv with ⟨rfl, rfl⟩ | ⟨hne, b, rfl, hb⟩
  · simp
    refine SWp.upto0 ?_
    refine vcD_ok (D := pl27) (n := 48) mixed (by kernel_rfl) ?_
    simp
    refine Post.refl ⟨.inl ⟨rfl, rfl⟩, ?_⟩
    rw [hBack_nil]
    exact .same hh hwf ha
  · rcases part_cases hh1 part with ⟨hn, _⟩ | ⟨p, i, m, rfl, hp, hm, hmi, hHm, hi⟩
    · exact absurd (hnone hn) hne
    · obtain ⟨h1, ⟨g, h2⟩, _, _⟩ := hh1
      have n1 := ne_of_heap h1 hi
      have n2 := ne_of_heap h2 hi
      have n3 := ne_of_heap hb hi
      have l1 := hwf1.lt h1
      have l2 := hwf1.lt h2
      have l3 := hwf1.lt hb
      have l4 := hwf1.lt hi
      have hmi' : ms[p] = i := by rw [List.getElem?_eq_getElem hp] at hmi; exact Option.some.inj hmi
      simp
      refine SWp.upto l.length (fun _ (_ : Unit) => True)
        (fun k _ => [.pointer (some ⟨h, 0, none⟩), .int .i64 p, junk, junk, junk, junk, junk, .slice (some ⟨b, 0, none⟩) l.length l.length, .int .i64 k, junk, junk, junk, junk, junk, junk, junk, junk, junk, junk, junk, junk, junk, junk, junk, junk, junk, junk, junk, junk, junk, junk, junk, junk, junk, junk, junk, junk, junk, junk, junk, junk, junk, junk, junk, junk, junk, junk, junk])
        (fun k _ => ⟨fun j => if j = i then some (.map .i64 true (encM (backAll m (l.take k)))) else s₁.heap j, s₁.next + k⟩) () trivial (by simp) ?_ ?_ ?_
      · refine ⟨fun j o hj => ?_, by simp⟩
        simp [backAll] at hj
        grind
      · intro k _ hk _
        obtain ⟨x, hx⟩ : ∃ x, l[k]? = some x := ⟨_, List.getElem?_eq_getElem hk⟩
        have hw : IntKind.i64.wrap ((k : Int) + 1) = k + 1 := Sh.wrap_small (by omega) (by omega)
        have hd : backAll m (l.take (k + 1)) = backOne (backAll m (l.take k)) x := by
          simp [backAll, List.take_add_one, hx, List.foldl_append]
        have hset := mput_enc (backAll m (l.take k)) x { pgOf (backAll m (l.take k)) x with state := 1, mark := 0 }
        simp only [pv] at hset
        have e1 : ¬ h = s₁.next + k := by omega
        have e2 : ¬ la = s₁.next + k := by omega
        have e3 : ¬ b = s₁.next + k := by omega
        have e4 : ¬ i = s₁.next + k := by omega
        have e5 : ¬ s₁.next + k = i := by omega
        have hx' : l[k] = x := by rw [List.getElem?_eq_getElem hk] at hx; exact Option.some.inj hx
        refine vcD_ok (D := pl27) (n := 48) mixed (by kernel_rfl) ?_
        simp [hk, h1, h2, hb, n1, n2, n3, hx, hmi', hp, hw, intsC, look_enc, pv, hset, hd, backOne, e1, e2, e3, e4, e5, hx', pl27]
        refine ⟨fun j o hj => ?_, by simp; omega⟩
        simp at hj ⊢
        have := hwf1 j
        grind
      · intro _ _
        refine vcD_ok (D := pl27) (n := 48) mixed (by kernel_rfl) ?_
        simp
        have ht : Turned s₁ i (.map .i64 true (encM (backAll m l))) ⟨fun j => if j = i then some (.map .i64 true (encM (backAll m l))) else s₁.heap j, s₁.next + l.length⟩ :=
          ⟨by simp, by simp, fun j hj hji => by simp [hji]⟩
        have hi0 := hh.maps p i m hmi hHm
        refine Post.refl ⟨.inr ⟨hne, b, rfl, by simp [n3, hb]⟩, ?_⟩
        have hto : ((p : Nat) : Int).toNat = p := by simp
        simp only [hBack, hm, hto]
        exact .turned hh hwf hnd hmi (ht.agree ha hwf hi0)

theorem rgone_call {s : SW} {h la c : Nat} {ms : List Nat} {H : List Mp} (hh : HoldAt s h la c ms H) (hnd : ms.Nodup) (part mark : Int) :
    SCalls Try.prog 29 [.pointer (some ⟨h, 0, none⟩), .int .i64 part, .int .u64 mark] s fun v s' =>
      RowIs s' (rsuchOf H part (marksQ mark [2, 3])) v ∧ HoldPost h la c ms (hAway H part (rsuchOf H part (marksQ mark [2, 3]))) s s' := by
  refine SCalls.bodyL Try.func29 rfl rfl fun hwf => vcD_ok (D := pl29) (n := 32) mixed (by kernel_rfl) ?_
  simp [sBuildSlice, partOk, Instr.fill, sZeros]
  have ag0 := agree_new s (.cells [.int .i64 2, .int .i64 3] true 0)
  have hh0 := hh.of_agree hwf ag0
  refine (rmarks_call hh0 part mark [2, 3] _ (by simp) (.lit (own := true) (g := 0) (b := s.next) (by simp) rfl (by simp)) (by simp)).monoW ?_
  rintro v s₁ hwf1 ⟨hv, ha⟩
  replace ha := ag0.trans ha
  have hh1 := hh.of_agree hwf ha
  have hlen := rsuchOf_length H part (marksQ mark [2, 3])
  have hnone : partM H part = none → rsuchOf H part (marksQ mark [2, 3]) = [] := fun h => by simp [rsuchOf, h]
  generalize rsuchOf H part (marksQ mark [2, 3]) = l at *
  rcases hv with ⟨rfl, rfl⟩ | ⟨hne, b, rfl, hb⟩
  · simp
    refine SWp.upto0 ?_
    refine vcD_ok (D := pl29) (n := 32) mixed (by kernel_rfl) ?_
    simp
    refine Post.refl ⟨.inl ⟨rfl, rfl⟩, ?_⟩
    rw [hAway_nil]
    exact .same hh hwf ha
  · rcases part_cases hh1 part with ⟨hn, _⟩ | ⟨p, i, m, rfl, hp, hm, hmi, hHm, hi⟩
    · exact absurd (hnone hn) hne
    · obtain ⟨h1, ⟨g, h2⟩, _, _⟩ := hh1
      have n1 := ne_of_heap h1 hi
      have n2 := ne_of_heap h2 hi
      have n3 := ne_of_heap hb hi
      have hmi' : ms[p] = i := by rw [List.getElem?_eq_getElem hp] at hmi; exact Option.some.inj hmi
      simp
      refine SWp.upto l.length (fun _ (_ : Unit) => True)
        (fun k _ => [.pointer (some ⟨h, 0, none⟩), .int .i64 p, junk, junk, junk, junk, junk, .slice (some ⟨b, 0, none⟩) l.length l.length, .int .i64 k, junk, junk, junk, junk, junk, junk, junk, junk, junk, junk, junk, junk, junk, junk, junk, junk, junk, junk, junk, junk, junk, junk, junk])
        (fun k _ => s₁.set i (.map .i64 true (encM (delAll m (l.take k))))) () trivial (by simp) ?_ ?_ ?_
      · refine ⟨fun j o hj => ?_, by simp⟩
        simp [delAll] at hj
        grind
      · intro k _ hk _
        obtain ⟨x, hx⟩ : ∃ x, l[k]? = some x := ⟨_, List.getElem?_eq_getElem hk⟩
        have hw : IntKind.i64.wrap ((k : Int) + 1) = k + 1 := Sh.wrap_small (by omega) (by omega)
        have hd : delAll m (l.take (k + 1)) = pdel (delAll m (l.take k)) x := by
          simp [delAll, List.take_add_one, hx, List.foldl_append]
        refine vcD_ok (D := pl29) (n := 32) mixed (by kernel_rfl) ?_
        simp [hk, h1, h2, hb, n1, n2, n3, hx, hmi', hp, hw, intsC, mdel_enc, sDelete, hd, pl29]
        refine ⟨fun j o hj => ?_, by simp⟩
        simp at hj ⊢
        grind
      · intro _ _
        refine vcD_ok (D := pl29) (n := 32) mixed (by kernel_rfl) ?_
        simp
        have hi0 := hh.maps p i m hmi hHm
        have ht : Turned s₁ i (.map .i64 true (encM (delAll m l))) (s₁.set i (.map .i64 true (encM (delAll m l)))) :=
          ⟨Nat.le_refl _, by simp, fun j hj hji => by simp [hji]⟩
        refine Post.refl ⟨.inr ⟨hne, b, rfl, by simp [n3, hb]⟩, ?_⟩
        have hto : ((p : Nat) : Int).toNat = p := by simp
        simp only [hAway, hm, hto]
        exact .turned hh hwf hnd hmi (ht.agree ha hwf hi0)

theorem rout_call {s : SW} {h la c : Nat} {ms : List Nat} {H : List Mp} (hh : HoldAt s h la c ms H) (hnd : ms.Nodup) (part mark : Int) :
    SCalls Try.prog 31 [.pointer (some ⟨h, 0, none⟩), .int .i64 part, .int .u64 mark] s fun v s' =>
      RowIs s' (rsuchOf H part (marksQ mark [4])) v ∧ HoldPost h la c ms (hAway H part (rsuchOf H part (marksQ mark [4]))) s s' := by
  refine SCalls.bodyL Try.func31 rfl rfl fun hwf => vcD_ok (D := pl31) (n := 32) mixed (by kernel_rfl) ?_
  simp [sBuildSlice, partOk, Instr.fill, sZeros]
  have ag0 := agree_new s (.cells [.int .i64 4] true 0)
  have hh0 := hh.of_agree hwf ag0
  refine (rmarks_call hh0 part mark [4] _ (by simp) (.lit (own := true) (g := 0) (b := s.next) (by simp) rfl (by simp)) (by simp)).monoW ?_
  rintro v s₁ hwf1 ⟨hv, ha⟩
  replace ha := ag0.trans ha
  have hh1 := hh.of_agree hwf ha
  have hlen := rsuchOf_length H part (marksQ mark [4])
  have hnone : partM H part = none → rsuchOf H part (marksQ mark [4]) = [] := fun h => by simp [rsuchOf, h]
  generalize rsuchOf H part (marksQ mark [4]) = l at *
  rcases hv with ⟨rfl, rfl⟩ | ⟨hne, b, rfl, hb⟩
  · simp
    refine SWp.upto0 ?_
    refine vcD_ok (D := pl31) (n := 32) mixed (by kernel_rfl) ?_
    simp
    refine Post.refl ⟨.inl ⟨rfl, rfl⟩, ?_⟩
    rw [hAway_nil]
    exact .same hh hwf ha
  · rcases part_cases hh1 part with ⟨hn, _⟩ | ⟨p, i, m, rfl, hp, hm, hmi, hHm, hi⟩
    · exact absurd (hnone hn) hne
    · obtain ⟨h1, ⟨g, h2⟩, _, _⟩ := hh1
      have n1 := ne_of_heap h1 hi
      have n2 := ne_of_heap h2 hi
      have n3 := ne_of_heap hb hi
      have hmi' : ms[p] = i := by rw [List.getElem?_eq_getElem hp] at hmi; exact Option.some.inj hmi
      simp
      refine SWp.upto l.length (fun _ (_ : Unit) => True)
        (fun k _ => [.pointer (some ⟨h, 0, none⟩), .int .i64 p, junk, junk, junk, junk, junk, .slice (some ⟨b, 0, none⟩) l.length l.length, .int .i64 k, junk, junk, junk, junk, junk, junk, junk, junk, junk, junk, junk, junk, junk, junk, junk, junk, junk, junk, junk, junk, junk, junk, junk])
        (fun k _ => s₁.set i (.map .i64 true (encM (delAll m (l.take k))))) () trivial (by simp) ?_ ?_ ?_
      · refine ⟨fun j o hj => ?_, by simp⟩
        simp [delAll] at hj
        grind
      · intro k _ hk _
        obtain ⟨x, hx⟩ : ∃ x, l[k]? = some x := ⟨_, List.getElem?_eq_getElem hk⟩
        have hw : IntKind.i64.wrap ((k : Int) + 1) = k + 1 := Sh.wrap_small (by omega) (by omega)
        have hd : delAll m (l.take (k + 1)) = pdel (delAll m (l.take k)) x := by
          simp [delAll, List.take_add_one, hx, List.foldl_append]
        refine vcD_ok (D := pl31) (n := 32) mixed (by kernel_rfl) ?_
        simp [hk, h1, h2, hb, n1, n2, n3, hx, hmi', hp, hw, intsC, mdel_enc, sDelete, hd, pl31]
        refine ⟨fun j o hj => ?_, by simp⟩
        simp at hj ⊢
        grind
      · intro _ _
        refine vcD_ok (D := pl31) (n := 32) mixed (by kernel_rfl) ?_
        simp
        have hi0 := hh.maps p i m hmi hHm
        have ht : Turned s₁ i (.map .i64 true (encM (delAll m l))) (s₁.set i (.map .i64 true (encM (delAll m l)))) :=
          ⟨Nat.le_refl _, by simp, fun j hj hji => by simp [hji]⟩
        refine Post.refl ⟨.inr ⟨hne, b, rfl, by simp [n3, hb]⟩, ?_⟩
        have hto : ((p : Nat) : Int).toNat = p := by simp
        simp only [hAway, hm, hto]
        exact .turned hh hwf hnd hmi (ht.agree ha hwf hi0)

end Go.Proofs.Yteiclengdlhnnaa
