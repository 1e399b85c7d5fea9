/- hold: pages that come back. -/
import Derived.Test.YteiclengdlhnnaaHold4
namespace Go.Proofs.Yteiclengdlhnnaa
open Go Go.Sh
def pl22 : Nat → Option (List Nat × List Ent)
  | 7 => some ([0, 1, 3, 7, 0, 31, 63, 0, 0, 511], [.run 0, .run 1, .run 2, .run 3, .run 4, .run 5, .run 6, .run 7, .run 8, .run 9])
  | _ => none

set_option maxRecDepth 20000
set_option maxHeartbeats 4000000
set_option linter.unusedSimpArgs false
set_option linter.unusedVariables false
attribute [local simp] sWanted sOp ev put pl1 pl0 sResults sResL oneOf sBin sGuardOk sEqT sInt sUn sConvNum sNil sField sFieldV sPart sIndex sLoad sStore sBuiltin sLen sLookup sMapUpdate sAlloc sBox sMakeMap SW.set SW.new setL Value.cells Value.oneCell' opAt cls stable sNew ancB readsHeap noResult Go.undef List.replicate ite_lt ite_gt frL Nat.testBit
attribute [local simp ↓] vcD_skip vcD_label vcD_exit vcD_goto vcD_ret vcD_seq vcD_cond vcD_block vcD_region vcD_draw vcD_loop vcD_scope vcOps_nil vcOps_cons vcOp_eq vcEnts_nil vcEnts_chk vcEnts_run thenQ_normal thenQ_exit thenQ_goto thenQ_ret inBlockQ_normal inBlockQ_exit inBlockQ_goto inBlockQ_ret bodyQ_normal bodyQ_ret Kont_apply entK_apply

def backOne (m : Mp) (x : Int) : Mp := pset m x { pgOf m x with state := 1, mark := 0 }
def backAll (m : Mp) (l : List Int) : Mp := l.foldl backOne m

def hBack (H : List Mp) (part : Int) (l : List Int) : List Mp := match partM H part with
  | some m => H.set part.toNat (backAll m l)
  | none => H

theorem back_call {s : SW} {h la c : Nat} {ms : List Nat} {H : List Mp} (hh : HoldAt s h la c ms H) (hnd : ms.Nodup) (hs : Small H) (part mark : Int) :
    SCalls Try.prog 22 [.pointer (some ⟨h, 0, none⟩), .int .i64 part, .int .u64 mark] s fun v s' =>
      RowIs s' (suchOf H part fun p => p.mark == mark && (p.state == 2 || p.state == 3)) v ∧ HoldPost h la c ms (hBack H part (suchOf H part fun p => p.mark == mark && (p.state == 2 || p.state == 3))) s s' := by
  refine SCalls.bodyL Try.func22 rfl rfl fun hwf => vcD_ok (D := pl22) (n := 43) mixed (by kernel_rfl) ?_
  simp
  refine (given_call hh hs part mark).monoW ?_
  rintro v s₁ hwf1 ⟨hv, ha⟩
  have hh1 := hh.of_agree hwf ha
  generalize hl : suchOf H part (fun p => p.mark == mark && (p.state == 2 || p.state == 3)) = l at *
  rcases hv with ⟨rfl, rfl⟩ | ⟨hne, b, rfl, hb⟩
  · simp
    refine SWp.upto0 ?_
    refine vcD_ok (D := pl22) (n := 43) mixed (by kernel_rfl) ?_
    simp
    refine Post.refl ⟨.inl ⟨rfl, rfl⟩, ?_⟩
    have : hBack H part [] = H := by
      unfold hBack partM
      split
      · rename_i m hm
        split at hm
        · simp only [backAll, List.foldl_nil]
          apply List.ext_getElem?
          intro j
          rw [List.getElem?_set]
          split
          · rename_i e
            subst e
            rw [if_pos (by rw [List.getElem?_eq_some_iff] at hm; exact hm.1)]
            exact hm.symm
          · rfl
        · cases hm
      · rfl
    rw [this]
    exact .same hh hwf ha
  · rcases of_call hh1 part with ⟨hn, _⟩ | ⟨p, i, m, rfl, hp, hm, hmi, hHm, hi, _⟩
    · rw [← hl] at hne
      exact absurd (by simp [suchOf, hn]) hne
    · have hlen : l.length ≤ 1000000 := by
        rw [← hl]
        simp only [suchOf, hm]
        exact Nat.le_trans (suchL_length _ _) (hs m (List.mem_of_getElem? hHm)).1
      obtain ⟨h1, ⟨g, h2⟩, _, _⟩ := hh1
      have n1 := ne_of_heap h1 hi
      have n2 := ne_of_heap h2 hi
      have n3 := ne_of_heap hb hi
      have l1 := hwf1.lt h1
      have l2 := hwf1.lt h2
      have l3 := hwf1.lt hb
      have l4 := hwf1.lt hi
      have hmi' : ms[p] = i := by rw [List.getElem?_eq_getElem hp] at hmi; exact Option.some.inj hmi
      simp
      refine SWp.upto l.length (fun _ (_ : Unit) => True)
        (fun k _ => [.pointer (some ⟨h, 0, none⟩), .int .i64 p, junk, junk, junk, junk, junk, .slice (some ⟨b, 0, none⟩) l.length l.length, junk, junk, junk, junk, junk, junk, junk, .slice (some ⟨b, 0, none⟩) l.length l.length, .int .i64 l.length, .int .i64 k, junk, junk, junk, junk, junk, junk, junk, junk, junk, junk, junk, junk, junk, junk, junk, junk, junk, junk, junk, junk, junk, junk, junk, junk, junk])
        (fun k _ => ⟨fun j => if j = i then some (.map .i64 true (encM (backAll m (l.take k)))) else s₁.heap j, s₁.next + k⟩) () trivial (by simp) ?_ ?_ ?_
      · refine ⟨fun j o hj => ?_, by simp⟩
        simp [backAll] at hj
        grind
      · intro k _ hk _
        obtain ⟨x, hx⟩ : ∃ x, l[k]? = some x := ⟨_, List.getElem?_eq_getElem hk⟩
        have hw : IntKind.i64.wrap ((k : Int) + 1) = k + 1 := Sh.wrap_small (by omega) (by omega)
        have hd : backAll m (l.take (k + 1)) = backOne (backAll m (l.take k)) x := by
          simp [backAll, List.take_add_one, hx, List.foldl_append]
        have hset := mput_enc (backAll m (l.take k)) x { pgOf (backAll m (l.take k)) x with state := 1, mark := 0 }
        simp only [pv] at hset
        have e1 : ¬ h = s₁.next + k := by omega
        have e2 : ¬ la = s₁.next + k := by omega
        have e3 : ¬ b = s₁.next + k := by omega
        have e4 : ¬ i = s₁.next + k := by omega
        have e5 : ¬ s₁.next + k = i := by omega
        have hx' : l[k] = x := by rw [List.getElem?_eq_getElem hk] at hx; exact Option.some.inj hx
        refine vcD_ok (D := pl22) (n := 43) mixed (by kernel_rfl) ?_
        simp [hk, h1, h2, hb, n1, n2, n3, hx, hmi', hp, hw, intsC, look_enc, pv, hset, hd, backOne, e1, e2, e3, e4, e5, hx', pl22]
        refine ⟨fun j o hj => ?_, by simp; omega⟩
        simp at hj ⊢
        have := hwf1 j
        grind
      · intro _ _
        refine vcD_ok (D := pl22) (n := 43) mixed (by kernel_rfl) ?_
        simp
        have ht : Turned s₁ i (.map .i64 true (encM (backAll m l))) ⟨fun j => if j = i then some (.map .i64 true (encM (backAll m l))) else s₁.heap j, s₁.next + l.length⟩ :=
          ⟨by simp, by simp, fun j hj hji => by simp [hji]⟩
        have hi0 := hh.maps p i m hmi hHm
        refine Post.refl ⟨.inr ⟨hne, b, rfl, by simp [n3, hb]⟩, ?_⟩
        have hto : ((p : Nat) : Int).toNat = p := by simp
        simp only [hBack, hm, hto]
        exact .turned hh hwf hnd hmi (ht.agree ha hwf hi0)

end Go.Proofs.Yteiclengdlhnnaa
