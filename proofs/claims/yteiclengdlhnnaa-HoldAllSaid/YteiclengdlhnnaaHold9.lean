/- Two rows of numbers: are they the same? -/
import Derived.Test.YteiclengdlhnnaaHold8
namespace Go.Proofs.Yteiclengdlhnnaa
open Go Go.Sh
def pl23 : Nat → Option (List Nat × List Ent)
  | 6 => some ([0, 0, 3, 7, 0, 0, 48, 112, 255], [.run 0, .run 1, .run 2, .run 3, .run 4, .run 5, .run 6, .run 7, .run 8])
  | _ => none

set_option maxRecDepth 20000
set_option maxHeartbeats 4000000
set_option linter.unusedSimpArgs false
set_option linter.unusedVariables false
attribute [local simp] sWanted sOp ev put pl1 pl0 sResults sResL oneOf sBin sGuardOk sEqT sInt sUn sConvNum sNil sField sFieldV sPart sIndex sLoad sStore sBuiltin sLen sLookup sMapUpdate sAlloc sBox sMakeMap SW.set SW.new setL Value.cells Value.oneCell' opAt cls stable sNew ancB readsHeap noResult Go.undef List.replicate ite_lt ite_gt frL Nat.testBit
attribute [local simp ↓] vcD_skip vcD_label vcD_exit vcD_goto vcD_ret vcD_seq vcD_cond vcD_block vcD_region vcD_draw vcD_loop vcD_scope vcOps_nil vcOps_cons vcOp_eq vcEnts_nil vcEnts_chk vcEnts_run thenQ_normal thenQ_exit thenQ_goto thenQ_ret inBlockQ_normal inBlockQ_exit inBlockQ_goto inBlockQ_ret bodyQ_normal bodyQ_ret Kont_apply entK_apply

theorem same_call (s : SW) (l m : List Int) (v w : Value) (hv : IntsIn s l v) (hw : IntsIn s m w) (hl : l.length ≤ 1000000) (hm : m.length ≤ 1000000) :
    SCalls Try.prog 23 [v, w] s fun r s' => r = .bool (decide (l = m)) ∧ s' = s := by
  by_cases hlen : l.length = m.length
  · rcases hv with ⟨rfl, a, c, rfl, _⟩ | ⟨hne, b, o, c, cs, own, g, rfl, hb, hcs⟩
    · obtain rfl : m = [] := List.eq_nil_of_length_eq_zero hlen.symm
      obtain ⟨a', c', rfl⟩ := hw.len
      refine SCalls.body Try.func23 rfl rfl (vcD_ok (D := pl23) (n := 26) mixed (by kernel_rfl) ?_)
      simp
      refine SWp.upto0 ?_
      refine vcD_ok (D := pl23) (n := 26) mixed (by kernel_rfl) ?_
      simp
    · rcases hw with ⟨rfl, _⟩ | ⟨hne', b', o', c', cs', own', g', rfl, hb', hcs'⟩
      · exact absurd (List.eq_nil_of_length_eq_zero hlen) hne
      refine SCalls.body Try.func23 rfl rfl (vcD_ok (D := pl23) (n := 26) mixed (by kernel_rfl) ?_)
      simp [hlen]
      refine SWp.upto m.length (fun k (_ : Unit) => l.take k = m.take k)
        (fun k _ => [.slice (some ⟨b, o, none⟩) m.length c, .slice (some ⟨b', o', none⟩) m.length c', junk, junk, junk, .int .i64 k, junk, junk, junk, junk, junk, junk, junk, junk, junk, junk, junk, junk, junk, junk, junk, junk, junk, junk, junk, junk])
        (fun _ _ => s) () (by simp) (by simp) (SW.less_refl _) ?_ ?_
      · intro k _ hk hI
        obtain ⟨x, hx⟩ : ∃ x, l[k]? = some x := ⟨_, List.getElem?_eq_getElem (by omega)⟩
        obtain ⟨y, hy⟩ : ∃ y, m[k]? = some y := ⟨_, List.getElem?_eq_getElem hk⟩
        have h1 := hcs k x hx
        have h2 := hcs' k y hy
        have hwk : IntKind.i64.wrap ((k : Int) + 1) = k + 1 := Sh.wrap_small (by omega) (by omega)
        cases hxy : x == y
        · refine vcD_ok (D := pl23) (n := 26) mixed (by kernel_rfl) ?_
          simp [hk, hb, hb', h1, h2, hxy, bne, hwk, pl23]
          intro e
          rw [e, hy] at hx
          cases hx
          simp at hxy
        · refine vcD_ok (D := pl23) (n := 26) mixed (by kernel_rfl) ?_
          simp [hk, hb, hb', h1, h2, hxy, bne, hwk, pl23]
          have : x = y := by simpa using hxy
          refine ⟨?_, SW.less_refl _⟩
          rw [List.take_add_one, List.take_add_one, hx, hy, hI, this]
      · intro _ hI
        refine vcD_ok (D := pl23) (n := 26) mixed (by kernel_rfl) ?_
        simp
        rw [List.take_of_length_le (by omega), List.take_of_length_le (by omega)] at hI
        exact hI
  · obtain ⟨a, c, rfl⟩ := hv.len
    obtain ⟨a', c', rfl⟩ := hw.len
    have hb : ((l.length : Int) == m.length) = false := by simp; omega
    refine SCalls.body Try.func23 rfl rfl (vcD_ok (D := pl23) (n := 26) mixed (by kernel_rfl) ?_)
    simp [hb, bne]
    intro e
    exact hlen (by rw [e])

end Go.Proofs.Yteiclengdlhnnaa
