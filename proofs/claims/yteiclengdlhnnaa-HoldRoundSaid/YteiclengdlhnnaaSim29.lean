/- Out of the shadow: a call at plain arguments, in whatever world. -/
import Derived.Test.YteiclengdlhnnaaSim28
namespace Go.Sh
open Go Go.RowKit

def SW.none : SW := ⟨fun _ => Option.none, 0⟩

theorem HRel.none (w : World) : HRel (fun _ => Option.none) SW.none w :=
  by
  refine ⟨fun _ _ => rfl, ?_, ?_⟩
  · intro i o h
    cases h
  · intro i j o o' p q h
    cases h

theorem Ext.below_of {ρ ρ' : Rho} {s s' : SW} {w w' : World} (h : Ext ρ s w ρ' s' w') (hno : ∀ i o, s.heap i = some o → o.own = true → False) : Below w.heap.size w w' :=
  ⟨h.os, h.tape, h.output, h.size, fun r hr => h.frame r hr fun i o _ hi ho _ => (hno i o hi ho).elim⟩

theorem SCalls.plain {P : Program} {f : FuncId} {args : List Value} {R : Value → SW → Prop} (h : SCalls P f args SW.none R) (ha : ∀ a ∈ args, pl0 a = true) (w : World) :
    Calls P f args.toArray w fun e w' => ∃ ρ v rv s', e = .returned rv ∧ VRel ρ v rv ∧ R v s' ∧ Below w.heap.size w w' := by
  have hF : F2 (VRel fun _ => Option.none) args args := by
    clear h
    induction args with
    | nil => exact .nil
    | cons a l ih => exact .cons (.plain (ha a (by simp))) (ih fun b hb => ha b (by simp [hb]))
  refine (h.2 _ args w hF (HRel.none w)).mono ?_
  rintro e w' ⟨ρ', v, rv, s', h1, h2, h3, h4, h5⟩
  exact ⟨ρ', v, rv, s', h1, h2, h5, h4.below_of fun i o hi => by cases hi⟩

end Go.Sh
