/- The conditions of a piece of code, reckoned, with plans for the regions that draw their order. -/
import Derived.Test.YteiclengdlhnnaaSim24
namespace Go.Sh
open Go

abbrev Plans := Nat → Option (List Nat × List Ent)

def dstOk (ops : Array Oper) (n : Nat) : Bool := (List.range ops.size).all fun i => match dstAt ops i with | some d => decide (d < n) | none => true

def plansOk (D : Plans) (n : Nat) : Code → Bool
  | .seq a b => plansOk D n a && plansOk D n b
  | .cond _ a b => plansOk D n a && plansOk D n b
  | .block _ c => plansOk D n c
  | .region id ops true => match D id with
    | some (anc, c) => planOk ops anc c && dstOk ops n
    | none => true
  | _ => true

/-- A loop and a scope stay as they are. -/
def vcD (P : Program) (D : Plans) (n : Nat) : Code → SQ → List Value → SW → Prop
  | .skip, Q => Q .normal
  | .label _, Q => Q .normal
  | .exit i, Q => Q (.exit i)
  | .goto i, Q => Q (.goto i)
  | .ret, Q => Q .ret
  | .seq a b, Q => vcD P D n a (thenQ (vcD P D n b Q) Q)
  | .cond x c d, Q => fun fr s => match ev fr x with
    | .bool true => vcD P D n c Q fr s
    | .bool false => vcD P D n d Q fr s
    | _ => False
  | .block id c, Q => vcD P D n c (inBlockQ id Q)
  | .region _ ops false, Q => vcOps P ops (Q .normal) ops.toList
  | .region id ops true, Q => match D id with
    | some (anc, c) => fun fr s => fr.length = n ∧ vcEnts P ops anc (Q .normal) c [] fr s
    | none => SWp P (.region id ops true) Q
  | c, Q => SWp P c Q

theorem vcD_ok {P : Program} {D : Plans} {n : Nat} (hm : P.follows .mixedOrders = true) : ∀ {c : Code}, plansOk D n c = true → ∀ {Q : SQ} {fr : List Value} {s : SW}, vcD P D n c Q fr s → SWp P c Q fr s := by
  intro c
  induction c with
  | skip => intro _ Q fr s h; exact .skip h
  | label l => intro _ Q fr s h; exact .label h
  | exit i => intro _ Q fr s h; exact .exit h
  | goto i => intro _ Q fr s h; exact .goto h
  | ret => intro _ Q fr s h; exact .ret h
  | seq a b iha ihb =>
    intro hp Q fr s h
    simp only [plansOk, Bool.and_eq_true] at hp
    refine .seq ((iha hp.1 h).mono fun e fr s hq => ?_)
    cases e with
    | normal => exact ihb hp.2 hq
    | _ => exact hq
  | cond x c d ihc ihd =>
    intro hp Q fr s h
    simp only [plansOk, Bool.and_eq_true] at hp
    simp only [vcD] at h
    split at h
    · rename_i hx; exact .cond hx (ihc hp.1 h)
    · rename_i hx; exact .cond hx (ihd hp.2 h)
    · exact h.elim
  | block id c ih => intro hp Q fr s h; exact .block (ih hp h)
  | region id ops draw =>
    intro hp Q fr s h
    cases draw with
    | false => exact .region h
    | true =>
      simp only [vcD] at h
      simp only [plansOk] at hp
      cases hd : D id with
      | none => rw [hd] at h; exact h
      | some x =>
        obtain ⟨anc, c⟩ := x
        rw [hd] at h hp
        simp only [Bool.and_eq_true] at h hp
        refine .draw anc c hm hp.1 ?_ h.2
        rw [h.1]; exact hp.2
  | loop c _ => intro _ Q fr s h; exact h
  | rangeFunc f ps a b _ _ => intro _ Q fr s h; exact h
  | scope c _ => intro _ Q fr s h; exact h
  | refuse w => intro _ Q fr s h; exact h

/-- A condition that is a term of two. -/
theorem vc_bool {P : Program} {D : Plans} {n : Nat} {x : Operand} {c d : Code} {Q : SQ} {fr : List Value} {s : SW} {b : Bool} (h : ev fr x = .bool b) (ht : b = true → vcD P D n c Q fr s) (hf : b = false → vcD P D n d Q fr s) :
    vcD P D n (.cond x c d) Q fr s := by
  simp only [vcD, h]
  cases b
  · exact hf rfl
  · exact ht rfl

end Go.Sh
