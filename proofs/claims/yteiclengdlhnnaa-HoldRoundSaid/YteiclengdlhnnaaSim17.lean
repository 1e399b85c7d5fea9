/- The conditions of a piece of code, reckoned. -/
import Derived.Test.YteiclengdlhnnaaSim16
namespace Go.Sh
open Go

/-- A loop, a scope and a region that draws its order stay as they are. -/
def vc (P : Program) : Code → SQ → List Value → SW → Prop
  | .skip, Q => Q .normal
  | .label _, Q => Q .normal
  | .exit i, Q => Q (.exit i)
  | .goto i, Q => Q (.goto i)
  | .ret, Q => Q .ret
  | .seq a b, Q => vc P a (thenQ (vc P b Q) Q)
  | .cond x c d, Q => fun fr s => match ev fr x with
    | .bool true => vc P c Q fr s
    | .bool false => vc P d Q fr s
    | _ => False
  | .block id c, Q => vc P c (inBlockQ id Q)
  | .region id ops draw, Q => match draw with
    | false => vcOps P ops (Q .normal) ops.toList
    | true => SWp P (.region id ops true) Q
  | c, Q => SWp P c Q

theorem vc_ok {P : Program} : ∀ (c : Code) (Q : SQ) (fr : List Value) (s : SW), vc P c Q fr s → SWp P c Q fr s := by
  intro c
  induction c with
  | skip => intro Q fr s h; exact .skip h
  | label l => intro Q fr s h; exact .label h
  | exit i => intro Q fr s h; exact .exit h
  | goto i => intro Q fr s h; exact .goto h
  | ret => intro Q fr s h; exact .ret h
  | seq a b iha ihb =>
    intro Q fr s h
    refine .seq ((iha _ fr s h).mono fun e fr s hq => ?_)
    cases e with
    | normal => exact ihb Q fr s hq
    | _ => exact hq
  | cond x c d ihc ihd =>
    intro Q fr s h
    simp only [vc] at h
    split at h
    · rename_i hx; exact .cond hx (ihc Q fr s h)
    · rename_i hx; exact .cond hx (ihd Q fr s h)
    · exact h.elim
  | block id c ih => intro Q fr s h; exact .block (ih _ fr s h)
  | region id ops draw =>
    intro Q fr s h
    cases draw with
    | false => exact .region h
    | true => exact h
  | loop c _ => intro Q fr s h; exact h
  | rangeFunc f ps a b _ _ => intro Q fr s h; exact h
  | scope c _ => intro Q fr s h; exact h
  | refuse w => intro Q fr s h; exact h

end Go.Sh
