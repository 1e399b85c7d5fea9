/- A function's contract, out of its body. -/
import Derived.Test.YteiclengdlhnnaaSim15
namespace Go.Sh
open Go

def sResL (P : Program) (fr : List Value) (s : SW) : List ResultVar → Option (List Value)
  | [] => some []
  | .tmp t :: rs => (sResL P fr s rs).map (fr.getD t Go.undef :: ·)
  | .cell a t :: rs =>
    match sLoad P t (fr.getD a Go.undef) s, sResL P fr s rs with
    | some v, some vs => some (v :: vs)
    | _, _ => none

def oneOf : List Value → Value
  | [v] => v
  | vs => .tuple vs.toArray

def sResults (P : Program) (fn : Func) (fr : List Value) (s : SW) : Option Value := (sResL P fr s fn.results.toList).map oneOf

theorem sResL_ok {P : Program} {ρ : Rho} {fr : List Value} {a : Act} {s : SW} {w : World} (hf : FRel ρ fr a) (hr : HRel ρ s w) : ∀ (rs : List ResultVar) (vs : List Value), sResL P fr s rs = some vs →
    ∃ rvs, F2 (VRel ρ) vs rvs ∧ (rs.mapM fun
      | .tmp t => pure (a.tmps.getD t Go.undef)
      | .cell x t => do loadVar t (← asAddr (a.tmps.getD x Go.undef)) : Sem (List Value)).run P w = .ok rvs w := by
  intro rs
  induction rs with
  | nil => intro vs h; cases h; exact ⟨[], .nil, rfl⟩
  | cons r rs ih =>
    intro vs h
    cases r with
    | tmp t =>
      simp only [sResL, Option.map_eq_some_iff] at h
      obtain ⟨vs', h1, rfl⟩ := h
      obtain ⟨rvs, h2, h3⟩ := ih vs' h1
      have h4 := hf.ev (.tmp t)
      simp only [ev, Act.eval] at h4
      refine ⟨_, .cons h4 h2, ?_⟩
      simp only [List.mapM_cons, Sem.run_bind, Sem.run_pure, Result.andThen_ok]
      rw [h3]
      rfl
    | cell x t =>
      simp only [sResL] at h
      split at h
      · rename_i v vs' h1 h2
        cases h
        obtain ⟨rvs, h3, h4⟩ := ih vs' h2
        have h5 := hf.ev (.tmp x)
        simp only [ev, Act.eval] at h5
        obtain ⟨rv, h6, h7⟩ := sLoad_ok hr h1 h5
        have h8 : (do loadVar t (← asAddr (a.tmps.getD x Go.undef)) : Sem Value).run P w = .ok rv w := by
          have h9 := h1
          unfold sLoad at h9
          split at h9
          · rename_i i o he
            rw [he] at h5
            obtain ⟨p, hp, h10⟩ := h5.ptr_inv
            rw [h10] at h7 ⊢
            simpa [Instr.loadAt, Instr.sureAddr, asAddr] using h7
          · cases h9
        refine ⟨_, .cons h6 h3, ?_⟩
        simp only [List.mapM_cons, Sem.run_bind] at h8 ⊢
        rw [h8]
        simp only [Result.andThen_ok]
        rw [h4]
        rfl
      · cases h

theorem sResults_ok {P : Program} {ρ : Rho} {fn : Func} {fr : List Value} {a : Act} {s : SW} {w : World} {v : Value} (hf : FRel ρ fr a) (hr : HRel ρ s w) (h : sResults P fn fr s = some v) :
    ∃ rv, VRel ρ v rv ∧ (results fn a.tmps).run P w = .ok rv w := by
  unfold sResults at h
  simp only [Option.map_eq_some_iff] at h
  obtain ⟨vs, h1, rfl⟩ := h
  obtain ⟨rvs, h2, h3⟩ := sResL_ok hf hr fn.results.toList vs h1
  refine ⟨oneOf rvs, ?_, ?_⟩
  · cases h2 with
    | nil => exact .tuple rfl fun k v v' h _ => by simp at h
    | cons h4 h5 =>
      cases h5 with
      | nil => exact h4
      | cons h6 h7 =>
        refine .tuple (by simp [h7.length]) fun k u u' e1 e2 => ?_
        exact (F2.cons h4 (.cons h6 h7)).get k u u' (by simpa using e1) (by simpa using e2)
  · unfold results
    rw [Array.mapM_eq_mapM_toList]
    simp only [Sem.run_bind, Sem.run_map]
    refine (congrArg (fun r => ((Result.andThen r fun (l : List Value) w' => Result.ok l.toArray w').andThen fun (vs : Array Value) w' => Sem.run P (pure (if h : vs.size = 1 then vs[0] else .tuple vs)) w')) h3).trans ?_
    simp only [Result.andThen_ok, Sem.run_pure]
    congr 1
    cases h2 with
    | nil => rfl
    | cons h4 h5 =>
      cases h5 with
      | nil => rfl
      | cons h6 h7 => simp [oneOf]

/-- At the end of a body. -/
def bodyQ (P : Program) (fn : Func) (R : Value → SW → Prop) : SQ
  | .normal, fr, s | .ret, fr, s => match sResults P fn fr s with
    | some v => R v s
    | none => False
  | _, _, _ => False

def fnCallable (fn : Func) : Bool := !(fn.name == "runtime.NumGoroutine") && fn.body.isSome

theorem SCalls.body {P : Program} {f : FuncId} {fn : Func} {c : Code} {args : List Value} {s : SW} {R : Value → SW → Prop} (hf : P.funcs[f]? = some fn) (hb : fn.body = some c) (hc : fnCallable fn = true)
    (h : SWp P c (bodyQ P fn R) (args ++ List.replicate (fn.ntmps - args.length) Go.undef) s) : SCalls P f args s R := by
  refine ⟨by unfold callable; rw [hf]; exact hc, fun ρ rargs w ha hr => ?_⟩
  refine calls_of_wp hf hb ?_
  have hF : FRel ρ (args ++ List.replicate (fn.ntmps - args.length) Go.undef) { tmps := rargs.toArray ++ Array.replicate (fn.ntmps - rargs.toArray.size) Go.undef, defers := [] } := by
    have hl := ha.length
    refine ⟨by simp [hl], rfl, fun k v hk => ?_⟩
    rw [List.getElem?_append] at hk
    by_cases hk2 : k < args.length
    · rw [if_pos hk2] at hk
      have : k < rargs.length := by omega
      refine ⟨rargs[k], ?_, ha.get k v _ hk (List.getElem?_eq_getElem this)⟩
      rw [Array.getElem?_append_left (by simpa using this)]
      simp [this]
    · rw [if_neg hk2] at hk
      have h1 : v = Go.undef := by
        have := List.mem_of_getElem? hk
        exact List.eq_of_mem_replicate this
      subst h1
      refine ⟨Go.undef, ?_, .undef⟩
      have hlt : k - args.length < fn.ntmps - args.length := by
        rcases Nat.lt_or_ge (k - args.length) (fn.ntmps - args.length) with h | h
        · exact h
        · rw [List.getElem?_eq_none (by simpa using h)] at hk; cases hk
      rw [Array.getElem?_append_right (by simp; omega)]
      rw [Array.getElem?_replicate, if_pos]
      simp only [List.size_toArray]
      omega
  refine wp_mono (h ρ _ w hF hr) ?_
  rintro e a' w' ⟨h0, ρ', fr', s', h1, h2, h3, h4⟩
  have fin : ∀ v, sResults P fn fr' s' = some v → R v s' → a'.defers = [] ∧ ∃ v, (results fn a'.tmps).run P w' = .ok v w' ∧ CallPost ρ s w R (.returned v) w' := by
    intro v hv hR
    obtain ⟨rv, g1, g2⟩ := sResults_ok h1 h2 hv
    exact ⟨h1.defers, rv, g2, ρ', v, rv, s', rfl, g1, h2, h3, hR⟩
  cases e with
  | normal =>
    simp only [bodyQ] at h4
    split at h4
    · rename_i v hv; exact fin v hv h4
    · exact h4.elim
  | ret =>
    simp only [bodyQ] at h4
    split at h4
    · rename_i v hv; exact fin v hv h4
    · exact h4.elim
  | exit _ => exact h4.elim
  | goto _ => exact h4.elim
  | panic _ => cases h0
  | outgrown => cases h0

end Go.Sh
