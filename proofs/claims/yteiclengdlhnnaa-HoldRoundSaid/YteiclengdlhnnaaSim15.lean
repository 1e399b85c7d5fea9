/- Code: what must hold ahead of it, that it ends well. -/
import Derived.Test.YteiclengdlhnnaaSim14
import Derived.Scope
namespace Go.Sh
open Go
set_option linter.unusedVariables false

abbrev SQ := Exit → List Value → SW → Prop

/-- The ways out that are counted on. -/
def fine : Exit → Bool
  | .panic _ | .outgrown => false
  | _ => true

/-- What holds of the shadow holds of the model's run. -/
def lift (ρ : Rho) (s : SW) (w : World) (Q : SQ) : Exit → Act → World → Prop := fun e a' w' =>
  fine e = true ∧ ∃ ρ' fr' s', FRel ρ' fr' a' ∧ HRel ρ' s' w' ∧ Ext ρ s w ρ' s' w' ∧ Q e fr' s'

def SWp (P : Program) (c : Code) (Q : SQ) (fr : List Value) (s : SW) : Prop :=
  ∀ ρ a w, FRel ρ fr a → HRel ρ s w → c.wp P (lift ρ s w Q) a w

/-- A function with a body of its own. -/
def callable (P : Program) (f : FuncId) : Bool :=
  match P.funcs[f]? with
  | some fn => !(fn.name == "runtime.NumGoroutine") && fn.body.isSome
  | none => false

theorem callable_run {P : Program} {f : FuncId} (h : callable P f = true) (args : Array Value) (w : World) : (callFunc f args).run P w = .ok (.enter f args) w := by
  unfold callable at h
  split at h
  · rename_i fn hf
    simp only [Bool.and_eq_true, Bool.not_eq_true'] at h
    have hn : fn.body.isNone = false := by cases hb : fn.body <;> simp_all
    simp only [callFunc, Sem.run_bind, run_program, Result.andThen_ok, hf, h.1, hn]
    rfl
  · cases h

/-- What a call comes to. -/
def CallPost (ρ : Rho) (s : SW) (w : World) (R : Value → SW → Prop) : Ending → World → Prop := fun e w' =>
  ∃ ρ' v rv s', e = .returned rv ∧ VRel ρ' v rv ∧ HRel ρ' s' w' ∧ Ext ρ s w ρ' s' w' ∧ R v s'

def SCalls (P : Program) (f : FuncId) (args : List Value) (s : SW) (R : Value → SW → Prop) : Prop :=
  callable P f = true ∧ ∀ ρ rargs w, F2 (VRel ρ) args rargs → HRel ρ s w → Calls P f rargs.toArray w (CallPost ρ s w R)

theorem SCalls.mono {P : Program} {f : FuncId} {args : List Value} {s : SW} {R R' : Value → SW → Prop} (h : SCalls P f args s R) (hR : ∀ v s', R v s' → R' v s') : SCalls P f args s R' :=
  ⟨h.1, fun ρ rargs w h1 h2 => (h.2 ρ rargs w h1 h2).mono fun _ _ ⟨ρ', v, rv, s', a, b, c, d, e⟩ => ⟨ρ', v, rv, s', a, b, c, d, hR v s' e⟩⟩

/-- Blocks may be forgotten ahead of a call, and behind it. -/
theorem SCalls.less {P : Program} {f : FuncId} {args : List Value} {s₀ s : SW} {R R' : Value → SW → Prop} (h : SCalls P f args s₀ R) (hl : SW.less s₀ s) (hR : ∀ v s', R v s' → ∃ s₁, SW.less s₁ s' ∧ R' v s₁) :
    SCalls P f args s R' :=
  ⟨h.1, fun ρ rargs w h1 h2 => (h.2 ρ rargs w h1 (h2.less hl)).mono fun _ _ ⟨ρ', v, rv, s', a, b, c, d, e⟩ => by
    obtain ⟨s₁, h3, h4⟩ := hR v s' e
    exact ⟨ρ', v, rv, s₁, a, b, c.less h3, (Ext.less hl d).less' h3, h4⟩⟩

theorem SWp.mono {P : Program} {c : Code} {Q Q' : SQ} {fr : List Value} {s : SW} (h : SWp P c Q fr s) (hq : ∀ e fr s, Q e fr s → Q' e fr s) : SWp P c Q' fr s :=
  fun ρ a w hf hr => wp_mono (h ρ a w hf hr) fun e a w ⟨h0, ρ', fr', s', h1, h2, h3, h4⟩ => ⟨h0, ρ', fr', s', h1, h2, h3, hq _ _ _ h4⟩

/-- A frame of which less is known. -/
def frLess (fr₀ fr : List Value) : Prop := fr₀.length = fr.length ∧ ∀ (k : Nat) (v : Value), fr₀[k]? = some v → v = junk ∨ fr[k]? = some v

theorem FRel.less {ρ : Rho} {fr₀ fr : List Value} {a : Act} (h : FRel ρ fr a) (hl : frLess fr₀ fr) : FRel ρ fr₀ a := by
  refine ⟨hl.1.trans h.size, h.defers, fun k v hk => ?_⟩
  rcases hl.2 k v hk with rfl | h1
  · have hlt : k < a.tmps.size := by
      rw [← h.size, ← hl.1]
      rcases Nat.lt_or_ge k fr₀.length with h2 | h2
      · exact h2
      · rw [List.getElem?_eq_none h2] at hk; cases hk
    exact ⟨a.tmps[k], Array.getElem?_eq_getElem hlt, .junk⟩
  · exact h.val k v h1

theorem SWp.less {P : Program} {c : Code} {Q : SQ} {fr₀ fr : List Value} {s₀ s : SW} (h : SWp P c Q fr₀ s₀) (hf : frLess fr₀ fr) (hs : SW.less s₀ s) : SWp P c Q fr s :=
  fun ρ a w h1 h2 => wp_mono (h ρ a w (h1.less hf) (h2.less hs)) fun _ _ _ ⟨h0, ρ', fr', s', g1, g2, g3, g4⟩ => ⟨h0, ρ', fr', s', g1, g2, Ext.less hs g3, g4⟩

theorem SWp.skip {P : Program} {Q : SQ} {fr : List Value} {s : SW} (h : Q .normal fr s) : SWp P .skip Q fr s :=
  fun ρ _ w hf hr => wp_skip ⟨rfl, ρ, fr, s, hf, hr, Ext.refl _ _ w, h⟩
theorem SWp.label {P : Program} {Q : SQ} {fr : List Value} {s : SW} {l : Nat} (h : Q .normal fr s) : SWp P (.label l) Q fr s :=
  fun ρ _ w hf hr => wp_label ⟨rfl, ρ, fr, s, hf, hr, Ext.refl _ _ w, h⟩
theorem SWp.exit {P : Program} {Q : SQ} {fr : List Value} {s : SW} {i : Nat} (h : Q (.exit i) fr s) : SWp P (.exit i) Q fr s :=
  fun ρ _ w hf hr => wp_exit ⟨rfl, ρ, fr, s, hf, hr, Ext.refl _ _ w, h⟩
theorem SWp.goto {P : Program} {Q : SQ} {fr : List Value} {s : SW} {i : Nat} (h : Q (.goto i) fr s) : SWp P (.goto i) Q fr s :=
  fun ρ _ w hf hr => wp_goto ⟨rfl, ρ, fr, s, hf, hr, Ext.refl _ _ w, h⟩
theorem SWp.ret {P : Program} {Q : SQ} {fr : List Value} {s : SW} (h : Q .ret fr s) : SWp P .ret Q fr s :=
  fun ρ _ w hf hr => wp_ret ⟨rfl, ρ, fr, s, hf, hr, Ext.refl _ _ w, h⟩

def thenQ (K : List Value → SW → Prop) (Q : SQ) : SQ
  | .normal, fr, s => K fr s
  | e, fr, s => Q e fr s

theorem SWp.seq {P : Program} {x y : Code} {Q : SQ} {fr : List Value} {s : SW} (h : SWp P x (thenQ (SWp P y Q) Q) fr s) : SWp P (.seq x y) Q fr s := by
  intro ρ a w hf hr
  refine wp_seq (wp_mono (h ρ a w hf hr) ?_)
  rintro e a' w' ⟨h0, ρ', fr', s', h1, h2, h3, h4⟩
  cases e with
  | normal =>
    refine wp_mono (h4 ρ' a' w' h1 h2) ?_
    rintro e a'' w'' ⟨g0, ρ'', fr'', s'', g1, g2, g3, g4⟩
    exact ⟨g0, ρ'', fr'', s'', g1, g2, h3.trans g3, g4⟩
  | _ => exact ⟨h0, ρ', fr', s', h1, h2, h3, h4⟩

theorem SWp.cond {P : Program} {x : Operand} {c d : Code} {Q : SQ} {fr : List Value} {s : SW} {t : Bool} (ht : ev fr x = .bool t) (h : SWp P (if t then c else d) Q fr s) : SWp P (.cond x c d) Q fr s := by
  intro ρ a w hf hr
  have h1 := hf.ev x
  rw [ht] at h1
  exact wp_cond h1.bool (h ρ a w hf hr)

def inBlockQ (id : Nat) (Q : SQ) : SQ
  | .exit id', fr, s => if id' = id then Q .normal fr s else Q (.exit id') fr s
  | e, fr, s => Q e fr s

theorem SWp.block {P : Program} {id : Nat} {c : Code} {Q : SQ} {fr : List Value} {s : SW} (h : SWp P c (inBlockQ id Q) fr s) : SWp P (.block id c) Q fr s := by
  intro ρ a w hf hr
  refine wp_block (wp_mono (h ρ a w hf hr) ?_)
  rintro e a' w' ⟨h0, ρ', fr', s', h1, h2, h3, h4⟩
  cases e with
  | exit id' =>
    simp only [inBlockQ] at h4
    simp only [Exit.inBlock]
    split at h4
    · rename_i he
      rw [if_pos he]
      exact ⟨rfl, ρ', fr', s', h1, h2, h3, h4⟩
    · rename_i he
      rw [if_neg he]
      exact ⟨rfl, ρ', fr', s', h1, h2, h3, h4⟩
  | _ => exact ⟨h0, ρ', fr', s', h1, h2, h3, h4⟩

/-- A loop: what holds at every round's head, and a measure. -/
theorem SWp.loop {P : Program} {c : Code} {Q : SQ} {fr : List Value} {s : SW} (I : Nat → List Value → SW → Prop) (n : Nat) (h₀ : I n fr s)
    (round : ∀ n fr s, I n fr s → SWp P c (thenQ (fun fr' s' => ∃ m, m < n ∧ I m fr' s') Q) fr s) : SWp P (.loop c) Q fr s := by
  intro ρ a w hf hr
  have key : ∀ (N : Nat) (b : Frame) (k : List Item) (cs : List Frame) (fr₁ : List Value) (s₁ : SW) (ρ₁ : Rho) (a₁ : Act) (w₁ : World) (n : Nat), n = N → I n fr₁ s₁ → FRel ρ₁ fr₁ a₁ → HRel ρ₁ s₁ w₁ → Ext ρ s w ρ₁ s₁ w₁ →
      ∃ e a' w', lift ρ s w Q e a' w' ∧ Arrives P (lone (b.at a₁ (.code c :: .inLoop c :: k)) cs w₁) b k cs e a' w' := by
    intro N
    induction N using Nat.strongRecOn with
    | _ N ih =>
      intro b k cs fr₁ s₁ ρ₁ a₁ w₁ n hn hI h1 h2 h3
      obtain ⟨e, a₂, w₂, hq, harr⟩ := round n fr₁ s₁ hI ρ₁ a₁ w₁ h1 h2 b (.inLoop c :: k) cs
      obtain ⟨g0, ρ₂, fr₂, s₂, g1, g2, g3, g4⟩ := hq
      cases e with
      | normal =>
        obtain ⟨m, hm, hI'⟩ := g4
        obtain ⟨e₂, a₃, w₃, hq₂, harr₂⟩ := ih m (hn ▸ hm) b k cs fr₂ s₂ ρ₂ a₂ w₂ m rfl hI' g1 g2 (h3.trans g3)
        exact ⟨e₂, a₃, w₃, hq₂, .of_steps (Steps.trans harr (.one step_inLoop)) harr₂⟩
      | exit id => exact ⟨_, a₂, w₂, ⟨g0, ρ₂, fr₂, s₂, g1, g2, h3.trans g3, g4⟩, .pass (x := .inLoop c) rfl (fun _ _ => .inl (by simp)) harr⟩
      | goto l => exact ⟨_, a₂, w₂, ⟨g0, ρ₂, fr₂, s₂, g1, g2, h3.trans g3, g4⟩, .pass (x := .inLoop c) rfl (fun _ _ => .inl (by simp)) harr⟩
      | ret => exact ⟨_, a₂, w₂, ⟨g0, ρ₂, fr₂, s₂, g1, g2, h3.trans g3, g4⟩, .pass (x := .inLoop c) rfl (fun _ _ => .inl (by simp)) harr⟩
      | panic ch => cases g0
      | outgrown => cases g0
  intro b k cs
  obtain ⟨e, a', w', hq, harr⟩ := key n b k cs fr s ρ a w n rfl h₀ hf hr (Ext.refl _ _ _)
  exact ⟨e, a', w', hq, .of_steps (.one step_loop) harr⟩

/-- Jumps within a scope, at most so many. -/
def hopQ (P : Program) (c : Code) (Q : SQ) : Nat → SQ
  | 0, .goto _, _, _ => False
  | n + 1, .goto l, fr, s => ∃ rest, findLabel c l = some rest ∧ SWp P rest (hopQ P c Q n) fr s
  | _, e, fr, s => Q e fr s

theorem SWp.scope {P : Program} {c : Code} {Q : SQ} {fr : List Value} {s : SW} (n : Nat) (h : SWp P c (hopQ P c Q n) fr s) : SWp P (.scope c) Q fr s := by
  intro ρ a w hf hr
  have key : ∀ (n : Nat) (x : Code) (b : Frame) (k : List Item) (cs : List Frame) (fr₁ : List Value) (s₁ : SW) (ρ₁ : Rho) (a₁ : Act) (w₁ : World), SWp P x (hopQ P c Q n) fr₁ s₁ → FRel ρ₁ fr₁ a₁ → HRel ρ₁ s₁ w₁ → Ext ρ s w ρ₁ s₁ w₁ →
      ∃ e a' w', lift ρ s w Q e a' w' ∧ Arrives P (lone (b.at a₁ (.code x :: .inScope c :: k)) cs w₁) b k cs e a' w' := by
    intro n
    induction n with
    | zero =>
      intro x b k cs fr₁ s₁ ρ₁ a₁ w₁ hx h1 h2 h3
      obtain ⟨e, a₂, w₂, ⟨g0, ρ₂, fr₂, s₂, g1, g2, g3, g4⟩, harr⟩ := hx ρ₁ a₁ w₁ h1 h2 b (.inScope c :: k) cs
      cases e with
      | normal => exact ⟨.normal, a₂, w₂, ⟨g0, ρ₂, fr₂, s₂, g1, g2, h3.trans g3, g4⟩, Steps.trans harr (.one step_inScope)⟩
      | exit id => exact ⟨.exit id, a₂, w₂, ⟨g0, ρ₂, fr₂, s₂, g1, g2, h3.trans g3, g4⟩, fun k' hk => harr k' (by simp [exitTo, hk])⟩
      | goto l => exact g4.elim
      | ret => exact ⟨_, a₂, w₂, ⟨g0, ρ₂, fr₂, s₂, g1, g2, h3.trans g3, g4⟩, harr⟩
      | panic ch => cases g0
      | outgrown => cases g0
    | succ n ih =>
      intro x b k cs fr₁ s₁ ρ₁ a₁ w₁ hx h1 h2 h3
      obtain ⟨e, a₂, w₂, ⟨g0, ρ₂, fr₂, s₂, g1, g2, g3, g4⟩, harr⟩ := hx ρ₁ a₁ w₁ h1 h2 b (.inScope c :: k) cs
      cases e with
      | normal => exact ⟨.normal, a₂, w₂, ⟨g0, ρ₂, fr₂, s₂, g1, g2, h3.trans g3, g4⟩, Steps.trans harr (.one step_inScope)⟩
      | exit id => exact ⟨.exit id, a₂, w₂, ⟨g0, ρ₂, fr₂, s₂, g1, g2, h3.trans g3, g4⟩, fun k' hk => harr k' (by simp [exitTo, hk])⟩
      | goto l =>
        obtain ⟨rest, hl, hw⟩ := g4
        obtain ⟨e₂, a₃, w₃, hq₂, harr₂⟩ := ih rest b k cs fr₂ s₂ ρ₂ a₂ w₂ hw g1 g2 (h3.trans g3)
        exact ⟨e₂, a₃, w₃, hq₂, .of_steps (harr _ (by simp [gotoIn, hl])) harr₂⟩
      | ret => exact ⟨_, a₂, w₂, ⟨g0, ρ₂, fr₂, s₂, g1, g2, h3.trans g3, g4⟩, harr⟩
      | panic ch => cases g0
      | outgrown => cases g0
  intro b k cs
  obtain ⟨e, a', w', hq, harr⟩ := key n c b k cs fr s ρ a w h hf hr (Ext.refl _ _ _)
  exact ⟨e, a', w', hq, .of_steps (.one step_scope) harr⟩

/-! ### the operations of a region, in their order -/

def sYield (ops : Array Oper) (fr : List Value) (j : Nat) : Option Bool :=
  match (((ops[j]? : Option Oper).bind (·.dst)).bind fun t => fr[t]?) with
  | some (.bool b) => some b
  | _ => none

theorem wanted_none {o : Oper} (h : o.guard = none) (f : Nat → Option Bool) : Region.wanted o f = true := by simp [Region.wanted, h]

/-- The guard of an operation, as the shadow tells it: none: it can't tell. -/
def sWanted (ops : Array Oper) (o : Oper) (fr : List Value) : Option Bool :=
  match o.guard with
  | none => some true
  | some (j, want) => match (((ops[j]? : Option Oper).bind (·.dst)).bind fun t => fr[t]?) with
    | some (.bool b) => some (b == want)
    | some (.tuple vs) => if vs.isEmpty then some false else none
    | _ => none

theorem VRel.empty {ρ : Rho} {vs : Array Value} {rv : Value} (h : VRel ρ (.tuple vs) rv) (hv : vs.isEmpty = true) : rv = .tuple #[] := by
  have hv' : vs = #[] := by simpa using hv
  subst hv'
  have key : ∀ x : Value, x = .tuple #[] → VRel ρ x rv → rv = .tuple #[] := by
    intro x hx h
    cases h with
    | plain h0 => subst hx; simp [pl0] at h0
    | junk => exact absurd hx (by intro e; injection e with e; simp at e)
    | @tuple cs cs' h1 _ =>
      injection hx with e
      subst e
      have : cs' = #[] := Array.eq_empty_of_size_eq_zero (by rw [← h1]; rfl)
      rw [this]
    | _ => cases hx
  exact key _ rfl h

theorem sWanted_ok {ρ : Rho} {ops : Array Oper} {o : Oper} {fr : List Value} {a : Act} {b : Bool} (hf : FRel ρ fr a) (h : sWanted ops o fr = some b) : Region.wanted o (yielded ops a.tmps) = b := by
  unfold sWanted at h
  unfold Region.wanted
  split at h
  · rename_i hg
    cases h
    simp [hg]
  · rename_i j want hg
    simp only [hg]
    split at h
    · rename_i b' hb
      cases h
      cases hd : (ops[j]? : Option Oper).bind (·.dst) with
      | none => rw [hd] at hb; cases hb
      | some t =>
        rw [hd] at hb
        simp only [Option.bind_some] at hb
        obtain ⟨rv, h1, h2⟩ := hf.val t _ hb
        obtain rfl := h2.bool
        simp [yielded, hd, h1]
    · rename_i vs hb
      split at h
      · rename_i hv
        cases h
        cases hd : (ops[j]? : Option Oper).bind (·.dst) with
        | none => rw [hd] at hb; cases hb
        | some t =>
          rw [hd] at hb
          simp only [Option.bind_some] at hb
          obtain ⟨rv, h1, h2⟩ := hf.val t _ hb
          obtain rfl := h2.empty hv
          simp [yielded, hd, h1]
      · cases h
    · cases h

/-- One operation; behind it K. -/
def vcOp (P : Program) (ops : Array Oper) (o : Oper) (K : List Value → SW → Prop) (fr : List Value) (s : SW) : Prop :=
  match sWanted ops o fr with
  | none => False
  | some false => K (put fr o.dst Go.undef) s
  | some true =>
    match o.op with
    | .call ⟨.value f, args, _⟩ =>
      match ev fr f with
      | .func (.func g) first cap => SCalls P g (first.toList ++ args.toList.map (ev fr) ++ cap.toList) s fun v s' => K (put fr o.dst v) s'
      | _ => False
    | _ =>
      match sOp P o fr s with
      | some (v, s') => K (put fr o.dst v) s'
      | none => False

theorem F2.of_sizes {ρ : Rho} {f f' : Array Value} (h : f.size = f'.size) (k : ∀ (k : Nat) (v v' : Value), f[k]? = some v → f'[k]? = some v' → VRel ρ v v') : F2 (VRel ρ) f.toList f'.toList :=
  F2.of_get (by simpa using h) (by simpa using k)

theorem VRel.func_inv {ρ : Rho} {g : FuncId} {f c : Array Value} {rv : Value} (h : VRel ρ (.func (.func g) f c) rv) : ∃ f' c', rv = .func (.func g) f' c' ∧ F2 (VRel ρ) f.toList f'.toList ∧ F2 (VRel ρ) c.toList c'.toList := by
  cases h with
  | plain h0 => simp [pl0] at h0
  | func h1 h2 h3 h4 => exact ⟨_, _, rfl, F2.of_sizes h1 h3, F2.of_sizes h2 h4⟩

theorem vcOp_ok {P : Program} {ops : Array Oper} {o : Oper} {K : List Value → SW → Prop} {fr : List Value} {s : SW} {ρ : Rho} {a : Act} {w : World} {K' : Act → World → Prop} {Q' : Exit → Act → World → Prop}
    (hf : FRel ρ fr a) (hr : HRel ρ s w) (h : vcOp P ops o K fr s)
    (hK : ∀ ρ' fr' s' a' w', (∃ rv, a' = a.put o.dst rv) → FRel ρ' fr' a' → HRel ρ' s' w' → Ext ρ s w ρ' s' w' → K fr' s' → K' a' w') :
    if Region.wanted o (yielded ops a.tmps) then o.wp P a w K' Q' ∨ (o.asks P a w ∧ LetsOut Q') else K' (a.put o.dst Go.undef) w := by
  unfold vcOp at h
  split at h
  · exact h.elim
  · rename_i hw
    rw [sWanted_ok hf hw]
    simp only [Bool.false_eq_true, if_false]
    exact hK ρ _ s _ w ⟨_, rfl⟩ (hf.put o.dst .undef) hr (Ext.refl _ _ _) h
  · rename_i hw
    rw [sWanted_ok hf hw]
    simp only [if_true]
    left
    split at h
    · rename_i f args tys hop
      split at h
      · rename_i g first cap hg
        have hfv := hf.ev f
        rw [hg] at hfv
        obtain ⟨first', cap', he, h1, h2⟩ := hfv.func_inv
        have hargs := F2.map_ev hf args.toList
        obtain ⟨hc, hcalls⟩ := h
        have hexec : (execOp a.eval o).run P w = .ok (.enter g (first' ++ args.map a.eval ++ cap')) w := by
          have : execOp a.eval o = (do let d ← resolve a.eval ⟨.value f, args, tys⟩ o.type; invoke d.target d.args) := by
            cases o; cases hop; rfl
          rw [this]
          simp only [resolve, Deferred.ofValue, he, Sem.run_bind, Sem.run_pure, Result.andThen_ok, invoke]
          exact callable_run hc _ w
        have hF := (h1.append hargs).append h2
        have := hcalls ρ _ w hF hr
        unfold Oper.wp Oper.upon
        rw [hexec]
        simp only
        have e1 : (first'.toList ++ args.toList.map a.eval ++ cap'.toList).toArray = first' ++ args.map a.eval ++ cap' := by
          apply Array.toList_inj.1; simp
        rw [e1] at this
        refine this.mono ?_
        rintro e w' ⟨ρ', v, rv, s', rfl, g1, g2, g3, g4⟩
        exact hK ρ' _ s' _ w' ⟨_, rfl⟩ ((hf.mono g3.le).put o.dst g1) g2 g3 g4
      · exact h.elim
    · split at h
      · rename_i v s' hop
        obtain ⟨ρ', w', rv, n, g1, g2, g3, g4, g5⟩ := sOp_ok hf hr hop
        unfold Oper.wp Oper.upon
        rw [g1]
        rcases g2 with rfl | ⟨rfl, rfl⟩
        · exact hK ρ' _ s' _ w' ⟨_, rfl⟩ ((hf.mono g5.le).put o.dst g3) g4 g5 h
        · exact hK ρ' _ s' _ w' ⟨_, rfl⟩ ((hf.mono g5.le).put o.dst g3) g4 g5 h
      · exact h.elim

def vcOps (P : Program) (ops : Array Oper) (K : List Value → SW → Prop) : List Oper → List Value → SW → Prop
  | [] => K
  | o :: rest => vcOp P ops o (vcOps P ops K rest)

theorem vcOps_ok {P : Program} {ops : Array Oper} {Q : SQ} {ρ₀ : Rho} {s₀ : SW} {w₀ : World} : ∀ (l : List Nat) (os : List Oper), l.map (fun i => ops[i]?) = os.map some → ∀ (ρ : Rho) (fr : List Value) (s : SW) (a : Act) (w : World),
    FRel ρ fr a → HRel ρ s w → Ext ρ₀ s₀ w₀ ρ s w → vcOps P ops (Q .normal) os fr s → wpOps P ops (lift ρ₀ s₀ w₀ Q) l a w := by
  intro l
  induction l with
  | nil =>
    intro os hos ρ fr s a w hf hr he h
    cases os with
    | nil => exact ⟨rfl, ρ, fr, s, hf, hr, he, h⟩
    | cons _ _ => cases hos
  | cons i l ih =>
    intro os hos ρ fr s a w hf hr he h
    cases os with
    | nil => cases hos
    | cons o os =>
      simp only [List.map_cons, List.cons.injEq] at hos
      simp only [wpOps, hos.1]
      exact vcOp_ok hf hr h fun ρ' fr' s' a' w' _ g1 g2 g3 g4 => ih os hos.2 ρ' fr' s' a' w' g1 g2 (he.trans g3) g4

theorem SWp.region {P : Program} {id : Nat} {ops : Array Oper} {Q : SQ} {fr : List Value} {s : SW} (h : vcOps P ops (Q .normal) ops.toList fr s) : SWp P (.region id ops false) Q fr s := by
  intro ρ a w hf hr
  refine wp_region (vcOps_ok (List.range ops.size) ops.toList ?_ ρ fr s a w hf hr (Ext.refl _ _ _) h)
  apply List.ext_getElem?
  intro k
  simp only [List.getElem?_map]
  by_cases hk : k < ops.size
  · rw [List.getElem?_range hk]
    simp [hk]
  · rw [List.getElem?_eq_none (by simpa using Nat.le_of_not_lt hk), List.getElem?_eq_none (by simpa using Nat.le_of_not_lt hk)]
    rfl

end Go.Sh
