/- Rules for contracts: what may be assumed of a shadow, counting loops, ends. -/
import Derived.Test.YteiclengdlhnnaaSim27
namespace Go.Sh
open Go

def SW.wf (s : SW) : Prop := ∀ i, s.next ≤ i → s.heap i = none

theorem HRel.wf {ρ : Rho} {s : SW} {w : World} (h : HRel ρ s w) : s.wf := by
  intro i hi
  cases ho : s.heap i with
  | none => rfl
  | some o =>
    obtain ⟨p, hp, _⟩ := h.live i o ho
    rw [h.next i hi] at hp; cases hp

theorem SW.wf.lt {s : SW} (h : s.wf) {i : Nat} {o : SObj} (hi : s.heap i = some o) : i < s.next := by
  rcases Nat.lt_or_ge i s.next with h1 | h1
  · exact h1
  · rw [h i h1] at hi; cases hi

theorem SWp.wf {P : Program} {c : Code} {Q : SQ} {fr : List Value} {s : SW} (h : s.wf → SWp P c Q fr s) : SWp P c Q fr s :=
  fun ρ a w hf hr => h hr.wf ρ a w hf hr

theorem SCalls.wf {P : Program} {f : FuncId} {args : List Value} {s : SW} {R : Value → SW → Prop} (hc : callable P f = true) (h : s.wf → SCalls P f args s R) : SCalls P f args s R :=
  ⟨hc, fun ρ rargs w ha hr => (h hr.wf).2 ρ rargs w ha hr⟩

/-- simp looks at the frame and the shadow alone. -/
theorem SWp_congr {P : Program} {c : Code} {Q : SQ} {fr fr' : List Value} {s s' : SW} (h : fr = fr') (k : s = s') : SWp P c Q fr s = SWp P c Q fr' s' := by rw [h, k]

theorem SCalls_congr {P : Program} {f : FuncId} {args args' : List Value} {s s' : SW} {R : Value → SW → Prop} (h : args = args') (k : s = s') : SCalls P f args s R = SCalls P f args' s' R := by rw [h, k]

theorem SCalls.monoW {P : Program} {f : FuncId} {args : List Value} {s : SW} {R R' : Value → SW → Prop} (h : SCalls P f args s R) (hR : ∀ v s', s'.wf → R v s' → R' v s') : SCalls P f args s R' :=
  ⟨h.1, fun ρ rargs w h1 h2 => (h.2 ρ rargs w h1 h2).mono fun _ _ ⟨ρ', v, rv, s', a, b, c, d, e⟩ => ⟨ρ', v, rv, s', a, b, c, d, hR v s' c.wf e⟩⟩

/-! What is to come is opened when it is reached, not ahead. -/

def Kont (K : List Value → SW → Prop) (fr : List Value) (dst : Option Tmp) : Value → SW → Prop := fun v s' => K (put fr dst v) s'
theorem Kont_apply {K : List Value → SW → Prop} {fr : List Value} {dst : Option Tmp} {v : Value} {s : SW} : Kont K fr dst v s = K (put fr dst v) s := rfl
def entK (P : Program) (ops : Array Oper) (anc : List Nat) (K : List Value → SW → Prop) (rest : List Ent) (i : Nat) (pre : List Ent) : List Value → SW → Prop := fun fr' s' => stable P ops anc i pre fr' s' ∧ vcEnts P ops anc K rest (.run i :: pre) fr' s'
theorem entK_apply {P : Program} {ops : Array Oper} {anc : List Nat} {K : List Value → SW → Prop} {rest : List Ent} {i : Nat} {pre : List Ent} {fr : List Value} {s : SW} :
    entK P ops anc K rest i pre fr s = (stable P ops anc i pre fr s ∧ vcEnts P ops anc K rest (.run i :: pre) fr s) := rfl

section
variable {P : Program} {D : Plans} {n i : Nat} {Q : SQ} {fr : List Value} {s : SW} {a b c d : Code} {K : List Value → SW → Prop} {ops : Array Oper} {o : Oper} {os : List Oper} {anc : List Nat} {rest pre : List Ent}

theorem vcD_skip : vcD P D n .skip Q fr s = Q .normal fr s := rfl
theorem vcD_label : vcD P D n (.label i) Q fr s = Q .normal fr s := rfl
theorem vcD_exit : vcD P D n (.exit i) Q fr s = Q (.exit i) fr s := rfl
theorem vcD_goto : vcD P D n (.goto i) Q fr s = Q (.goto i) fr s := rfl
theorem vcD_ret : vcD P D n .ret Q fr s = Q .ret fr s := rfl
theorem vcD_seq : vcD P D n (.seq a b) Q fr s = vcD P D n a (thenQ (vcD P D n b Q) Q) fr s := rfl
theorem vcD_cond {x : Operand} : vcD P D n (.cond x c d) Q fr s = (match ev fr x with
    | .bool true => vcD P D n c Q fr s
    | .bool false => vcD P D n d Q fr s
    | _ => False) := rfl
theorem vcD_block : vcD P D n (.block i c) Q fr s = vcD P D n c (inBlockQ i Q) fr s := rfl
theorem vcD_region : vcD P D n (.region i ops false) Q fr s = vcOps P ops (Q .normal) ops.toList fr s := rfl
theorem vcD_draw : vcD P D n (.region i ops true) Q fr s = (match D i with
    | some (anc, c) => fr.length = n ∧ vcEnts P ops anc (Q .normal) c [] fr s
    | none => SWp P (.region i ops true) Q fr s) := by
  simp only [vcD]; cases D i <;> rfl
theorem vcD_loop : vcD P D n (.loop c) Q fr s = SWp P (.loop c) Q fr s := rfl
theorem vcD_scope : vcD P D n (.scope c) Q fr s = SWp P (.scope c) Q fr s := rfl

theorem vcOps_nil : vcOps P ops K [] fr s = K fr s := rfl
theorem vcOps_cons : vcOps P ops K (o :: os) fr s = vcOp P ops o (vcOps P ops K os) fr s := rfl
theorem vcOp_eq : vcOp P ops o K fr s = (match sWanted ops o fr with
  | none => False
  | some false => K (put fr o.dst Go.undef) s
  | some true =>
    match o.op with
    | .call ⟨.value f, args, _⟩ =>
      match ev fr f with
      | .func (.func g) first cap => SCalls P g (first.toList ++ args.toList.map (ev fr) ++ cap.toList) s (Kont K fr o.dst)
      | _ => False
    | _ =>
      match sOp P o fr s with
      | some (v, s') => K (put fr o.dst v) s'
      | none => False) := rfl

theorem vcEnts_nil : vcEnts P ops anc K [] pre fr s = K fr s := rfl
theorem vcEnts_chk : vcEnts P ops anc K (.chk i :: rest) pre fr s = (match opAt ops i with
    | none => False
    | some o =>
      match sWanted ops o fr with
      | none => False
      | some false => vcEnts P ops anc K rest (.chk i :: pre) fr s
      | some true => (sNew P o fr).isSome = true ∧ vcEnts P ops anc K rest (.chk i :: pre) fr s) := rfl
theorem vcEnts_run : vcEnts P ops anc K (.run i :: rest) pre fr s = (match opAt ops i with
    | none => False
    | some o =>
      match cls o with
      | 0 =>
        match sWanted ops o fr with
        | none => False
        | some false => vcEnts P ops anc K rest (.run i :: pre) (put fr o.dst Go.undef) s
        | some true =>
          match sOp P o fr s with
          | some (v, s') => s' = s ∧ o.dst ≠ none ∧ vcEnts P ops anc K rest (.run i :: pre) (put fr o.dst v) s
          | none => False
      | 1 => vcOp P ops o (entK P ops anc K rest i pre) fr s
      | _ =>
        match sWanted ops o fr with
        | none => False
        | some false => vcEnts P ops anc K rest (.run i :: pre) (put fr o.dst Go.undef) s
        | some true =>
          match sNew P o fr with
          | some (obj, val) => stable P ops anc i pre (put fr o.dst (val s.next)) (s.new obj) ∧ vcEnts P ops anc K rest (.run i :: pre) (put fr o.dst (val s.next)) (s.new obj)
          | none => False) := rfl

theorem thenQ_normal : thenQ K Q .normal fr s = K fr s := rfl
theorem thenQ_exit : thenQ K Q (.exit i) fr s = Q (.exit i) fr s := rfl
theorem thenQ_goto : thenQ K Q (.goto i) fr s = Q (.goto i) fr s := rfl
theorem thenQ_ret : thenQ K Q .ret fr s = Q .ret fr s := rfl
theorem inBlockQ_normal : inBlockQ n Q .normal fr s = Q .normal fr s := rfl
theorem inBlockQ_exit : inBlockQ n Q (.exit i) fr s = if i = n then Q .normal fr s else Q (.exit i) fr s := rfl
theorem inBlockQ_goto : inBlockQ n Q (.goto i) fr s = Q (.goto i) fr s := rfl
theorem inBlockQ_ret : inBlockQ n Q .ret fr s = Q .ret fr s := rfl
theorem bodyQ_normal {fn : Func} {R : Value → SW → Prop} : bodyQ P fn R .normal fr s = (match sResults P fn fr s with
    | some v => R v s
    | none => False) := rfl
theorem bodyQ_ret {fn : Func} {R : Value → SW → Prop} : bodyQ P fn R .ret fr s = (match sResults P fn fr s with
    | some v => R v s
    | none => False) := rfl
end

def frL : List Value → List Value → Prop
  | [], [] => True
  | a :: l, b :: m => (a = junk ∨ a = b) ∧ frL l m
  | _, _ => False

theorem frL.ok : ∀ {l m : List Value}, frL l m → frLess l m
  | [], [], _ => ⟨rfl, fun k v h => by simp at h⟩
  | a :: l, b :: m, h => by
    obtain ⟨h1, h2⟩ := h
    obtain ⟨h3, h4⟩ := frL.ok h2
    refine ⟨by simp [h3], fun k v hk => ?_⟩
    cases k with
    | zero =>
      simp only [List.getElem?_cons_zero] at hk ⊢
      cases hk
      rcases h1 with h1 | h1
      · exact .inl h1
      · exact .inr (by rw [h1])
    | succ k => simpa using h4 k v (by simpa using hk)
  | [], _ :: _, h => h.elim
  | _ :: _, [], h => h.elim

theorem frL.refl : ∀ (l : List Value), frL l l
  | [] => trivial
  | _ :: l => ⟨.inr rfl, frL.refl l⟩

/-- Blocks behind a bound are forgotten. -/
theorem SW.less_of {s₁ s : SW} (B : Nat) (h1 : ∀ j, B ≤ j → s₁.heap j = none) (h2 : ∀ j, j < B → s₁.heap j = s.heap j) (h3 : s.next ≤ s₁.next) : SW.less s₁ s :=
  by
  refine ⟨fun i o hi => ?_, h3⟩
  rcases Nat.lt_or_ge i B with h | h
  · rw [← h2 i h]; exact hi
  · rw [h1 i h] at hi; cases hi

theorem SW.less_refl (s : SW) : SW.less s s := ⟨fun _ _ h => h, Nat.le_refl _⟩
theorem SW.less_trans {a b c : SW} (h : SW.less a b) (k : SW.less b c) : SW.less a c := ⟨fun i o hi => k.heap i o (h.heap i o hi), Nat.le_trans k.next h.next⟩

/-- A loop that counts, with what else is known at each round's head. -/
theorem SWp.upto {P : Program} {c : Code} {Q : SQ} {fr : List Value} {s : SW} {X : Type} (K : Nat) (I : Nat → X → Prop) (F : Nat → X → List Value) (S : Nat → X → SW) (x₀ : X) (h₀ : I 0 x₀)
    (hf : frL (F 0 x₀) fr) (hs : SW.less (S 0 x₀) s)
    (step : ∀ k x, k < K → I k x → SWp P c (thenQ (fun fr' s' => ∃ x', I (k + 1) x' ∧ frL (F (k + 1) x') fr' ∧ SW.less (S (k + 1) x') s') Q) (F k x) (S k x))
    (last : ∀ x, I K x → SWp P c (thenQ (fun _ _ => False) Q) (F K x) (S K x)) : SWp P (.loop c) Q fr s := by
  refine SWp.loop (fun m fr s => ∃ k x, k + m = K ∧ I k x ∧ frL (F k x) fr ∧ SW.less (S k x) s) K ⟨0, x₀, by omega, h₀, hf, hs⟩ ?_
  rintro m fr s ⟨k, x, hk, hI, hF, hS⟩
  rcases Nat.lt_or_ge k K with h | h
  · refine SWp.less ((step k x h hI).mono ?_) hF.ok hS
    rintro e fr' s' hq
    cases e with
    | normal =>
      obtain ⟨x', h1, h2, h3⟩ := hq
      exact ⟨m - 1, by omega, k + 1, x', by omega, h1, h2, h3⟩
    | _ => exact hq
  · have : k = K := by omega
    subst this
    refine SWp.less ((last x hI).mono ?_) hF.ok hS
    rintro e fr' s' hq
    cases e with
    | normal => exact hq.elim
    | _ => exact hq

/-- .. where what is known of the shadow is told as a relation. -/
theorem SWp.uptoR {P : Program} {c : Code} {Q : SQ} {fr : List Value} {s : SW} {X : Type} (K : Nat) (I : Nat → X → SW → Prop) (F : Nat → X → List Value) (x₀ : X) (h₀ : I 0 x₀ s) (hf : frL (F 0 x₀) fr)
    (step : ∀ k x s, k < K → s.wf → I k x s → SWp P c (thenQ (fun fr' s' => ∃ x', I (k + 1) x' s' ∧ frL (F (k + 1) x') fr') Q) (F k x) s)
    (last : ∀ x s, s.wf → I K x s → SWp P c (thenQ (fun _ _ => False) Q) (F K x) s) : SWp P (.loop c) Q fr s := by
  refine SWp.loop (fun m fr s => ∃ k x, k + m = K ∧ I k x s ∧ frL (F k x) fr) K ⟨0, x₀, by omega, h₀, hf⟩ ?_
  rintro m fr s ⟨k, x, hk, hI, hF⟩
  refine SWp.wf fun hwf => ?_
  rcases Nat.lt_or_ge k K with h | h
  · refine SWp.less ((step k x s h hwf hI).mono ?_) hF.ok (SW.less_refl s)
    rintro e fr' s' hq
    cases e with
    | normal =>
      obtain ⟨x', h1, h2⟩ := hq
      exact ⟨m - 1, by omega, k + 1, x', by omega, h1, h2⟩
    | _ => exact hq
  · have : k = K := by omega
    subst this
    refine SWp.less ((last x s hwf hI).mono ?_) hF.ok (SW.less_refl s)
    rintro e fr' s' hq
    cases e with
    | normal => exact hq.elim
    | _ => exact hq

theorem SWp.upto0 {P : Program} {c : Code} {Q : SQ} {fr : List Value} {s : SW} (last : SWp P c (thenQ (fun _ _ => False) Q) fr s) : SWp P (.loop c) Q fr s :=
  SWp.upto 0 (fun _ (_ : Unit) => True) (fun _ _ => fr) (fun _ _ => s) () trivial (frL.refl _) (SW.less_refl _) (fun _ _ h => absurd h (Nat.not_lt_zero _)) fun _ _ => last

/-- The end of a body: what is left behind is forgotten. -/
def Post (R : Value → SW → Prop) (v : Value) (s' : SW) : Prop := ∃ s₁, SW.less s₁ s' ∧ R v s₁

theorem Post_congr {R : Value → SW → Prop} {v v' : Value} {s s' : SW} (h : v = v') (k : s = s') : Post R v s = Post R v' s' := by rw [h, k]

/-- A contract out of a body, what is left behind forgotten. -/
theorem SCalls.bodyL {P : Program} {f : FuncId} {fn : Func} {c : Code} {args : List Value} {s : SW} {R : Value → SW → Prop} (hf : P.funcs[f]? = some fn) (hb : fn.body = some c) (hc : fnCallable fn = true)
    (h : s.wf → SWp P c (bodyQ P fn (Post R)) (args ++ List.replicate (fn.ntmps - args.length) Go.undef) s) : SCalls P f args s R :=
  SCalls.less (s₀ := s) (SCalls.body hf hb hc (SWp.wf h)) (SW.less_refl s) fun _ _ h => h

/-- The same heap, numbers passed over. -/
def SW.at (s : SW) (n : Nat) : SW := ⟨s.heap, n⟩

theorem Post.at {R : Value → SW → Prop} {v : Value} {s t : SW} (hwf : s.wf) (hR : ∀ n, s.next ≤ n → R v (s.at n)) (h : ∀ j, j < s.next → s.heap j = t.heap j) (hn : s.next ≤ t.next) : Post R v t :=
  ⟨s.at t.next, SW.less_of s.next (fun j hj => hwf j hj) h (Nat.le_refl _), hR _ hn⟩

/-- The end: blocks below a bound are as told; what lies behind is forgotten. -/
theorem Post.of {R : Value → SW → Prop} {v : Value} {t : SW} (f : Nat → Option SObj) (B : Nat) (hB : ∀ j, B ≤ j → f j = none) (h : ∀ j, j < B → f j = t.heap j) (hR : R v ⟨f, t.next⟩) : Post R v t :=
  ⟨⟨f, t.next⟩, SW.less_of B hB h (Nat.le_refl _), hR⟩

theorem ite_lt {α : Type} {i n : Nat} {a b : α} (h : i < n) : (if i = n then a else b) = b := if_neg (Nat.ne_of_lt h)
theorem ite_gt {α : Type} {i n : Nat} {a b : α} (h : n < i) : (if i = n then a else b) = b := if_neg (Nat.ne_of_gt h)

def mkF (n : Nat) (l : List (Nat × Value)) : List Value := l.foldl (fun f p => f.set p.1 p.2) (List.replicate n junk)

end Go.Sh
