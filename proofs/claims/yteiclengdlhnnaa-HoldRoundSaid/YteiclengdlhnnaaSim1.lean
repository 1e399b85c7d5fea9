/- A shadow of the world: a heap of blocks by ids, in which an append always moves and maps are lists; and what it says of the model's world. Definitions and the basic laws. -/
import Derived.Orders
import Derived.Below
namespace Go.Sh
open Go

/-- Where a shadow block lies: the block, the first cell, how many cells, how many more elements behind them, of how many cells each. -/
structure Pl where
  r : Nat
  b : Nat
  n : Nat
  x : Nat
  z : Nat

abbrev Rho := Nat → Option Pl

/-- A value that leads nowhere, of one cell. -/
def pl0 : Value → Bool
  | .bool _ | .int _ _ | .string _ | .pointer none | .slice none _ _ | .map none | .nilFunc | .nilIface => true
  | _ => false
def pl1 (v : Value) : Bool := pl0 v || (match v with | .agg cs => cs.all pl0 | .tuple cs => cs.all pl0 | .func _ f c => f.isEmpty && c.isEmpty | _ => false)

/-- A slot that is not looked at any more. -/
def junk : Value := .tuple #[.tuple #[]]

inductive VRel (ρ : Rho) : Value → Value → Prop
  | plain {v : Value} : pl0 v = true → VRel ρ v v
  | junk {v : Value} : VRel ρ junk v
  | ptr {i o : Nat} {p : Pl} : ρ i = some p → VRel ρ (.pointer (some ⟨i, o, none⟩)) (.pointer (some ⟨p.r, p.b + o, none⟩))
  | slice {i o l c c' : Nat} {p : Pl} : ρ i = some p → l ≤ c → (c' = c ∨ (c' = c + p.x ∧ o + c * p.z = p.n)) →
      VRel ρ (.slice (some ⟨i, o, none⟩) l c) (.slice (some ⟨p.r, p.b + o, none⟩) l c')
  | map {i : Nat} {p : Pl} : ρ i = some p → VRel ρ (.map (some i)) (.map (some p.r))
  | func {fn : Fn} {f c f' c' : Array Value} : f.size = f'.size → c.size = c'.size →
      (∀ (k : Nat) (v v' : Value), f[k]? = some v → f'[k]? = some v' → VRel ρ v v') →
      (∀ (k : Nat) (v v' : Value), c[k]? = some v → c'[k]? = some v' → VRel ρ v v') → VRel ρ (.func fn f c) (.func fn f' c')
  | agg {cs cs' : Array Value} : cs.size = cs'.size →
      (∀ (k : Nat) (v v' : Value), cs[k]? = some v → cs'[k]? = some v' → VRel ρ v v') → VRel ρ (.agg cs) (.agg cs')
  | tuple {cs cs' : Array Value} : cs.size = cs'.size →
      (∀ (k : Nat) (v v' : Value), cs[k]? = some v → cs'[k]? = some v' → VRel ρ v v') → VRel ρ (.tuple cs) (.tuple cs')

/-- The second knows all that the first knows. -/
def Rho.le (ρ ρ' : Rho) : Prop := ∀ i p, ρ i = some p → ρ' i = some p

theorem Rho.le_refl (ρ : Rho) : Rho.le ρ ρ := fun _ _ h => h
theorem Rho.le_trans {a b c : Rho} (h : Rho.le a b) (k : Rho.le b c) : Rho.le a c := fun i p e => k i p (h i p e)

theorem VRel.mono {ρ ρ' : Rho} (h : Rho.le ρ ρ') {v v' : Value} (hv : VRel ρ v v') : VRel ρ' v v' := by
  induction hv with
  | plain h0 => exact .plain h0
  | junk => exact .junk
  | ptr hp => exact .ptr (h _ _ hp)
  | slice hp hl hc => exact .slice (h _ _ hp) hl hc
  | map hp => exact .map (h _ _ hp)
  | func h1 h2 _ _ ih1 ih2 => exact .func h1 h2 ih1 ih2
  | agg h1 _ ih => exact .agg h1 ih
  | tuple h1 _ ih => exact .tuple h1 ih

theorem VRel.of_pl1 {ρ : Rho} {v : Value} (h : pl1 v = true) : VRel ρ v v := by
  unfold pl1 at h
  by_cases h0 : pl0 v = true
  · exact .plain h0
  · simp only [h0, Bool.false_or] at h
    cases v with
    | agg cs =>
      refine .agg rfl fun k v v' h1 h2 => ?_
      rw [h1] at h2; cases h2
      exact .plain ((Array.all_eq_true_iff_forall_mem.1 h) v (Array.mem_of_getElem? h1))
    | tuple cs =>
      refine .tuple rfl fun k v v' h1 h2 => ?_
      rw [h1] at h2; cases h2
      exact .plain ((Array.all_eq_true_iff_forall_mem.1 h) v (Array.mem_of_getElem? h1))
    | func fn f c =>
      simp at h
      obtain ⟨rfl, rfl⟩ := h
      exact .func rfl rfl (fun k v v' h1 _ => by simp at h1) (fun k v v' h1 _ => by simp at h1)
    | _ => simp at h

/-- A shadow block. own: the run may write to it. grown: 0, or there may be room behind it, in elements of so many cells. -/
inductive SObj where
  | cells (cs : List Value) (own : Bool) (grown : Nat)
  | map (k : IntKind) (own : Bool) (m : List (Int × Value))

def SObj.own : SObj → Bool
  | .cells _ o _ => o
  | .map _ o _ => o

structure SW where
  heap : Nat → Option SObj
  next : Nat

def SW.set (s : SW) (i : Nat) (o : SObj) : SW := { s with heap := fun j => if j = i then some o else s.heap j }
def SW.new (s : SW) (o : SObj) : SW := ⟨fun j => if j = s.next then some o else s.heap j, s.next + 1⟩
def SW.kill (s : SW) (i : Nat) : SW := { s with heap := fun j => if j = i then none else s.heap j }

/-- Two lists, element by element. -/
inductive F2 {α β : Type} (R : α → β → Prop) : List α → List β → Prop
  | nil : F2 R [] []
  | cons {a : α} {b : β} {l : List α} {m : List β} : R a b → F2 R l m → F2 R (a :: l) (b :: m)

theorem F2.length {α β : Type} {R : α → β → Prop} {l : List α} {m : List β} (h : F2 R l m) : l.length = m.length := by
  induction h with
  | nil => rfl
  | cons _ _ ih => simp [ih]

theorem F2.imp {α β : Type} {R S : α → β → Prop} (hRS : ∀ a b, R a b → S a b) {l : List α} {m : List β} (h : F2 R l m) : F2 S l m := by
  induction h with
  | nil => exact .nil
  | cons h1 _ ih => exact .cons (hRS _ _ h1) ih

theorem F2.append {α β : Type} {R : α → β → Prop} {l l' : List α} {m m' : List β} (h : F2 R l m) (h' : F2 R l' m') : F2 R (l ++ l') (m ++ m') := by
  induction h with
  | nil => exact h'
  | cons h1 _ ih => exact .cons h1 ih

/-- What a shadow map says of the model's entries. -/
structure MRel (ρ : Rho) (k : IntKind) (m : List (Int × Value)) (es : List MapEntry) (clock : Nat) : Prop where
  perm : ∃ l : List MapEntry, l.Perm es ∧ F2 (fun kv e => e.key = .int k kv.1 ∧ VRel ρ kv.2 e.val) m l
  keys : (m.map Prod.fst).Nodup
  born : (es.map (·.born)).Nodup
  clock : ∀ e ∈ es, e.born < clock

def ORel (ρ : Rho) (p : Pl) : SObj → Option Obj → Prop
  | .cells cs own grown, some (.cells rc _ fz) =>
    cs.length = p.n ∧ p.b + p.n + p.x * p.z ≤ rc.size ∧ (∀ (k : Nat) (v : Value), cs[k]? = some v → ∃ rv, rc[p.b + k]? = some rv ∧ VRel ρ v rv) ∧
      (own = true → ∀ k, k < rc.size → ¬ (fz.1 ≤ k ∧ k < fz.2)) ∧ (grown = 0 → p.x = 0 ∧ p.b = 0) ∧ (grown ≠ 0 → p.z = grown)
  | .map k _ m, some (.map es clock) => MRel ρ k m es.toList clock
  | _, _ => False

structure HRel (ρ : Rho) (s : SW) (w : World) : Prop where
  next : ∀ i, s.next ≤ i → ρ i = none
  live : ∀ i o, s.heap i = some o → ∃ p, ρ i = some p ∧ ORel ρ p o (w.heap[p.r]?)
  inj : ∀ i j o o' p q, s.heap i = some o → s.heap j = some o' → ρ i = some p → ρ j = some q → p.r = q.r → i = j

/-- What a step of the run may have turned. -/
structure Ext (ρ : Rho) (s : SW) (w : World) (ρ' : Rho) (s' : SW) (w' : World) : Prop where
  le : Rho.le ρ ρ'
  fresh : ∀ i p, ρ i = none → ρ' i = some p → w.heap.size ≤ p.r ∨ ∃ j o q, s.heap j = some o ∧ o.own = true ∧ ρ j = some q ∧ q.r = p.r
  back : ∀ i o p, s'.heap i = some o → ρ i = some p → ∃ o₀, s.heap i = some o₀ ∧ (o.own = true → o₀.own = true)
  next : s.next ≤ s'.next
  size : w.heap.size ≤ w'.heap.size
  frame : ∀ r, r < w.heap.size → (∀ i o p, s.heap i = some o → o.own = true → ρ i = some p → p.r ≠ r) → w'.heap[r]? = w.heap[r]?
  os : w'.os = w.os
  tape : w'.tape = w.tape
  output : w'.output = w.output

theorem Ext.refl (ρ : Rho) (s : SW) (w : World) : Ext ρ s w ρ s w :=
  ⟨Rho.le_refl ρ, fun i p h h' => (by rw [h] at h'; cases h'), fun i o p h _ => ⟨o, h, id⟩, Nat.le_refl _, Nat.le_refl _, fun _ _ _ => rfl, rfl, rfl, rfl⟩

theorem Ext.trans {ρ ρ₁ ρ₂ : Rho} {s s₁ s₂ : SW} {w w₁ w₂ : World} (h : Ext ρ s w ρ₁ s₁ w₁) (k : Ext ρ₁ s₁ w₁ ρ₂ s₂ w₂) :
    Ext ρ s w ρ₂ s₂ w₂ := by
  refine ⟨Rho.le_trans h.le k.le, ?_, ?_, Nat.le_trans h.next k.next, Nat.le_trans h.size k.size, ?_, k.os.trans h.os, k.tape.trans h.tape, k.output.trans h.output⟩
  · intro i p hi hi'
    cases h1 : ρ₁ i with
    | some q =>
      have := k.le i q h1
      rw [hi'] at this; cases this
      exact h.fresh i p hi h1
    | none =>
      rcases k.fresh i p h1 hi' with h2 | ⟨j, o, q, hj, ho, hq, e⟩
      · exact .inl (Nat.le_trans h.size h2)
      · cases h3 : ρ j with
        | some q' =>
          obtain ⟨o₀, hj₀, ho₀⟩ := h.back j o q' hj h3
          have := h.le j q' h3
          rw [hq] at this; cases this
          exact .inr ⟨j, o₀, q, hj₀, ho₀ ho, h3, e⟩
        | none =>
          rcases h.fresh j q h3 hq with h4 | ⟨j', o', q', a, b, c, d⟩
          · exact .inl (e ▸ h4)
          · exact .inr ⟨j', o', q', a, b, c, d.trans e⟩
  · intro i o p hi hp
    obtain ⟨o₁, h1, h2⟩ := k.back i o p hi (h.le i p hp)
    obtain ⟨o₀, h3, h4⟩ := h.back i o₁ p h1 hp
    exact ⟨o₀, h3, fun x => h4 (h2 x)⟩
  · intro r hlt hno
    rw [k.frame r (Nat.lt_of_lt_of_le hlt h.size) ?_, h.frame r hlt hno]
    intro i o p hi ho hp e
    cases h1 : ρ i with
    | some q =>
      have := h.le i q h1
      rw [hp] at this; cases this
      obtain ⟨o₀, h3, h4⟩ := h.back i o p hi h1
      exact hno i o₀ p h3 (h4 ho) h1 e
    | none =>
      rcases h.fresh i p h1 hp with h4 | ⟨j', o', q', a, b, c, d⟩
      · omega
      · exact hno j' o' q' a b c (d.trans e)

/-- The frame: the temporaries, one by one. -/
structure FRel (ρ : Rho) (fr : List Value) (a : Act) : Prop where
  size : fr.length = a.tmps.size
  defers : a.defers = []
  val : ∀ (k : Nat) (v : Value), fr[k]? = some v → ∃ rv, a.tmps[k]? = some rv ∧ VRel ρ v rv

theorem FRel.mono {ρ ρ' : Rho} (h : Rho.le ρ ρ') {fr : List Value} {a : Act} (hf : FRel ρ fr a) : FRel ρ' fr a :=
  ⟨hf.size, hf.defers, fun k v hk => let ⟨rv, h1, h2⟩ := hf.val k v hk; ⟨rv, h1, h2.mono h⟩⟩

theorem VRel.undef {ρ : Rho} : VRel ρ Go.undef Go.undef := .tuple rfl fun k v v' h _ => by simp at h

def ev (fr : List Value) : Operand → Value
  | .tmp t => fr.getD t Go.undef
  | .const v => if pl1 v then v else junk
  | .global _ => junk
  | .func f => .func (.func f) #[] #[]

theorem FRel.ev {ρ : Rho} {fr : List Value} {a : Act} (h : FRel ρ fr a) (x : Operand) : VRel ρ (ev fr x) (a.eval x) := by
  cases x with
  | tmp t =>
    simp only [Sh.ev, Act.eval]
    cases hk : fr[t]? with
    | some v =>
      obtain ⟨rv, h1, h2⟩ := h.val t v hk
      simp [List.getD, hk, h1]; exact h2
    | none =>
      have : fr.length ≤ t := List.getElem?_eq_none_iff.1 hk
      have : a.tmps[t]? = none := Array.getElem?_eq_none (by rw [← h.size]; exact this)
      simp [List.getD, hk, this]; exact .undef
  | const v =>
    simp only [Sh.ev, Act.eval]
    by_cases hp : pl1 v = true
    · simp only [hp, if_true]; exact .of_pl1 hp
    · simp only [hp]; exact .junk
  | global g => exact .junk
  | func f => exact .func rfl rfl (fun k v v' h1 _ => by simp at h1) (fun k v v' h1 _ => by simp at h1)

def put (fr : List Value) (dst : Option Tmp) (v : Value) : List Value :=
  match dst with
  | some d => fr.set d v
  | none => fr

theorem FRel.put {ρ : Rho} {fr : List Value} {a : Act} (h : FRel ρ fr a) (dst : Option Tmp) {v rv : Value} (hv : VRel ρ v rv) :
    FRel ρ (put fr dst v) (a.put dst rv) := by
  cases dst with
  | none => exact h
  | some d =>
    refine ⟨by simp [Sh.put, Act.put, h.size], h.defers, fun k u hk => ?_⟩
    simp only [Sh.put, Act.put] at hk ⊢
    rw [List.getElem?_set] at hk
    by_cases e : d = k
    · subst e
      simp only [if_true] at hk
      split at hk
      · cases hk
        exact ⟨rv, by rw [Array.getElem?_setIfInBounds_self_of_lt (by rw [← h.size]; assumption)], hv⟩
      · cases hk
    · simp only [e, if_false] at hk
      rw [Array.getElem?_setIfInBounds_ne e]
      exact h.val k u hk

end Go.Sh
