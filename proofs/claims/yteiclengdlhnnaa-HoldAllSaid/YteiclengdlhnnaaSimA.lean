/- A shadow of the world: a heap of blocks by ids, in which an append always moves and maps are lists; and what it says of the model's world. Definitions and the basic laws. -/
import Derived.Orders
import Derived.Below
import Derived.Laws.Sem
import Derived.Laws.World
import Derived.Laws.StructEq
namespace Go.Sh
open Go

/-- Where a shadow block lies: the block, the first cell, how many cells, how many more elements behind them, of how many cells each. -/
structure Pl where
  r : Nat
  b : Nat
  n : Nat
  x : Nat
  z : Nat

abbrev Rho := Nat → Option Pl

/-- A value that leads nowhere, of one cell. -/
def pl0 : Value → Bool
  | .bool _ | .int _ _ | .string _ | .pointer none | .slice none _ _ | .map none | .nilFunc | .nilIface => true
  | _ => false
def pl1 (v : Value) : Bool := pl0 v || (match v with | .agg cs => cs.all pl0 | .tuple cs => cs.all pl0 | .func _ f c => f.isEmpty && c.isEmpty | _ => false)

/-- A slot that is not looked at any more. -/
def junk : Value := .tuple #[.tuple #[]]

inductive VRel (ρ : Rho) : Value → Value → Prop
  | plain {v : Value} : pl0 v = true → VRel ρ v v
  | junk {v : Value} : VRel ρ junk v
  | ptr {i o : Nat} {p : Pl} : ρ i = some p → VRel ρ (.pointer (some ⟨i, o, none⟩)) (.pointer (some ⟨p.r, p.b + o, none⟩))
  | slice {i o l c c' : Nat} {p : Pl} : ρ i = some p → l ≤ c → (c' = c ∨ (c' = c + p.x ∧ o + c * p.z = p.n)) →
      VRel ρ (.slice (some ⟨i, o, none⟩) l c) (.slice (some ⟨p.r, p.b + o, none⟩) l c')
  | map {i : Nat} {p : Pl} : ρ i = some p → VRel ρ (.map (some i)) (.map (some p.r))
  /-- A row of nothing, wherever it lies. -/
  | empty {a : Addr} : VRel ρ (.slice (some ⟨0, 0, some 0⟩) 0 0) (.slice (some a) 0 0)
  | func {fn : Fn} {f c f' c' : Array Value} : f.size = f'.size → c.size = c'.size →
      (∀ (k : Nat) (v v' : Value), f[k]? = some v → f'[k]? = some v' → VRel ρ v v') →
      (∀ (k : Nat) (v v' : Value), c[k]? = some v → c'[k]? = some v' → VRel ρ v v') → VRel ρ (.func fn f c) (.func fn f' c')
  | agg {cs cs' : Array Value} : cs.size = cs'.size →
      (∀ (k : Nat) (v v' : Value), cs[k]? = some v → cs'[k]? = some v' → VRel ρ v v') → VRel ρ (.agg cs) (.agg cs')
  | tuple {cs cs' : Array Value} : cs.size = cs'.size →
      (∀ (k : Nat) (v v' : Value), cs[k]? = some v → cs'[k]? = some v' → VRel ρ v v') → VRel ρ (.tuple cs) (.tuple cs')

/-- The second knows all that the first knows. -/
def Rho.le (ρ ρ' : Rho) : Prop := ∀ i p, ρ i = some p → ρ' i = some p

theorem Rho.le_refl (ρ : Rho) : Rho.le ρ ρ := fun _ _ h => h
theorem Rho.le_trans {a b c : Rho} (h : Rho.le a b) (k : Rho.le b c) : Rho.le a c := fun i p e => k i p (h i p e)

theorem VRel.mono {ρ ρ' : Rho} (h : Rho.le ρ ρ') {v v' : Value} (hv : VRel ρ v v') : VRel ρ' v v' := by
  induction hv with
  | plain h0 => exact .plain h0
  | junk => exact .junk
  | ptr hp => exact .ptr (h _ _ hp)
  | slice hp hl hc => exact .slice (h _ _ hp) hl hc
  | map hp => exact .map (h _ _ hp)
  | empty => exact .empty
  | func h1 h2 _ _ ih1 ih2 => exact .func h1 h2 ih1 ih2
  | agg h1 _ ih => exact .agg h1 ih
  | tuple h1 _ ih => exact .tuple h1 ih

theorem VRel.of_pl1 {ρ : Rho} {v : Value} (h : pl1 v = true) : VRel ρ v v := by
  unfold pl1 at h
  by_cases h0 : pl0 v = true
  · exact .plain h0
  · simp only [h0, Bool.false_or] at h
    cases v with
    | agg cs =>
      refine .agg rfl fun k v v' h1 h2 => ?_
      rw [h1] at h2; cases h2
      exact .plain ((Array.all_eq_true_iff_forall_mem.1 h) v (Array.mem_of_getElem? h1))
    | tuple cs =>
      refine .tuple rfl fun k v v' h1 h2 => ?_
      rw [h1] at h2; cases h2
      exact .plain ((Array.all_eq_true_iff_forall_mem.1 h) v (Array.mem_of_getElem? h1))
    | func fn f c =>
      simp at h
      obtain ⟨rfl, rfl⟩ := h
      exact .func rfl rfl (fun k v v' h1 _ => by simp at h1) (fun k v v' h1 _ => by simp at h1)
    | _ => simp at h

/-- A shadow block. own: the run may write to it. grown: 0, or there may be room behind it, in elements of so many cells. -/
inductive SObj where
  | cells (cs : List Value) (own : Bool) (grown : Nat)
  | map (k : IntKind) (own : Bool) (m : List (Int × Value))

def SObj.own : SObj → Bool
  | .cells _ o _ => o
  | .map _ o _ => o

structure SW where
  heap : Nat → Option SObj
  next : Nat

def SW.set (s : SW) (i : Nat) (o : SObj) : SW := { s with heap := fun j => if j = i then some o else s.heap j }
def SW.new (s : SW) (o : SObj) : SW := ⟨fun j => if j = s.next then some o else s.heap j, s.next + 1⟩
def SW.kill (s : SW) (i : Nat) : SW := { s with heap := fun j => if j = i then none else s.heap j }

/-- Two lists, element by element. -/
inductive F2 {α β : Type} (R : α → β → Prop) : List α → List β → Prop
  | nil : F2 R [] []
  | cons {a : α} {b : β} {l : List α} {m : List β} : R a b → F2 R l m → F2 R (a :: l) (b :: m)

theorem F2.length {α β : Type} {R : α → β → Prop} {l : List α} {m : List β} (h : F2 R l m) : l.length = m.length := by
  induction h with
  | nil => rfl
  | cons _ _ ih => simp [ih]

theorem F2.imp {α β : Type} {R S : α → β → Prop} (hRS : ∀ a b, R a b → S a b) {l : List α} {m : List β} (h : F2 R l m) : F2 S l m := by
  induction h with
  | nil => exact .nil
  | cons h1 _ ih => exact .cons (hRS _ _ h1) ih

theorem F2.append {α β : Type} {R : α → β → Prop} {l l' : List α} {m m' : List β} (h : F2 R l m) (h' : F2 R l' m') : F2 R (l ++ l') (m ++ m') := by
  induction h with
  | nil => exact h'
  | cons h1 _ ih => exact .cons h1 ih

/-- What a shadow map says of the model's entries. -/
structure MRel (ρ : Rho) (k : IntKind) (m : List (Int × Value)) (es : List MapEntry) (clock : Nat) : Prop where
  perm : ∃ l : List MapEntry, l.Perm es ∧ F2 (fun kv e => e.key = .int k kv.1 ∧ VRel ρ kv.2 e.val) m l
  keys : (m.map Prod.fst).Nodup
  born : (es.map (·.born)).Nodup
  clock : ∀ e ∈ es, e.born < clock

def ORel (ρ : Rho) (p : Pl) : SObj → Option Obj → Prop
  | .cells cs own grown, some (.cells rc _ fz) =>
    cs.length = p.n ∧ p.b + p.n + p.x * p.z ≤ rc.size ∧ (∀ (k : Nat) (v : Value), cs[k]? = some v → ∃ rv, rc[p.b + k]? = some rv ∧ VRel ρ v rv) ∧
      (own = true → ∀ k, k < rc.size → ¬ (fz.1 ≤ k ∧ k < fz.2)) ∧ (grown = 0 → p.x = 0 ∧ p.b = 0) ∧ (grown ≠ 0 → p.z = grown)
  | .map k _ m, some (.map es clock) => MRel ρ k m es.toList clock
  | _, _ => False

structure HRel (ρ : Rho) (s : SW) (w : World) : Prop where
  next : ∀ i, s.next ≤ i → ρ i = none
  live : ∀ i o, s.heap i = some o → ∃ p, ρ i = some p ∧ ORel ρ p o (w.heap[p.r]?)
  inj : ∀ i j o o' p q, s.heap i = some o → s.heap j = some o' → ρ i = some p → ρ j = some q → p.r = q.r → i = j

/-- What a step of the run may have turned. -/
structure Ext (ρ : Rho) (s : SW) (w : World) (ρ' : Rho) (s' : SW) (w' : World) : Prop where
  le : Rho.le ρ ρ'
  fresh : ∀ i p, ρ i = none → ρ' i = some p → w.heap.size ≤ p.r ∨ ∃ j o q, s.heap j = some o ∧ o.own = true ∧ ρ j = some q ∧ q.r = p.r
  back : ∀ i o p, s'.heap i = some o → ρ i = some p → ∃ o₀, s.heap i = some o₀ ∧ (o.own = true → o₀.own = true)
  next : s.next ≤ s'.next
  size : w.heap.size ≤ w'.heap.size
  frame : ∀ r, r < w.heap.size → (∀ i o p, s.heap i = some o → o.own = true → ρ i = some p → p.r ≠ r) → w'.heap[r]? = w.heap[r]?
  os : w'.os = w.os
  tape : w'.tape = w.tape
  output : w'.output = w.output

theorem Ext.refl (ρ : Rho) (s : SW) (w : World) : Ext ρ s w ρ s w :=
  ⟨Rho.le_refl ρ, fun i p h h' => (by rw [h] at h'; cases h'), fun i o p h _ => ⟨o, h, id⟩, Nat.le_refl _, Nat.le_refl _, fun _ _ _ => rfl, rfl, rfl, rfl⟩

theorem Ext.trans {ρ ρ₁ ρ₂ : Rho} {s s₁ s₂ : SW} {w w₁ w₂ : World} (h : Ext ρ s w ρ₁ s₁ w₁) (k : Ext ρ₁ s₁ w₁ ρ₂ s₂ w₂) :
    Ext ρ s w ρ₂ s₂ w₂ := by
  refine ⟨Rho.le_trans h.le k.le, ?_, ?_, Nat.le_trans h.next k.next, Nat.le_trans h.size k.size, ?_, k.os.trans h.os, k.tape.trans h.tape, k.output.trans h.output⟩
  · intro i p hi hi'
    cases h1 : ρ₁ i with
    | some q =>
      have := k.le i q h1
      rw [hi'] at this; cases this
      exact h.fresh i p hi h1
    | none =>
      rcases k.fresh i p h1 hi' with h2 | ⟨j, o, q, hj, ho, hq, e⟩
      · exact .inl (Nat.le_trans h.size h2)
      · cases h3 : ρ j with
        | some q' =>
          obtain ⟨o₀, hj₀, ho₀⟩ := h.back j o q' hj h3
          have := h.le j q' h3
          rw [hq] at this; cases this
          exact .inr ⟨j, o₀, q, hj₀, ho₀ ho, h3, e⟩
        | none =>
          rcases h.fresh j q h3 hq with h4 | ⟨j', o', q', a, b, c, d⟩
          · exact .inl (e ▸ h4)
          · exact .inr ⟨j', o', q', a, b, c, d.trans e⟩
  · intro i o p hi hp
    obtain ⟨o₁, h1, h2⟩ := k.back i o p hi (h.le i p hp)
    obtain ⟨o₀, h3, h4⟩ := h.back i o₁ p h1 hp
    exact ⟨o₀, h3, fun x => h4 (h2 x)⟩
  · intro r hlt hno
    rw [k.frame r (Nat.lt_of_lt_of_le hlt h.size) ?_, h.frame r hlt hno]
    intro i o p hi ho hp e
    cases h1 : ρ i with
    | some q =>
      have := h.le i q h1
      rw [hp] at this; cases this
      obtain ⟨o₀, h3, h4⟩ := h.back i o p hi h1
      exact hno i o₀ p h3 (h4 ho) h1 e
    | none =>
      rcases h.fresh i p h1 hp with h4 | ⟨j', o', q', a, b, c, d⟩
      · omega
      · exact hno j' o' q' a b c (d.trans e)

/-- The frame: the temporaries, one by one. -/
structure FRel (ρ : Rho) (fr : List Value) (a : Act) : Prop where
  size : fr.length = a.tmps.size
  defers : a.defers = []
  val : ∀ (k : Nat) (v : Value), fr[k]? = some v → ∃ rv, a.tmps[k]? = some rv ∧ VRel ρ v rv

theorem FRel.mono {ρ ρ' : Rho} (h : Rho.le ρ ρ') {fr : List Value} {a : Act} (hf : FRel ρ fr a) : FRel ρ' fr a :=
  ⟨hf.size, hf.defers, fun k v hk => let ⟨rv, h1, h2⟩ := hf.val k v hk; ⟨rv, h1, h2.mono h⟩⟩

theorem VRel.undef {ρ : Rho} : VRel ρ Go.undef Go.undef := .tuple rfl fun k v v' h _ => by simp at h

def ev (fr : List Value) : Operand → Value
  | .tmp t => fr.getD t Go.undef
  | .const v => if pl1 v then v else junk
  | .global _ => junk
  | .func f => .func (.func f) #[] #[]

theorem FRel.ev {ρ : Rho} {fr : List Value} {a : Act} (h : FRel ρ fr a) (x : Operand) : VRel ρ (ev fr x) (a.eval x) := by
  cases x with
  | tmp t =>
    simp only [Sh.ev, Act.eval]
    cases hk : fr[t]? with
    | some v =>
      obtain ⟨rv, h1, h2⟩ := h.val t v hk
      simp [List.getD, hk, h1]; exact h2
    | none =>
      have : fr.length ≤ t := List.getElem?_eq_none_iff.1 hk
      have : a.tmps[t]? = none := Array.getElem?_eq_none (by rw [← h.size]; exact this)
      simp [List.getD, hk, this]; exact .undef
  | const v =>
    simp only [Sh.ev, Act.eval]
    by_cases hp : pl1 v = true
    · simp only [hp, if_true]; exact .of_pl1 hp
    · simp only [hp]; exact .junk
  | global g => exact .junk
  | func f => exact .func rfl rfl (fun k v v' h1 _ => by simp at h1) (fun k v v' h1 _ => by simp at h1)

def put (fr : List Value) (dst : Option Tmp) (v : Value) : List Value :=
  match dst with
  | some d => fr.set d v
  | none => fr

theorem FRel.put {ρ : Rho} {fr : List Value} {a : Act} (h : FRel ρ fr a) (dst : Option Tmp) {v rv : Value} (hv : VRel ρ v rv) :
    FRel ρ (put fr dst v) (a.put dst rv) := by
  cases dst with
  | none => exact h
  | some d =>
    refine ⟨by simp [Sh.put, Act.put, h.size], h.defers, fun k u hk => ?_⟩
    simp only [Sh.put, Act.put] at hk ⊢
    rw [List.getElem?_set] at hk
    by_cases e : d = k
    · subst e
      simp only [if_true] at hk
      split at hk
      · cases hk
        exact ⟨rv, by rw [Array.getElem?_setIfInBounds_self_of_lt (by rw [← h.size]; assumption)], hv⟩
      · cases hk
    · simp only [e, if_false] at hk
      rw [Array.getElem?_setIfInBounds_ne e]
      exact h.val k u hk

end Go.Sh

/- The heap's laws: a block that is written, a new one, one that has moved. -/
namespace Go.Sh
open Go

def Rho.upd (ρ : Rho) (i : Nat) (p : Pl) : Rho := fun j => if j = i then some p else ρ j

theorem Rho.le_upd {ρ : Rho} {i : Nat} {p : Pl} (h : ρ i = none) : Rho.le ρ (ρ.upd i p) := by
  intro j q hj
  unfold Rho.upd
  by_cases e : j = i
  · subst e; rw [h] at hj; cases hj
  · simp [e, hj]

theorem Rho.upd_same {ρ : Rho} {i : Nat} {p : Pl} : ρ.upd i p i = some p := by simp [Rho.upd]

theorem ORel.mono {ρ ρ' : Rho} (h : Rho.le ρ ρ') {p : Pl} {o : SObj} {ob : Option Obj} (ho : ORel ρ p o ob) : ORel ρ' p o ob := by
  cases o with
  | cells cs own grown =>
    cases ob with
    | none => exact ho
    | some ob =>
      cases ob with
      | cells rc e fz =>
        obtain ⟨h1, h2, h3, h4, h5⟩ := ho
        exact ⟨h1, h2, fun k v hk => let ⟨rv, a, b⟩ := h3 k v hk; ⟨rv, a, b.mono h⟩, h4, h5⟩
      | _ => exact ho
  | map k own m =>
    cases ob with
    | none => exact ho
    | some ob =>
      cases ob with
      | map es clock =>
        obtain ⟨⟨l, h1, h2⟩, h3, h4, h5⟩ := ho
        exact ⟨⟨l, h1, h2.imp fun a b hab => ⟨hab.1, hab.2.mono h⟩⟩, h3, h4, h5⟩
      | _ => exact ho

/-- The streams are as they were. -/
structure Same (w w' : World) : Prop where
  os : w'.os = w.os
  tape : w'.tape = w.tape
  output : w'.output = w.output

theorem Same.refl (w : World) : Same w w := ⟨rfl, rfl, rfl⟩

/-- The same heap: the same relation. -/
theorem HRel.congr {ρ : Rho} {s : SW} {w w' : World} (h : HRel ρ s w) (he : w'.heap = w.heap) : HRel ρ s w' :=
  ⟨h.next, fun i o hi => by rw [he]; exact h.live i o hi, h.inj⟩

theorem Ext.congr {ρ : Rho} {s : SW} {w w' : World} (he : w'.heap = w.heap) (hs : Same w w') : Ext ρ s w ρ s w' :=
  ⟨Rho.le_refl ρ, fun i p h h' => (by rw [h] at h'; cases h'), fun i o p h _ => ⟨o, h, id⟩, Nat.le_refl _, by rw [he]; exact Nat.le_refl _,
    fun _ _ _ => by rw [he], hs.os, hs.tape, hs.output⟩

theorem HRel.place {ρ : Rho} {s : SW} {w : World} (h : HRel ρ s w) {i : Nat} {o : SObj} (hi : s.heap i = some o) :
    ∃ p, ρ i = some p ∧ ORel ρ p o (w.heap[p.r]?) := h.live i o hi

theorem HRel.lt {ρ : Rho} {s : SW} {w : World} (h : HRel ρ s w) {i : Nat} {p : Pl} (hi : ρ i = some p) : i < s.next := by
  rcases Nat.lt_or_ge i s.next with h1 | h1
  · exact h1
  · rw [h.next i h1] at hi; cases hi

theorem HRel.lt_size {ρ : Rho} {s : SW} {w : World} (h : HRel ρ s w) {i : Nat} {o : SObj} {p : Pl} (hi : s.heap i = .some o) (hp : ρ i = .some p) : p.r < w.heap.size := by
  obtain ⟨q, hq, ho⟩ := h.live i o hi
  rw [hp] at hq; cases hq
  rcases Nat.lt_or_ge p.r w.heap.size with h1 | h1
  · exact h1
  · rw [Array.getElem?_eq_none h1] at ho
    cases o <;> exact ho.elim

/-- A block is written. -/
theorem HRel.upd {ρ : Rho} {s : SW} {w w' : World} (h : HRel ρ s w) {i : Nat} {o o' : SObj} {p : Pl} (hi : s.heap i = .some o) (hp : ρ i = .some p)
    (hw : ∀ r, r ≠ p.r → w'.heap[r]? = w.heap[r]?) (ho : ORel ρ p o' (w'.heap[p.r]?)) : HRel ρ (s.set i o') w' := by
  refine ⟨h.next, ?_, ?_⟩
  · intro j u hj
    simp only [SW.set] at hj
    by_cases e : j = i
    · subst e
      simp only [if_true] at hj
      cases hj
      exact ⟨p, hp, ho⟩
    · simp only [e, if_false] at hj
      obtain ⟨q, hq, hu⟩ := h.live j u hj
      refine ⟨q, hq, ?_⟩
      rw [hw q.r fun er => e (h.inj j i u o q p hj hi hq hp er)]
      exact hu
  · intro j k u u' q q' hj hk hq hq' er
    simp only [SW.set] at hj hk
    by_cases ej : j = i <;> by_cases ek : k = i
    · rw [ej, ek]
    · simp only [ek, if_false] at hk
      subst ej
      exact h.inj _ _ _ _ _ _ hi hk hq hq' er
    · simp only [ej, if_false] at hj
      subst ek
      exact h.inj _ _ _ _ _ _ hj hi hq hq' er
    · simp only [ej, if_false] at hj
      simp only [ek, if_false] at hk
      exact h.inj _ _ _ _ _ _ hj hk hq hq' er

theorem Ext.upd {ρ : Rho} {s : SW} {w w' : World} {i : Nat} {o o' : SObj} {p : Pl} (hi : s.heap i = .some o) (hp : ρ i = .some p) (hown : o.own = true)
    (hw : ∀ r, r ≠ p.r → w'.heap[r]? = w.heap[r]?) (hsz : w.heap.size ≤ w'.heap.size) (hs : Same w w') : Ext ρ s w ρ (s.set i o') w' := by
  refine ⟨Rho.le_refl ρ, fun i p h h' => (by rw [h] at h'; cases h'), ?_, Nat.le_refl _, hsz, ?_, hs.os, hs.tape, hs.output⟩
  · intro j u q hj _
    simp only [SW.set] at hj
    by_cases e : j = i
    · subst e; exact ⟨o, hi, fun _ => hown⟩
    · simp only [e, if_false] at hj
      exact ⟨u, hj, id⟩
  · intro r _ hno
    exact hw r fun e => hno i o p hi hown hp e.symm

/-- A new block. -/
theorem HRel.alloc {ρ : Rho} {s : SW} {w w' : World} (h : HRel ρ s w) {o : SObj} {p : Pl} (hr : p.r = w.heap.size)
    (hw : ∀ r, r < w.heap.size → w'.heap[r]? = w.heap[r]?) (ho : ORel (ρ.upd s.next p) p o (w'.heap[p.r]?)) :
    HRel (ρ.upd s.next p) (s.new o) w' := by
  have hn : ρ s.next = none := h.next _ (Nat.le_refl _)
  refine ⟨?_, ?_, ?_⟩
  · intro i hi
    simp only [SW.new] at hi
    simp only [Rho.upd, if_neg (show ¬ i = s.next by omega)]
    exact h.next i (by omega)
  · intro j u hj
    simp only [SW.new] at hj
    by_cases e : j = s.next
    · subst e
      simp only [if_true] at hj
      cases hj
      exact ⟨p, Rho.upd_same, ho⟩
    · simp only [e, if_false] at hj
      obtain ⟨q, hq, hu⟩ := h.live j u hj
      refine ⟨q, by simp [Rho.upd, e, hq], ?_⟩
      rw [hw q.r (h.lt_size hj hq)]
      exact hu.mono (Rho.le_upd hn)
  · intro j k u u' q q' hj hk hq hq' er
    simp only [SW.new] at hj hk
    simp only [Rho.upd] at hq hq'
    by_cases ej : j = s.next <;> by_cases ek : k = s.next
    · rw [ej, ek]
    · simp only [ek, if_false] at hk hq'
      simp only [ej, if_true] at hq
      cases hq
      have := h.lt_size hk hq'
      omega
    · simp only [ej, if_false] at hj hq
      simp only [ek, if_true] at hq'
      cases hq'
      have := h.lt_size hj hq
      omega
    · simp only [ej, if_false] at hj hq
      simp only [ek, if_false] at hk hq'
      exact h.inj _ _ _ _ _ _ hj hk hq hq' er

theorem Ext.alloc {ρ : Rho} {s : SW} {w w' : World} (h : HRel ρ s w) {o : SObj} {p : Pl} (hr : p.r = w.heap.size)
    (hw : ∀ r, r < w.heap.size → w'.heap[r]? = w.heap[r]?) (hsz : w.heap.size ≤ w'.heap.size) (hs : Same w w') :
    Ext ρ s w (ρ.upd s.next p) (s.new o) w' := by
  have hn : ρ s.next = none := h.next _ (Nat.le_refl _)
  refine ⟨Rho.le_upd hn, ?_, ?_, by simp [SW.new], hsz, fun r hlt _ => hw r hlt, hs.os, hs.tape, hs.output⟩
  · intro j q h1 h2
    simp only [Rho.upd] at h2
    by_cases e : j = s.next
    · simp only [e, if_true] at h2
      cases h2
      exact .inl (by omega)
    · simp only [e, if_false] at h2
      rw [h1] at h2; cases h2
  · intro j u q hj hq
    simp only [SW.new] at hj
    by_cases e : j = s.next
    · rw [e, hn] at hq; cases hq
    · simp only [e, if_false] at hj
      exact ⟨u, hj, id⟩

/-- A block goes on under a new number, in the same place. -/
theorem HRel.move {ρ : Rho} {s : SW} {w w' : World} (h : HRel ρ s w) {i : Nat} {o o' : SObj} {p q : Pl} (hi : s.heap i = .some o) (hp : ρ i = .some p) (hr : q.r = p.r)
    (hw : ∀ r, r ≠ p.r → w'.heap[r]? = w.heap[r]?) (ho : ORel (ρ.upd s.next q) q o' (w'.heap[p.r]?)) :
    HRel (ρ.upd s.next q) ((s.kill i).new o') w' := by
  have hn : ρ s.next = none := h.next _ (Nat.le_refl _)
  have hin : i ≠ s.next := fun e => by rw [e, hn] at hp; cases hp
  refine ⟨?_, ?_, ?_⟩
  · intro k hk
    simp only [SW.new, SW.kill] at hk
    simp only [Rho.upd, if_neg (show ¬ k = s.next by omega)]
    exact h.next k (by omega)
  · intro j u hj
    simp only [SW.new, SW.kill] at hj
    by_cases e : j = s.next
    · subst e
      simp only [if_true] at hj
      cases hj
      exact ⟨q, Rho.upd_same, by rw [hr]; exact ho⟩
    · simp only [e, if_false] at hj
      by_cases e2 : j = i
      · simp [e2] at hj
      · simp only [e2, if_false] at hj
        obtain ⟨p', hp', hu⟩ := h.live j u hj
        refine ⟨p', by simp [Rho.upd, e, hp'], ?_⟩
        rw [hw p'.r fun er => e2 (h.inj _ _ _ _ _ _ hj hi hp' hp er)]
        exact hu.mono (Rho.le_upd hn)
  · intro j k u u' p1 p2 hj hk h1 h2 er
    simp only [SW.new, SW.kill] at hj hk
    simp only [Rho.upd] at h1 h2
    by_cases ej : j = s.next <;> by_cases ek : k = s.next
    · rw [ej, ek]
    · simp only [ek, if_false] at hk h2
      simp only [ej, if_true] at h1
      cases h1
      by_cases e2 : k = i
      · simp [e2] at hk
      · simp only [e2, if_false] at hk
        exact (e2 (h.inj _ _ _ _ _ _ hk hi h2 hp (by omega))).elim
    · simp only [ej, if_false] at hj h1
      simp only [ek, if_true] at h2
      cases h2
      by_cases e2 : j = i
      · simp [e2] at hj
      · simp only [e2, if_false] at hj
        exact (e2 (h.inj _ _ _ _ _ _ hj hi h1 hp (by omega))).elim
    · simp only [ej, if_false] at hj h1
      simp only [ek, if_false] at hk h2
      by_cases e2 : j = i
      · simp [e2] at hj
      · by_cases e3 : k = i
        · simp [e3] at hk
        · simp only [e2, if_false] at hj
          simp only [e3, if_false] at hk
          exact h.inj _ _ _ _ _ _ hj hk h1 h2 er

theorem Ext.move {ρ : Rho} {s : SW} {w w' : World} (h : HRel ρ s w) {i : Nat} {o o' : SObj} {p q : Pl} (hi : s.heap i = .some o) (hp : ρ i = .some p) (hown : o.own = true) (hr : q.r = p.r)
    (hw : ∀ r, r ≠ p.r → w'.heap[r]? = w.heap[r]?) (hsz : w.heap.size ≤ w'.heap.size) (hs : Same w w') :
    Ext ρ s w (ρ.upd s.next q) ((s.kill i).new o') w' := by
  have hn : ρ s.next = none := h.next _ (Nat.le_refl _)
  refine ⟨Rho.le_upd hn, ?_, ?_, by simp [SW.new, SW.kill], hsz, ?_, hs.os, hs.tape, hs.output⟩
  · intro j p' h1 h2
    simp only [Rho.upd] at h2
    by_cases e : j = s.next
    · simp only [e, if_true] at h2
      cases h2
      exact .inr ⟨i, o, p, hi, hown, hp, hr.symm⟩
    · simp only [e, if_false] at h2
      rw [h1] at h2; cases h2
  · intro j u p' hj hq
    simp only [SW.new, SW.kill] at hj
    by_cases e : j = s.next
    · rw [e, hn] at hq; cases hq
    · simp only [e, if_false] at hj
      by_cases e2 : j = i
      · simp [e2] at hj
      · simp only [e2, if_false] at hj
        exact ⟨u, hj, id⟩
  · intro r _ hno
    exact hw r fun e => hno i o p hi hown hp e.symm

/-- Blocks may be forgotten, numbers be passed over. -/
structure SW.less (s₀ s : SW) : Prop where
  heap : ∀ i o, s₀.heap i = some o → s.heap i = some o
  next : s.next ≤ s₀.next

theorem HRel.less {ρ : Rho} {s₀ s : SW} {w : World} (h : HRel ρ s w) (hl : SW.less s₀ s) : HRel ρ s₀ w :=
  ⟨fun i hi => h.next i (Nat.le_trans hl.next hi), fun i o hi => h.live i o (hl.heap i o hi), fun i j o o' p q hi hj => h.inj i j o o' p q (hl.heap i o hi) (hl.heap j o' hj)⟩

theorem Ext.less {ρ ρ' : Rho} {s₀ s s' : SW} {w w' : World} (hl : SW.less s₀ s) (h : Ext ρ s₀ w ρ' s' w') : Ext ρ s w ρ' s' w' :=
  ⟨h.le, fun i p h1 h2 => (h.fresh i p h1 h2).imp id fun ⟨j, o, q, a, b⟩ => ⟨j, o, q, hl.heap j o a, b⟩,
    fun i o p h1 h2 => let ⟨o₀, a, b⟩ := h.back i o p h1 h2; ⟨o₀, hl.heap i o₀ a, b⟩, Nat.le_trans hl.next h.next, h.size,
    fun r hr hno => h.frame r hr fun i o p a => hno i o p (hl.heap i o a), h.os, h.tape, h.output⟩

theorem Ext.less' {ρ ρ' : Rho} {s s₁ s' : SW} {w w' : World} (hl : SW.less s' s₁) (h : Ext ρ s w ρ' s₁ w') : Ext ρ s w ρ' s' w' :=
  ⟨h.le, h.fresh, fun i o p h1 h2 => h.back i o p (hl.heap i o h1) h2, Nat.le_trans h.next hl.next, h.size, h.frame, h.os, h.tape, h.output⟩

/-! Reading. -/

theorem Addr.add_none (r o n : Nat) : (⟨r, o, none⟩ : Addr).add n = ⟨r, o + n, none⟩ := by
  unfold Addr.add
  split
  · rename_i h; subst h; rfl
  · rfl

theorem HRel.cell {ρ : Rho} {s : SW} {w : World} (h : HRel ρ s w) {i k : Nat} {cs : List Value} {own : Bool} {gr : Nat} {p : Pl} {v : Value} (hi : s.heap i = .some (.cells cs own gr))
    (hp : ρ i = .some p) (hk : cs[k]? = .some v) : ∃ rv, w.cell? ⟨p.r, p.b + k, none⟩ = .some rv ∧ VRel ρ v rv := by
  obtain ⟨q, hq, ho⟩ := h.live i _ hi
  rw [hp] at hq; cases hq
  cases hb : w.heap[p.r]? with
  | none => rw [hb] at ho; exact ho.elim
  | some ob =>
    rw [hb] at ho
    cases ob with
    | cells rc e fz =>
      obtain ⟨_, _, h3, _⟩ := ho
      obtain ⟨rv, h4, h5⟩ := h3 k v hk
      exact ⟨rv, by simp [World.cell?, hb, h4], h5⟩
    | _ => exact ho.elim

theorem run_loadCellsFrom {P : Program} {w : World} {R : Value → Value → Prop} (r o : Nat) : ∀ (vs : List Value) (i : Nat) (acc : Array Value),
    (∀ k v, vs[k]? = some v → ∃ rv, w.cell? ⟨r, o + i + k, none⟩ = some rv ∧ R v rv) →
    ∃ rvs : List Value, F2 R vs rvs ∧ (loadCellsFrom ⟨r, o, none⟩ i vs.length acc).run P w = .ok (acc ++ rvs.toArray) w := by
  intro vs
  induction vs with
  | nil => intro i acc _; exact ⟨[], .nil, by simp [loadCellsFrom]⟩
  | cons v vs ih =>
    intro i acc h
    obtain ⟨rv, h1, h2⟩ := h 0 v rfl
    obtain ⟨rvs, h3, h4⟩ := ih (i + 1) (acc.push rv) (fun k u hk => by
      have := h (k + 1) u (by simpa using hk)
      rwa [show o + i + (k + 1) = o + (i + 1) + k by omega] at this)
    refine ⟨rv :: rvs, .cons h2 h3, ?_⟩
    simp only [List.length_cons, loadCellsFrom, Sem.run_bind, Addr.add_none]
    rw [run_load, show w.cell? ⟨r, o + i, none⟩ = some rv by simpa using h1]
    simp only [Result.andThen_ok]
    rw [h4]
    simp

theorem F2.get {α β : Type} {R : α → β → Prop} {l : List α} {m : List β} (h : F2 R l m) : ∀ (k : Nat) (a : α) (b : β), l[k]? = some a → m[k]? = some b → R a b := by
  induction h with
  | nil => intro k a b h; simp at h
  | cons h1 _ ih =>
    intro k a b
    cases k with
    | zero => intro ha hb; simp at ha hb; subst ha hb; exact h1
    | succ k => intro ha hb; exact ih k a b (by simpa using ha) (by simpa using hb)

theorem F2.of_get {α β : Type} {R : α → β → Prop} : ∀ {l : List α} {m : List β}, l.length = m.length → (∀ (k : Nat) (a : α) (b : β), l[k]? = some a → m[k]? = some b → R a b) → F2 R l m
  | [], [], _, _ => .nil
  | a :: l, b :: m, h, k => .cons (k 0 a b rfl rfl) (F2.of_get (by simpa using h) fun i x y hx hy => k (i + 1) x y (by simpa using hx) (by simpa using hy))

/-- A row of cells of a block, read. -/
theorem HRel.loadCells {ρ : Rho} {s : SW} {w : World} (h : HRel ρ s w) {P : Program} {i o n : Nat} {cs : List Value} {own : Bool} {gr : Nat} {p : Pl} (hi : s.heap i = .some (.cells cs own gr))
    (hp : ρ i = .some p) (hn : o + n ≤ cs.length) : ∃ rvs : List Value, F2 (VRel ρ) ((cs.drop o).take n) rvs ∧ (Go.loadCells ⟨p.r, p.b + o, none⟩ n).run P w = .ok rvs.toArray w := by
  have hl : ((cs.drop o).take n).length = n := by simp; omega
  obtain ⟨rvs, h1, h2⟩ := run_loadCellsFrom (P := P) (w := w) (R := VRel ρ) p.r (p.b + o) ((cs.drop o).take n) 0 #[] (fun k v hk => by
    have hk' : cs[o + k]? = .some v := by
      have : k < n := by
        rcases Nat.lt_or_ge k n with h | h
        · exact h
        · rw [List.getElem?_eq_none (by omega)] at hk; cases hk
      rw [List.getElem?_take_of_lt this, List.getElem?_drop] at hk
      exact hk
    have := h.cell hi hp hk'
    rwa [show p.b + (o + k) = p.b + o + 0 + k by omega] at this)
  rw [hl] at h2
  exact ⟨rvs, h1, by simpa [Go.loadCells] using h2⟩

end Go.Sh

/- The operations that read and write cells. -/
namespace Go.Sh
open Go

def setL : List Value → Nat → List Value → List Value
  | c, _, [] => c
  | c, j, v :: vs => setL (c.set j v) (j + 1) vs

def setR : Array Value → Nat → List Value → Array Value
  | c, _, [] => c
  | c, j, v :: vs => setR (c.setIfInBounds j v) (j + 1) vs

theorem setL_length : ∀ (vs c : List Value) (j : Nat), (setL c j vs).length = c.length
  | [], _, _ => rfl
  | _ :: vs, c, j => by simp [setL, setL_length vs]

theorem setR_size : ∀ (vs : List Value) (c : Array Value) (j : Nat), (setR c j vs).size = c.size
  | [], _, _ => rfl
  | _ :: vs, c, j => by simp [setR, setR_size vs]

theorem setL_get : ∀ (vs c : List Value) (j k : Nat), j + vs.length ≤ c.length → (setL c j vs)[k]? = if j ≤ k ∧ k < j + vs.length then vs[k - j]? else c[k]?
  | [], c, j, k, _ => by simp [setL]; intro h1 h2; omega
  | v :: vs, c, j, k, h => by
    simp only [List.length_cons] at h
    simp only [setL]
    rw [setL_get vs (c.set j v) (j + 1) k (by simp; omega)]
    by_cases h1 : j + 1 ≤ k ∧ k < j + 1 + vs.length
    · rw [if_pos h1, if_pos (by simp; omega)]
      rw [show k - j = (k - (j + 1)) + 1 by omega, List.getElem?_cons_succ]
    · rw [if_neg h1]
      by_cases h2 : k = j
      · subst h2
        rw [if_pos (by simp), List.getElem?_set_self (by omega)]
        simp
      · rw [if_neg (by simp; omega), List.getElem?_set_ne (by omega)]

theorem setR_get : ∀ (vs : List Value) (c : Array Value) (j k : Nat), j + vs.length ≤ c.size → (setR c j vs)[k]? = if j ≤ k ∧ k < j + vs.length then vs[k - j]? else c[k]?
  | [], c, j, k, _ => by simp [setR]; intro h1 h2; omega
  | v :: vs, c, j, k, h => by
    simp only [List.length_cons] at h
    simp only [setR]
    rw [setR_get vs (c.setIfInBounds j v) (j + 1) k (by simp; omega)]
    by_cases h1 : j + 1 ≤ k ∧ k < j + 1 + vs.length
    · rw [if_pos h1, if_pos (by simp; omega)]
      rw [show k - j = (k - (j + 1)) + 1 by omega, List.getElem?_cons_succ]
    · rw [if_neg h1]
      by_cases h2 : k = j
      · subst h2
        rw [if_pos (by simp), Array.getElem?_setIfInBounds_self_of_lt (by omega)]
        simp
      · rw [if_neg (by simp; omega), Array.getElem?_setIfInBounds_ne (by omega)]

/-- One cell at a time. -/
theorem run_storeCells {P : Program} (r o : Nat) : ∀ (vs : List Value) (i : Nat) (w : World) (rc : Array Value) (e : TypeId) (fz : Nat × Nat),
    w.heap[r]? = some (.cells rc e fz) → o + i + vs.length ≤ rc.size → (∀ k, k < rc.size → ¬ (fz.1 ≤ k ∧ k < fz.2)) → (∀ v ∈ vs, v.oneCell' = true) →
    ∃ w', (storeCells ⟨r, o, none⟩ vs i).run P w = .ok () w' ∧ w'.heap[r]? = some (.cells (setR rc (o + i) vs) e fz) ∧ (∀ r', r' ≠ r → w'.heap[r']? = w.heap[r']?) ∧
      w'.heap.size = w.heap.size ∧ Same w w' := by
  intro vs
  induction vs with
  | nil => intro i w rc e fz h _ _ _; exact ⟨w, by simp [storeCells], by simpa [setR] using h, fun _ _ => rfl, rfl, Same.refl w⟩
  | cons v vs ih =>
    intro i w rc e fz h hl hz hv
    simp only [List.length_cons] at hl
    have hc : w.cell? ⟨r, o + i, none⟩ = some rc[o + i] := by
      simp only [World.cell?, h]
      rw [Array.getElem?_eq_getElem (by omega)]
      simp
    have hf : w.frozen? ⟨r, o + i, none⟩ = false := by
      obtain ⟨lo, hi⟩ := fz
      simp only [World.frozen?, h]
      have := hz (o + i) (by omega)
      simp only at this
      simp only [Bool.and_eq_false_imp, decide_eq_true_eq, decide_eq_false_iff_not]
      intro h1 h2; exact this ⟨h1, h2⟩
    have hb : (w.setCell ⟨r, o + i, none⟩ v).heap[r]? = some (.cells (rc.setIfInBounds (o + i) v) e fz) := by
      simp only [World.setCell, Array.getElem?_modify, if_true, h]
      simp
    obtain ⟨w', h1, h2, h3, h4, h5⟩ := ih (i + 1) (w.setCell ⟨r, o + i, none⟩ v) (rc.setIfInBounds (o + i) v) e fz hb (by simp; omega) (by simpa using hz)
      (fun u hu => hv u (List.mem_cons_of_mem _ hu))
    refine ⟨w', ?_, ?_, ?_, ?_, ?_⟩
    · simp only [storeCells, Sem.run_bind, Addr.add_none]
      rw [Go.run_store _ _ _ _ _ (hv v List.mem_cons_self)]
      simp only [hc, hf]
      simp only [Bool.false_eq_true, if_false, Result.andThen_ok]
      exact h1
    · rw [h2]; simp [setR, Nat.add_assoc]
    · intro r' hr'
      rw [h3 r' hr', RowKit.Below.heap_setCell w _ v r' hr']
    · rw [h4]; simp
    · exact ⟨h5.os, h5.tape, h5.output⟩

theorem VRel.cells {ρ : Rho} {v rv : Value} (h : VRel ρ v rv) (hv : ∀ c ∈ v.cells.toList, c.oneCell' = true) : F2 (VRel ρ) v.cells.toList rv.cells.toList := by
  cases h with
  | junk => exact absurd (hv _ (by simp only [Value.cells, Sh.junk]; exact List.mem_singleton.2 rfl)) (by simp [Value.oneCell'])
  | agg h1 h2 => exact F2.of_get (by simpa [Value.cells] using h1) (by simpa [Value.cells] using h2)
  | tuple h1 h2 => simp [Value.cells, Value.oneCell'] at hv
  | plain h0 =>
    cases v <;> first | (simp only [Value.cells]; exact .cons (.plain h0) .nil) | (simp [pl0] at h0)
  | ptr hp => exact .cons (.ptr hp) .nil
  | slice hp h1 h2 => exact .cons (.slice hp h1 h2) .nil
  | empty => exact .cons .empty .nil
  | map hp => exact .cons (.map hp) .nil
  | func h1 h2 h3 h4 => exact .cons (.func h1 h2 h3 h4) .nil

theorem VRel.oneCell {ρ : Rho} {v rv : Value} (h : VRel ρ v rv) (hv : v.oneCell' = true) : rv.oneCell' = true := by
  cases h <;> first | assumption | rfl | (exact absurd hv (by simp [Sh.junk, Value.oneCell'])) | (simp [Value.oneCell'] at hv)

theorem F2.oneCell {ρ : Rho} {vs rvs : List Value} (h : F2 (VRel ρ) vs rvs) (hv : ∀ v ∈ vs, v.oneCell' = true) : ∀ v ∈ rvs, v.oneCell' = true := by
  induction h with
  | nil => simp
  | cons h1 _ ih =>
    intro v hm
    rcases List.mem_cons.1 hm with rfl | hm
    · exact h1.oneCell (hv _ List.mem_cons_self)
    · exact ih (fun u hu => hv u (List.mem_cons_of_mem _ hu)) v hm

/-- Cells of a block of one's own, written. -/
theorem HRel.storeCells {ρ : Rho} {s : SW} {w : World} (h : HRel ρ s w) {P : Program} {i o : Nat} {cs vs rvs : List Value} {gr : Nat} {p : Pl} (hi : s.heap i = some (.cells cs true gr))
    (hp : ρ i = some p) (hn : o + vs.length ≤ cs.length) (hv : F2 (VRel ρ) vs rvs) (h1 : ∀ v ∈ vs, v.oneCell' = true) :
    ∃ w', (Go.storeCells ⟨p.r, p.b + o, none⟩ rvs).run P w = .ok () w' ∧ HRel ρ (s.set i (.cells (setL cs o vs) true gr)) w' ∧ Ext ρ s w ρ (s.set i (.cells (setL cs o vs) true gr)) w' := by
  obtain ⟨q, hq, ho⟩ := h.live i _ hi
  rw [hp] at hq; cases hq
  cases hb : w.heap[p.r]? with
  | none => rw [hb] at ho; exact ho.elim
  | some ob =>
    rw [hb] at ho
    cases ob with
    | cells rc e fz =>
      obtain ⟨a1, a2, a3, a4, a5⟩ := ho
      have hlen := hv.length
      obtain ⟨w', b1, b2, b3, b4, b5⟩ := run_storeCells (P := P) p.r (p.b + o) rvs 0 w rc e fz hb (by omega) (a4 rfl) (hv.oneCell h1)
      refine ⟨w', b1, h.upd hi hp b3 ?_, Ext.upd hi hp rfl b3 (by omega) b5⟩
      rw [b2]
      refine ⟨by rw [setL_length]; exact a1, by rw [setR_size]; exact a2, ?_, by rw [setR_size]; exact a4, a5⟩
      intro k v hk
      rw [setL_get vs cs o k hn] at hk
      rw [setR_get rvs rc (p.b + o + 0) (p.b + k) (by omega)]
      by_cases hin : o ≤ k ∧ k < o + vs.length
      · rw [if_pos hin] at hk
        rw [if_pos (by omega), show p.b + k - (p.b + o + 0) = k - o by omega]
        have hlt : k - o < rvs.length := by omega
        exact ⟨rvs[k - o], by rw [List.getElem?_eq_getElem hlt], hv.get _ _ _ hk (by rw [List.getElem?_eq_getElem hlt])⟩
      · rw [if_neg hin] at hk
        rw [if_neg (by omega)]
        exact a3 k v hk
    | _ => exact ho.elim

/-- A new row of cells. -/
theorem HRel.newCells {ρ : Rho} {s : SW} {w w₁ : World} (h : HRel ρ s w) {cs : List Value} {rc : Array Value} {e : TypeId} (x z : Nat) (grown : Nat) (hw : w₁.heap = w.heap) (hs : Same w w₁)
    (hx : cs.length + x * z ≤ rc.size) (hg : grown = 0 → x = 0) (hg' : grown ≠ 0 → z = grown) (hv : ∀ (k : Nat) (v : Value), cs[k]? = some v → ∃ rv, rc[k]? = some rv ∧ VRel ρ v rv) :
    HRel (ρ.upd s.next ⟨w.heap.size, 0, cs.length, x, z⟩) (s.new (.cells cs true grown)) (w₁.alloc (.cells rc e)) ∧
      Ext ρ s w (ρ.upd s.next ⟨w.heap.size, 0, cs.length, x, z⟩) (s.new (.cells cs true grown)) (w₁.alloc (.cells rc e)) := by
  have hn : ρ s.next = none := h.next _ (Nat.le_refl _)
  have hold : ∀ r, r < w.heap.size → (w₁.alloc (.cells rc e)).heap[r]? = w.heap[r]? := fun r hr => by
    rw [RowKit.Below.heap_alloc _ _ _ (by rw [hw]; exact hr), hw]
  refine ⟨h.alloc rfl hold ?_, Ext.alloc h rfl hold (by simp [hw]) ⟨hs.os, hs.tape, hs.output⟩⟩
  have : (w₁.alloc (.cells rc e)).heap[w.heap.size]? = some (.cells rc e) := by
    rw [← hw]; show (w₁.heap.push _)[w₁.heap.size]? = _; simp
  rw [this]
  refine ⟨rfl, by simpa using hx, ?_, fun _ k _ hk => ?_, fun h => ⟨hg h, rfl⟩, hg'⟩
  · intro k v hk
    obtain ⟨rv, a, b⟩ := hv k v hk
    exact ⟨rv, by simpa using a, b.mono (Rho.le_upd hn)⟩
  · exact absurd hk.2 (by simp)

end Go.Sh

/- What is reckoned without memory: comparisons, sums, conversions of numbers. -/
namespace Go.Sh
open Go

def sz (P : Program) (t : TypeId) : Option Nat := (P.info? t).map (·.size)
def zeroV (P : Program) (t : TypeId) : Option Value := (P.info? t).bind (·.zero)
def bytesV (P : Program) (t : TypeId) : Option Nat := (P.info? t).map (·.bytes)
def isAggD : TypeDesc → Bool
  | .struct _ | .array _ _ => true
  | _ => false
def aggT (P : Program) (t : TypeId) : Option Bool := (P.underlying t).map isAggD

section
variable {P : Program} (w : World)
theorem run_typeInfo {t : TypeId} {i : TypeInfo} (h : P.info? t = some i) : (typeInfo t).run P w = .ok i w := by
  simp [typeInfo, h]
theorem run_sizeOf' {t : TypeId} {n : Nat} (h : sz P t = some n) : (sizeOf t).run P w = .ok n w := by
  unfold sz at h
  cases hi : P.info? t with
  | none => rw [hi] at h; cases h
  | some i => rw [hi] at h; cases h; simp [sizeOf, run_typeInfo w hi]
theorem run_zeroValue' {t : TypeId} {v : Value} (h : zeroV P t = some v) : (zeroValue t).run P w = .ok v w := by
  unfold zeroV at h
  cases hi : P.info? t with
  | none => rw [hi] at h; cases h
  | some i =>
    rw [hi] at h
    simp only [Option.bind_some] at h
    simp [zeroValue, run_typeInfo w hi, h]
theorem run_underlying' {t : TypeId} {d : TypeDesc} (h : P.underlying t = some d) : (underlying t).run P w = .ok d w := by
  simp [underlying, h]
theorem run_isAgg' {t : TypeId} {b : Bool} (h : aggT P t = some b) : (isAgg t).run P w = .ok b w := by
  unfold aggT at h
  cases hi : P.underlying t with
  | none => rw [hi] at h; cases h
  | some d =>
    rw [hi] at h; cases h
    simp only [isAgg, Sem.run_bind, run_underlying' w hi, Result.andThen_ok]
    cases d <;> rfl
end

def sPart (P : Program) (t : TypeId) (cs : Array Value) (off : Nat) : Option Value :=
  match aggT P t with
  | some true => (sz P t).map fun n => .agg (cs.extract off (off + n))
  | some false => cs[off]?
  | none => none

theorem run_part' {P : Program} {t : TypeId} {cs : Array Value} {off : Nat} {v : Value} (h : sPart P t cs off = some v) (w : World) : (part t cs off).run P w = .ok v w := by
  unfold sPart at h
  cases ha : aggT P t with
  | none => rw [ha] at h; cases h
  | some b =>
    rw [ha] at h
    simp only [part, Sem.run_bind, run_isAgg' w ha, Result.andThen_ok]
    cases b with
    | true =>
      simp only at h
      cases hs : sz P t with
      | none => rw [hs] at h; cases h
      | some n =>
        rw [hs] at h; cases h
        simp [run_sizeOf' w hs]
    | false =>
      simp only at h
      simp [h]

/-- A part of a related aggregate. -/
theorem sPart_rel {P : Program} {ρ : Rho} {t : TypeId} {cs cs' : Array Value} {off : Nat} {v : Value} (hn : cs.size = cs'.size)
    (hc : ∀ (k : Nat) (v v' : Value), cs[k]? = some v → cs'[k]? = some v' → VRel ρ v v') (h : sPart P t cs off = some v) : ∃ rv, sPart P t cs' off = some rv ∧ VRel ρ v rv := by
  unfold sPart at h ⊢
  cases ha : aggT P t with
  | none => rw [ha] at h; cases h
  | some b =>
    rw [ha] at h
    cases b with
    | true =>
      simp only at h ⊢
      cases hs : sz P t with
      | none => rw [hs] at h; cases h
      | some n =>
        rw [hs] at h; cases h
        refine ⟨_, rfl, .agg (by simp [hn]) fun k u u' h1 h2 => ?_⟩
        rw [Array.getElem?_extract] at h1 h2
        split at h1 <;> split at h2 <;> first | (cases h1; done) | (cases h2; done) | exact hc _ _ _ h1 h2
    | false =>
      simp only at h ⊢
      have hlt : off < cs.size := by
        rcases Nat.lt_or_ge off cs.size with h1 | h1
        · exact h1
        · rw [Array.getElem?_eq_none h1] at h; cases h
      exact ⟨cs'[off], Array.getElem?_eq_getElem (by omega), hc off v _ h (Array.getElem?_eq_getElem (by omega))⟩

def sEqFields (eq : TypeId → Value → Value → Option Bool) (P : Program) (xs ys : Array Value) : List Field → Option Bool
  | [] => some true
  | f :: fs =>
    if f.name ≠ "_" then
      match sPart P f.type xs f.offset, sPart P f.type ys f.offset with
      | some a, some b =>
        match eq f.type a b, sEqFields eq P xs ys fs with
        | some r, some r' => some (r && r')
        | _, _ => none
      | _, _ => none
    else sEqFields eq P xs ys fs

def sEqElems (eq : Value → Value → Option Bool) (P : Program) (e : TypeId) (n : Nat) (xs ys : Array Value) : List Nat → Option Bool
  | [] => some true
  | i :: is =>
    match sPart P e xs (i * n), sPart P e ys (i * n) with
    | some a, some b =>
      match eq a b, sEqElems eq P e n xs ys is with
      | some r, some r' => some (r && r')
      | _, _ => none
    | _, _ => none

/-- Are two values equal? -/
def sEqT (P : Program) : Nat → TypeId → Value → Value → Option Bool
  | 0, _, _, _ => none
  | d + 1, t, x, y =>
    match P.underlying t, x, y with
    | some .bool, .bool a, .bool b => some (a == b)
    | some (.int _), .int k a, .int k' b => if k = k' then some (a == b) else none
    | some .string, .string a, .string b => some (a == b)
    | some (.pointer _), .pointer none, .pointer b => some b.isNone
    | some (.pointer _), .pointer (some _), .pointer none => some false
    | some (.slice _), .slice none _ _, .slice b _ _ => some b.isNone
    | some (.slice _), .slice (some _) _ _, .slice none _ _ => some false
    | some (.map _ _), .map none, .map b => some b.isNone
    | some (.map _ _), .map (some _), .map none => some false
    | some (.func _ _ _), .nilFunc, .nilFunc => some true
    | some (.func _ _ _), .nilFunc, .func _ _ _ => some false
    | some (.func _ _ _), .func _ _ _, .nilFunc => some false
    | some (.struct fs), .agg xs, .agg ys => if P.stoodInHeld t then none else sEqFields (fun t => sEqT P d t) P xs ys fs.toList
    | some (.array len e), .agg xs, .agg ys =>
      match sz P e with
      | some n => sEqElems (fun x y => sEqT P d e x y) P e n xs ys (List.range' 0 len)
      | none => none
    | _, _, _ => none

theorem run_eqFields {P : Program} {d : Nat} {eq : TypeId → Value → Value → Option Bool} (heq : ∀ t x y b, eq t x y = some b → ∀ w, (Op.equalIn d t x y).run P w = .ok b w)
    (xs ys : Array Value) : ∀ (fs : List Field) (b : Bool), sEqFields eq P xs ys fs = some b → ∀ w, (Op.eqFields d xs ys fs).run P w = .ok b w := by
  intro fs
  induction fs with
  | nil => intro b h w; cases h; rfl
  | cons f fs ih =>
    intro b h w
    simp only [sEqFields] at h
    simp only [Op.eqFields, Sem.run_ite]
    split
    · rename_i hf
      rw [if_pos hf] at h
      split at h
      · rename_i a c ha hc
        split at h
        · rename_i r r' hr hr'
          cases h
          simp only [Sem.run_bind, run_part' ha, run_part' hc, Result.andThen_ok, heq _ _ _ _ hr]
          cases r
          · simp
          · simp [ih _ hr']
        · cases h
      · cases h
    · rename_i hf
      rw [if_neg hf] at h
      exact ih _ h w

theorem run_eqElems {P : Program} {d : Nat} {eq : Value → Value → Option Bool} {e : TypeId} {n : Nat} (heq : ∀ x y b, eq x y = some b → ∀ w, (Op.equalIn d e x y).run P w = .ok b w)
    (xs ys : Array Value) : ∀ (is : List Nat) (b : Bool), sEqElems eq P e n xs ys is = some b → ∀ w,
      ((forIn is ((none, ()) : Option Bool × PUnit) fun i _ => do
        if !(← Op.equalIn d e (← part e xs (i * n)) (← part e ys (i * n))) then pure (.done (some false, ())) else pure (.yield (none, ()))) : Sem _).run P w =
        .ok (if b then (none, ()) else (some false, ())) w := by
  intro is
  induction is with
  | nil => intro b h w; cases h; rfl
  | cons i is ih =>
    intro b h w
    simp only [sEqElems] at h
    split at h
    · rename_i a c ha hc
      split at h
      · rename_i r r' hr hr'
        cases h
        simp only [List.forIn_cons, Sem.run_bind, run_part' ha, run_part' hc, Result.andThen_ok, heq _ _ _ hr]
        cases r
        · simp
        · simp only [Bool.not_true, Bool.false_eq_true, if_false, Sem.run_pure, Result.andThen_ok, Bool.true_and]
          exact ih _ hr' w
      · cases h
    · cases h

theorem run_equalIn' {P : Program} : ∀ (d : Nat) (t : TypeId) (x y : Value) (b : Bool), sEqT P d t x y = some b → ∀ w, (Op.equalIn d t x y).run P w = .ok b w := by
  intro d
  induction d with
  | zero => intro t x y b h; cases h
  | succ d ih =>
    intro t x y b h w
    simp only [sEqT] at h
    split at h
    case h_13 ht =>
      rename_i fs xs ys
      split at h
      · cases h
      · rename_i hp
        have hf : P.fieldsOf t = fs := by simp [Program.fieldsOf, ht]
        rw [run_equalIn_struct w d t xs ys (by rw [hf]; exact ht) (by simpa using hp), hf]
        exact run_eqFields ih xs ys fs.toList b h w
    case h_14 ht =>
      rename_i len e xs ys
      split at h
      · rename_i n hn
        have := run_eqElems (P := P) (d := d) (n := n) (ih e) xs ys _ _ h w
        simp only [Op.equalIn, Sem.run_bind, run_underlying' w ht, Result.andThen_ok, run_sizeOf' w hn,
          Std.Legacy.Range.forIn_eq_forIn_range', Std.Legacy.Range.size, Nat.sub_zero, Nat.add_sub_cancel, Nat.div_one]
        rw [this]
        cases b <;> simp
      · cases h
    all_goals first
      | (cases h; done)
      | (rename_i ht; simp only [Op.equalIn, Sem.run_bind, run_underlying' w ht, Result.andThen_ok]; (try (split at h)) <;> (cases h) <;> simp [*])


def sInt (op : BinOp) (k : IntKind) (a b : Int) : Option Value :=
  match op with
  | .add => some (.int k (k.wrap (a + b)))
  | .sub => some (.int k (k.wrap (a - b)))
  | .mul => some (.int k (k.wrap (a * b)))
  | .quo => if b = 0 then none else some (.int k (k.wrap (a.tdiv b)))
  | .rem => if b = 0 then none else some (.int k (a.tmod b))
  | .and => some (.int k (k.wrap (BitVec.ofInt k.bits a &&& BitVec.ofInt k.bits b).toNat))
  | .or => some (.int k (k.wrap (BitVec.ofInt k.bits a ||| BitVec.ofInt k.bits b).toNat))
  | .xor => some (.int k (k.wrap (BitVec.ofInt k.bits a ^^^ BitVec.ofInt k.bits b).toNat))
  | .andNot => some (.int k (k.wrap (BitVec.ofInt k.bits a &&& ~~~ (BitVec.ofInt k.bits b)).toNat))
  | .eql => some (.bool (a == b))
  | .neq => some (.bool (a != b))
  | .lss => some (.bool (decide (a < b)))
  | .leq => some (.bool (decide (a ≤ b)))
  | .gtr => some (.bool (decide (b < a)))
  | .geq => some (.bool (decide (b ≤ a)))
  | _ => none

/-- A comparison that needs no guard. -/
def sGuardOk (P : Program) (t : TypeId) : Value → Bool
  | .nilIface => false
  | .agg _ => !P.eqGuardType P.depth t
  | _ => true

def sBin (P : Program) (op : BinOp) (t : TypeId) (x y : Value) : Option Value :=
  match op, x, y with
  | .shl, .int k a, .int _ b => if b < 0 then none else some (.int k (k.wrap (a * 2 ^ (min b.toNat k.bits))))
  | .shr, .int k a, .int _ b => if b < 0 then none else some (.int k (a.fdiv (2 ^ (min b.toNat k.bits))))
  | op, .int k a, .int k' b => if k = k' then sInt op k a b else none
  | .add, .string a, .string b => if a.size + b.size ≤ 1099511627776 then some (.string (a ++ b)) else none
  | .eql, .string a, .string b => some (.bool (a.toList == b.toList))
  | .neq, .string a, .string b => some (.bool (!(a.toList == b.toList)))
  | .eql, x, y => if sGuardOk P t x then (sEqT P 10000 t x y).map .bool else none
  | .neq, x, y => if sGuardOk P t x then (sEqT P 10000 t x y).map fun b => .bool (!b) else none
  | _, _, _ => none

theorem run_sInt {P : Program} {op : BinOp} {k : IntKind} {a b : Int} {v : Value} (t : TypeId) (h : sInt op k a b = some v) (w : World) (hs : op ≠ .shl) (hs' : op ≠ .shr) :
    (Go.binOp op t (.int k a) (.int k b)).run P w = .ok v w := by
  cases op <;> simp only [sInt] at h <;> first
    | (cases h; simp [Go.binOp, Op.intArith, Op.intBits, Op.intCmp]; done)
    | (split at h
       · cases h
       · rename_i hb; cases h; simp [Go.binOp, Op.intDiv, hb])
    | (exact absurd rfl hs)
    | (exact absurd rfl hs')

theorem VRel.int {ρ : Rho} {k : IntKind} {n : Int} {rv : Value} (h : VRel ρ (.int k n) rv) : rv = .int k n := by cases h; rfl
theorem VRel.bool {ρ : Rho} {b : Bool} {rv : Value} (h : VRel ρ (.bool b) rv) : rv = .bool b := by cases h; rfl
theorem VRel.string {ρ : Rho} {b : ByteArray} {rv : Value} (h : VRel ρ (.string b) rv) : rv = .string b := by cases h; rfl
theorem VRel.agg_inv {ρ : Rho} {cs : Array Value} {rv : Value} (h : VRel ρ (.agg cs) rv) : ∃ rcs, rv = .agg rcs ∧ cs.size = rcs.size ∧
    (∀ (k : Nat) (v v' : Value), cs[k]? = some v → rcs[k]? = some v' → VRel ρ v v') := by
  cases h with
  | plain h0 => simp [pl0] at h0
  | agg h1 h2 => exact ⟨_, rfl, h1, h2⟩

theorem sEqFields_rel {P : Program} {ρ : Rho} {eq : TypeId → Value → Value → Option Bool} (heq : ∀ t x y rx ry b, eq t x y = some b → VRel ρ x rx → VRel ρ y ry → eq t rx ry = some b)
    {xs ys rxs rys : Array Value} (hx : xs.size = rxs.size) (hx' : ∀ (k : Nat) (v v' : Value), xs[k]? = some v → rxs[k]? = some v' → VRel ρ v v')
    (hy : ys.size = rys.size) (hy' : ∀ (k : Nat) (v v' : Value), ys[k]? = some v → rys[k]? = some v' → VRel ρ v v') :
    ∀ (fs : List Field) (b : Bool), sEqFields eq P xs ys fs = some b → sEqFields eq P rxs rys fs = some b := by
  intro fs
  induction fs with
  | nil => intro b h; exact h
  | cons f fs ih =>
    intro b h
    simp only [sEqFields] at h ⊢
    split
    · rename_i hf
      rw [if_pos hf] at h
      split at h
      · rename_i a c ha hc
        obtain ⟨ra, h1, h2⟩ := sPart_rel hx hx' ha
        obtain ⟨rc, h3, h4⟩ := sPart_rel hy hy' hc
        split at h
        · rename_i r r' hr hr'
          simp only [h1, h3, heq _ _ _ _ _ _ hr h2 h4, ih _ hr']
          exact h
        · cases h
      · cases h
    · rename_i hf
      rw [if_neg hf] at h
      exact ih _ h

theorem sEqElems_rel {P : Program} {ρ : Rho} {eq : Value → Value → Option Bool} (heq : ∀ x y rx ry b, eq x y = some b → VRel ρ x rx → VRel ρ y ry → eq rx ry = some b) {e : TypeId} {n : Nat}
    {xs ys rxs rys : Array Value} (hx : xs.size = rxs.size) (hx' : ∀ (k : Nat) (v v' : Value), xs[k]? = some v → rxs[k]? = some v' → VRel ρ v v')
    (hy : ys.size = rys.size) (hy' : ∀ (k : Nat) (v v' : Value), ys[k]? = some v → rys[k]? = some v' → VRel ρ v v') :
    ∀ (is : List Nat) (b : Bool), sEqElems eq P e n xs ys is = some b → sEqElems eq P e n rxs rys is = some b := by
  intro is
  induction is with
  | nil => intro b h; exact h
  | cons i is ih =>
    intro b h
    simp only [sEqElems] at h ⊢
    split at h
    · rename_i a c ha hc
      obtain ⟨ra, h1, h2⟩ := sPart_rel hx hx' ha
      obtain ⟨rc, h3, h4⟩ := sPart_rel hy hy' hc
      split at h
      · rename_i r r' hr hr'
        simp only [h1, h3, heq _ _ _ _ _ hr h2 h4, ih _ hr']
        exact h
      · cases h
    · cases h

theorem sEqT_rel {P : Program} {ρ : Rho} : ∀ (d : Nat) (t : TypeId) (x y rx ry : Value) (b : Bool), sEqT P d t x y = some b → VRel ρ x rx → VRel ρ y ry → sEqT P d t rx ry = some b := by
  intro d
  induction d with
  | zero => intro t x y rx ry b h; cases h
  | succ d ih =>
    intro t x y rx ry b h hx hy
    simp only [sEqT] at h
    split at h
    case h_13 ht =>
      obtain ⟨rxs, rfl, h1, h2⟩ := hx.agg_inv
      obtain ⟨rys, rfl, h3, h4⟩ := hy.agg_inv
      simp only [sEqT, ht]
      split at h
      · cases h
      · rename_i hp
        rw [if_neg hp]
        exact sEqFields_rel ih h1 h2 h3 h4 _ _ h
    case h_14 ht =>
      obtain ⟨rxs, rfl, h1, h2⟩ := hx.agg_inv
      obtain ⟨rys, rfl, h3, h4⟩ := hy.agg_inv
      simp only [sEqT, ht]
      split at h
      · exact sEqElems_rel (ih _) h1 h2 h3 h4 _ _ h
      · cases h
    all_goals first
      | (cases h; done)
      | (rename_i ht; cases hx <;> cases hy <;> simp only [sEqT, ht] <;> first | exact h | (simpa using h))

theorem sGuardOk_run {P : Program} {ρ : Rho} {t : TypeId} {x rx : Value} (h : sGuardOk P t x = true) (hx : VRel ρ x rx) (hj : x ≠ junk) (op : BinOp) (X Y : Operand) (ry : Value) (w : World) :
    (eqGuard op t X Y rx ry).run P w = .ok () w := by
  cases hx with
  | junk => exact absurd rfl hj
  | plain h0 =>
    cases x <;> first | (simp [pl0] at h0; done) | (simp [sGuardOk] at h; done) | (cases op <;> cases ry <;> simp [eqGuard])
  | agg h1 h2 =>
    have hm : P.eqGuardType P.depth t = false := by simpa [sGuardOk] using h
    cases ry <;> cases op <;> simp [eqGuard, hm]
  | _ => cases op <;> cases ry <;> simp [eqGuard]

theorem sEqT_junk {P : Program} {d : Nat} {t : TypeId} {y : Value} : sEqT P d t junk y = none := by
  cases d with
  | zero => rfl
  | succ d => simp only [sEqT, junk]; split <;> simp_all

theorem eqGuard_int {P : Program} (op : BinOp) (t : TypeId) (X Y : Operand) (k k' : IntKind) (a b : Int) (w : World) : (eqGuard op t X Y (.int k a) (.int k' b)).run P w = .ok () w := by
  cases op <;> simp [eqGuard]

theorem eqGuard_string {P : Program} (op : BinOp) (t : TypeId) (X Y : Operand) (a b : ByteArray) (w : World) : (eqGuard op t X Y (.string a) (.string b)).run P w = .ok () w := by
  cases op <;> simp [eqGuard]

theorem run_addString {P : Program} {a b : ByteArray} (t : TypeId) (h : a.size + b.size ≤ 1099511627776) (w : World) : (Go.binOp .add t (.string a) (.string b)).run P w = .ok (.string (a ++ b)) w := by
  have : ¬ (((a.size + b.size : Nat) : Int) > IntKind.i64.max) := by
    have e : IntKind.i64.max = 9223372036854775807 := by decide
    rw [e]; omega
  simp only [Go.binOp, Op.stringOp, this, if_false, Sem.run_pure]

theorem run_eql' {P : Program} {d : Nat} {t : TypeId} {x y : Value} {b : Bool} (h : sEqT P (d + 1) t x y = some b) (hi : ∀ k a k' b, x = .int k a → y = .int k' b → False)
    (hs : ∀ a b, x = .string a → y = .string b → False) : Go.binOp .eql t x y = (do pure (.bool (← Op.equal t x y))) ∧ Go.binOp .neq t x y = (do pure (.bool (!(← Op.equal t x y)))) := by
  cases x with
  | int k a => cases y <;> first | exact (hi _ _ _ _ rfl rfl).elim | exact ⟨rfl, rfl⟩
  | string a => cases y <;> first | exact (hs _ _ rfl rfl).elim | exact ⟨rfl, rfl⟩
  | float k a => cases y <;> first | exact ⟨rfl, rfl⟩ | (simp only [sEqT] at h; split at h <;> simp_all)
  | complex k a c => cases y <;> first | exact ⟨rfl, rfl⟩ | (simp only [sEqT] at h; split at h <;> simp_all)
  | _ => cases y <;> exact ⟨rfl, rfl⟩

theorem sEqT_junk' {P : Program} {d : Nat} {t : TypeId} {x : Value} : sEqT P d t x junk = none := by
  cases d with
  | zero => rfl
  | succ d => simp only [sEqT, junk]; split <;> simp_all

theorem sBin_rel {P : Program} {ρ : Rho} {op : BinOp} {t : TypeId} {x y v rx ry : Value} (h : sBin P op t x y = some v) (hx : VRel ρ x rx) (hy : VRel ρ y ry) (X Y : Operand) :
    pl0 v = true ∧ ∀ w, (do eqGuard op t X Y rx ry; Go.binOp op t rx ry : Sem Value).run P w = .ok v w := by
  unfold sBin at h
  split at h
  · obtain rfl := hx.int; obtain rfl := hy.int
    split at h
    · cases h
    · rename_i hb; cases h
      refine ⟨rfl, fun w => ?_⟩
      simp [eqGuard, Go.binOp, Op.shift, hb]
  · obtain rfl := hx.int; obtain rfl := hy.int
    split at h
    · cases h
    · rename_i hb; cases h
      refine ⟨rfl, fun w => ?_⟩
      simp [eqGuard, Go.binOp, Op.shift, hb]
  · rename_i op' _ _ _ _ hs1 hs2
    obtain rfl := hx.int; obtain rfl := hy.int
    split at h
    · rename_i hk; subst hk
      refine ⟨?_, fun w => ?_⟩
      · cases op <;> simp only [sInt] at h <;> first | (cases h; rfl) | (split at h <;> first | (cases h; done) | (cases h; rfl)) | (cases h; done)
      · rw [Sem.run_bind, eqGuard_int]
        exact run_sInt t h w (fun e => by subst e; simp [sInt] at h) (fun e => by subst e; simp [sInt] at h)
    · cases h
  · obtain rfl := hx.string; obtain rfl := hy.string
    split at h
    · rename_i hb
      cases h
      refine ⟨rfl, fun w => ?_⟩
      rw [Sem.run_bind, eqGuard_string]
      exact run_addString t hb w
    · cases h
  · obtain rfl := hx.string; obtain rfl := hy.string
    cases h
    exact ⟨rfl, fun w => by simp [eqGuard, Go.binOp, Op.stringOp]⟩
  · obtain rfl := hx.string; obtain rfl := hy.string
    cases h
    exact ⟨rfl, fun w => by simp [eqGuard, Go.binOp, Op.stringOp]⟩
  · rename_i hi hs
    split at h
    · rename_i hg
      have hj : x ≠ junk := fun e => by subst e; rw [sEqT_junk] at h; cases h
      cases hb : sEqT P 10000 t x y with
      | none => rw [hb] at h; cases h
      | some b =>
        rw [hb] at h; cases h
        refine ⟨rfl, fun w => ?_⟩
        have hr := sEqT_rel _ _ _ _ _ _ _ hb hx hy
        have he := run_equalIn' 10000 t rx ry b hr w
        have hq := run_eql' (d := 9999) hr (fun k a k' c e1 e2 => by
          subst e1 e2
          cases hx <;> first | (cases hy <;> first | exact hi _ _ _ _ rfl rfl | (simp_all [sEqT_junk']; done)) | (exact hj rfl)) (fun a c e1 e2 => by
          subst e1 e2
          cases hx <;> first | (cases hy <;> first | exact hs _ _ rfl rfl | (simp_all [sEqT_junk']; done)) | (exact hj rfl))
        rw [Sem.run_bind, sGuardOk_run hg hx hj]
        simp only [Result.andThen_ok]
        first | rw [hq.1] | rw [hq.2]
        simp [Op.equal, Op.maxDepth, he]
    · cases h
  · rename_i hi hs
    split at h
    · rename_i hg
      have hj : x ≠ junk := fun e => by subst e; rw [sEqT_junk] at h; cases h
      cases hb : sEqT P 10000 t x y with
      | none => rw [hb] at h; cases h
      | some b =>
        rw [hb] at h; cases h
        refine ⟨rfl, fun w => ?_⟩
        have hr := sEqT_rel _ _ _ _ _ _ _ hb hx hy
        have he := run_equalIn' 10000 t rx ry b hr w
        have hq := run_eql' (d := 9999) hr (fun k a k' c e1 e2 => by
          subst e1 e2
          cases hx <;> first | (cases hy <;> first | exact hi _ _ _ _ rfl rfl | (simp_all [sEqT_junk']; done)) | (exact hj rfl)) (fun a c e1 e2 => by
          subst e1 e2
          cases hx <;> first | (cases hy <;> first | exact hs _ _ rfl rfl | (simp_all [sEqT_junk']; done)) | (exact hj rfl))
        rw [Sem.run_bind, sGuardOk_run hg hx hj]
        simp only [Result.andThen_ok]
        first | rw [hq.1] | rw [hq.2]
        simp [Op.equal, Op.maxDepth, he]
    · cases h
  · cases h

end Go.Sh

/- The operations upon cells: addresses, loads, stores, new rows, parts of slices. -/
namespace Go.Sh
open Go

/-- A reckoning ends well, in a world of which the shadow tells. -/
def Good (P : Program) (m : Sem Value) (ρ : Rho) (s : SW) (w : World) (v : Value) (s' : SW) : Prop :=
  ∃ ρ' w' rv, m.run P w = .ok rv w' ∧ VRel ρ' v rv ∧ HRel ρ' s' w' ∧ Ext ρ s w ρ' s' w'

theorem Good.still {P : Program} {m : Sem Value} {ρ : Rho} {s : SW} {w : World} {v rv : Value} (h : HRel ρ s w) (hr : m.run P w = .ok rv w) (hv : VRel ρ v rv) : Good P m ρ s w v s :=
  ⟨ρ, w, rv, hr, hv, h, Ext.refl ρ s w⟩

def sUn (op : UnOp) (x : Value) : Option Value :=
  match op, x with
  | .neg, .int k n => some (.int k (k.wrap (0 - n)))
  | .xor, .int k n => sInt .xor k (if k.signed then -1 else k.max) n
  | .not, .bool b => some (.bool (!b))
  | _, _ => none

theorem sUn_ok {P : Program} {ρ : Rho} {op : UnOp} {x v rx : Value} (h : sUn op x = some v) (hx : VRel ρ x rx) : pl0 v = true ∧ ∀ w, (Op.unary op rx).run P w = .ok v w := by
  unfold sUn at h
  split at h
  · obtain rfl := hx.int; cases h; exact ⟨rfl, fun w => by simp [Op.unary, Op.intArith]⟩
  · obtain rfl := hx.int
    simp only [sInt] at h; cases h
    exact ⟨rfl, fun w => by simp [Op.unary, Op.intBits]⟩
  · obtain rfl := hx.bool; cases h; exact ⟨rfl, fun w => by simp [Op.unary]⟩
  · cases h

def sConvNum (P : Program) (src dst : TypeId) (x : Value) : Option Value :=
  match P.underlying src, P.underlying dst, x with
  | some _, some (.int k), .int _ n => some (.int k (k.wrap n))
  | some _, some .string, .string b => some (.string b)
  | _, _, _ => none

theorem sConvNum_ok {P : Program} {ρ : Rho} {src dst : TypeId} {x v rx : Value} (h : sConvNum P src dst x = some v) (hx : VRel ρ x rx) : pl0 v = true ∧ ∀ w, (convert src dst rx).run P w = .ok v w := by
  unfold sConvNum at h
  split at h
  · rename_i h1 h2
    obtain rfl := hx.int; cases h
    exact ⟨rfl, fun w => by simp [convert, run_underlying' w h1, run_underlying' w h2, Conv.intToInt]⟩
  · rename_i h1 h2
    obtain rfl := hx.string; cases h
    refine ⟨rfl, fun w => ?_⟩
    simp only [convert, Sem.run_bind, run_underlying' w h1, run_underlying' w h2, Result.andThen_ok]
    rfl
  · cases h

/-! ### addresses -/

def sNil (x : Value) : Option Value :=
  match x with
  | .pointer (some a) => some (.pointer (some a))
  | .func (.func fn) f c => some (.func (.func fn) f c)
  | _ => none

def sField (P : Program) (t : TypeId) (x : Value) (f : Nat) : Option Value :=
  match P.underlying t, x with
  | some (.struct fs), .pointer (some ⟨i, o, none⟩) =>
    match fs[f]? with
    | some fd => match sz P fd.type with
      | some (_ + 1) => some (.pointer (some ⟨i, o + fd.offset, none⟩))
      | _ => none
    | none => none
  | _, _ => none

theorem VRel.ptr_inv {ρ : Rho} {i o : Nat} {rv : Value} (h : VRel ρ (.pointer (some ⟨i, o, none⟩)) rv) : ∃ p, ρ i = some p ∧ rv = .pointer (some ⟨p.r, p.b + o, none⟩) := by
  cases h with
  | plain h0 => simp [pl0] at h0
  | ptr hp => exact ⟨_, hp, rfl⟩

theorem VRel.slice_inv {ρ : Rho} {i o l c : Nat} {rv : Value} (h : VRel ρ (.slice (some ⟨i, o, none⟩) l c) rv) :
    ∃ p c', ρ i = some p ∧ l ≤ c ∧ (c' = c ∨ (c' = c + p.x ∧ o + c * p.z = p.n)) ∧ rv = .slice (some ⟨p.r, p.b + o, none⟩) l c' := by
  cases h with
  | plain h0 => simp [pl0] at h0
  | slice hp h1 h2 => exact ⟨_, _, hp, h1, h2, rfl⟩

theorem sField_ok {P : Program} {ρ : Rho} {t : TypeId} {x v rx : Value} {f : Nat} (h : sField P t x f = some v) (hx : VRel ρ x rx) :
    ∃ rv, VRel ρ v rv ∧ ∀ w, (Instr.fieldAt t rx f).run P w = .ok rv w := by
  unfold sField at h
  split at h
  · rename_i h1
    split at h
    · rename_i fd hf
      split at h
      · rename_i n hn
        obtain ⟨p, hp, rfl⟩ := hx.ptr_inv
        cases h
        refine ⟨.pointer (some ⟨p.r, p.b + (_ + fd.offset), none⟩), .ptr hp, fun w => ?_⟩
        simp only [Instr.fieldAt, Sem.run_bind, run_underlying' w h1, Result.andThen_ok, hf, Instr.sureAddr, Sem.run_pure]
        simp only [fieldPlace, Sem.run_bind, run_sizeOf' w hn, Result.andThen_ok]
        rw [if_neg (by omega)]
        simp [Addr.add_none, Nat.add_assoc]
      · cases h
    · cases h
  · cases h

def sIndex (P : Program) (t : TypeId) (x ix : Value) : Option Value :=
  match ix with
  | .int _ j =>
    match P.underlying t, x with
    | some (.array len e), .pointer (some ⟨i, o, none⟩) =>
      match sz P e with
      | some n => if 0 ≤ j ∧ j < (len : Int) then some (.pointer (some ⟨i, o + j.toNat * n, none⟩)) else none
      | none => none
    | some (.slice e), .slice (some ⟨i, o, none⟩) len _ =>
      match sz P e with
      | some n => if 0 ≤ j ∧ j < (len : Int) then some (.pointer (some ⟨i, o + j.toNat * n, none⟩)) else none
      | none => none
    | _, _ => none
  | _ => none

theorem sIndex_ok {P : Program} {ρ : Rho} {t : TypeId} {x ix v rx rix : Value} (h : sIndex P t x ix = some v) (hx : VRel ρ x rx) (hi : VRel ρ ix rix) :
    ∃ rv, VRel ρ v rv ∧ ∀ w, (Instr.indexAt t rx rix).run P w = .ok rv w := by
  unfold sIndex at h
  split at h
  · rename_i k j
    obtain rfl := hi.int
    split at h
    · rename_i len e i o h1
      split at h
      · rename_i n hn
        split at h
        · rename_i hj
          obtain ⟨p, hp, rfl⟩ := hx.ptr_inv
          cases h
          refine ⟨.pointer (some ⟨p.r, p.b + (o + j.toNat * n), none⟩), .ptr hp, fun w => ?_⟩
          simp only [Instr.indexAt, asIntOf, Sem.run_bind, Sem.run_pure, run_underlying' w h1, Result.andThen_ok, Instr.sureAddr]
          rw [if_pos hj]
          simp [run_sizeOf' w hn, Addr.add_none, Nat.add_assoc]
        · cases h
      · cases h
    · rename_i e i o len c h1
      split at h
      · rename_i n hn
        split at h
        · rename_i hj
          obtain ⟨p, c', hp, _, _, rfl⟩ := hx.slice_inv
          cases h
          refine ⟨.pointer (some ⟨p.r, p.b + (o + j.toNat * n), none⟩), .ptr hp, fun w => ?_⟩
          simp only [Instr.indexAt, asIntOf, Sem.run_bind, Sem.run_pure, run_underlying' w h1, Result.andThen_ok]
          rw [if_pos hj]
          simp [run_sizeOf' w hn, Addr.add_none, Nat.add_assoc]
        · cases h
      · cases h
    · cases h
  · cases h

/-! ### loads and stores -/

def sLoad (P : Program) (t : TypeId) (x : Value) (s : SW) : Option Value :=
  match x with
  | .pointer (some ⟨i, o, none⟩) =>
    match s.heap i with
    | some (.cells cs _ _) =>
      match aggT P t with
      | some true => match sz P t with
        | some n => if o + n ≤ cs.length then some (.agg ((cs.drop o).take n).toArray) else none
        | none => none
      | some false => cs[o]?
      | none => none
    | _ => none
  | _ => none

theorem VRel.agg_of {ρ : Rho} {vs rvs : List Value} (h : F2 (VRel ρ) vs rvs) : VRel ρ (.agg vs.toArray) (.agg rvs.toArray) :=
  .agg (by simp [h.length]) fun k v v' h1 h2 => h.get k v v' (by simpa using h1) (by simpa using h2)

theorem sLoad_run {P : Program} {ρ : Rho} {s : SW} {w : World} {t : TypeId} {i o : Nat} {v : Value} (hr : HRel ρ s w) (h : sLoad P t (.pointer (some ⟨i, o, none⟩)) s = some v) :
    ∃ p rv, ρ i = some p ∧ VRel ρ v rv ∧ (loadVar t ⟨p.r, p.b + o, none⟩).run P w = .ok rv w := by
  unfold sLoad at h
  simp only at h
  split at h
  · rename_i cs own gr hi
    obtain ⟨p, hp, _⟩ := hr.place hi
    refine ⟨p, ?_⟩
    split at h
    · rename_i ha
      split at h
      · rename_i n hn
        split at h
        · rename_i hl
          cases h
          obtain ⟨rvs, h1, h2⟩ := hr.loadCells (P := P) hi hp hl
          refine ⟨.agg rvs.toArray, hp, .agg_of h1, ?_⟩
          simp [loadVar, run_isAgg' w ha, run_sizeOf' w hn, h2]
        · cases h
      · cases h
    · rename_i ha
      obtain ⟨rv, h1, h2⟩ := hr.cell hi hp h
      refine ⟨rv, hp, h2, ?_⟩
      simp only [loadVar, Sem.run_bind, run_isAgg' w ha, Result.andThen_ok]
      simp [run_load, h1]
    · cases h
  · cases h

theorem sLoad_ok {P : Program} {ρ : Rho} {s : SW} {w : World} {t : TypeId} {x v rx : Value} (hr : HRel ρ s w) (h : sLoad P t x s = some v) (hx : VRel ρ x rx) :
    ∃ rv, VRel ρ v rv ∧ (Instr.loadAt t rx).run P w = .ok rv w := by
  have hx0 := h
  unfold sLoad at hx0
  split at hx0
  · obtain ⟨p, rv, hp, hv, hrun⟩ := sLoad_run hr h
    obtain ⟨q, hq, rfl⟩ := hx.ptr_inv
    rw [hp] at hq; cases hq
    exact ⟨rv, hv, by simp [Instr.loadAt, Instr.sureAddr, hrun]⟩
  · cases hx0

def sStore (P : Program) (t : TypeId) (x v : Value) (s : SW) : Option SW :=
  match x with
  | .pointer (some ⟨i, o, none⟩) =>
    match s.heap i with
    | some (.cells cs true gr) =>
      if sz P t = some v.cells.size ∧ v.cells.toList.all (·.oneCell') = true ∧ o + v.cells.size ≤ cs.length then some (s.set i (.cells (setL cs o v.cells.toList) true gr)) else none
    | _ => none
  | _ => none

theorem sStore_ok {P : Program} {ρ : Rho} {s s' : SW} {w : World} {t : TypeId} {x v rx rv : Value} (hr : HRel ρ s w) (h : sStore P t x v s = some s') (hx : VRel ρ x rx) (hv : VRel ρ v rv) :
    ∃ w', (Instr.storeAt t rx rv).run P w = .ok () w' ∧ HRel ρ s' w' ∧ Ext ρ s w ρ s' w' := by
  unfold sStore at h
  split at h
  · rename_i i o
    split at h
    · rename_i cs gr hi
      split at h
      · rename_i hc
        obtain ⟨hsz, hone, hlen⟩ := hc
        cases h
        obtain ⟨p, hp, rfl⟩ := hx.ptr_inv
        have hone' : ∀ c ∈ v.cells.toList, c.oneCell' = true := List.all_eq_true.1 hone
        have hF := hv.cells hone'
        obtain ⟨w', h1, h2, h3⟩ := hr.storeCells (P := P) hi hp (by simpa using hlen) hF hone'
        refine ⟨w', ?_, h2, h3⟩
        have hsz' : rv.cells.size = v.cells.size := by simpa using hF.length.symm
        simp only [Instr.storeAt, Instr.sureAddr, Sem.run_bind, Sem.run_pure, Result.andThen_ok, storeVar, run_sizeOf' w hsz, hsz', ne_eq, not_true, if_false]
        exact h1
      · cases h
    · cases h
  · cases h

/-! ### new rows -/

theorem Good.newRow {P : Program} {ρ : Rho} {s : SW} {w : World} (hr : HRel ρ s w) {cs rcs : List Value} (e : TypeId) (hF : F2 (VRel ρ) cs rcs) :
    ∃ ρ' w', ρ' s.next = some ⟨w.heap.size, 0, cs.length, 0, 1⟩ ∧ (newRow e rcs.toArray).run P w = .ok ⟨w.heap.size, 0, none⟩ w' ∧ HRel ρ' (s.new (.cells cs true 0)) w' ∧ Ext ρ s w ρ' (s.new (.cells cs true 0)) w' := by
  have h := hr.newCells (cs := cs) (rc := rcs.toArray) (e := e) 0 1 0 rfl (Same.refl w) (by simp [hF.length]) (fun _ => rfl) (fun h => absurd rfl h) (fun k v hk => by
    have hlt : k < rcs.length := by
      rw [← hF.length]
      rcases Nat.lt_or_ge k cs.length with h | h
      · exact h
      · rw [List.getElem?_eq_none h] at hk; cases hk
    exact ⟨rcs[k], by simp [hlt], hF.get k v _ hk (List.getElem?_eq_getElem hlt)⟩)
  exact ⟨_, _, Rho.upd_same, rfl, h.1, h.2⟩

def sBox (v : Value) (s : SW) : Option (Value × SW) :=
  if v.cells.toList.all (·.oneCell') = true then some (.pointer (some ⟨s.next, 0, none⟩), s.new (.cells v.cells.toList true 0)) else none

theorem sBox_ok {P : Program} {ρ : Rho} {s s' : SW} {w : World} {v rv u : Value} (hr : HRel ρ s w) (h : sBox v s = some (u, s')) (hv : VRel ρ v rv) (e : TypeId) :
    Good P (do pure (.pointer (some (← newVar e rv)))) ρ s w u s' := by
  unfold sBox at h
  split at h
  · rename_i hone
    cases h
    obtain ⟨ρ', w', h1, h2, h3, h4⟩ := Good.newRow (P := P) hr e (hv.cells (List.all_eq_true.1 hone))
    refine ⟨ρ', w', .pointer (some ⟨w.heap.size, 0, none⟩), ?_, .ptr h1, h3, h4⟩
    simp only [newVar, Sem.run_bind]
    rw [show rv.cells = rv.cells.toList.toArray by simp, h2]
    rfl
  · cases h

end Go.Sh

/- Aggregates and slices: build, make, slice, append, copy, clear, len, texts and bytes. -/
namespace Go.Sh
open Go

/-! ### fill -/

theorem setR_foldl : ∀ (vs : List Value) (c : Array Value) (off j : Nat), (vs.zipIdx j).foldl (fun (cs : Array Value) (x : Value × Nat) => cs.setIfInBounds (off + x.2) x.1) c = setR c (off + j) vs
  | [], _, _, _ => rfl
  | v :: vs, c, off, j => by
    simp only [List.zipIdx_cons, List.foldl_cons, setR]
    rw [setR_foldl vs]
    rfl

theorem fill_step (v : Value) (cells : Array Value) (off : Nat) : (v.cells.zipIdx.foldl (fun cs (c, j) => cs.setIfInBounds (off + j) c) cells) = setR cells off v.cells.toList := by
  rw [← Array.foldl_toList, Array.toList_zipIdx]
  exact setR_foldl v.cells.toList cells off 0

def PRel (ρ : Rho) (p q : Nat × Value) : Prop := p.1 = q.1 ∧ VRel ρ p.2 q.2

def partOk (p : Nat × Value) : Bool := p.2.cells.toList.all (·.oneCell')

theorem fill_rel {ρ : Rho} {place : Nat → Option (Nat × Nat)} : ∀ (parts rparts : List (Nat × Value)), F2 (PRel ρ) parts rparts → parts.all partOk = true → ∀ (cells rcells out : Array Value),
    cells.size = rcells.size → (∀ (k : Nat) (v v' : Value), cells[k]? = some v → rcells[k]? = some v' → VRel ρ v v') → Instr.fill place cells parts = some out →
    ∃ rout, Instr.fill place rcells rparts = some rout ∧ out.size = rout.size ∧ (∀ (k : Nat) (v v' : Value), out[k]? = some v → rout[k]? = some v' → VRel ρ v v') := by
  intro parts rparts h
  induction h with
  | nil => intro _ cells rcells out h1 h2 h3; cases h3; exact ⟨rcells, rfl, h1, h2⟩
  | @cons p q ps qs hpq _ ih =>
    intro hall cells rcells out h1 h2 h3
    obtain ⟨i, v⟩ := p
    obtain ⟨i', rv⟩ := q
    obtain ⟨e, hv⟩ := hpq
    simp only at e hv
    subst e
    simp only [List.all_cons, Bool.and_eq_true] at hall
    have hF := hv.cells (List.all_eq_true.1 hall.1)
    have hlen : v.cells.size = rv.cells.size := by simpa using hF.length
    simp only [Instr.fill] at h3 ⊢
    cases hp : place i with
    | none => rw [hp] at h3; cases h3
    | some x =>
      obtain ⟨off, size⟩ := x
      rw [hp] at h3
      simp only at h3 ⊢
      split at h3
      · cases h3
      · rename_i hc
        rw [if_neg (by rw [← hlen, ← h1]; exact hc)]
        simp only [ne_eq, Bool.or_eq_true, decide_eq_true_eq, not_or, Decidable.not_not] at hc
        simp only [fill_step] at h3 ⊢
        refine ih hall.2 _ _ _ (by rw [setR_size, setR_size, h1]) ?_ h3
        intro k u u' hu hu'
        rw [setR_get _ _ _ _ (by simp; omega)] at hu
        rw [setR_get _ _ _ _ (by simp; omega)] at hu'
        simp only [Array.length_toList] at hu hu'
        by_cases hin : off ≤ k ∧ k < off + v.cells.size
        · rw [if_pos hin] at hu
          rw [if_pos (by rw [← hlen]; exact hin)] at hu'
          exact hF.get _ _ _ hu hu'
        · rw [if_neg hin] at hu
          rw [if_neg (by rw [← hlen]; exact hin)] at hu'
          exact h2 _ _ _ hu hu'

/-- The fields' places. -/
def sPlaces (P : Program) : List Field → Option (List (Nat × Nat))
  | [] => some []
  | f :: fs => match sz P f.type, sPlaces P fs with
    | some n, some l => some ((f.offset, n) :: l)
    | _, _ => none

theorem run_places {P : Program} : ∀ (fs : List Field) (l : List (Nat × Nat)), sPlaces P fs = some l → ∀ w, (fs.mapM fun f => (do pure (f.offset, ← sizeOf f.type) : Sem (Nat × Nat))).run P w = .ok l w := by
  intro fs
  induction fs with
  | nil => intro l h w; cases h; rfl
  | cons f fs ih =>
    intro l h w
    simp only [sPlaces] at h
    split at h
    · rename_i n l' hn hl'
      cases h
      simp only [List.mapM_cons, Sem.run_bind, run_sizeOf' w hn, Result.andThen_ok, Sem.run_pure, ih _ hl' w]
    · cases h

def zeroCellsOk (v : Value) : Bool := v.cells.toList.all pl0

theorem pl0_oneCell {v : Value} (h : pl0 v = true) : v.oneCell' = true := by cases v <;> first | rfl | (simp [pl0] at h)

theorem rel_zero {ρ : Rho} {cs : Array Value} (h : cs.toList.all pl0 = true) (k : Nat) (v v' : Value) (h1 : cs[k]? = some v) (h2 : cs[k]? = some v') : VRel ρ v v' := by
  rw [h1] at h2; cases h2
  exact .plain (List.all_eq_true.1 h v (by simpa using Array.mem_of_getElem? h1))

def sBuild (P : Program) (t : TypeId) (parts : List (Nat × Value)) : Option Value :=
  match zeroV P t with
  | none => none
  | some z =>
    if z.cells.toList.all pl0 && parts.all partOk then
      match P.underlying t with
      | some (.struct fs) =>
        match sPlaces P fs.toList with
        | some pl => (Instr.fill (pl[·]?) z.cells parts).map .agg
        | none => none
      | some (.array _ e) =>
        match sz P e with
        | some n => (Instr.fill (fun i => some (i * n, n)) z.cells parts).map .agg
        | none => none
      | _ => none
    else none

theorem sBuild_ok {P : Program} {ρ : Rho} {t : TypeId} {parts : List (Nat × Value)} {rparts : Array (Nat × Value)} {v : Value} (h : sBuild P t parts = some v) (hp : F2 (PRel ρ) parts rparts.toList) :
    ∃ rv, VRel ρ v rv ∧ ∀ w, (Instr.build t rparts).run P w = .ok rv w := by
  unfold sBuild at h
  split at h
  · cases h
  · rename_i z hz
    split at h
    · rename_i hall
      simp only [Bool.and_eq_true] at hall
      split at h
      · rename_i fs ht
        split at h
        · rename_i pl hpl
          cases ho : Instr.fill (pl[·]?) z.cells parts with
          | none => rw [ho] at h; cases h
          | some out =>
            rw [ho] at h; cases h
            obtain ⟨rout, h1, h2, h3⟩ := fill_rel _ _ hp hall.2 z.cells z.cells out rfl (rel_zero hall.1) ho
            refine ⟨.agg rout, .agg h2 h3, fun w => ?_⟩
            have hm : ((fs.mapM fun f => (do pure (f.offset, ← sizeOf f.type) : Sem (Nat × Nat)))).run P w = .ok pl.toArray w := by
              rw [Array.mapM_eq_mapM_toList, Sem.run_map, run_places fs.toList pl hpl w]; rfl
            simp only [Instr.build, Sem.run_bind, run_zeroValue' w hz, run_underlying' w ht, Result.andThen_ok, hm]
            have : (fun (x : Nat) => pl.toArray[x]?) = (fun (x : Nat) => pl[x]?) := by funext x; simp
            rw [this, h1]
            rfl
        · cases h
      · rename_i len e ht
        split at h
        · rename_i n hn
          cases ho : Instr.fill (fun i => some (i * n, n)) z.cells parts with
          | none => rw [ho] at h; cases h
          | some out =>
            rw [ho] at h; cases h
            obtain ⟨rout, h1, h2, h3⟩ := fill_rel _ _ hp hall.2 z.cells z.cells out rfl (rel_zero hall.1) ho
            refine ⟨.agg rout, .agg h2 h3, fun w => ?_⟩
            simp only [Instr.build, Sem.run_bind, run_zeroValue' w hz, run_underlying' w ht, Result.andThen_ok, run_sizeOf' w hn, h1]
            rfl
        · cases h
      · cases h
    · cases h

/-- So many zero elements. -/
def sZeros (zero : List Value) (n : Nat) : List Value := (List.replicate n zero).flatten

theorem sZeros_eq (zero : Array Value) (n : Nat) : ((Array.range (n * zero.size)).map fun i => zero[i % zero.size]!).toList = sZeros zero.toList n := by
  induction n with
  | zero => simp [sZeros]
  | succ n ih =>
    have h1 : sZeros zero.toList (n + 1) = sZeros zero.toList n ++ zero.toList := by
      simp [sZeros, List.replicate_succ', List.flatten_append]
    rw [h1, ← ih]
    apply List.ext_getElem?
    intro k
    simp only [Array.toList_map, Array.toList_range, List.getElem?_map]
    rw [List.getElem?_append]
    by_cases hk : k < n * zero.size
    · rw [if_pos (by simpa using hk)]
      have : k < (n + 1) * zero.size := by rw [Nat.add_mul]; omega
      simp [hk, this]
    · rw [if_neg (by simpa using hk)]
      simp only [List.length_map, List.length_range, Array.getElem?_toList]
      by_cases hk2 : k < (n + 1) * zero.size
      · have h2 : k - n * zero.size < zero.size := by rw [Nat.add_mul] at hk2; omega
        have h3 : k % zero.size = k - n * zero.size := by
          have : k = (k - n * zero.size) + zero.size * n := by rw [Nat.mul_comm zero.size n]; omega
          rw [this, Nat.add_mul_mod_self_left, Nat.mod_eq_of_lt h2]
          omega
        simp [hk2, h3, h2]
      · have h2 : ¬ k - n * zero.size < zero.size := by rw [Nat.add_mul] at hk2; omega
        rw [List.getElem?_eq_none (by simpa using Nat.le_of_not_lt hk2), Array.getElem?_eq_none (Nat.le_of_not_lt h2)]
        rfl

end Go.Sh

/- Slices: literals, make, parts, append, copy, clear, len. -/
namespace Go.Sh
open Go

def sAlloc (P : Program) (e : TypeId) (s : SW) : Option (Value × SW) :=
  match zeroV P e with
  | some z => if z.cells.toList.all pl0 then some (.pointer (some ⟨s.next, 0, none⟩), s.new (.cells z.cells.toList true 0)) else none
  | none => none

theorem F2.zero {ρ : Rho} {cs : List Value} (h : cs.all pl0 = true) : F2 (VRel ρ) cs cs := by
  induction cs with
  | nil => exact .nil
  | cons c cs ih =>
    simp only [List.all_cons, Bool.and_eq_true] at h
    exact .cons (.plain h.1) (ih h.2)

theorem sAlloc_ok {P : Program} {ρ : Rho} {s s' : SW} {w : World} {e : TypeId} {v : Value} (hr : HRel ρ s w) (h : sAlloc P e s = some (v, s')) :
    Good P (Instr.alloc e true (.tuple #[])) ρ s w v s' := by
  unfold sAlloc at h
  split at h
  · rename_i z hz
    split at h
    · rename_i hall
      cases h
      obtain ⟨ρ', w', h1, h2, h3, h4⟩ := Good.newRow (P := P) hr e (F2.zero hall)
      refine ⟨ρ', w', .pointer (some ⟨w.heap.size, 0, none⟩), ?_, .ptr h1, h3, h4⟩
      simp only [Instr.alloc, Sem.run_bind, run_zeroValue' w hz, Result.andThen_ok, newVar]
      rw [show z.cells = z.cells.toList.toArray by simp, h2]
      rfl
    · cases h
  · cases h

def sBuildSlice (P : Program) (t : TypeId) (len : Nat) (parts : List (Nat × Value)) (s : SW) : Option (Value × SW) :=
  match P.underlying t with
  | some (.slice e) =>
    match sz P e, zeroV P e with
    | some n, some z =>
      if len * n ≤ 16777216 ∧ z.cells.size = n ∧ z.cells.toList.all pl0 = true ∧ parts.all partOk = true then
        match Instr.fill (fun i => some (i * n, n)) (sZeros z.cells.toList len).toArray parts with
        | some out => some (.slice (some ⟨s.next, 0, none⟩) len len, s.new (.cells out.toList true 0))
        | none => none
      else none
    | _, _ => none
  | _ => none

theorem sZeros_all {zero : List Value} (h : zero.all pl0 = true) (n : Nat) : (sZeros zero n).all pl0 = true := by
  unfold sZeros
  rw [List.all_eq_true]
  intro v hv
  simp only [List.mem_flatten, List.mem_replicate] at hv
  obtain ⟨l, ⟨_, rfl⟩, hv⟩ := hv
  exact List.all_eq_true.1 h v hv

theorem sBuildSlice_ok {P : Program} {ρ : Rho} {s s' : SW} {w : World} {t : TypeId} {len : Nat} {parts : List (Nat × Value)} {rparts : Array (Nat × Value)} {v : Value} (hr : HRel ρ s w)
    (h : sBuildSlice P t len parts s = some (v, s')) (hp : F2 (PRel ρ) parts rparts.toList) : Good P (Instr.buildSlice t len rparts) ρ s w v s' := by
  unfold sBuildSlice at h
  split at h
  · rename_i e ht
    split at h
    · rename_i n z hn hz
      split at h
      · rename_i hc
        obtain ⟨h1, h2, h3, h4⟩ := hc
        split at h
        · rename_i out ho
          cases h
          obtain ⟨rout, g1, g2, g3⟩ := fill_rel _ _ hp h4 (sZeros z.cells.toList len).toArray (sZeros z.cells.toList len).toArray out rfl (rel_zero (by simpa using sZeros_all h3 len)) ho
          obtain ⟨ρ', w', e1, e2, e3, e4⟩ := Good.newRow (P := P) hr e (cs := out.toList) (rcs := rout.toList) (F2.of_get (by simpa using g2) (by simpa using g3))
          refine ⟨ρ', w', .slice (some ⟨w.heap.size, 0, none⟩) len len, ?_, .slice e1 (Nat.le_refl _) (.inl rfl), e3, e4⟩
          have hb0 : len * n = 0 → (sZeros z.cells.toList len).toArray = #[] := fun h0 => by
            apply Array.toList_inj.1
            have hlen : (sZeros z.cells.toList len).length = 0 := by
              simp only [sZeros, List.length_flatten, List.map_replicate, List.sum_replicate_nat, Array.length_toList, h2]
              exact h0
            rw [List.length_eq_zero_iff.1 hlen]
          have hb1 : ((Array.range (len * n)).map fun i => z.cells[i % z.cells.size]!) = (sZeros z.cells.toList len).toArray := by
            apply Array.toList_inj.1
            rw [← h2, sZeros_eq]
          simp only [Instr.buildSlice, Sem.run_bind, run_underlying' w ht, Result.andThen_ok, run_sizeOf' w hn]
          rw [if_neg (by omega)]
          by_cases h0 : len * n = 0
          · rw [hb0 h0] at g1
            simp only [h0, if_true, Sem.run_bind, Sem.run_pure, Result.andThen_ok]
            have : (Array.map (fun (i : Nat) => (#[] : Array Value)[i % (#[] : Array Value).size]!) (Array.range 0)) = #[] := by simp
            rw [this, g1]
            simp only [Sem.run_bind]
            rw [show rout = rout.toList.toArray by simp, e2]
            rfl
          · simp only [h0, if_false, Sem.run_bind, Sem.run_pure, Result.andThen_ok, run_zeroValue' w hz]
            rw [hb1, g1]
            simp only [Sem.run_bind]
            rw [show rout = rout.toList.toArray by simp, e2]
            rfl
        · cases h
      · cases h
    · cases h
  · cases h

def sMakeSlice (P : Program) (t : TypeId) (len cap : Value) (s : SW) : Option (Value × SW) :=
  match P.underlying t, len, cap with
  | some (.slice e), .int _ l, .int _ c =>
    match sz P e, zeroV P e, bytesV P e with
    | some n, some z, some b =>
      if 0 ≤ l ∧ l ≤ c ∧ c ≤ 1073741824 ∧ b ≤ 1024 ∧ z.cells.size = n ∧ z.cells.toList.all pl0 = true then
        some (.slice (some ⟨s.next, 0, none⟩) l.toNat c.toNat, s.new (.cells (sZeros z.cells.toList c.toNat) true 0))
      else none
    | _, _, _ => none
  | _, _, _ => none

theorem wrap_small {n : Int} (h0 : 0 ≤ n) (h1 : n ≤ 1073741824) : IntKind.i64.wrap n = n := by
  have h2 : n % (2 ^ 64 : Int) = n := Int.emod_eq_of_lt h0 (by omega)
  show (if (true && decide (n % (2 ^ 64 : Int) ≥ (2 ^ 63 : Int))) = true then n % (2 ^ 64 : Int) - 2 ^ 64 else n % (2 ^ 64 : Int)) = n
  rw [h2, if_neg]
  simp only [Bool.true_and, decide_eq_true_eq]
  omega

theorem run_bytes {P : Program} {e : TypeId} {b : Nat} (h : bytesV P e = some b) (w : World) : ∃ i, (typeInfo e).run P w = .ok i w ∧ i.bytes = b := by
  unfold bytesV at h
  cases hi : P.info? e with
  | none => rw [hi] at h; cases h
  | some i => rw [hi] at h; cases h; exact ⟨i, run_typeInfo w hi, rfl⟩

theorem sMakeSlice_ok {P : Program} {ρ : Rho} {s s' : SW} {w : World} {t : TypeId} {len cap rlen rcap v : Value} (hr : HRel ρ s w) (h : sMakeSlice P t len cap s = some (v, s'))
    (hl : VRel ρ len rlen) (hc : VRel ρ cap rcap) : Good P (Instr.makeSlice t rlen rcap) ρ s w v s' := by
  unfold sMakeSlice at h
  split at h
  · rename_i e k l k' c ht
    obtain rfl := hl.int; obtain rfl := hc.int
    split at h
    · rename_i n z b hn hz hb
      split at h
      · rename_i hcond
        obtain ⟨a1, a2, a3, a4, a5, a6⟩ := hcond
        cases h
        obtain ⟨ρ', w', e1, e2, e3, e4⟩ := Good.newRow (P := P) hr e (F2.zero (ρ := ρ) (sZeros_all a6 c.toNat))
        refine ⟨ρ', w', .slice (some ⟨w.heap.size, 0, none⟩) l.toNat c.toNat, ?_, .slice e1 (by omega) (.inl rfl), e3, e4⟩
        obtain ⟨i, hi, hib⟩ := run_bytes (P := P) hb w
        have hbig : ¬ ((b : Int) * c > 2 ^ 48) := by
          have h1 : (b : Int) * c ≤ 1024 * 1073741824 := Int.mul_le_mul (by omega) a3 (by omega) (by omega)
          omega
        simp only [Instr.makeSlice, Sem.run_bind, run_underlying' w ht, Result.andThen_ok, asInt, asIntOf, Sem.run_pure, hi, hib, wrap_small a1 (by omega : l ≤ 1073741824), wrap_small (by omega : 0 ≤ c) a3]
        rw [if_neg (by simp; omega)]
        simp only [Sem.run_bind, run_askRoom, Result.andThen_ok, run_sizeOf' w hn]
        have hb1 : ((Array.range (c.toNat * n)).map fun i => z.cells[i % z.cells.size]!) = (sZeros z.cells.toList c.toNat).toArray := by
          apply Array.toList_inj.1
          rw [← a5, sZeros_eq]
        by_cases h0 : c.toNat * n = 0
        · have hb0 : (sZeros z.cells.toList c.toNat).toArray = #[] := by
            apply Array.toList_inj.1
            have hlen : (sZeros z.cells.toList c.toNat).length = 0 := by
              simp only [sZeros, List.length_flatten, List.map_replicate, List.sum_replicate_nat, Array.length_toList, a5]
              exact h0
            rw [List.length_eq_zero_iff.1 hlen]
          simp only [h0, if_true, Sem.run_bind, Sem.run_pure, Result.andThen_ok]
          have : (Array.map (fun (i : Nat) => (#[] : Array Value)[i % (#[] : Array Value).size]!) (Array.range 0)) = #[] := by simp
          rw [hb0] at e2
          rw [this, e2]
          rfl
        · simp only [h0, if_false, Sem.run_bind, Sem.run_pure, Result.andThen_ok, run_zeroValue' w hz]
          rw [hb1, e2]
          rfl
      · cases h
    · cases h
  · cases h

/-! ### parts -/

def sBound (x : Value) (y : Nat) : Option Nat :=
  match x with
  | .int _ i => if 0 ≤ i ∧ i ≤ (y : Int) then some i.toNat else none
  | _ => none

theorem sBound_ok {P : Program} {ρ : Rho} {x rx : Value} {y y' n : Nat} (h : sBound x y = some n) (hx : VRel ρ x rx) (hy : y ≤ y') (code : BoundsCode) (w : World) :
    n ≤ y ∧ (Instr.sliceBound rx y' code).run P w = .ok n w := by
  unfold sBound at h
  split at h
  · obtain rfl := hx.int
    split at h
    · rename_i hb
      cases h
      refine ⟨by omega, ?_⟩
      simp only [Instr.sliceBound, asIntOf, Sem.run_bind, Sem.run_pure, Result.andThen_ok]
      rw [if_pos (by omega)]
      rfl
    · cases h
  · cases h

def oRel (ρ : Rho) : Option Value → Option Value → Prop
  | none, none => True
  | some v, some v' => VRel ρ v v'
  | _, _ => False

/-- lo, hi, max of a part. -/
def sBounds (len cap : Nat) (lo hi mx : Option Value) : Option (Nat × Nat × Nat) :=
  match (match mx with | some v => sBound v cap | none => some cap) with
  | none => none
  | some m =>
    match (match hi, mx with | some v, some _ => sBound v m | some v, none => sBound v cap | none, none => some len | none, some _ => none) with
    | none => none
    | some h =>
      match (match lo with | some v => sBound v h | none => some 0) with
      | none => none
      | some l => some (l, h, m)

theorem sBounds_ok {P : Program} {ρ : Rho} {len cap cap' : Nat} {lo hi mx rlo rhi rmx : Option Value} {l h m : Nat} (hb : sBounds len cap lo hi mx = some (l, h, m)) (hlc : len ≤ cap) (hcap : cap ≤ cap')
    (hlo : oRel ρ lo rlo) (hhi : oRel ρ hi rhi) (hmx : oRel ρ mx rmx) (isS : Bool) (w : World) :
    l ≤ h ∧ h ≤ cap ∧ h ≤ m ∧ ((mx = none ∧ m = cap) ∨ (mx ≠ none ∧ m ≤ cap)) ∧ (Instr.sliceBounds isS len cap' rlo rhi rmx).run P w = .ok (l, h, if mx = none then cap' else m) w := by
  unfold sBounds at hb
  cases mx with
  | none =>
    cases rmx with
    | some _ => exact hmx.elim
    | none =>
      simp only at hb
      cases hi with
      | none =>
        cases rhi with
        | some _ => exact hhi.elim
        | none =>
          simp only at hb
          cases lo with
          | none =>
            cases rlo with
            | some _ => exact hlo.elim
            | none =>
              simp only at hb; cases hb
              exact ⟨by omega, by omega, by omega, .inl ⟨rfl, rfl⟩, by simp [Instr.sliceBounds]⟩
          | some v =>
            cases rlo with
            | none => exact hlo.elim
            | some rv =>
              simp only at hb
              cases h1 : sBound v len with
              | none => rw [h1] at hb; cases hb
              | some n =>
                rw [h1] at hb; cases hb
                obtain ⟨h2, h3⟩ := sBound_ok (P := P) h1 hlo (Nat.le_refl _) (if (none : Option Value).isSome then .slice3C else .sliceB) w
                refine ⟨h2, by omega, by omega, .inl ⟨rfl, rfl⟩, ?_⟩
                simp only [Instr.sliceBounds, Sem.run_bind, Sem.run_pure, Result.andThen_ok]
                rw [h3]; rfl
      | some vh =>
        cases rhi with
        | none => exact hhi.elim
        | some rvh =>
          simp only at hb
          cases h4 : sBound vh cap with
          | none => rw [h4] at hb; cases hb
          | some hh =>
            rw [h4] at hb
            simp only at hb
            obtain ⟨h5, h6⟩ := sBound_ok (P := P) h4 hhi hcap (if isS then .sliceAcap else .sliceAlen) w
            cases lo with
            | none =>
              cases rlo with
              | some _ => exact hlo.elim
              | none =>
                simp only at hb; cases hb
                refine ⟨by omega, by omega, by omega, .inl ⟨rfl, rfl⟩, ?_⟩
                simp only [Instr.sliceBounds, Sem.run_bind, Sem.run_pure, Result.andThen_ok]
                rw [h6]; rfl
            | some v =>
              cases rlo with
              | none => exact hlo.elim
              | some rv =>
                simp only at hb
                cases h1 : sBound v hh with
                | none => rw [h1] at hb; cases hb
                | some n =>
                  rw [h1] at hb; cases hb
                  obtain ⟨h2, h3⟩ := sBound_ok (P := P) h1 hlo (Nat.le_refl _) (if (none : Option Value).isSome then .slice3C else .sliceB) w
                  refine ⟨h2, by omega, by omega, .inl ⟨rfl, rfl⟩, ?_⟩
                  simp only [Instr.sliceBounds, Sem.run_bind, Sem.run_pure, Result.andThen_ok]
                  rw [h6]
                  simp only [Result.andThen_ok]
                  rw [h3]; rfl
  | some vm =>
    cases rmx with
    | none => exact hmx.elim
    | some rvm =>
      simp only at hb
      cases h7 : sBound vm cap with
      | none => rw [h7] at hb; cases hb
      | some mm =>
        rw [h7] at hb
        simp only at hb
        obtain ⟨h8, h9⟩ := sBound_ok (P := P) h7 hmx hcap (if isS then .slice3Acap else .slice3Alen) w
        cases hi with
        | none => simp only at hb; cases hb
        | some vh =>
          cases rhi with
          | none => exact hhi.elim
          | some rvh =>
            simp only at hb
            cases h4 : sBound vh mm with
            | none => rw [h4] at hb; cases hb
            | some hh =>
              rw [h4] at hb
              simp only at hb
              obtain ⟨h5, h6⟩ := sBound_ok (P := P) h4 hhi (Nat.le_refl _) .slice3B w
              cases lo with
              | none =>
                cases rlo with
                | some _ => exact hlo.elim
                | none =>
                  simp only at hb; cases hb
                  refine ⟨by omega, by omega, by omega, .inr ⟨by simp, h8⟩, ?_⟩
                  simp only [Instr.sliceBounds, Sem.run_bind, Sem.run_pure]
                  rw [h9]
                  simp only [Result.andThen_ok]
                  rw [h6]; rfl
              | some v =>
                cases rlo with
                | none => exact hlo.elim
                | some rv =>
                  simp only at hb
                  cases h1 : sBound v hh with
                  | none => rw [h1] at hb; cases hb
                  | some n =>
                    rw [h1] at hb; cases hb
                    obtain ⟨h2, h3⟩ := sBound_ok (P := P) h1 hlo (Nat.le_refl _) (if (some rvm).isSome then .slice3C else .sliceB) w
                    refine ⟨h2, by omega, by omega, .inr ⟨by simp, h8⟩, ?_⟩
                    simp only [Instr.sliceBounds, Sem.run_bind, Sem.run_pure, Result.andThen_ok]
                    rw [h9]
                    simp only [Result.andThen_ok]
                    rw [h6]
                    simp only [Result.andThen_ok]
                    rw [h3]; rfl

end Go.Sh

/- Parts of slices, append, copy, clear, len. -/
namespace Go.Sh
open Go

/-- May there be room behind a block that does not come in so many cells? -/
def evenB (s : SW) (i n : Nat) : Bool :=
  match s.heap i with
  | some (.cells _ _ g) => g == 0 || g == n
  | _ => false

theorem evenB_ok {ρ : Rho} {s : SW} {w : World} (hr : HRel ρ s w) {i n : Nat} {p : Pl} (h : evenB s i n = true) (hp : ρ i = some p) (hx : p.x ≠ 0) : p.z = n := by
  unfold evenB at h
  split at h
  · rename_i cs own g hi
    obtain ⟨q, hq, ho⟩ := hr.place hi
    rw [hp] at hq; cases hq
    cases hb : w.heap[p.r]? with
    | none => rw [hb] at ho; exact ho.elim
    | some ob =>
      rw [hb] at ho
      cases ob with
      | cells rc e fz =>
        obtain ⟨_, _, _, _, h5, h6⟩ := ho
        simp only [Bool.or_eq_true, beq_iff_eq] at h
        rcases h with h | h
        · exact absurd (h5 h).1 hx
        · rw [← h]; exact h6 fun h0 => hx (h5 h0).1
      | _ => exact ho.elim
  · cases h

def sSlice (P : Program) (t : TypeId) (x : Value) (lo hi mx : Option Value) (s : SW) : Option Value :=
  match P.underlying t, x with
  | some .string, .string b =>
    if mx.isSome then none else
    match sBounds b.size b.size lo hi none with
    | some (l, h, _) => some (.string (b.extract l h))
    | none => none
  | some (.slice e), .slice (some ⟨i, o, none⟩) len cap =>
    match sz P e, sBounds len cap lo hi mx with
    | some n, some (l, h, m) =>
      if len ≤ cap ∧ (mx.isSome ∨ l < m ∨ l = 0) ∧ (mx.isSome ∨ evenB s i n = true) then some (.slice (some ⟨i, if m = l then o else o + l * n, none⟩) (h - l) (m - l)) else none
    | _, _ => none
  | some (.slice e), .slice none len cap =>
    match sz P e, sBounds len cap lo hi mx with
    | some _, some (l, h, m) => if len ≤ cap then some (.slice none (h - l) (m - l)) else none
    | _, _ => none
  | some (.array len e), .pointer (some ⟨i, o, none⟩) =>
    match sz P e, sBounds len len lo hi mx with
    | some n, some (l, h, m) => some (.slice (some ⟨i, if m = l then o else o + l * n, none⟩) (h - l) (m - l))
    | _, _ => none
  | _, _ => none

theorem sSlice_ok {P : Program} {ρ : Rho} {t : TypeId} {x v rx : Value} {lo hi mx rlo rhi rmx : Option Value} {s : SW} {w₀ : World} (hr : HRel ρ s w₀) (h : sSlice P t x lo hi mx s = some v) (hx : VRel ρ x rx)
    (hlo : oRel ρ lo rlo) (hhi : oRel ρ hi rhi) (hmx : oRel ρ mx rmx) : ∃ rv, VRel ρ v rv ∧ ∀ w, (Instr.sliceAt t rx rlo rhi rmx).run P w = .ok rv w := by
  have hms : mx.isSome = rmx.isSome := by cases mx <;> cases rmx <;> first | rfl | exact hmx.elim
  unfold sSlice at h
  split at h
  · rename_i b ht
    obtain rfl := hx.string
    split at h
    · cases h
    · rename_i hm
      split at h
      · rename_i l hh m hb
        cases h
        refine ⟨_, .plain rfl, fun w => ?_⟩
        obtain ⟨_, _, _, _, hrun⟩ := sBounds_ok (P := P) hb (Nat.le_refl _) (Nat.le_refl _) hlo hhi (show oRel ρ none none from trivial) false w
        simp only [Instr.sliceAt, Sem.run_bind, run_underlying' w ht, Result.andThen_ok, Instr.slice]
        rw [if_neg (by rw [← hms]; exact hm)]
        simp only [Sem.run_bind, Sem.run_pure, Result.andThen_ok, hrun]
      · cases h
  · rename_i e i o len cap ht
    split at h
    · rename_i n l hh m hn hb
      split at h
      · rename_i hc
        obtain ⟨hlc, hc, hev⟩ := hc
        cases h
        obtain ⟨p, c', hp, h1, h2, rfl⟩ := hx.slice_inv
        have hcap : cap ≤ c' := by rcases h2 with h2 | h2 <;> omega
        have hb' := fun w => sBounds_ok (P := P) hb hlc hcap hlo hhi hmx true w
        obtain ⟨g1, g2, g3, g4, _⟩ := hb' default
        refine ⟨.slice (some ⟨p.r, p.b + (if m = l then o else o + l * n), none⟩) (hh - l) ((if mx = none then c' else m) - l), ?_, fun w => ?_⟩
        · refine .slice hp (by omega) ?_
          rcases g4 with ⟨g5, g6⟩ | ⟨g5, g6⟩
          · rw [if_pos g5]
            rcases h2 with h2 | ⟨h2, h3⟩
            · left; omega
            · by_cases hx0 : p.x = 0
              · left; omega
              · right
                refine ⟨by omega, ?_⟩
                have hpz := evenB_ok hr (by rcases hev with hev | hev <;> first | (rw [g5] at hev; cases hev) | exact hev) hp hx0
                rw [hpz] at h3 ⊢
                split
                · rename_i hml
                  have : l = 0 := by rcases hc with hc | hc | hc <;> first | (rw [g5] at hc; cases hc) | omega
                  subst this
                  rw [g6]; simpa using h3
                · rw [g6]
                  have : o + l * n + (cap - l) * n = o + cap * n := by
                    rw [Nat.add_assoc, ← Nat.add_mul]
                    congr 2; omega
                  omega
          · rw [if_neg g5]; exact .inl rfl
        · obtain ⟨_, _, _, _, hrun⟩ := hb' w
          simp only [Instr.sliceAt, Sem.run_bind, run_underlying' w ht, Result.andThen_ok, Instr.slice, hrun]
          have e1 : (if (if mx = none then c' else m) = l then (some (⟨p.r, p.b + o, none⟩ : Addr)) else (some ⟨p.r, p.b + o, none⟩ : Option Addr).map (·.add (l * n))) = some ⟨p.r, p.b + (if m = l then o else o + l * n), none⟩ := by
            simp only [Option.map_some, Addr.add_none]
            by_cases hl0 : l = 0
            · subst hl0; simp
            · rcases g4 with ⟨g5, g6⟩ | ⟨g5, g6⟩
              · rw [if_pos g5]
                have : l < m := by rcases hc with hc | hc | hc <;> first | (rw [g5] at hc; cases hc) | omega
                rw [if_neg (by omega), if_neg (by omega), Nat.add_assoc]
              · rw [if_neg g5]
                split <;> simp [Nat.add_assoc]
          simp only [run_sizeOf' w hn, Result.andThen_ok, Sem.run_pure]
          rw [e1]
      · cases h
    · cases h
  · rename_i e len cap ht
    split at h
    · rename_i n l hh m hn hb
      split at h
      · rename_i hlc
        cases h
        cases hx with
        | plain _ =>
          have hb' := fun w => sBounds_ok (P := P) hb hlc (Nat.le_refl _) hlo hhi hmx true w
          obtain ⟨g1, g2, g3, g4, _⟩ := hb' default
          have hmm : (if mx = none then cap else m) = m := by
            rcases g4 with ⟨g5, g6⟩ | ⟨g5, g6⟩
            · rw [if_pos g5, g6]
            · rw [if_neg g5]
          refine ⟨.slice none (hh - l) (m - l), .plain rfl, fun w => ?_⟩
          obtain ⟨_, _, _, _, hrun⟩ := hb' w
          rw [hmm] at hrun
          simp only [Instr.sliceAt, Sem.run_bind, run_underlying' w ht, Result.andThen_ok, Instr.slice, hrun, run_sizeOf' w hn, Sem.run_pure]
          simp
      · cases h
    · cases h
  · rename_i len e i o ht
    split at h
    · rename_i n l hh m hn hb
      cases h
      obtain ⟨p, hp, rfl⟩ := hx.ptr_inv
      have hb' := fun w => sBounds_ok (P := P) hb (Nat.le_refl _) (Nat.le_refl _) hlo hhi hmx false w
      obtain ⟨g1, g2, g3, g4, _⟩ := hb' default
      have hmm : (if mx = none then len else m) = m := by
        rcases g4 with ⟨g5, g6⟩ | ⟨g5, g6⟩
        · rw [if_pos g5, g6]
        · rw [if_neg g5]
      refine ⟨.slice (some ⟨p.r, p.b + (if m = l then o else o + l * n), none⟩) (hh - l) (m - l), .slice hp (by omega) (.inl rfl), fun w => ?_⟩
      obtain ⟨_, _, _, _, hrun⟩ := hb' w
      rw [hmm] at hrun
      simp only [Instr.sliceAt, Sem.run_bind, run_underlying' w ht, Result.andThen_ok, Instr.sureAddr, Sem.run_pure, hrun, run_sizeOf' w hn]
      congr 4
      simp only [Addr.add_none]
      split <;> simp [Nat.add_assoc]
    · cases h
  · cases h

end Go.Sh

/- append, copy, clear, len; texts and bytes. -/
namespace Go.Sh
open Go

def byteV (b : UInt8) : Value := .int .u8 b.toNat

/-- The first n elements of what is appended or copied. -/
def sFirst (size n : Nat) (x : Value) (s : SW) : Option (List Value) :=
  match x with
  | .slice (some ⟨i, o, none⟩) l _ =>
    match s.heap i with
    | some (.cells cs _ _) => if n ≤ l ∧ o + n * size ≤ cs.length then some ((cs.drop o).take (n * size)) else none
    | _ => none
  | .slice none _ _ => if n = 0 then some [] else none
  | .slice (some ⟨_, _, some _⟩) _ _ => if n = 0 then some [] else none
  | .string b => if size = 1 ∧ n ≤ b.size then some ((b.extract 0 n).data.toList.map byteV) else none
  | _ => none

def sLenOf : Value → Option Nat
  | .slice _ n _ => some n
  | .string s => some s.size
  | _ => none

theorem sLenOf_ok {P : Program} {ρ : Rho} {x rx : Value} {n : Nat} (h : sLenOf x = some n) (hx : VRel ρ x rx) (w : World) : (Builtin.lenOf rx).run P w = .ok n w := by
  cases hx with
  | plain h0 => cases x <;> first | (simp [sLenOf] at h; subst h; rfl) | (simp [sLenOf] at h)
  | junk => simp [sLenOf, junk] at h
  | slice hp h1 h2 => simp [sLenOf] at h; subst h; rfl
  | empty => simp [sLenOf] at h; subst h; rfl
  | _ => simp [sLenOf] at h

theorem F2.refl_plain {ρ : Rho} {cs : List Value} (h : ∀ c ∈ cs, pl0 c = true) : F2 (VRel ρ) cs cs := F2.zero (List.all_eq_true.2 h)

theorem sFirst_ok {P : Program} {ρ : Rho} {s : SW} {w : World} {size n : Nat} {x rx : Value} {xs : List Value} (hr : HRel ρ s w) (h : sFirst size n x s = some xs) (hx : VRel ρ x rx) :
    ∃ rxs : List Value, F2 (VRel ρ) xs rxs ∧ xs.length = n * size ∧ (Builtin.firstCells size n rx).run P w = .ok rxs.toArray w := by
  unfold sFirst at h
  split at h
  · rename_i i o l c
    split at h
    · rename_i cs own g hi
      split at h
      · rename_i hc
        cases h
        obtain ⟨p, c', hp, h1, h2, rfl⟩ := hx.slice_inv
        obtain ⟨rvs, h3, h4⟩ := hr.loadCells (P := P) hi hp hc.2
        exact ⟨rvs, h3, by simp; omega, by simpa [Builtin.firstCells] using h4⟩
      · cases h
    · cases h
  · split at h
    · rename_i hn
      cases h
      cases hx with
      | plain _ => exact ⟨[], .nil, by simp [hn], rfl⟩
    · cases h
  · split at h
    · rename_i hn
      cases h
      cases hx with
      | plain h0 => simp [pl0] at h0
      | empty => subst hn; exact ⟨[], .nil, by simp, by simp [Builtin.firstCells, Go.loadCells, loadCellsFrom]⟩
    · cases h
  · rename_i b
    obtain rfl := hx.string
    split at h
    · rename_i hc
      cases h
      refine ⟨(b.extract 0 n).data.toList.map byteV, F2.refl_plain ?_, ?_, ?_⟩
      · intro c hc; simp only [List.mem_map] at hc; obtain ⟨_, _, rfl⟩ := hc; rfl
      · rw [List.length_map, Array.length_toList, hc.1]
        show (b.extract 0 n).size = n * 1
        rw [ByteArray.size_extract]; omega
      · simp only [Builtin.firstCells, Sem.run_pure]
        congr 1
        apply Array.toList_inj.1
        simp; rfl
    · cases h
  · cases h

theorem growBy_le (need : Nat) : ∀ (r c : Nat), c ≤ 2 * need + 192 → Builtin.growBy need r c ≤ 2 * need + 192
  | 0, c, h => h
  | r + 1, c, h => by
    simp only [Builtin.growBy]
    split
    · exact h
    · exact growBy_le need r _ (by omega)

theorem nextslicecap_le {need cap : Nat} (h : cap < need) : Builtin.nextslicecap need cap ≤ 2 * need + 192 := by
  unfold Builtin.nextslicecap
  split
  · omega
  · split
    · omega
    · exact growBy_le need 4 cap (by omega)

def intD : TypeDesc → Bool
  | .int _ => true
  | _ => false

/-- What an append comes to. -/
def sAppend (P : Program) (argTypes : Array TypeId) (args : Array Value) (s : SW) : Option (Value × SW) :=
  match (argTypes[0]? : Option TypeId), (argTypes[1]? : Option TypeId), (args[0]? : Option Value), (args[1]? : Option Value) with
  | some tS, some tX, some (.slice base l c), some x =>
    match P.underlying tS, P.underlying tX, sLenOf x with
    | some (.slice e), some dX, some n =>
      match sz P e, bytesV P e, zeroV P e with
      | some size, some bt, some z =>
        match sFirst size n x s with
        | none => none
        | some xs =>
          if ¬ (intD dX = false ∧ l + n ≤ 1073741824 ∧ bt ≤ 1024 ∧ z.cells.size = size ∧ 1 ≤ size) then none else
          if l + n ≤ c then
            match base with
            | none => if n = 0 then some (.slice none l c, s) else none
            | some ⟨i, o, none⟩ =>
              match s.heap i with
              | some (.cells cs true g) =>
                if xs.all (·.oneCell') = true ∧ o + l * size + n * size ≤ cs.length then some (.slice (some ⟨i, o, none⟩) (l + n) c, s.set i (.cells (setL cs (o + l * size) xs) true g)) else none
              | _ => none
            | _ => none
          else
            match base with
            | none => if l = 0 ∧ c = 0 then some (.slice (some ⟨s.next, 0, none⟩) n n, s.new (.cells xs true size)) else none
            | some ⟨i, o, none⟩ =>
              match s.heap i with
              | some (.cells cs own g) =>
                if o + l * size ≤ cs.length then
                  if g = 0 ∨ o + c * size ≠ cs.length then
                    if g = 0 ∨ g = size then some (.slice (some ⟨s.next, 0, none⟩) (l + n) (l + n), s.new (.cells ((cs.drop o).take (l * size) ++ xs) true size)) else none
                  else if g = size ∧ l = c ∧ own = true ∧ xs.all (·.oneCell') = true then
                    some (.slice (some ⟨s.next, 0, none⟩) (l + n) (l + n), (s.kill i).new (.cells ((cs.drop o).take (l * size) ++ xs) true size))
                  else none
                else none
              | _ => none
            | _ => none
      | _, _, _ => none
    | _, _, _ => none
  | _, _, _, _ => none

theorem run_zeroCells_size (zero : Array Value) (n : Nat) : (Builtin.zeroCells zero n).size = n * zero.size := by simp [Builtin.zeroCells]

theorem getD_args {ρ : Rho} {args : Array Value} {rargs : Array Value} (h : F2 (VRel ρ) args.toList rargs.toList) {k : Nat} {v : Value} (hk : args[k]? = some v) : ∃ rv, rargs[k]? = some rv ∧ VRel ρ v rv := by
  have hlt : k < args.size := by
    rcases Nat.lt_or_ge k args.size with h1 | h1
    · exact h1
    · rw [Array.getElem?_eq_none h1] at hk; cases hk
  have hl := h.length
  simp only [Array.length_toList] at hl
  exact ⟨rargs[k], Array.getElem?_eq_getElem (by omega), h.get k v _ (by simpa using hk) (by simp)⟩

section
variable {P : Program} {argTypes : Array TypeId} {rargs : Array Value} {tS tX e : TypeId} {dX : TypeDesc} {rbase : Option Addr} {l rc n size bt : Nat} {rx z : Value} {w : World} {t : TypeId} {rxs : List Value}

theorem run_append_room (hT0 : argTypes[0]? = some tS) (hT1 : argTypes[1]? = some tX) (hB0 : rargs[0]? = some (.slice rbase l rc)) (hB1 : rargs[1]? = some rx)
    (htS : P.underlying tS = some (.slice e)) (htX : P.underlying tX = some dX) (hdX : intD dX = false) (hsz : sz P e = some size) (hn : (Builtin.lenOf rx).run P w = .ok n w)
    (hx : (Builtin.firstCells size n rx).run P w = .ok rxs.toArray w) (hle : l + n ≤ rc) :
    (Builtin.append_ argTypes t rargs).run P w =
      ((match rbase with | some a => storeCells (a.add (l * size)) rxs | none => pure () : Sem Unit).run P w).andThen fun _ w' => .ok (.slice rbase (l + n) rc) w' := by
  unfold Builtin.append_
  rw [hT0, hB0, hB1]
  simp only [Sem.run_bind, run_underlying' w htS, Result.andThen_ok, run_sizeOf' w hsz]
  rw [hT1]
  simp only [Sem.run_bind, run_underlying' w htX, Result.andThen_ok, Sem.run_pure]
  cases dX <;> first
    | (simp [intD] at hdX; done)
    | (simp only [Bool.false_eq_true, if_false, Sem.run_bind, hn, Result.andThen_ok, Bool.not_false, if_true, if_pos hle, hx]
       cases rbase <;> simp)

theorem run_append_new (hT0 : argTypes[0]? = some tS) (hT1 : argTypes[1]? = some tX) (hB0 : rargs[0]? = some (.slice rbase l rc)) (hB1 : rargs[1]? = some rx)
    (htS : P.underlying tS = some (.slice e)) (htX : P.underlying tX = some dX) (hdX : intD dX = false) (hsz : sz P e = some size) (hbt : bytesV P e = some bt) (hz : zeroV P e = some z)
    (hn : ∀ w, (Builtin.lenOf rx).run P w = .ok n w) {old : List Value} (hold : (Builtin.firstCells size l (.slice rbase l rc)).run P w.drew = .ok old.toArray w.drew)
    (hx : (Builtin.firstCells size n rx).run P w.drew = .ok rxs.toArray w.drew) (hgt : ¬ l + n ≤ rc) (hln : l + n ≤ 1073741824) (hbt1 : bt ≤ 1024) :
    ∃ (newCap : Nat) (w₁ : World), l + n ≤ newCap ∧ w₁.heap = w.heap ∧ Same w w₁ ∧ (Builtin.append_ argTypes t rargs).run P w =
      .ok (.slice (some ⟨w.heap.size, 0, none⟩) (l + n) newCap) (w₁.alloc (.cells (old.toArray ++ rxs.toArray ++ Builtin.zeroCells z.cells (newCap - (l + n))) e)) := by
  obtain ⟨ib, hib, hibb⟩ := run_bytes (P := P) hbt w
  have hcap := nextslicecap_le (Nat.lt_of_not_le hgt)
  have hbig : ¬ (Builtin.nextslicecap (l + n) rc * bt > 2 ^ 48) := by
    have : Builtin.nextslicecap (l + n) rc * bt ≤ (2 * 1073741824 + 192) * 1024 := Nat.mul_le_mul (by omega) hbt1
    omega
  have hmax : ¬ (((l + n : Nat) : Int) > IntKind.i64.max ∧ ((false = true) ∨ ib.bytes = 0)) := by
    have e : IntKind.i64.max = 9223372036854775807 := by decide
    rw [e]; omega
  have hb1 : ∀ w, (typeInfo e).run P w = .ok ib w := by
    intro w'
    cases hi : P.info? e with
    | none => simp [typeInfo, hi] at hib
    | some i =>
      rw [run_typeInfo w hi] at hib
      cases hib
      exact run_typeInfo w' hi
  refine ⟨(Question.appendCap (l + n) rc e).cut (w.tape w.drawn (Question.appendCap (l + n) rc e)), w.drew, ?_, rfl, ⟨rfl, rfl, rfl⟩, ?_⟩
  · simp only [Question.cut]; omega
  · unfold Builtin.append_
    rw [hT0, hB0, hB1]
    simp only [Sem.run_bind, run_underlying' w htS, Result.andThen_ok, run_sizeOf' w hsz]
    rw [hT1]
    simp only [Sem.run_bind, run_underlying' w htX, Result.andThen_ok, Sem.run_pure]
    cases dX <;> first
      | (simp [intD] at hdX; done)
      | (simp only [Bool.false_eq_true, if_false, Sem.run_bind, hn, Result.andThen_ok, Bool.not_false, if_true, if_neg hgt, hb1]
         rw [if_neg (by simpa using hmax)]
         simp only [Sem.run_bind, hb1, Result.andThen_ok]
         rw [hibb, if_neg hbig]
         simp only [Sem.run_bind, run_choose, Question.forced, Bool.false_eq_true, if_false, Result.andThen_ok, hb1, run_askRoom]
         rw [World.drew_eq, hold]
         simp only [Result.andThen_ok]
         rw [hx]
         simp only [Result.andThen_ok, run_zeroValue' _ hz, newRow, Sem.run_bind, run_newObj, Sem.run_pure]
         rfl)
end

theorem F2.take {α β : Type} {R : α → β → Prop} {l : List α} {m : List β} (h : F2 R l m) (n : Nat) : F2 R (l.take n) (m.take n) := by
  induction h generalizing n with
  | nil => simpa using F2.nil
  | cons h1 _ ih =>
    cases n with
    | zero => exact .nil
    | succ n => exact .cons h1 (ih n)

theorem newCells_list {ρ : Rho} {s : SW} {w w₁ : World} (h : HRel ρ s w) {cs rcs : List Value} {rest : Array Value} {e : TypeId} (x z : Nat) (hw : w₁.heap = w.heap) (hs : Same w w₁)
    (hF : F2 (VRel ρ) cs rcs) (hx : x * z ≤ rest.size) (hz : z = 0 → x = 0) :
    HRel (ρ.upd s.next ⟨w.heap.size, 0, cs.length, x, z⟩) (s.new (.cells cs true z)) (w₁.alloc (.cells (rcs.toArray ++ rest) e)) ∧
      Ext ρ s w (ρ.upd s.next ⟨w.heap.size, 0, cs.length, x, z⟩) (s.new (.cells cs true z)) (w₁.alloc (.cells (rcs.toArray ++ rest) e)) := by
  refine h.newCells x z z hw hs (by simp [hF.length]; omega) hz (fun _ => rfl) (fun k v hk => ?_)
  have hlt : k < rcs.length := by
    rw [← hF.length]
    rcases Nat.lt_or_ge k cs.length with h | h
    · exact h
    · rw [List.getElem?_eq_none h] at hk; cases hk
  refine ⟨rcs[k], ?_, hF.get k v _ hk (List.getElem?_eq_getElem hlt)⟩
  rw [Array.getElem?_append_left (by simpa using hlt)]
  simp [hlt]

theorem sAppend_ok {P : Program} {ρ : Rho} {s s' : SW} {w : World} {argTypes : Array TypeId} {args rargs : Array Value} {v : Value} (hr : HRel ρ s w) (h : sAppend P argTypes args s = some (v, s'))
    (ha : F2 (VRel ρ) args.toList rargs.toList) (t : TypeId) : Good P (Builtin.append_ argTypes t rargs) ρ s w v s' := by
  unfold sAppend at h
  split at h
  · rename_i tS tX base l c x hT0 hT1 hA0 hA1
    obtain ⟨rb, hB0, hbV⟩ := getD_args ha hA0
    obtain ⟨rx, hB1, hxV⟩ := getD_args ha hA1
    split at h
    · rename_i e dX n htS htX hn
      split at h
      · rename_i size bt z hsz hbt hzv
        split at h
        · cases h
        · rename_i xs hxs
          split at h
          · cases h
          · rename_i hg
            obtain ⟨hdX, hln, hbt1, hzs, hsz1⟩ := Decidable.not_not.1 hg
            have hnn := fun w => sLenOf_ok (P := P) hn hxV w
            have hr' : HRel ρ s w.drew := hr.congr rfl
            obtain ⟨rxs, hF, hlen, hrunx⟩ := sFirst_ok (P := P) hr hxs hxV
            obtain ⟨rxs', hF', hlen', hrunx'⟩ := sFirst_ok (P := P) hr' hxs hxV
            split at h
            · -- in place
              rename_i hle
              split at h
              · -- the nil slice
                split at h
                · rename_i hn0
                  cases h
                  cases hbV with
                  | plain h0 =>
                    have hrun := run_append_room (P := P) (t := t) hT0 hT1 hB0 hB1 htS htX hdX hsz (hnn w) hrunx hle
                    refine Good.still hr ?_ (.plain rfl)
                    rw [hrun]
                    simp [hn0]
                · cases h
              · rename_i i o
                split at h
                · rename_i cs g hi
                  split at h
                  · rename_i hc
                    cases h
                    obtain ⟨p, c', hp, h1, h2, rfl⟩ := hbV.slice_inv
                    have hle' : l + n ≤ c' := by rcases h2 with h2 | h2 <;> omega
                    have hrun := run_append_room (P := P) (t := t) hT0 hT1 hB0 hB1 htS htX hdX hsz (hnn w) hrunx hle'
                    obtain ⟨w', e1, e2, e3⟩ := hr.storeCells (P := P) hi hp (o := o + l * size) (by omega) hF (List.all_eq_true.1 hc.1)
                    refine ⟨ρ, w', .slice (some ⟨p.r, p.b + o, none⟩) (l + n) c', ?_, .slice hp hle h2, e2, e3⟩
                    rw [hrun]
                    simp only [Addr.add_none]
                    rw [show p.b + o + l * size = p.b + (o + l * size) by omega, e1]
                    rfl
                  · cases h
                · cases h
              · cases h
            · -- no room known
              rename_i hgt
              split at h
              · split at h
                · rename_i h00
                  obtain ⟨rfl, rfl⟩ := h00
                  cases h
                  cases hbV with
                  | plain h0 =>
                    obtain ⟨newCap, w₁, f1, f2, f3, f4⟩ := run_append_new (P := P) (t := t) hT0 hT1 hB0 hB1 htS htX hdX hsz hbt hzv hnn (old := []) rfl hrunx' hgt hln hbt1
                    obtain ⟨k1, k2⟩ := newCells_list hr (rest := Builtin.zeroCells z.cells (newCap - (0 + n))) (e := e) (newCap - n) size f2 f3 hF' (by rw [run_zeroCells_size, hzs]; simp) (fun h => by omega)
                    refine ⟨_, _, _, f4, ?_, by simpa using k1, by simpa using k2⟩
                    have : VRel (ρ.upd s.next ⟨w.heap.size, 0, xs.length, newCap - n, size⟩) (.slice (some ⟨s.next, 0, none⟩) n n) (.slice (some ⟨w.heap.size, 0 + 0, none⟩) n newCap) :=
                      .slice Rho.upd_same (Nat.le_refl _) (.inr ⟨by simp; omega, by simp [hlen']⟩)
                    simpa using this
                · cases h
              · rename_i i o
                split at h
                · rename_i cs own g hi
                  split at h
                  · rename_i hl0
                    obtain ⟨p, c', hp, h1, h2, rfl⟩ := hbV.slice_inv
                    obtain ⟨old, hFo, holdrun⟩ := hr'.loadCells (P := P) hi hp hl0
                    have holdrun' : (Builtin.firstCells size l (.slice (some ⟨p.r, p.b + o, none⟩) l c')).run P w.drew = .ok old.toArray w.drew := by simpa [Builtin.firstCells] using holdrun
                    have hFall := hFo.append hF'
                    have hlold : ((cs.drop o).take (l * size)).length = l * size := by simp; omega
                    have hp0 := hp
                    obtain ⟨q, hq, hor⟩ := hr.place hi
                    rw [hp] at hq; cases hq
                    split at h
                    · rename_i hex
                      split at h
                      · rename_i hg2
                        cases h
                        have hc' : c' = c := by
                          rcases h2 with h2 | ⟨h2, h3⟩
                          · exact h2
                          · cases hb : w.heap[p.r]? with
                            | none => rw [hb] at hor; exact hor.elim
                            | some ob =>
                              rw [hb] at hor
                              cases ob with
                              | cells rcs e' fz =>
                                obtain ⟨a1, _, _, _, a5, a6⟩ := hor
                                by_cases hg0 : g = 0
                                · rw [h2, (a5 hg0).1]; rfl
                                · rcases hg2 with hg2 | hg2
                                  · exact absurd hg2 hg0
                                  · rcases hex with hex | hex
                                    · exact absurd hex hg0
                                    · have hz2 := a6 hg0
                                      rw [hz2, hg2] at h3
                                      exact absurd (h3.trans a1.symm) hex
                              | _ => exact hor.elim
                        subst hc'
                        obtain ⟨newCap, w₁, f1, f2, f3, f4⟩ := run_append_new (P := P) (t := t) hT0 hT1 hB0 hB1 htS htX hdX hsz hbt hzv hnn holdrun' hrunx' hgt hln hbt1
                        obtain ⟨k1, k2⟩ := newCells_list hr (rest := Builtin.zeroCells z.cells (newCap - (l + n))) (e := e) (newCap - (l + n)) size f2 f3 hFall (by rw [run_zeroCells_size, hzs]; exact Nat.le_refl _) (fun h => by omega)
                        refine ⟨_, _, _, f4, ?_, by simpa using k1, by simpa using k2⟩
                        have : VRel (ρ.upd s.next ⟨w.heap.size, 0, ((cs.drop o).take (l * size) ++ xs).length, newCap - (l + n), size⟩) (.slice (some ⟨s.next, 0, none⟩) (l + n) (l + n)) (.slice (some ⟨w.heap.size, 0 + 0, none⟩) (l + n) newCap) :=
                          .slice Rho.upd_same (Nat.le_refl _) (.inr ⟨by simp; omega, by simp only [List.length_append, hlold, hlen', Nat.zero_add, Nat.add_mul]⟩)
                        simpa using this
                      · cases h
                    · rename_i hex
                      simp only [not_or, ne_eq, Decidable.not_not] at hex
                      obtain ⟨hg0, hend⟩ := hex
                      split at h
                      · rename_i hg2
                        obtain ⟨hg2, hlc, hown, hone⟩ := hg2
                        cases h
                        by_cases hle' : l + n ≤ c'
                        · have hrun := run_append_room (P := P) (t := t) hT0 hT1 hB0 hB1 htS htX hdX hsz (hnn w) hrunx hle'
                          cases hb : w.heap[p.r]? with
                          | none => rw [hb] at hor; exact hor.elim
                          | some ob =>
                            rw [hb] at hor
                            cases ob with
                            | cells rcs e' fz =>
                              obtain ⟨a1, a2, a3, a4, a5, a6⟩ := hor
                              have hz2 : p.z = size := by rw [a6 hg0, hg2]
                              have hcx : c' = c + p.x := by
                                rcases h2 with h2 | h2
                                · omega
                                · exact h2.1
                              have hroom : p.b + o + l * size + n * size ≤ rcs.size := by
                                have : o + l * size = p.n := by rw [hlc, hend, a1]
                                have h6 : n * size ≤ p.x * size := Nat.mul_le_mul_right _ (by omega)
                                rw [hz2] at a2
                                omega
                              have hlen2 := hF.length
                              obtain ⟨w', b1, b2, b3, b4, b5⟩ := run_storeCells (P := P) p.r (p.b + o + l * size) rxs 0 w rcs e' fz hb (by omega) (a4 hown) (hF.oneCell (List.all_eq_true.1 hone))
                              have hF0 : F2 (VRel ρ) ((cs.drop o).take (l * size) ++ xs) (((rcs.toList.drop (p.b + o)).take (l * size)) ++ rxs) := by
                                refine F2.append (F2.of_get (by simp; omega) ?_) hF
                                intro k v v' g1 g2
                                have hk : k < l * size := by
                                  rcases Nat.lt_or_ge k (l * size) with h | h
                                  · exact h
                                  · rw [List.getElem?_eq_none (by rw [hlold]; exact h)] at g1; cases g1
                                rw [List.getElem?_take_of_lt hk, List.getElem?_drop] at g1 g2
                                obtain ⟨rv, g3, g4⟩ := a3 (o + k) v g1
                                rw [show p.b + (o + k) = p.b + o + k by omega] at g3
                                rw [Array.getElem?_toList, g3] at g2
                                cases g2
                                exact g4
                              refine ⟨ρ.upd s.next ⟨p.r, p.b + o, ((cs.drop o).take (l * size) ++ xs).length, c' - (l + n), size⟩, w', .slice (some ⟨p.r, p.b + o, none⟩) (l + n) c', ?_, ?_, ?_, ?_⟩
                              · rw [hrun]
                                simp only [Addr.add_none]
                                rw [b1]
                                rfl
                              · have : VRel (ρ.upd s.next ⟨p.r, p.b + o, ((cs.drop o).take (l * size) ++ xs).length, c' - (l + n), size⟩) (.slice (some ⟨s.next, 0, none⟩) (l + n) (l + n)) (.slice (some ⟨p.r, p.b + o + 0, none⟩) (l + n) c') :=
                                  .slice Rho.upd_same (Nat.le_refl _) (.inr ⟨by simp; omega, by simp only [List.length_append, hlold, hlen, Nat.zero_add, Nat.add_mul]⟩)
                                simpa using this
                              · refine hr.move hi hp rfl b3 ?_
                                rw [b2]
                                refine ⟨rfl, ?_, ?_, ?_, ?_, ?_⟩
                                · rw [setR_size]
                                  simp only [List.length_append, hlold, hlen]
                                  have h7 : (c' - (l + n)) * size + n * size ≤ p.x * size := by rw [← Nat.add_mul]; exact Nat.mul_le_mul_right _ (by omega)
                                  have : o + l * size = p.n := by rw [hlc, hend, a1]
                                  rw [hz2] at a2
                                  omega
                                · intro k v hk
                                  have hn' := (hr.next s.next (Nat.le_refl _))
                                  simp only [Nat.add_zero]
                                  rw [setR_get _ _ _ _ (by omega)]
                                  rw [List.getElem?_append, hlold] at hk
                                  by_cases hk2 : k < l * size
                                  · rw [if_pos hk2, List.getElem?_take_of_lt hk2, List.getElem?_drop] at hk
                                    rw [if_neg (by omega)]
                                    obtain ⟨rv, g3, g4⟩ := a3 (o + k) v hk
                                    exact ⟨rv, by rw [← g3]; congr 1; omega, g4.mono (Rho.le_upd hn')⟩
                                  · rw [if_neg hk2] at hk
                                    have hk3 : k - l * size < xs.length := by
                                      rcases Nat.lt_or_ge (k - l * size) xs.length with h | h
                                      · exact h
                                      · rw [List.getElem?_eq_none h] at hk; cases hk
                                    rw [if_pos (by omega)]
                                    have hk4 : k - l * size < rxs.length := by omega
                                    refine ⟨rxs[k - l * size], ?_, (hF.get _ v _ hk (List.getElem?_eq_getElem hk4)).mono (Rho.le_upd hn')⟩
                                    rw [← List.getElem?_eq_getElem hk4]
                                    congr 1
                                    omega
                                · intro _ k hk; rw [setR_size] at hk; exact a4 hown k hk
                                · intro h0; omega
                                · intro _; rfl
                              · exact Ext.move hr hi hp hown rfl b3 (by omega) b5
                            | _ => exact hor.elim
                        · obtain ⟨newCap, w₁, f1, f2, f3, f4⟩ := run_append_new (P := P) (t := t) hT0 hT1 hB0 hB1 htS htX hdX hsz hbt hzv hnn holdrun' hrunx' hle' hln hbt1
                          have hless : SW.less (s.kill i) s := ⟨fun j u hj => by simp only [SW.kill] at hj; split at hj <;> first | (cases hj; done) | exact hj, Nat.le_refl _⟩
                          obtain ⟨k1, k2⟩ := newCells_list (hr.less hless) (rest := Builtin.zeroCells z.cells (newCap - (l + n))) (e := e) (newCap - (l + n)) size f2 f3 hFall (by rw [run_zeroCells_size, hzs]; exact Nat.le_refl _) (fun h => by omega)
                          refine ⟨_, _, _, f4, ?_, by simpa using k1, by simpa using Ext.less hless k2⟩
                          have : VRel (ρ.upd (s.kill i).next ⟨w.heap.size, 0, ((cs.drop o).take (l * size) ++ xs).length, newCap - (l + n), size⟩) (.slice (some ⟨(s.kill i).next, 0, none⟩) (l + n) (l + n)) (.slice (some ⟨w.heap.size, 0 + 0, none⟩) (l + n) newCap) :=
                            .slice Rho.upd_same (Nat.le_refl _) (.inr ⟨by simp; omega, by simp only [List.length_append, hlold, hlen', Nat.zero_add, Nat.add_mul]⟩)
                          simpa [SW.kill] using this
                      · cases h
                  · cases h
                · cases h
              · cases h
      · cases h
    · cases h
  · cases h

end Go.Sh
