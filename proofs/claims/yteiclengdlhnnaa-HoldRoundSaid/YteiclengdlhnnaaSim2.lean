/- The heap's laws: a block that is written, a new one, one that has moved. -/
import Derived.Test.YteiclengdlhnnaaSim1
namespace Go.Sh
open Go

def Rho.upd (ρ : Rho) (i : Nat) (p : Pl) : Rho := fun j => if j = i then some p else ρ j

theorem Rho.le_upd {ρ : Rho} {i : Nat} {p : Pl} (h : ρ i = none) : Rho.le ρ (ρ.upd i p) := by
  intro j q hj
  unfold Rho.upd
  by_cases e : j = i
  · subst e; rw [h] at hj; cases hj
  · simp [e, hj]

theorem Rho.upd_same {ρ : Rho} {i : Nat} {p : Pl} : ρ.upd i p i = some p := by simp [Rho.upd]

theorem ORel.mono {ρ ρ' : Rho} (h : Rho.le ρ ρ') {p : Pl} {o : SObj} {ob : Option Obj} (ho : ORel ρ p o ob) : ORel ρ' p o ob := by
  cases o with
  | cells cs own grown =>
    cases ob with
    | none => exact ho
    | some ob =>
      cases ob with
      | cells rc e fz =>
        obtain ⟨h1, h2, h3, h4, h5⟩ := ho
        exact ⟨h1, h2, fun k v hk => let ⟨rv, a, b⟩ := h3 k v hk; ⟨rv, a, b.mono h⟩, h4, h5⟩
      | _ => exact ho
  | map k own m =>
    cases ob with
    | none => exact ho
    | some ob =>
      cases ob with
      | map es clock =>
        obtain ⟨⟨l, h1, h2⟩, h3, h4, h5⟩ := ho
        exact ⟨⟨l, h1, h2.imp fun a b hab => ⟨hab.1, hab.2.mono h⟩⟩, h3, h4, h5⟩
      | _ => exact ho

/-- The streams are as they were. -/
structure Same (w w' : World) : Prop where
  os : w'.os = w.os
  tape : w'.tape = w.tape
  output : w'.output = w.output

theorem Same.refl (w : World) : Same w w := ⟨rfl, rfl, rfl⟩

/-- The same heap: the same relation. -/
theorem HRel.congr {ρ : Rho} {s : SW} {w w' : World} (h : HRel ρ s w) (he : w'.heap = w.heap) : HRel ρ s w' :=
  ⟨h.next, fun i o hi => by rw [he]; exact h.live i o hi, h.inj⟩

theorem Ext.congr {ρ : Rho} {s : SW} {w w' : World} (he : w'.heap = w.heap) (hs : Same w w') : Ext ρ s w ρ s w' :=
  ⟨Rho.le_refl ρ, fun i p h h' => (by rw [h] at h'; cases h'), fun i o p h _ => ⟨o, h, id⟩, Nat.le_refl _, by rw [he]; exact Nat.le_refl _,
    fun _ _ _ => by rw [he], hs.os, hs.tape, hs.output⟩

theorem HRel.place {ρ : Rho} {s : SW} {w : World} (h : HRel ρ s w) {i : Nat} {o : SObj} (hi : s.heap i = some o) :
    ∃ p, ρ i = some p ∧ ORel ρ p o (w.heap[p.r]?) := h.live i o hi

theorem HRel.lt {ρ : Rho} {s : SW} {w : World} (h : HRel ρ s w) {i : Nat} {p : Pl} (hi : ρ i = some p) : i < s.next := by
  rcases Nat.lt_or_ge i s.next with h1 | h1
  · exact h1
  · rw [h.next i h1] at hi; cases hi

theorem HRel.lt_size {ρ : Rho} {s : SW} {w : World} (h : HRel ρ s w) {i : Nat} {o : SObj} {p : Pl} (hi : s.heap i = .some o) (hp : ρ i = .some p) : p.r < w.heap.size := by
  obtain ⟨q, hq, ho⟩ := h.live i o hi
  rw [hp] at hq; cases hq
  rcases Nat.lt_or_ge p.r w.heap.size with h1 | h1
  · exact h1
  · rw [Array.getElem?_eq_none h1] at ho
    cases o <;> exact ho.elim

/-- A block is written. -/
theorem HRel.upd {ρ : Rho} {s : SW} {w w' : World} (h : HRel ρ s w) {i : Nat} {o o' : SObj} {p : Pl} (hi : s.heap i = .some o) (hp : ρ i = .some p)
    (hw : ∀ r, r ≠ p.r → w'.heap[r]? = w.heap[r]?) (ho : ORel ρ p o' (w'.heap[p.r]?)) : HRel ρ (s.set i o') w' := by
  refine ⟨h.next, ?_, ?_⟩
  · intro j u hj
    simp only [SW.set] at hj
    by_cases e : j = i
    · subst e
      simp only [if_true] at hj
      cases hj
      exact ⟨p, hp, ho⟩
    · simp only [e, if_false] at hj
      obtain ⟨q, hq, hu⟩ := h.live j u hj
      refine ⟨q, hq, ?_⟩
      rw [hw q.r fun er => e (h.inj j i u o q p hj hi hq hp er)]
      exact hu
  · intro j k u u' q q' hj hk hq hq' er
    simp only [SW.set] at hj hk
    by_cases ej : j = i <;> by_cases ek : k = i
    · rw [ej, ek]
    · simp only [ek, if_false] at hk
      subst ej
      exact h.inj _ _ _ _ _ _ hi hk hq hq' er
    · simp only [ej, if_false] at hj
      subst ek
      exact h.inj _ _ _ _ _ _ hj hi hq hq' er
    · simp only [ej, if_false] at hj
      simp only [ek, if_false] at hk
      exact h.inj _ _ _ _ _ _ hj hk hq hq' er

theorem Ext.upd {ρ : Rho} {s : SW} {w w' : World} {i : Nat} {o o' : SObj} {p : Pl} (hi : s.heap i = .some o) (hp : ρ i = .some p) (hown : o.own = true)
    (hw : ∀ r, r ≠ p.r → w'.heap[r]? = w.heap[r]?) (hsz : w.heap.size ≤ w'.heap.size) (hs : Same w w') : Ext ρ s w ρ (s.set i o') w' := by
  refine ⟨Rho.le_refl ρ, fun i p h h' => (by rw [h] at h'; cases h'), ?_, Nat.le_refl _, hsz, ?_, hs.os, hs.tape, hs.output⟩
  · intro j u q hj _
    simp only [SW.set] at hj
    by_cases e : j = i
    · subst e; exact ⟨o, hi, fun _ => hown⟩
    · simp only [e, if_false] at hj
      exact ⟨u, hj, id⟩
  · intro r _ hno
    exact hw r fun e => hno i o p hi hown hp e.symm

/-- A new block. -/
theorem HRel.alloc {ρ : Rho} {s : SW} {w w' : World} (h : HRel ρ s w) {o : SObj} {p : Pl} (hr : p.r = w.heap.size)
    (hw : ∀ r, r < w.heap.size → w'.heap[r]? = w.heap[r]?) (ho : ORel (ρ.upd s.next p) p o (w'.heap[p.r]?)) :
    HRel (ρ.upd s.next p) (s.new o) w' := by
  have hn : ρ s.next = none := h.next _ (Nat.le_refl _)
  refine ⟨?_, ?_, ?_⟩
  · intro i hi
    simp only [SW.new] at hi
    simp only [Rho.upd, if_neg (show ¬ i = s.next by omega)]
    exact h.next i (by omega)
  · intro j u hj
    simp only [SW.new] at hj
    by_cases e : j = s.next
    · subst e
      simp only [if_true] at hj
      cases hj
      exact ⟨p, Rho.upd_same, ho⟩
    · simp only [e, if_false] at hj
      obtain ⟨q, hq, hu⟩ := h.live j u hj
      refine ⟨q, by simp [Rho.upd, e, hq], ?_⟩
      rw [hw q.r (h.lt_size hj hq)]
      exact hu.mono (Rho.le_upd hn)
  · intro j k u u' q q' hj hk hq hq' er
    simp only [SW.new] at hj hk
    simp only [Rho.upd] at hq hq'
    by_cases ej : j = s.next <;> by_cases ek : k = s.next
    · rw [ej, ek]
    · simp only [ek, if_false] at hk hq'
      simp only [ej, if_true] at hq
      cases hq
      have := h.lt_size hk hq'
      omega
    · simp only [ej, if_false] at hj hq
      simp only [ek, if_true] at hq'
      cases hq'
      have := h.lt_size hj hq
      omega
    · simp only [ej, if_false] at hj hq
      simp only [ek, if_false] at hk hq'
      exact h.inj _ _ _ _ _ _ hj hk hq hq' er

theorem Ext.alloc {ρ : Rho} {s : SW} {w w' : World} (h : HRel ρ s w) {o : SObj} {p : Pl} (hr : p.r = w.heap.size)
    (hw : ∀ r, r < w.heap.size → w'.heap[r]? = w.heap[r]?) (hsz : w.heap.size ≤ w'.heap.size) (hs : Same w w') :
    Ext ρ s w (ρ.upd s.next p) (s.new o) w' := by
  have hn : ρ s.next = none := h.next _ (Nat.le_refl _)
  refine ⟨Rho.le_upd hn, ?_, ?_, by simp [SW.new], hsz, fun r hlt _ => hw r hlt, hs.os, hs.tape, hs.output⟩
  · intro j q h1 h2
    simp only [Rho.upd] at h2
    by_cases e : j = s.next
    · simp only [e, if_true] at h2
      cases h2
      exact .inl (by omega)
    · simp only [e, if_false] at h2
      rw [h1] at h2; cases h2
  · intro j u q hj hq
    simp only [SW.new] at hj
    by_cases e : j = s.next
    · rw [e, hn] at hq; cases hq
    · simp only [e, if_false] at hj
      exact ⟨u, hj, id⟩

/-- A block goes on under a new number, in the same place. -/
theorem HRel.move {ρ : Rho} {s : SW} {w w' : World} (h : HRel ρ s w) {i : Nat} {o o' : SObj} {p q : Pl} (hi : s.heap i = .some o) (hp : ρ i = .some p) (hr : q.r = p.r)
    (hw : ∀ r, r ≠ p.r → w'.heap[r]? = w.heap[r]?) (ho : ORel (ρ.upd s.next q) q o' (w'.heap[p.r]?)) :
    HRel (ρ.upd s.next q) ((s.kill i).new o') w' := by
  have hn : ρ s.next = none := h.next _ (Nat.le_refl _)
  have hin : i ≠ s.next := fun e => by rw [e, hn] at hp; cases hp
  refine ⟨?_, ?_, ?_⟩
  · intro k hk
    simp only [SW.new, SW.kill] at hk
    simp only [Rho.upd, if_neg (show ¬ k = s.next by omega)]
    exact h.next k (by omega)
  · intro j u hj
    simp only [SW.new, SW.kill] at hj
    by_cases e : j = s.next
    · subst e
      simp only [if_true] at hj
      cases hj
      exact ⟨q, Rho.upd_same, by rw [hr]; exact ho⟩
    · simp only [e, if_false] at hj
      by_cases e2 : j = i
      · simp [e2] at hj
      · simp only [e2, if_false] at hj
        obtain ⟨p', hp', hu⟩ := h.live j u hj
        refine ⟨p', by simp [Rho.upd, e, hp'], ?_⟩
        rw [hw p'.r fun er => e2 (h.inj _ _ _ _ _ _ hj hi hp' hp er)]
        exact hu.mono (Rho.le_upd hn)
  · intro j k u u' p1 p2 hj hk h1 h2 er
    simp only [SW.new, SW.kill] at hj hk
    simp only [Rho.upd] at h1 h2
    by_cases ej : j = s.next <;> by_cases ek : k = s.next
    · rw [ej, ek]
    · simp only [ek, if_false] at hk h2
      simp only [ej, if_true] at h1
      cases h1
      by_cases e2 : k = i
      · simp [e2] at hk
      · simp only [e2, if_false] at hk
        exact (e2 (h.inj _ _ _ _ _ _ hk hi h2 hp (by omega))).elim
    · simp only [ej, if_false] at hj h1
      simp only [ek, if_true] at h2
      cases h2
      by_cases e2 : j = i
      · simp [e2] at hj
      · simp only [e2, if_false] at hj
        exact (e2 (h.inj _ _ _ _ _ _ hj hi h1 hp (by omega))).elim
    · simp only [ej, if_false] at hj h1
      simp only [ek, if_false] at hk h2
      by_cases e2 : j = i
      · simp [e2] at hj
      · by_cases e3 : k = i
        · simp [e3] at hk
        · simp only [e2, if_false] at hj
          simp only [e3, if_false] at hk
          exact h.inj _ _ _ _ _ _ hj hk h1 h2 er

theorem Ext.move {ρ : Rho} {s : SW} {w w' : World} (h : HRel ρ s w) {i : Nat} {o o' : SObj} {p q : Pl} (hi : s.heap i = .some o) (hp : ρ i = .some p) (hown : o.own = true) (hr : q.r = p.r)
    (hw : ∀ r, r ≠ p.r → w'.heap[r]? = w.heap[r]?) (hsz : w.heap.size ≤ w'.heap.size) (hs : Same w w') :
    Ext ρ s w (ρ.upd s.next q) ((s.kill i).new o') w' := by
  have hn : ρ s.next = none := h.next _ (Nat.le_refl _)
  refine ⟨Rho.le_upd hn, ?_, ?_, by simp [SW.new, SW.kill], hsz, ?_, hs.os, hs.tape, hs.output⟩
  · intro j p' h1 h2
    simp only [Rho.upd] at h2
    by_cases e : j = s.next
    · simp only [e, if_true] at h2
      cases h2
      exact .inr ⟨i, o, p, hi, hown, hp, hr.symm⟩
    · simp only [e, if_false] at h2
      rw [h1] at h2; cases h2
  · intro j u p' hj hq
    simp only [SW.new, SW.kill] at hj
    by_cases e : j = s.next
    · rw [e, hn] at hq; cases hq
    · simp only [e, if_false] at hj
      by_cases e2 : j = i
      · simp [e2] at hj
      · simp only [e2, if_false] at hj
        exact ⟨u, hj, id⟩
  · intro r _ hno
    exact hw r fun e => hno i o p hi hown hp e.symm

/-- Blocks may be forgotten, numbers be passed over. -/
structure SW.less (s₀ s : SW) : Prop where
  heap : ∀ i o, s₀.heap i = some o → s.heap i = some o
  next : s.next ≤ s₀.next

theorem HRel.less {ρ : Rho} {s₀ s : SW} {w : World} (h : HRel ρ s w) (hl : SW.less s₀ s) : HRel ρ s₀ w :=
  ⟨fun i hi => h.next i (Nat.le_trans hl.next hi), fun i o hi => h.live i o (hl.heap i o hi), fun i j o o' p q hi hj => h.inj i j o o' p q (hl.heap i o hi) (hl.heap j o' hj)⟩

theorem Ext.less {ρ ρ' : Rho} {s₀ s s' : SW} {w w' : World} (hl : SW.less s₀ s) (h : Ext ρ s₀ w ρ' s' w') : Ext ρ s w ρ' s' w' :=
  ⟨h.le, fun i p h1 h2 => (h.fresh i p h1 h2).imp id fun ⟨j, o, q, a, b⟩ => ⟨j, o, q, hl.heap j o a, b⟩,
    fun i o p h1 h2 => let ⟨o₀, a, b⟩ := h.back i o p h1 h2; ⟨o₀, hl.heap i o₀ a, b⟩, Nat.le_trans hl.next h.next, h.size,
    fun r hr hno => h.frame r hr fun i o p a => hno i o p (hl.heap i o a), h.os, h.tape, h.output⟩

theorem Ext.less' {ρ ρ' : Rho} {s s₁ s' : SW} {w w' : World} (hl : SW.less s' s₁) (h : Ext ρ s w ρ' s₁ w') : Ext ρ s w ρ' s' w' :=
  ⟨h.le, h.fresh, fun i o p h1 h2 => h.back i o p (hl.heap i o h1) h2, Nat.le_trans h.next hl.next, h.size, h.frame, h.os, h.tape, h.output⟩

/-! Reading. -/

theorem Addr.add_none (r o n : Nat) : (⟨r, o, none⟩ : Addr).add n = ⟨r, o + n, none⟩ := by
  unfold Addr.add
  split
  · rename_i h; subst h; rfl
  · rfl

theorem HRel.cell {ρ : Rho} {s : SW} {w : World} (h : HRel ρ s w) {i k : Nat} {cs : List Value} {own : Bool} {gr : Nat} {p : Pl} {v : Value} (hi : s.heap i = .some (.cells cs own gr))
    (hp : ρ i = .some p) (hk : cs[k]? = .some v) : ∃ rv, w.cell? ⟨p.r, p.b + k, none⟩ = .some rv ∧ VRel ρ v rv := by
  obtain ⟨q, hq, ho⟩ := h.live i _ hi
  rw [hp] at hq; cases hq
  cases hb : w.heap[p.r]? with
  | none => rw [hb] at ho; exact ho.elim
  | some ob =>
    rw [hb] at ho
    cases ob with
    | cells rc e fz =>
      obtain ⟨_, _, h3, _⟩ := ho
      obtain ⟨rv, h4, h5⟩ := h3 k v hk
      exact ⟨rv, by simp [World.cell?, hb, h4], h5⟩
    | _ => exact ho.elim

theorem run_loadCellsFrom {P : Program} {w : World} {R : Value → Value → Prop} (r o : Nat) : ∀ (vs : List Value) (i : Nat) (acc : Array Value),
    (∀ k v, vs[k]? = some v → ∃ rv, w.cell? ⟨r, o + i + k, none⟩ = some rv ∧ R v rv) →
    ∃ rvs : List Value, F2 R vs rvs ∧ (loadCellsFrom ⟨r, o, none⟩ i vs.length acc).run P w = .ok (acc ++ rvs.toArray) w := by
  intro vs
  induction vs with
  | nil => intro i acc _; exact ⟨[], .nil, by simp [loadCellsFrom]⟩
  | cons v vs ih =>
    intro i acc h
    obtain ⟨rv, h1, h2⟩ := h 0 v rfl
    obtain ⟨rvs, h3, h4⟩ := ih (i + 1) (acc.push rv) (fun k u hk => by
      have := h (k + 1) u (by simpa using hk)
      rwa [show o + i + (k + 1) = o + (i + 1) + k by omega] at this)
    refine ⟨rv :: rvs, .cons h2 h3, ?_⟩
    simp only [List.length_cons, loadCellsFrom, Sem.run_bind, Addr.add_none]
    rw [run_load, show w.cell? ⟨r, o + i, none⟩ = some rv by simpa using h1]
    simp only [Result.andThen_ok]
    rw [h4]
    simp

theorem F2.get {α β : Type} {R : α → β → Prop} {l : List α} {m : List β} (h : F2 R l m) : ∀ (k : Nat) (a : α) (b : β), l[k]? = some a → m[k]? = some b → R a b := by
  induction h with
  | nil => intro k a b h; simp at h
  | cons h1 _ ih =>
    intro k a b
    cases k with
    | zero => intro ha hb; simp at ha hb; subst ha hb; exact h1
    | succ k => intro ha hb; exact ih k a b (by simpa using ha) (by simpa using hb)

theorem F2.of_get {α β : Type} {R : α → β → Prop} : ∀ {l : List α} {m : List β}, l.length = m.length → (∀ (k : Nat) (a : α) (b : β), l[k]? = some a → m[k]? = some b → R a b) → F2 R l m
  | [], [], _, _ => .nil
  | a :: l, b :: m, h, k => .cons (k 0 a b rfl rfl) (F2.of_get (by simpa using h) fun i x y hx hy => k (i + 1) x y (by simpa using hx) (by simpa using hy))

/-- A row of cells of a block, read. -/
theorem HRel.loadCells {ρ : Rho} {s : SW} {w : World} (h : HRel ρ s w) {P : Program} {i o n : Nat} {cs : List Value} {own : Bool} {gr : Nat} {p : Pl} (hi : s.heap i = .some (.cells cs own gr))
    (hp : ρ i = .some p) (hn : o + n ≤ cs.length) : ∃ rvs : List Value, F2 (VRel ρ) ((cs.drop o).take n) rvs ∧ (Go.loadCells ⟨p.r, p.b + o, none⟩ n).run P w = .ok rvs.toArray w := by
  have hl : ((cs.drop o).take n).length = n := by simp; omega
  obtain ⟨rvs, h1, h2⟩ := run_loadCellsFrom (P := P) (w := w) (R := VRel ρ) p.r (p.b + o) ((cs.drop o).take n) 0 #[] (fun k v hk => by
    have hk' : cs[o + k]? = .some v := by
      have : k < n := by
        rcases Nat.lt_or_ge k n with h | h
        · exact h
        · rw [List.getElem?_eq_none (by omega)] at hk; cases hk
      rw [List.getElem?_take_of_lt this, List.getElem?_drop] at hk
      exact hk
    have := h.cell hi hp hk'
    rwa [show p.b + (o + k) = p.b + o + 0 + k by omega] at this)
  rw [hl] at h2
  exact ⟨rvs, h1, by simpa [Go.loadCells] using h2⟩

end Go.Sh
