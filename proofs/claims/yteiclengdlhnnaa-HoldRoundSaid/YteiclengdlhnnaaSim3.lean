/- The operations that read and write cells. -/
import Derived.Test.YteiclengdlhnnaaSim2
import Derived.Laws.Sem
import Derived.Laws.World
namespace Go.Sh
open Go

def setL : List Value → Nat → List Value → List Value
  | c, _, [] => c
  | c, j, v :: vs => setL (c.set j v) (j + 1) vs

def setR : Array Value → Nat → List Value → Array Value
  | c, _, [] => c
  | c, j, v :: vs => setR (c.setIfInBounds j v) (j + 1) vs

theorem setL_length : ∀ (vs c : List Value) (j : Nat), (setL c j vs).length = c.length
  | [], _, _ => rfl
  | _ :: vs, c, j => by simp [setL, setL_length vs]

theorem setR_size : ∀ (vs : List Value) (c : Array Value) (j : Nat), (setR c j vs).size = c.size
  | [], _, _ => rfl
  | _ :: vs, c, j => by simp [setR, setR_size vs]

theorem setL_get : ∀ (vs c : List Value) (j k : Nat), j + vs.length ≤ c.length → (setL c j vs)[k]? = if j ≤ k ∧ k < j + vs.length then vs[k - j]? else c[k]?
  | [], c, j, k, _ => by simp [setL]; intro h1 h2; omega
  | v :: vs, c, j, k, h => by
    simp only [List.length_cons] at h
    simp only [setL]
    rw [setL_get vs (c.set j v) (j + 1) k (by simp; omega)]
    by_cases h1 : j + 1 ≤ k ∧ k < j + 1 + vs.length
    · rw [if_pos h1, if_pos (by simp; omega)]
      rw [show k - j = (k - (j + 1)) + 1 by omega, List.getElem?_cons_succ]
    · rw [if_neg h1]
      by_cases h2 : k = j
      · subst h2
        rw [if_pos (by simp), List.getElem?_set_self (by omega)]
        simp
      · rw [if_neg (by simp; omega), List.getElem?_set_ne (by omega)]

theorem setR_get : ∀ (vs : List Value) (c : Array Value) (j k : Nat), j + vs.length ≤ c.size → (setR c j vs)[k]? = if j ≤ k ∧ k < j + vs.length then vs[k - j]? else c[k]?
  | [], c, j, k, _ => by simp [setR]; intro h1 h2; omega
  | v :: vs, c, j, k, h => by
    simp only [List.length_cons] at h
    simp only [setR]
    rw [setR_get vs (c.setIfInBounds j v) (j + 1) k (by simp; omega)]
    by_cases h1 : j + 1 ≤ k ∧ k < j + 1 + vs.length
    · rw [if_pos h1, if_pos (by simp; omega)]
      rw [show k - j = (k - (j + 1)) + 1 by omega, List.getElem?_cons_succ]
    · rw [if_neg h1]
      by_cases h2 : k = j
      · subst h2
        rw [if_pos (by simp), Array.getElem?_setIfInBounds_self_of_lt (by omega)]
        simp
      · rw [if_neg (by simp; omega), Array.getElem?_setIfInBounds_ne (by omega)]

/-- One cell at a time. -/
theorem run_storeCells {P : Program} (r o : Nat) : ∀ (vs : List Value) (i : Nat) (w : World) (rc : Array Value) (e : TypeId) (fz : Nat × Nat),
    w.heap[r]? = some (.cells rc e fz) → o + i + vs.length ≤ rc.size → (∀ k, k < rc.size → ¬ (fz.1 ≤ k ∧ k < fz.2)) → (∀ v ∈ vs, v.oneCell' = true) →
    ∃ w', (storeCells ⟨r, o, none⟩ vs i).run P w = .ok () w' ∧ w'.heap[r]? = some (.cells (setR rc (o + i) vs) e fz) ∧ (∀ r', r' ≠ r → w'.heap[r']? = w.heap[r']?) ∧
      w'.heap.size = w.heap.size ∧ Same w w' := by
  intro vs
  induction vs with
  | nil => intro i w rc e fz h _ _ _; exact ⟨w, by simp [storeCells], by simpa [setR] using h, fun _ _ => rfl, rfl, Same.refl w⟩
  | cons v vs ih =>
    intro i w rc e fz h hl hz hv
    simp only [List.length_cons] at hl
    have hc : w.cell? ⟨r, o + i, none⟩ = some rc[o + i] := by
      simp only [World.cell?, h]
      rw [Array.getElem?_eq_getElem (by omega)]
      simp
    have hf : w.frozen? ⟨r, o + i, none⟩ = false := by
      obtain ⟨lo, hi⟩ := fz
      simp only [World.frozen?, h]
      have := hz (o + i) (by omega)
      simp only at this
      simp only [Bool.and_eq_false_imp, decide_eq_true_eq, decide_eq_false_iff_not]
      intro h1 h2; exact this ⟨h1, h2⟩
    have hb : (w.setCell ⟨r, o + i, none⟩ v).heap[r]? = some (.cells (rc.setIfInBounds (o + i) v) e fz) := by
      simp only [World.setCell, Array.getElem?_modify, if_true, h]
      simp
    obtain ⟨w', h1, h2, h3, h4, h5⟩ := ih (i + 1) (w.setCell ⟨r, o + i, none⟩ v) (rc.setIfInBounds (o + i) v) e fz hb (by simp; omega) (by simpa using hz)
      (fun u hu => hv u (List.mem_cons_of_mem _ hu))
    refine ⟨w', ?_, ?_, ?_, ?_, ?_⟩
    · simp only [storeCells, Sem.run_bind, Addr.add_none]
      rw [Go.run_store _ _ _ _ _ (hv v List.mem_cons_self)]
      simp only [hc, hf]
      simp only [Bool.false_eq_true, if_false, Result.andThen_ok]
      exact h1
    · rw [h2]; simp [setR, Nat.add_assoc]
    · intro r' hr'
      rw [h3 r' hr', RowKit.Below.heap_setCell w _ v r' hr']
    · rw [h4]; simp
    · exact ⟨h5.os, h5.tape, h5.output⟩

theorem VRel.cells {ρ : Rho} {v rv : Value} (h : VRel ρ v rv) (hv : ∀ c ∈ v.cells.toList, c.oneCell' = true) : F2 (VRel ρ) v.cells.toList rv.cells.toList := by
  cases h with
  | junk => exact absurd (hv _ (by simp only [Value.cells, Sh.junk]; exact List.mem_singleton.2 rfl)) (by simp [Value.oneCell'])
  | agg h1 h2 => exact F2.of_get (by simpa [Value.cells] using h1) (by simpa [Value.cells] using h2)
  | tuple h1 h2 => simp [Value.cells, Value.oneCell'] at hv
  | plain h0 =>
    cases v <;> first | (simp only [Value.cells]; exact .cons (.plain h0) .nil) | (simp [pl0] at h0)
  | ptr hp => exact .cons (.ptr hp) .nil
  | slice hp h1 h2 => exact .cons (.slice hp h1 h2) .nil
  | map hp => exact .cons (.map hp) .nil
  | func h1 h2 h3 h4 => exact .cons (.func h1 h2 h3 h4) .nil

theorem VRel.oneCell {ρ : Rho} {v rv : Value} (h : VRel ρ v rv) (hv : v.oneCell' = true) : rv.oneCell' = true := by
  cases h <;> first | assumption | rfl | (exact absurd hv (by simp [Sh.junk, Value.oneCell'])) | (simp [Value.oneCell'] at hv)

theorem F2.oneCell {ρ : Rho} {vs rvs : List Value} (h : F2 (VRel ρ) vs rvs) (hv : ∀ v ∈ vs, v.oneCell' = true) : ∀ v ∈ rvs, v.oneCell' = true := by
  induction h with
  | nil => simp
  | cons h1 _ ih =>
    intro v hm
    rcases List.mem_cons.1 hm with rfl | hm
    · exact h1.oneCell (hv _ List.mem_cons_self)
    · exact ih (fun u hu => hv u (List.mem_cons_of_mem _ hu)) v hm

/-- Cells of a block of one's own, written. -/
theorem HRel.storeCells {ρ : Rho} {s : SW} {w : World} (h : HRel ρ s w) {P : Program} {i o : Nat} {cs vs rvs : List Value} {gr : Nat} {p : Pl} (hi : s.heap i = some (.cells cs true gr))
    (hp : ρ i = some p) (hn : o + vs.length ≤ cs.length) (hv : F2 (VRel ρ) vs rvs) (h1 : ∀ v ∈ vs, v.oneCell' = true) :
    ∃ w', (Go.storeCells ⟨p.r, p.b + o, none⟩ rvs).run P w = .ok () w' ∧ HRel ρ (s.set i (.cells (setL cs o vs) true gr)) w' ∧ Ext ρ s w ρ (s.set i (.cells (setL cs o vs) true gr)) w' := by
  obtain ⟨q, hq, ho⟩ := h.live i _ hi
  rw [hp] at hq; cases hq
  cases hb : w.heap[p.r]? with
  | none => rw [hb] at ho; exact ho.elim
  | some ob =>
    rw [hb] at ho
    cases ob with
    | cells rc e fz =>
      obtain ⟨a1, a2, a3, a4, a5⟩ := ho
      have hlen := hv.length
      obtain ⟨w', b1, b2, b3, b4, b5⟩ := run_storeCells (P := P) p.r (p.b + o) rvs 0 w rc e fz hb (by omega) (a4 rfl) (hv.oneCell h1)
      refine ⟨w', b1, h.upd hi hp b3 ?_, Ext.upd hi hp rfl b3 (by omega) b5⟩
      rw [b2]
      refine ⟨by rw [setL_length]; exact a1, by rw [setR_size]; exact a2, ?_, by rw [setR_size]; exact a4, a5⟩
      intro k v hk
      rw [setL_get vs cs o k hn] at hk
      rw [setR_get rvs rc (p.b + o + 0) (p.b + k) (by omega)]
      by_cases hin : o ≤ k ∧ k < o + vs.length
      · rw [if_pos hin] at hk
        rw [if_pos (by omega), show p.b + k - (p.b + o + 0) = k - o by omega]
        have hlt : k - o < rvs.length := by omega
        exact ⟨rvs[k - o], by rw [List.getElem?_eq_getElem hlt], hv.get _ _ _ hk (by rw [List.getElem?_eq_getElem hlt])⟩
      · rw [if_neg hin] at hk
        rw [if_neg (by omega)]
        exact a3 k v hk
    | _ => exact ho.elim

/-- A new row of cells. -/
theorem HRel.newCells {ρ : Rho} {s : SW} {w w₁ : World} (h : HRel ρ s w) {cs : List Value} {rc : Array Value} {e : TypeId} (x z : Nat) (grown : Nat) (hw : w₁.heap = w.heap) (hs : Same w w₁)
    (hx : cs.length + x * z ≤ rc.size) (hg : grown = 0 → x = 0) (hg' : grown ≠ 0 → z = grown) (hv : ∀ (k : Nat) (v : Value), cs[k]? = some v → ∃ rv, rc[k]? = some rv ∧ VRel ρ v rv) :
    HRel (ρ.upd s.next ⟨w.heap.size, 0, cs.length, x, z⟩) (s.new (.cells cs true grown)) (w₁.alloc (.cells rc e)) ∧
      Ext ρ s w (ρ.upd s.next ⟨w.heap.size, 0, cs.length, x, z⟩) (s.new (.cells cs true grown)) (w₁.alloc (.cells rc e)) := by
  have hn : ρ s.next = none := h.next _ (Nat.le_refl _)
  have hold : ∀ r, r < w.heap.size → (w₁.alloc (.cells rc e)).heap[r]? = w.heap[r]? := fun r hr => by
    rw [RowKit.Below.heap_alloc _ _ _ (by rw [hw]; exact hr), hw]
  refine ⟨h.alloc rfl hold ?_, Ext.alloc h rfl hold (by simp [hw]) ⟨hs.os, hs.tape, hs.output⟩⟩
  have : (w₁.alloc (.cells rc e)).heap[w.heap.size]? = some (.cells rc e) := by
    rw [← hw]; show (w₁.heap.push _)[w₁.heap.size]? = _; simp
  rw [this]
  refine ⟨rfl, by simpa using hx, ?_, fun _ k _ hk => ?_, fun h => ⟨hg h, rfl⟩, hg'⟩
  · intro k v hk
    obtain ⟨rv, a, b⟩ := hv k v hk
    exact ⟨rv, by simpa using a, b.mono (Rho.le_upd hn)⟩
  · exact absurd hk.2 (by simp)

end Go.Sh
