/- A new block, as the model makes it. -/
import Derived.Test.YteiclengdlhnnaaSim18
namespace Go.Sh
open Go

/-- What a new block and what leads to it are to be. -/
def NewOk (P : Program) (m : Sem Value) (ρ : Rho) (w : World) (obj : SObj) (val : Nat → Value) : Prop :=
  ∃ ob rv p, p.r = w.heap.size ∧ m.run P w = .ok rv (w.alloc ob) ∧ ORel ρ p obj (some ob) ∧ ∀ (ρ' : Rho) (id : Nat), ρ' id = some p → VRel ρ' (val id) rv

theorem NewOk.row {P : Program} {ρ : Rho} {w : World} {cs rcs : List Value} (e : TypeId) (hF : F2 (VRel ρ) cs rcs) (f : Nat → Value) {m : Sem Value} (g : Nat → Value)
    (hm : m.run P w = .ok (g w.heap.size) (w.alloc (.cells rcs.toArray e))) (hv : ∀ (ρ' : Rho) (id : Nat), ρ' id = some ⟨w.heap.size, 0, cs.length, 0, 1⟩ → VRel ρ' (f id) (g w.heap.size)) :
    NewOk P m ρ w (.cells cs true 0) f := by
  refine ⟨_, _, ⟨w.heap.size, 0, cs.length, 0, 1⟩, rfl, hm, ⟨rfl, by simp [hF.length], fun k v hk => ?_, fun _ k _ hk => absurd hk.2 (by simp), fun _ => ⟨rfl, rfl⟩, fun h => absurd rfl h⟩, hv⟩
  have hlt : k < rcs.length := by
    rw [← hF.length]
    rcases Nat.lt_or_ge k cs.length with h | h
    · exact h
    · rw [List.getElem?_eq_none h] at hk; cases hk
  exact ⟨rcs[k], by simp [hlt], hF.get k v _ hk (List.getElem?_eq_getElem hlt)⟩

theorem sZeros_nil {z : Value} {len n : Nat} (h2 : z.cells.size = n) (h0 : len * n = 0) : sZeros z.cells.toList len = [] := by
  have hlen : (sZeros z.cells.toList len).length = 0 := by rw [sZeros_length]; simpa [h2] using h0
  exact List.length_eq_zero_iff.1 hlen

theorem sNew_run {P : Program} {o : Oper} {fr : List Value} {a : Act} {ρ : Rho} {w : World} {obj : SObj} {val : Nat → Value} (h : sNew P o fr = some (obj, val)) (hf : FRel ρ fr a) :
    ∃ ob rv p, p.r = w.heap.size ∧ (execOp a.eval o).run P w = .ok (.value rv) (w.alloc ob) ∧ ORel ρ p obj (some ob) ∧ ∀ (ρ' : Rho) (id : Nat), ρ' id = some p → VRel ρ' (val id) rv := by
  have hop : ∀ x, o.op = x → execOp a.eval o = execOp a.eval { o with op := x } := fun x hx => by cases o; cases hx; rfl
  have fin : ∀ (m : Sem Value), execOp a.eval o = (do pure (.value (← m))) → NewOk P m ρ w obj val →
      ∃ ob rv p, p.r = w.heap.size ∧ (execOp a.eval o).run P w = .ok (.value rv) (w.alloc ob) ∧ ORel ρ p obj (some ob) ∧ ∀ (ρ' : Rho) (id : Nat), ρ' id = some p → VRel ρ' (val id) rv := by
    intro m hm ⟨ob, rv, p, h1, h2, h3, h4⟩
    exact ⟨ob, rv, p, h1, by rw [hm]; simp [h2], h3, h4⟩
  unfold sNew at h
  split at h
  · rename_i t hx
    split at h
    · rename_i z hz
      split at h
      · rename_i hall
        cases h
        refine fin (Instr.alloc t true (.tuple #[])) (by rw [hop _ hx]; rfl) (.row t (F2.zero hall) _ (fun r => .pointer (some ⟨r, 0, none⟩)) ?_ fun ρ' id hid => .ptr hid)
        simp only [Instr.alloc, Sem.run_bind, run_zeroValue' w hz, Result.andThen_ok, newVar, newRow, run_newObj, Sem.run_pure, Array.toArray_toList]
        rfl
      · cases h
    · cases h
  · rename_i t x hx
    split at h
    · rename_i hall
      cases h
      have hF := (hf.ev x).cells (List.all_eq_true.1 hall)
      refine fin (Instr.box t (a.eval x)) (by rw [hop _ hx]; rfl) (.row t hF _ (fun r => .pointer (some ⟨r, 0, none⟩)) ?_ fun ρ' id hid => .ptr hid)
      simp only [Instr.box, Sem.run_bind, Result.andThen_ok, newVar, newRow, run_newObj, Sem.run_pure, Array.toArray_toList]
      rfl
    · cases h
  · rename_i t len ps hx
    split at h
    · rename_i e ht
      split at h
      · rename_i n z hn hz
        split at h
        · rename_i hc
          obtain ⟨h1, h2, h3, h4⟩ := hc
          split at h
          · rename_i out ho
            cases h
            have hp : F2 (PRel ρ) (ps.toList.map fun p => (p.1, ev fr p.2)) (ps.map fun p => (p.1, a.eval p.2)).toList := by simpa using F2.map_parts hf ps.toList
            obtain ⟨rout, g1, g2, g3⟩ := fill_rel _ _ hp h4 (sZeros z.cells.toList len).toArray (sZeros z.cells.toList len).toArray out rfl (rel_zero (by simpa using sZeros_all h3 len)) ho
            refine fin (Instr.buildSlice t len (ps.map fun p => (p.1, a.eval p.2))) (by rw [hop _ hx]; rfl) (.row e (rcs := rout.toList) (F2.of_get (by simpa using g2) (by simpa using g3)) _ (fun r => .slice (some ⟨r, 0, none⟩) len len) ?_
              fun ρ' id hid => .slice hid (Nat.le_refl _) (.inl rfl))
            simp only [Instr.buildSlice, Sem.run_bind, run_underlying' w ht, Result.andThen_ok, run_sizeOf' w hn]
            rw [if_neg (by omega)]
            by_cases h0 : len * n = 0
            · rw [sZeros_nil h2 h0] at g1
              simp only [h0, if_true, Sem.run_bind, Sem.run_pure, Result.andThen_ok]
              have : (Array.map (fun (i : Nat) => (#[] : Array Value)[i % (#[] : Array Value).size]!) (Array.range 0)) = #[] := by simp
              rw [this, g1]
              simp only [Sem.run_bind, newRow, run_newObj, Sem.run_pure, Result.andThen_ok, Array.toArray_toList]
              rfl
            · have hb1 : ((Array.range (len * n)).map fun i => z.cells[i % z.cells.size]!) = (sZeros z.cells.toList len).toArray := by
                apply Array.toList_inj.1
                rw [← h2, sZeros_eq]
              simp only [h0, if_false, Sem.run_bind, Sem.run_pure, Result.andThen_ok, run_zeroValue' w hz]
              rw [hb1, g1]
              simp only [Sem.run_bind, newRow, run_newObj, Sem.run_pure, Result.andThen_ok, Array.toArray_toList]
              rfl
          · cases h
        · cases h
      · cases h
    · cases h
  · rename_i t hx
    split at h
    · rename_i kt et ht
      split at h
      · rename_i kk hk
        cases h
        refine fin (Instr.makeMap t none) (by rw [hop _ hx]; rfl) ⟨.map #[] 0, .map (some w.heap.size), ⟨w.heap.size, 0, 0, 0, 0⟩, rfl, ?_, MRel.nil _ _, fun ρ' id hid => .map hid⟩
        simp [Instr.makeMap]
      · cases h
    · cases h
  · rename_i t l c hx
    split at h
    · rename_i e k l' k' c' ht hl hc
      have hlv := hf.ev l
      have hcv := hf.ev c
      rw [hl] at hlv
      rw [hc] at hcv
      split at h
      · rename_i n z b hn hz hb
        split at h
        · rename_i hcond
          obtain ⟨a1, a2, a3, a4, a5, a6⟩ := hcond
          cases h
          refine fin (Instr.makeSlice t (a.eval l) (a.eval c)) (by rw [hop _ hx]; rfl) (.row e (F2.zero (ρ := ρ) (sZeros_all a6 c'.toNat)) _ (fun r => .slice (some ⟨r, 0, none⟩) l'.toNat c'.toNat) ?_
            fun ρ' id hid => .slice hid (by omega) (.inl rfl))
          rw [hlv.int, hcv.int]
          obtain ⟨i, hi, hib⟩ := run_bytes (P := P) hb w
          have hbig : ¬ ((b : Int) * c' > 2 ^ 48) := by
            have h1 : (b : Int) * c' ≤ 1024 * 1073741824 := Int.mul_le_mul (by omega) a3 (by omega) (by omega)
            omega
          simp only [Instr.makeSlice, Sem.run_bind, run_underlying' w ht, Result.andThen_ok, asInt, asIntOf, Sem.run_pure, hi, hib, wrap_small a1 (by omega : l' ≤ 1073741824), wrap_small (by omega : 0 ≤ c') a3]
          rw [if_neg (by simp; omega)]
          simp only [Sem.run_bind, run_askRoom, Result.andThen_ok, run_sizeOf' w hn]
          by_cases h0 : c'.toNat * n = 0
          · simp only [h0, if_true, Sem.run_bind, Sem.run_pure, Result.andThen_ok]
            have : (Array.map (fun (i : Nat) => (#[] : Array Value)[i % (#[] : Array Value).size]!) (Array.range 0)) = #[] := by simp
            rw [this, sZeros_nil a5 h0]
            simp only [newRow, Sem.run_bind, run_newObj, Sem.run_pure, Result.andThen_ok]
            rfl
          · have hb1 : ((Array.range (c'.toNat * n)).map fun i => z.cells[i % z.cells.size]!) = (sZeros z.cells.toList c'.toNat).toArray := by
              apply Array.toList_inj.1
              rw [← a5, sZeros_eq]
            simp only [h0, if_false, Sem.run_bind, Sem.run_pure, Result.andThen_ok, run_zeroValue' w hz]
            rw [hb1]
            simp only [newRow, Sem.run_bind, run_newObj, Sem.run_pure, Result.andThen_ok]
            rfl
        · cases h
      · cases h
    · cases h
  · cases h

end Go.Sh
