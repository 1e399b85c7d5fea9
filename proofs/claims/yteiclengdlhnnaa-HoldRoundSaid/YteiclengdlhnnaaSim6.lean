/- Aggregates and slices: build, make, slice, append, copy, clear, len, texts and bytes. -/
import Derived.Test.YteiclengdlhnnaaSim5
namespace Go.Sh
open Go

/-! ### fill -/

theorem setR_foldl : ∀ (vs : List Value) (c : Array Value) (off j : Nat), (vs.zipIdx j).foldl (fun (cs : Array Value) (x : Value × Nat) => cs.setIfInBounds (off + x.2) x.1) c = setR c (off + j) vs
  | [], _, _, _ => rfl
  | v :: vs, c, off, j => by
    simp only [List.zipIdx_cons, List.foldl_cons, setR]
    rw [setR_foldl vs]
    rfl

theorem fill_step (v : Value) (cells : Array Value) (off : Nat) : (v.cells.zipIdx.foldl (fun cs (c, j) => cs.setIfInBounds (off + j) c) cells) = setR cells off v.cells.toList := by
  rw [← Array.foldl_toList, Array.toList_zipIdx]
  exact setR_foldl v.cells.toList cells off 0

def PRel (ρ : Rho) (p q : Nat × Value) : Prop := p.1 = q.1 ∧ VRel ρ p.2 q.2

def partOk (p : Nat × Value) : Bool := p.2.cells.toList.all (·.oneCell')

theorem fill_rel {ρ : Rho} {place : Nat → Option (Nat × Nat)} : ∀ (parts rparts : List (Nat × Value)), F2 (PRel ρ) parts rparts → parts.all partOk = true → ∀ (cells rcells out : Array Value),
    cells.size = rcells.size → (∀ (k : Nat) (v v' : Value), cells[k]? = some v → rcells[k]? = some v' → VRel ρ v v') → Instr.fill place cells parts = some out →
    ∃ rout, Instr.fill place rcells rparts = some rout ∧ out.size = rout.size ∧ (∀ (k : Nat) (v v' : Value), out[k]? = some v → rout[k]? = some v' → VRel ρ v v') := by
  intro parts rparts h
  induction h with
  | nil => intro _ cells rcells out h1 h2 h3; cases h3; exact ⟨rcells, rfl, h1, h2⟩
  | @cons p q ps qs hpq _ ih =>
    intro hall cells rcells out h1 h2 h3
    obtain ⟨i, v⟩ := p
    obtain ⟨i', rv⟩ := q
    obtain ⟨e, hv⟩ := hpq
    simp only at e hv
    subst e
    simp only [List.all_cons, Bool.and_eq_true] at hall
    have hF := hv.cells (List.all_eq_true.1 hall.1)
    have hlen : v.cells.size = rv.cells.size := by simpa using hF.length
    simp only [Instr.fill] at h3 ⊢
    cases hp : place i with
    | none => rw [hp] at h3; cases h3
    | some x =>
      obtain ⟨off, size⟩ := x
      rw [hp] at h3
      simp only at h3 ⊢
      split at h3
      · cases h3
      · rename_i hc
        rw [if_neg (by rw [← hlen, ← h1]; exact hc)]
        simp only [ne_eq, Bool.or_eq_true, decide_eq_true_eq, not_or, Decidable.not_not] at hc
        simp only [fill_step] at h3 ⊢
        refine ih hall.2 _ _ _ (by rw [setR_size, setR_size, h1]) ?_ h3
        intro k u u' hu hu'
        rw [setR_get _ _ _ _ (by simp; omega)] at hu
        rw [setR_get _ _ _ _ (by simp; omega)] at hu'
        simp only [Array.length_toList] at hu hu'
        by_cases hin : off ≤ k ∧ k < off + v.cells.size
        · rw [if_pos hin] at hu
          rw [if_pos (by rw [← hlen]; exact hin)] at hu'
          exact hF.get _ _ _ hu hu'
        · rw [if_neg hin] at hu
          rw [if_neg (by rw [← hlen]; exact hin)] at hu'
          exact h2 _ _ _ hu hu'

/-- The fields' places. -/
def sPlaces (P : Program) : List Field → Option (List (Nat × Nat))
  | [] => some []
  | f :: fs => match sz P f.type, sPlaces P fs with
    | some n, some l => some ((f.offset, n) :: l)
    | _, _ => none

theorem run_places {P : Program} : ∀ (fs : List Field) (l : List (Nat × Nat)), sPlaces P fs = some l → ∀ w, (fs.mapM fun f => (do pure (f.offset, ← sizeOf f.type) : Sem (Nat × Nat))).run P w = .ok l w := by
  intro fs
  induction fs with
  | nil => intro l h w; cases h; rfl
  | cons f fs ih =>
    intro l h w
    simp only [sPlaces] at h
    split at h
    · rename_i n l' hn hl'
      cases h
      simp only [List.mapM_cons, Sem.run_bind, run_sizeOf' w hn, Result.andThen_ok, Sem.run_pure, ih _ hl' w]
    · cases h

def zeroCellsOk (v : Value) : Bool := v.cells.toList.all pl0

theorem pl0_oneCell {v : Value} (h : pl0 v = true) : v.oneCell' = true := by cases v <;> first | rfl | (simp [pl0] at h)

theorem rel_zero {ρ : Rho} {cs : Array Value} (h : cs.toList.all pl0 = true) (k : Nat) (v v' : Value) (h1 : cs[k]? = some v) (h2 : cs[k]? = some v') : VRel ρ v v' := by
  rw [h1] at h2; cases h2
  exact .plain (List.all_eq_true.1 h v (by simpa using Array.mem_of_getElem? h1))

def sBuild (P : Program) (t : TypeId) (parts : List (Nat × Value)) : Option Value :=
  match zeroV P t with
  | none => none
  | some z =>
    if z.cells.toList.all pl0 && parts.all partOk then
      match P.underlying t with
      | some (.struct fs) =>
        match sPlaces P fs.toList with
        | some pl => (Instr.fill (pl[·]?) z.cells parts).map .agg
        | none => none
      | some (.array _ e) =>
        match sz P e with
        | some n => (Instr.fill (fun i => some (i * n, n)) z.cells parts).map .agg
        | none => none
      | _ => none
    else none

theorem sBuild_ok {P : Program} {ρ : Rho} {t : TypeId} {parts : List (Nat × Value)} {rparts : Array (Nat × Value)} {v : Value} (h : sBuild P t parts = some v) (hp : F2 (PRel ρ) parts rparts.toList) :
    ∃ rv, VRel ρ v rv ∧ ∀ w, (Instr.build t rparts).run P w = .ok rv w := by
  unfold sBuild at h
  split at h
  · cases h
  · rename_i z hz
    split at h
    · rename_i hall
      simp only [Bool.and_eq_true] at hall
      split at h
      · rename_i fs ht
        split at h
        · rename_i pl hpl
          cases ho : Instr.fill (pl[·]?) z.cells parts with
          | none => rw [ho] at h; cases h
          | some out =>
            rw [ho] at h; cases h
            obtain ⟨rout, h1, h2, h3⟩ := fill_rel _ _ hp hall.2 z.cells z.cells out rfl (rel_zero hall.1) ho
            refine ⟨.agg rout, .agg h2 h3, fun w => ?_⟩
            have hm : ((fs.mapM fun f => (do pure (f.offset, ← sizeOf f.type) : Sem (Nat × Nat)))).run P w = .ok pl.toArray w := by
              rw [Array.mapM_eq_mapM_toList, Sem.run_map, run_places fs.toList pl hpl w]; rfl
            simp only [Instr.build, Sem.run_bind, run_zeroValue' w hz, run_underlying' w ht, Result.andThen_ok, hm]
            have : (fun (x : Nat) => pl.toArray[x]?) = (fun (x : Nat) => pl[x]?) := by funext x; simp
            rw [this, h1]
            rfl
        · cases h
      · rename_i len e ht
        split at h
        · rename_i n hn
          cases ho : Instr.fill (fun i => some (i * n, n)) z.cells parts with
          | none => rw [ho] at h; cases h
          | some out =>
            rw [ho] at h; cases h
            obtain ⟨rout, h1, h2, h3⟩ := fill_rel _ _ hp hall.2 z.cells z.cells out rfl (rel_zero hall.1) ho
            refine ⟨.agg rout, .agg h2 h3, fun w => ?_⟩
            simp only [Instr.build, Sem.run_bind, run_zeroValue' w hz, run_underlying' w ht, Result.andThen_ok, run_sizeOf' w hn, h1]
            rfl
        · cases h
      · cases h
    · cases h

/-- So many zero elements. -/
def sZeros (zero : List Value) (n : Nat) : List Value := (List.replicate n zero).flatten

theorem sZeros_eq (zero : Array Value) (n : Nat) : ((Array.range (n * zero.size)).map fun i => zero[i % zero.size]!).toList = sZeros zero.toList n := by
  induction n with
  | zero => simp [sZeros]
  | succ n ih =>
    have h1 : sZeros zero.toList (n + 1) = sZeros zero.toList n ++ zero.toList := by
      simp [sZeros, List.replicate_succ', List.flatten_append]
    rw [h1, ← ih]
    apply List.ext_getElem?
    intro k
    simp only [Array.toList_map, Array.toList_range, List.getElem?_map]
    rw [List.getElem?_append]
    by_cases hk : k < n * zero.size
    · rw [if_pos (by simpa using hk)]
      have : k < (n + 1) * zero.size := by rw [Nat.add_mul]; omega
      simp [hk, this]
    · rw [if_neg (by simpa using hk)]
      simp only [List.length_map, List.length_range, Array.getElem?_toList]
      by_cases hk2 : k < (n + 1) * zero.size
      · have h2 : k - n * zero.size < zero.size := by rw [Nat.add_mul] at hk2; omega
        have h3 : k % zero.size = k - n * zero.size := by
          have : k = (k - n * zero.size) + zero.size * n := by rw [Nat.mul_comm zero.size n]; omega
          rw [this, Nat.add_mul_mod_self_left, Nat.mod_eq_of_lt h2]
          omega
        simp [hk2, h3, h2]
      · have h2 : ¬ k - n * zero.size < zero.size := by rw [Nat.add_mul] at hk2; omega
        rw [List.getElem?_eq_none (by simpa using Nat.le_of_not_lt hk2), Array.getElem?_eq_none (Nat.le_of_not_lt h2)]
        rfl

end Go.Sh
