/- Arguments that are rows, as the shadow has them. -/
import Derived.Test.YteiclengdlhnnaaHold8
import Derived.Test.YteiclengdlhnnaaSimC
import Derived.Deep.SlicePairs
import Derived.ChangeArms
namespace Go.Proofs.Yteiclengdlhnnaa
open Go Go.Sh Go.Deep Go.ChangeShapes Go.WideShapes
set_option linter.unusedSimpArgs false
set_option linter.unusedVariables false

def intOf : Value → Int
  | .int _ n => n
  | _ => 0

section
variable {H : Type} {enc : TypeId × Value → H} {W : World} {base : Nat} {held : Bool} {fuel : Nat} {t e : TypeId} {cs : List Value} {x : DataW H × List MemPlace}

theorem ints_shown (ht : Try.prog.underlying t = some (.slice e)) (he : Try.prog.underlying e = some (.int .i64)) (hc : Try.prog.cellsOf e = 1)
    (h : DataW.trod enc Try.prog W base (fun _ => true) held fuel t cs = some x) : ∃ v l, cs = [v] ∧ IntsIn (idSW W) l (shV (idRho W) v) := by
  rcases open_slice1 ht hc h with ⟨rfl, _⟩ | ⟨a, len, cap, m, n, V, D, Pl, rfl, _, hl, _, hm, _, hx⟩
  · exact ⟨_, [], rfl, .inl ⟨rfl, none, 0, shV_plain rfl, .inl rfl⟩⟩
  · have hm' : m = cap := by simpa using hm
    subst hm'
    refine ⟨_, (List.range len).map fun i => intOf (V i), rfl, ?_⟩
    have hi : ∀ i, i < m → V i = .int .i64 (intOf (V i)) := by
      intro i hi
      obtain ⟨k, hk, _, _⟩ := DataW.trod_int he (hx i hi).2
      simp only [List.cons.injEq, and_true] at hk
      rw [hk]; rfl
    rcases slice_shown (n := 1) hl (Nat.le_refl _) (V := V) (fun i hi => (hx i (by simpa using hi)).1) with ⟨h0, a', ha'⟩ | ⟨b, o, cs', e1, hb, e2, e3⟩
    · subst h0
      exact .inl ⟨rfl, some a', m, ha', .inr ⟨a', rfl⟩⟩
    · rcases Nat.eq_zero_or_pos len with h0 | h0
      · subst h0
        exact .inl ⟨rfl, _, m, e1, .inr ⟨_, rfl⟩⟩
      · refine .inr ⟨?_, b, o, m, cs', false, 0, by rw [e1]; simp, e2, fun k x hk => ?_⟩
        · intro h
          have := congrArg List.length h
          simp at this
          omega
        · have hk' : k < len := by
            rcases Nat.lt_or_ge k len with h | h
            · exact h
            · rw [List.getElem?_eq_none (by simpa using h)] at hk; cases hk
          simp [hk'] at hk
          subst hk
          rw [e3 k (by omega), hi k (by omega)]
          rw [shV_plain rfl]
          rfl

theorem leaves_shown {f0 f1 : Field} (ht : Try.prog.underlying t = some (.slice e)) (he : Try.prog.underlying e = some (.struct #[f0, f1])) (ce : Try.prog.cellsOf e = 2) (o0 : f0.offset = 0) (o1 : f1.offset = 1)
    (c0 : Try.prog.cellsOf f0.type = 1) (c1 : Try.prog.cellsOf f1.type = 1) (i0 : Try.prog.underlying f0.type = some (.int .i64)) (i1 : Try.prog.underlying f1.type = some (.int .i64))
    (h : DataW.trod enc Try.prog W base (fun _ => true) held fuel t cs = some x) : ∃ v l, cs = [v] ∧ LeavesIn (idSW W) l (shV (idRho W) v) := by
  rcases open_slice_pairs ht he ce o0 o1 c0 c1 h with ⟨rfl, _⟩ | ⟨a, len, cap, m, n, V0, V1, D0, D1, P0, P1, rfl, _, hl, _, hm, _, hx⟩
  · exact ⟨_, [], rfl, .inl ⟨rfl, none, 0, shV_plain rfl, .inl rfl⟩⟩
  · have hm' : m = cap := by simpa using hm
    subst hm'
    refine ⟨_, (List.range len).map fun i => (intOf (V0 i), intOf (V1 i)), rfl, ?_⟩
    have hi : ∀ i, i < m → V0 i = .int .i64 (intOf (V0 i)) ∧ V1 i = .int .i64 (intOf (V1 i)) := by
      intro i hi
      obtain ⟨_, _, t0, t1⟩ := hx i hi
      obtain ⟨k, hk, _, _⟩ := DataW.trod_int i0 t0
      obtain ⟨k', hk', _, _⟩ := DataW.trod_int i1 t1
      simp only [List.cons.injEq, and_true] at hk hk'
      rw [hk, hk']; exact ⟨rfl, rfl⟩
    have hV : ∀ j, j < m * 2 → W.cell? (a.add j) = some (if j % 2 = 0 then V0 (j / 2) else V1 (j / 2)) := by
      intro j hj
      obtain ⟨g0, g1, _⟩ := hx (j / 2) (by omega)
      split
      · rw [show j = j / 2 * 2 by omega]
        simpa using g0
      · rw [show j = j / 2 * 2 + 1 by omega, show (j / 2 * 2 + 1) / 2 = j / 2 by omega]
        exact g1
    rcases slice_shown (n := 2) hl (by omega) hV with ⟨h0, a', ha'⟩ | ⟨b, o, cs', e1, hb, e2, e3⟩
    · subst h0
      exact .inl ⟨rfl, some a', m, ha', .inr ⟨a', rfl⟩⟩
    · rcases Nat.eq_zero_or_pos len with h0 | h0
      · subst h0
        exact .inl ⟨rfl, _, m, e1, .inr ⟨_, rfl⟩⟩
      · have hlast := e3 (len * 2 - 1) (by omega)
        obtain ⟨hll, _⟩ := List.getElem?_eq_some_iff.1 hlast
        refine .inr ⟨?_, b, o, m, cs', false, 0, by rw [e1]; simp, e2, by simp; omega, fun k x hk => ?_⟩
        · intro h
          have := congrArg List.length h
          simp at this
          omega
        · have hk' : k < len := by
            rcases Nat.lt_or_ge k len with h | h
            · exact h
            · rw [List.getElem?_eq_none (by simpa using h)] at hk; cases hk
          simp [hk'] at hk
          subst hk
          obtain ⟨q0, q1⟩ := hi k (by omega)
          refine ⟨?_, ?_⟩
          · rw [e3 (k * 2) (by omega), if_pos (by omega), show k * 2 / 2 = k by omega, q0, shV_plain rfl]; rfl
          · rw [Nat.add_assoc, e3 (k * 2 + 1) (by omega), if_neg (by omega), show (k * 2 + 1) / 2 = k by omega, q1, shV_plain rfl]; rfl

/-- Rows of structs of so many cells: the cells of each. -/
theorem structs_shown {n : Nat} (hn : 1 ≤ n) (ht : Try.prog.underlying t = some (.slice e)) (ce : Try.prog.cellsOf e = n)
    (h : DataW.trod enc Try.prog W base (fun _ => true) held fuel t cs = some x) :
    (cs = [.slice none 0 0]) ∨ ∃ (a : Addr) (len cap m : Nat) (C : Nat → List Value) (D : Nat → DataW H × List MemPlace), cs = [.slice (some a) len cap] ∧ len ≤ cap ∧
      (∀ i, i < cap → (C i).length = n ∧ DataW.trod enc Try.prog W base (fun _ => true) held m e (C i) = some (D i)) ∧
      ((len = 0 ∧ ∃ a', shV (idRho W) (.slice (some a) len cap) = .slice (some a') 0 cap) ∨
        ∃ b o cs', shV (idRho W) (.slice (some a) len cap) = .slice (some ⟨b, o, none⟩) len cap ∧ b < W.heap.size ∧ (idSW W).heap b = some (.cells cs' false 0) ∧
          ∀ i k, i < cap → k < n → cs'[o + i * n + k]? = ((C i)[k]?).map (shV (idRho W))) := by
  rcases open_slice ht h with ⟨rfl, _⟩ | ⟨a, len, cap, m, q, D, Pl, rfl, _, hl, _, hm, _, hx⟩
  · exact .inl rfl
  · right
    have hm' : m = cap := by simpa using hm
    subst hm'
    rw [ce] at hx
    obtain ⟨C, hC⟩ := choose_lt (α := List Value) (p := fun i c => W.cells? base (a.add (i * n)) n = some c ∧ DataW.trod enc Try.prog W base (fun _ => true) held q e c = some (D i, Pl i)) hx
    have hlen : ∀ i, i < m → (C i).length = n := fun i hi => (World.cells?_some (hC i hi).1).2.1
    refine ⟨a, len, m, q, C, fun i => (D i, Pl i), rfl, hl, fun i hi => ⟨hlen i hi, (hC i hi).2⟩, ?_⟩
    have hV : ∀ j, j < m * n → W.cell? (a.add j) = some ((C (j / n)).getD (j % n) Go.undef) := by
      intro j hj
      have h1 : j / n < m := Nat.div_lt_of_lt_mul (by rw [Nat.mul_comm]; exact hj)
      have h2 : j % n < n := Nat.mod_lt _ hn
      have h3 := (World.cells?_some (hC (j / n) h1).1).2.2 (j % n) h2
      rw [add_add] at h3
      have : j / n * n + j % n = j := Nat.div_add_mod' j n
      rw [this] at h3
      rw [h3, List.getElem?_eq_getElem (by rw [hlen _ h1]; exact h2)]
      simp [List.getD, List.getElem?_eq_getElem (show j % n < (C (j / n)).length by rw [hlen _ h1]; exact h2)]
    rcases slice_shown hl hn hV with h0 | ⟨b, o, cs', e1, hb, e2, e3⟩
    · exact .inl h0
    · refine .inr ⟨b, o, cs', e1, hb, e2, fun i k hi hk => ?_⟩
      have hlt : i * n + k < m * n := by
        have : (i + 1) * n ≤ m * n := Nat.mul_le_mul_right _ hi
        rw [Nat.add_mul] at this
        omega
      have hdiv : (i * n + k) / n = i := by
        rw [Nat.add_comm, Nat.add_mul_div_right _ _ (by omega), Nat.div_eq_of_lt hk]; omega
      have hmod : (i * n + k) % n = k := by
        rw [Nat.add_comm, Nat.add_mul_mod_self_right, Nat.mod_eq_of_lt hk]
      rw [Nat.add_assoc, e3 _ hlt, hdiv, hmod]
      have : k < (C i).length := by rw [hlen i hi]; exact hk
      simp [List.getD, List.getElem?_eq_getElem this]
end

end Go.Proofs.Yteiclengdlhnnaa
