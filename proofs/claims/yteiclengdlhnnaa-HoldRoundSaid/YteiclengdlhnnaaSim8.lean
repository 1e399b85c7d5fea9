/- Parts of slices, append, copy, clear, len. -/
import Derived.Test.YteiclengdlhnnaaSim7
namespace Go.Sh
open Go

/-- May there be room behind a block that does not come in so many cells? -/
def evenB (s : SW) (i n : Nat) : Bool :=
  match s.heap i with
  | some (.cells _ _ g) => g == 0 || g == n
  | _ => false

theorem evenB_ok {ρ : Rho} {s : SW} {w : World} (hr : HRel ρ s w) {i n : Nat} {p : Pl} (h : evenB s i n = true) (hp : ρ i = some p) (hx : p.x ≠ 0) : p.z = n := by
  unfold evenB at h
  split at h
  · rename_i cs own g hi
    obtain ⟨q, hq, ho⟩ := hr.place hi
    rw [hp] at hq; cases hq
    cases hb : w.heap[p.r]? with
    | none => rw [hb] at ho; exact ho.elim
    | some ob =>
      rw [hb] at ho
      cases ob with
      | cells rc e fz =>
        obtain ⟨_, _, _, _, h5, h6⟩ := ho
        simp only [Bool.or_eq_true, beq_iff_eq] at h
        rcases h with h | h
        · exact absurd (h5 h).1 hx
        · rw [← h]; exact h6 fun h0 => hx (h5 h0).1
      | _ => exact ho.elim
  · cases h

def sSlice (P : Program) (t : TypeId) (x : Value) (lo hi mx : Option Value) (s : SW) : Option Value :=
  match P.underlying t, x with
  | some .string, .string b =>
    if mx.isSome then none else
    match sBounds b.size b.size lo hi none with
    | some (l, h, _) => some (.string (b.extract l h))
    | none => none
  | some (.slice e), .slice (some ⟨i, o, none⟩) len cap =>
    match sz P e, sBounds len cap lo hi mx with
    | some n, some (l, h, m) =>
      if len ≤ cap ∧ (mx.isSome ∨ l < m ∨ l = 0) ∧ (mx.isSome ∨ evenB s i n = true) then some (.slice (some ⟨i, if m = l then o else o + l * n, none⟩) (h - l) (m - l)) else none
    | _, _ => none
  | some (.slice e), .slice none len cap =>
    match sz P e, sBounds len cap lo hi mx with
    | some _, some (l, h, m) => if len ≤ cap then some (.slice none (h - l) (m - l)) else none
    | _, _ => none
  | some (.array len e), .pointer (some ⟨i, o, none⟩) =>
    match sz P e, sBounds len len lo hi mx with
    | some n, some (l, h, m) => some (.slice (some ⟨i, if m = l then o else o + l * n, none⟩) (h - l) (m - l))
    | _, _ => none
  | _, _ => none

theorem sSlice_ok {P : Program} {ρ : Rho} {t : TypeId} {x v rx : Value} {lo hi mx rlo rhi rmx : Option Value} {s : SW} {w₀ : World} (hr : HRel ρ s w₀) (h : sSlice P t x lo hi mx s = some v) (hx : VRel ρ x rx)
    (hlo : oRel ρ lo rlo) (hhi : oRel ρ hi rhi) (hmx : oRel ρ mx rmx) : ∃ rv, VRel ρ v rv ∧ ∀ w, (Instr.sliceAt t rx rlo rhi rmx).run P w = .ok rv w := by
  have hms : mx.isSome = rmx.isSome := by cases mx <;> cases rmx <;> first | rfl | exact hmx.elim
  unfold sSlice at h
  split at h
  · rename_i b ht
    obtain rfl := hx.string
    split at h
    · cases h
    · rename_i hm
      split at h
      · rename_i l hh m hb
        cases h
        refine ⟨_, .plain rfl, fun w => ?_⟩
        obtain ⟨_, _, _, _, hrun⟩ := sBounds_ok (P := P) hb (Nat.le_refl _) (Nat.le_refl _) hlo hhi (show oRel ρ none none from trivial) false w
        simp only [Instr.sliceAt, Sem.run_bind, run_underlying' w ht, Result.andThen_ok, Instr.slice]
        rw [if_neg (by rw [← hms]; exact hm)]
        simp only [Sem.run_bind, Sem.run_pure, Result.andThen_ok, hrun]
      · cases h
  · rename_i e i o len cap ht
    split at h
    · rename_i n l hh m hn hb
      split at h
      · rename_i hc
        obtain ⟨hlc, hc, hev⟩ := hc
        cases h
        obtain ⟨p, c', hp, h1, h2, rfl⟩ := hx.slice_inv
        have hcap : cap ≤ c' := by rcases h2 with h2 | h2 <;> omega
        have hb' := fun w => sBounds_ok (P := P) hb hlc hcap hlo hhi hmx true w
        obtain ⟨g1, g2, g3, g4, _⟩ := hb' default
        refine ⟨.slice (some ⟨p.r, p.b + (if m = l then o else o + l * n), none⟩) (hh - l) ((if mx = none then c' else m) - l), ?_, fun w => ?_⟩
        · refine .slice hp (by omega) ?_
          rcases g4 with ⟨g5, g6⟩ | ⟨g5, g6⟩
          · rw [if_pos g5]
            rcases h2 with h2 | ⟨h2, h3⟩
            · left; omega
            · by_cases hx0 : p.x = 0
              · left; omega
              · right
                refine ⟨by omega, ?_⟩
                have hpz := evenB_ok hr (by rcases hev with hev | hev <;> first | (rw [g5] at hev; cases hev) | exact hev) hp hx0
                rw [hpz] at h3 ⊢
                split
                · rename_i hml
                  have : l = 0 := by rcases hc with hc | hc | hc <;> first | (rw [g5] at hc; cases hc) | omega
                  subst this
                  rw [g6]; simpa using h3
                · rw [g6]
                  have : o + l * n + (cap - l) * n = o + cap * n := by
                    rw [Nat.add_assoc, ← Nat.add_mul]
                    congr 2; omega
                  omega
          · rw [if_neg g5]; exact .inl rfl
        · obtain ⟨_, _, _, _, hrun⟩ := hb' w
          simp only [Instr.sliceAt, Sem.run_bind, run_underlying' w ht, Result.andThen_ok, Instr.slice, hrun]
          have e1 : (if (if mx = none then c' else m) = l then (some (⟨p.r, p.b + o, none⟩ : Addr)) else (some ⟨p.r, p.b + o, none⟩ : Option Addr).map (·.add (l * n))) = some ⟨p.r, p.b + (if m = l then o else o + l * n), none⟩ := by
            simp only [Option.map_some, Addr.add_none]
            by_cases hl0 : l = 0
            · subst hl0; simp
            · rcases g4 with ⟨g5, g6⟩ | ⟨g5, g6⟩
              · rw [if_pos g5]
                have : l < m := by rcases hc with hc | hc | hc <;> first | (rw [g5] at hc; cases hc) | omega
                rw [if_neg (by omega), if_neg (by omega), Nat.add_assoc]
              · rw [if_neg g5]
                split <;> simp [Nat.add_assoc]
          simp only [run_sizeOf' w hn, Result.andThen_ok, Sem.run_pure]
          rw [e1]
      · cases h
    · cases h
  · rename_i e len cap ht
    split at h
    · rename_i n l hh m hn hb
      split at h
      · rename_i hlc
        cases h
        cases hx with
        | plain _ =>
          have hb' := fun w => sBounds_ok (P := P) hb hlc (Nat.le_refl _) hlo hhi hmx true w
          obtain ⟨g1, g2, g3, g4, _⟩ := hb' default
          have hmm : (if mx = none then cap else m) = m := by
            rcases g4 with ⟨g5, g6⟩ | ⟨g5, g6⟩
            · rw [if_pos g5, g6]
            · rw [if_neg g5]
          refine ⟨.slice none (hh - l) (m - l), .plain rfl, fun w => ?_⟩
          obtain ⟨_, _, _, _, hrun⟩ := hb' w
          rw [hmm] at hrun
          simp only [Instr.sliceAt, Sem.run_bind, run_underlying' w ht, Result.andThen_ok, Instr.slice, hrun, run_sizeOf' w hn, Sem.run_pure]
          simp
      · cases h
    · cases h
  · rename_i len e i o ht
    split at h
    · rename_i n l hh m hn hb
      cases h
      obtain ⟨p, hp, rfl⟩ := hx.ptr_inv
      have hb' := fun w => sBounds_ok (P := P) hb (Nat.le_refl _) (Nat.le_refl _) hlo hhi hmx false w
      obtain ⟨g1, g2, g3, g4, _⟩ := hb' default
      have hmm : (if mx = none then len else m) = m := by
        rcases g4 with ⟨g5, g6⟩ | ⟨g5, g6⟩
        · rw [if_pos g5, g6]
        · rw [if_neg g5]
      refine ⟨.slice (some ⟨p.r, p.b + (if m = l then o else o + l * n), none⟩) (hh - l) (m - l), .slice hp (by omega) (.inl rfl), fun w => ?_⟩
      obtain ⟨_, _, _, _, hrun⟩ := hb' w
      rw [hmm] at hrun
      simp only [Instr.sliceAt, Sem.run_bind, run_underlying' w ht, Result.andThen_ok, Instr.sureAddr, Sem.run_pure, hrun, run_sizeOf' w hn]
      congr 4
      simp only [Addr.add_none]
      split <;> simp [Nat.add_assoc]
    · cases h
  · cases h

end Go.Sh
