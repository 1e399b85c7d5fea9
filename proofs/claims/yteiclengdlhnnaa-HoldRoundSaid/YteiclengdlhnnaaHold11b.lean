/- HoldRound's plain law, told fact by fact. -/
import Derived.Test.YteiclengdlhnnaaHold11
namespace Go.Proofs.Yteiclengdlhnnaa
open Go Go.Sh
set_option linter.unusedSimpArgs false
set_option linter.unusedVariables false

structure RoundFacts (g : Nat) (w : Int) (ps : List Int) (m1 m2 : Mp) : Prop where
  may : mayGive R0 ps ps.length
  seen : (suchL m1 fun p => !(p.state == 3)).length = if w = 1 then 8 else 8 - ps.length
  all : (suchL m1 fun _ => true).length = 8
  given : (suchL m1 fun p => p.mark == 9 && (p.state == 2 || p.state == 3)) = ps
  get : ∀ k : Nat, k < 8 → pgGet m2 (k : Int) = some ⟨20 + (k : Int), 1 + ((k % 7 : Nat) : Int), 1, 0⟩
  gone : (suchL m2 fun p => p.mark == 9 && (p.state == 2 || p.state == 3)) = []
  head : ∀ x l, ps = x :: l → ¬ (pgOf m1 x).state = 1
  small1 : m1.length ≤ 1000000 ∧ ∀ kv ∈ m1, (Lit.int .i64 kv.1).wf = true
  small2 : m2.length ≤ 1000000 ∧ ∀ kv ∈ m2, (Lit.int .i64 kv.1).wf = true

theorem checkR_at (g : Nat) (hg : g ≤ 255) (w : Int) (hw : w = 1 ∨ w = 2 ∨ w = 3) : checkR g w = true := by
  have h := List.all_eq_true.1 checkR_all g (List.mem_range.2 (by omega))
  simp only [Bool.and_eq_true] at h
  rcases hw with rfl | rfl | rfl
  · exact h.1.1
  · exact h.1.2
  · exact h.2

theorem smallB_ok {m : Mp} (h : smallB m = true) : m.length ≤ 1000000 ∧ ∀ kv ∈ m, (Lit.int .i64 kv.1).wf = true := by
  simp only [smallB, Bool.and_eq_true, decide_eq_true_eq, List.all_eq_true] at h
  exact h

theorem round_facts (g : Nat) (hg : g ≤ 255) (w : Int) (hw : w = 1 ∨ w = 2 ∨ w = 3) :
    RoundFacts g w (pagesOf g) (giveAll w 9 R0 (pagesOf g)) (backAll (giveAll w 9 R0 (pagesOf g)) (pagesOf g)) := by
  have h := checkR_at g hg w hw
  simp only [checkR, Bool.and_eq_true] at h
  obtain ⟨⟨⟨⟨⟨⟨⟨⟨h1, h2⟩, h3⟩, h4⟩, h5⟩, h6⟩, h7⟩, h8⟩, h9⟩ := h
  refine ⟨(mayGiveB_iff _ _ _).1 h1, ?_, ?_, ?_, ?_, ?_, ?_, smallB_ok h8, smallB_ok h9⟩
  · rw [suchL_eq]; simpa using h2
  · rw [suchL_eq]; simpa using h3
  · rw [suchL_eq]; simpa using h4
  · intro k hk
    have := List.all_eq_true.1 h5 k (List.mem_range.2 hk)
    simpa using this
  · rw [suchL_eq]; simpa using h6
  · intro x l e
    rw [e] at h7
    simpa [e] using h7

end Go.Proofs.Yteiclengdlhnnaa
