/- HoldRound's plain law. -/
import Derived.Test.YteiclengdlhnnaaHold10
namespace Go.Proofs.Yteiclengdlhnnaa
open Go Go.Sh
set_option linter.unusedSimpArgs false
set_option linter.unusedVariables false

def firstL : List Leaf := (List.range 8).map fun (k : Nat) => (20 + (k : Int), 1 + ((k % 7 : Nat) : Int))
def R0 : Mp := newM firstL
def bitsOf (g : Nat) : List Nat := (List.range 8).filter fun k => g / 2 ^ k % 2 == 1
def pagesOf (g : Nat) : List Int := (bitsOf g).map fun (k : Nat) => (k : Int)
def leavesOf (g : Nat) : List Leaf := (bitsOf g).map fun (k : Nat) => (20 + (k : Int), 1)

def smallB (m : Mp) : Bool := decide (m.length ≤ 1000000) && m.all fun kv => (Lit.int .i64 kv.1).wf

def checkR (g : Nat) (w : Int) : Bool :=
  let ps := pagesOf g
  let m1 := giveAll w 9 R0 ps
  let m2 := backAll m1 ps
  mayGiveB R0 ps ps.length && (suchC m1 fun p => !(p.state == 3)).length == (if w = 1 then 8 else 8 - ps.length) && (suchC m1 fun _ => true).length == 8 &&
    (suchC m1 fun p => p.mark == 9 && (p.state == 2 || p.state == 3)) == ps && ((List.range 8).all fun (k : Nat) => pgGet m2 (k : Int) == some ⟨20 + (k : Int), 1 + ((k % 7 : Nat) : Int), 1, 0⟩) &&
    (suchC m2 fun p => p.mark == 9 && (p.state == 2 || p.state == 3)) == [] && (match ps with | x :: _ => !((pgOf m1 x).state == 1) | [] => true) && smallB m1 && smallB m2

theorem checkR_all : ((List.range 256).all fun g => checkR g 1 && checkR g 2 && checkR g 3) = true := by kernel_rfl

theorem delAll_eq (m : Mp) (l : List Int) : delAll m l = m.filter fun kv => !(l.contains kv.1) := by
  unfold delAll
  induction l generalizing m with
  | nil => simp only [List.foldl_nil, List.contains_nil, Bool.not_false]; exact (List.filter_eq_self.2 fun _ _ => rfl).symm
  | cons x l ih =>
    rw [List.foldl_cons, ih, pdel, List.filter_filter]
    apply List.filter_congr
    intro kv _
    simp only [List.contains_cons]
    cases l.contains kv.1 <;> cases (kv.1 == x) <;> rfl

def boxM (at_ : Int) (l : List Leaf) (k : Nat) : Mp := (List.range k).map fun (j : Nat) => (at_ + (j : Int), ⟨(l.getD j (0, 0)).1, (l.getD j (0, 0)).2, 4, 9⟩)

theorem putUp_box (at_ : Int) (l : List Leaf) : ∀ k, k ≤ l.length → putUp [] at_ l 9 k = boxM at_ l k
  | 0, _ => rfl
  | k + 1, h => by
    have hx : l[k]? = some l[k] := List.getElem?_eq_getElem h
    simp only [putUp, hx, putUp_box at_ l k (by omega)]
    unfold pset
    have : ((boxM at_ l k).any fun kv => kv.1 == at_ + (k : Int)) = false := by
      simp only [boxM, List.any_map, List.any_eq_false, List.mem_range, Function.comp]
      intro j hj
      simp
      omega
    simp only [this, Bool.false_eq_true, if_false]
    unfold boxM
    rw [List.range_succ, List.map_append]
    simp [hx]

theorem boxM_get (at_ : Int) (l : List Leaf) (k : Nat) (j : Nat) (hj : j < k) : pgGet (boxM at_ l k) (at_ + j) = some ⟨(l.getD j (0, 0)).1, (l.getD j (0, 0)).2, 4, 9⟩ := by
  induction k with
  | zero => omega
  | succ k ih =>
    unfold boxM at *
    rw [List.range_succ, List.map_append]
    unfold pgGet at *
    rw [List.find?_append]
    rcases Nat.lt_or_ge j k with h | h
    · have := ih h
      cases hf : (List.find? (fun kv => kv.1 == at_ + (j : Int)) ((List.range k).map fun (j : Nat) => (at_ + (j : Int), (⟨(l.getD j (0, 0)).1, (l.getD j (0, 0)).2, 4, 9⟩ : Pg)))) with
      | none => rw [hf] at this; cases this
      | some x => rw [hf] at this; simpa using this
    · have e : j = k := by omega
      subst e
      have : (List.find? (fun kv => kv.1 == at_ + (j : Int)) ((List.range j).map fun (j : Nat) => (at_ + (j : Int), (⟨(l.getD j (0, 0)).1, (l.getD j (0, 0)).2, 4, 9⟩ : Pg)))) = none := by
        rw [List.find?_eq_none]
        intro x hx
        simp only [List.mem_map, List.mem_range] at hx
        obtain ⟨i, hi, rfl⟩ := hx
        simp
        omega
      rw [this]
      simp

theorem boxM_rising (at_ : Int) (l : List Leaf) (k : Nat) : rising (boxM at_ l k) = (List.range k).map fun (j : Nat) => at_ + (j : Int) := by
  unfold rising boxM
  rw [List.map_map]
  apply List.mergeSort_of_pairwise
  rw [List.pairwise_map]
  refine List.pairwise_lt_range.imp ?_
  intro a b hab
  simp only [Function.comp, decide_eq_true_eq]
  omega

theorem boxM_such (at_ : Int) (l : List Leaf) (k : Nat) (q : Pg → Bool) (hq : ∀ p : Pg, p.state = 4 → p.mark = 9 → q p = true) : suchL (boxM at_ l k) q = (List.range k).map fun (j : Nat) => at_ + (j : Int) := by
  unfold suchL
  rw [boxM_rising, List.filter_eq_self]
  intro x hx
  simp only [List.mem_map, List.mem_range] at hx
  obtain ⟨j, hj, rfl⟩ := hx
  apply hq <;> simp [pgOf, boxM_get at_ l k j hj]

theorem boxM_gone (at_ : Int) (l : List Leaf) (k : Nat) : delAll (boxM at_ l k) ((List.range k).map fun (j : Nat) => at_ + (j : Int)) = [] := by
  rw [delAll_eq, List.filter_eq_nil_iff]
  intro x hx
  simp only [boxM, List.mem_map, List.mem_range] at hx
  obtain ⟨j, hj, rfl⟩ := hx
  simp
  exact ⟨j, hj, rfl⟩

end Go.Proofs.Yteiclengdlhnnaa
