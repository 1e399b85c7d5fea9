/- HoldAll's plain law: what is kept in any run; the two ways of looking pages up are one. -/
import Derived.Test.YteiclengdlhnnaaRef6
namespace Go.Proofs.Yteiclengdlhnnaa
open Go Go.Sh
set_option linter.unusedSimpArgs false
set_option linter.unusedVariables false

def keysOk (m : Mp) : Prop := (m.map Prod.fst).Nodup ∧ ∀ x ∈ m.map Prod.fst, 0 ≤ x ∧ x < 3840
def Okay (H : List Mp) : Prop := H.length = 3 ∧ ∀ m ∈ H, keysOk m

theorem pgGet_isSome (m : Mp) (x : Int) : (pgGet m x).isSome = true ↔ x ∈ m.map Prod.fst := by
  induction m with
  | nil => simp [pgGet]
  | cons kv m ih =>
    unfold pgGet at *
    simp only [List.find?_cons, List.map_cons, List.mem_cons]
    by_cases h : kv.1 = x
    · simp [h]
    · have e : (kv.1 == x) = false := by simpa using h
      simp only [e]
      rw [ih]
      constructor
      · exact .inr
      · rintro (h1 | h1)
        · exact absurd h1.symm h
        · exact h1

theorem sorted_ext : ∀ l l' : List Int, l.Pairwise (· < ·) → l'.Pairwise (· < ·) → (∀ x, x ∈ l ↔ x ∈ l') → l = l'
  | [], [], _, _, _ => rfl
  | [], y :: l', _, _, h => by have := (h y).2 (by simp); simp at this
  | x :: l, [], _, _, h => by have := (h x).1 (by simp); simp at this
  | x :: l, y :: l', h1, h2, h => by
    rw [List.pairwise_cons] at h1 h2
    have e : x = y := by
      have hx := (h x).1 (by simp)
      have hy := (h y).2 (by simp)
      rcases List.mem_cons.1 hx with e | hx
      · exact e
      rcases List.mem_cons.1 hy with e | hy
      · exact e.symm
      have := h1.1 y hy
      have := h2.1 x hx
      omega
    subst e
    congr 1
    refine sorted_ext l l' h1.2 h2.2 fun z => ?_
    have hz := h z
    simp only [List.mem_cons] at hz
    constructor
    · intro hm
      rcases hz.1 (.inr hm) with e | h3
      · have := h1.1 z hm; omega
      · exact h3
    · intro hm
      rcases hz.2 (.inr hm) with e | h3
      · have := h2.1 z hm; omega
      · exact h3

theorem isort_mem (x : Int) (l : List Int) : x ∈ isort l ↔ x ∈ l := (isort_perm l).mem_iff

theorem rising_mem_iff (m : Mp) (x : Int) : x ∈ rising m ↔ (pgGet m x).isSome = true := by
  rw [rising_isort, isort_mem, pgGet_isSome]

theorem rising_lt {m : Mp} (h : keysOk m) : (rising m).Pairwise (· < ·) := by
  rw [rising_isort]
  have h1 := isort_sorted (m.map Prod.fst)
  have h2 : (isort (m.map Prod.fst)).Nodup := (isort_perm _).nodup_iff.2 h.1
  exact (h1.and h2).imp fun ⟨a, b⟩ => by omega

theorem cast_sorted (l : List Nat) (h : l.Pairwise (· < ·)) : (l.map fun (i : Nat) => (i : Int)).Pairwise (· < ·) := by
  rw [List.pairwise_map]
  exact h.imp fun h => by omega

theorem rising_eq {m : Mp} (h : keysOk m) : rising m = ((List.range 4096).filter fun (i : Nat) => (pgGet m (i : Int)).isSome).map fun (i : Nat) => (i : Int) := by
  refine sorted_ext _ _ (rising_lt h) (cast_sorted _ (List.pairwise_lt_range.filter _)) fun x => ?_
  rw [rising_mem_iff]
  simp only [List.mem_map, List.mem_filter, List.mem_range]
  constructor
  · intro hx
    have hr := h.2 x ((pgGet_isSome m x).1 hx)
    refine ⟨x.toNat, ⟨by omega, ?_⟩, by omega⟩
    rw [show ((x.toNat : Nat) : Int) = x by omega]
    exact hx
  · rintro ⟨i, ⟨_, h1⟩, rfl⟩
    exact h1

theorem suchL_rsuch {m : Mp} (h : keysOk m) {q q' : Pg → Bool} (hq : ∀ p, q p = q' p) : suchL m q = rsuchK m q' 4096 := by
  unfold suchL rsuchK
  rw [rising_eq h, List.filter_map, List.filter_filter]
  generalize List.range 4096 = r
  congr 1
  apply List.filter_congr
  intro i _
  simp only [Function.comp]
  cases hg : pgGet m (i : Int) with
  | none => simp
  | some p => simp [pgOf, hg, hq]

theorem partM_mem {H : List Mp} {part : Int} {m : Mp} (h : partM H part = some m) : m ∈ H := by
  unfold partM at h
  split at h
  · exact List.mem_of_getElem? h
  · cases h

theorem suchOf_rsuchOf {H : List Mp} (h : Okay H) (part : Int) {q q' : Pg → Bool} (hq : ∀ p, q p = q' p) : suchOf H part q = rsuchOf H part q' := by
  unfold suchOf rsuchOf
  cases hp : partM H part with
  | none => rfl
  | some m => exact suchL_rsuch (h.2 m (partM_mem hp)) hq

theorem keysOk_length {m : Mp} (h : keysOk m) : m.length ≤ 4096 := by
  rw [← rising_length, rising_eq h, List.length_map]
  exact Nat.le_trans (List.length_filter_le _ _) (by simp)

theorem Okay.small {H : List Mp} (h : Okay H) : Small H := by
  intro m hm
  have hk := h.2 m hm
  refine ⟨Nat.le_trans (keysOk_length hk) (by omega), fun kv hkv => ?_⟩
  have := hk.2 kv.1 (List.mem_map.2 ⟨kv, hkv, rfl⟩)
  exact wf_i64 (by omega) (by omega)

theorem pset_keys (m : Mp) (x : Int) (p : Pg) : (pset m x p).map Prod.fst = if x ∈ m.map Prod.fst then m.map Prod.fst else m.map Prod.fst ++ [x] := by
  unfold pset
  have e : (m.any fun kv => kv.1 == x) = true ↔ x ∈ m.map Prod.fst := by
    simp only [List.any_eq_true, beq_iff_eq, List.mem_map]
  by_cases h : x ∈ m.map Prod.fst
  · rw [if_pos (e.2 h), if_pos h, List.map_map]
    apply List.map_congr_left
    intro kv _
    simp only [Function.comp]
    split
    · rename_i h2; exact (beq_iff_eq.1 h2).symm
    · rfl
  · rw [if_neg (fun h2 => h (e.1 h2)), if_neg h, List.map_append]
    rfl

theorem keysOk_pset {m : Mp} (h : keysOk m) {x : Int} (hx : 0 ≤ x ∧ x < 3840) (p : Pg) : keysOk (pset m x p) := by
  unfold keysOk
  rw [pset_keys]
  split
  · exact h
  · rename_i hn
    refine ⟨?_, fun y hy => ?_⟩
    · rw [List.nodup_append]
      refine ⟨h.1, by simp, ?_⟩
      intro a ha b hb
      simp only [List.mem_singleton] at hb
      subst hb
      exact fun e => hn (e ▸ ha)
    · rcases List.mem_append.1 hy with hy | hy
      · exact h.2 y hy
      · simp only [List.mem_singleton] at hy
        subst hy; exact hx

theorem keysOk_pdel {m : Mp} (h : keysOk m) (x : Int) : keysOk (pdel m x) := by
  have hs : ((pdel m x).map Prod.fst).Sublist (m.map Prod.fst) := by
    unfold pdel
    exact List.filter_sublist.map _
  exact ⟨h.1.sublist hs, fun y hy => h.2 y (hs.subset hy)⟩

theorem keysOk_delAll {m : Mp} (h : keysOk m) (l : List Int) : keysOk (delAll m l) := by
  unfold delAll
  induction l generalizing m with
  | nil => exact h
  | cons x l ih => exact ih (keysOk_pdel h x)

theorem keysOk_giveAll {m : Mp} (h : keysOk m) (kind mark : Int) {l : List Int} (hl : ∀ x ∈ l, 0 ≤ x ∧ x < 3840) : keysOk (giveAll kind mark m l) := by
  unfold giveAll
  induction l generalizing m with
  | nil => exact h
  | cons x l ih => exact ih (keysOk_pset h (hl x (by simp)) _) fun y hy => hl y (by simp [hy])

theorem keysOk_backAll {m : Mp} (h : keysOk m) {l : List Int} (hl : ∀ x ∈ l, 0 ≤ x ∧ x < 3840) : keysOk (backAll m l) := by
  unfold backAll
  induction l generalizing m with
  | nil => exact h
  | cons x l ih => exact ih (keysOk_pset h (hl x (by simp)) _) fun y hy => hl y (by simp [hy])

theorem keysOk_putUp {m : Mp} (h : keysOk m) {at_ : Int} {l : List Leaf} (mark : Int) (h0 : 0 ≤ at_) (h1 : at_ ≤ 3840 - (l.length : Int)) : ∀ k, k ≤ l.length → keysOk (putUp m at_ l mark k)
  | 0, _ => h
  | k + 1, hk => by
    have ih := keysOk_putUp h mark h0 h1 k (by omega)
    have hx : l[k]? = some l[k] := List.getElem?_eq_getElem hk
    simp only [putUp, hx]
    exact keysOk_pset ih (by omega) _

theorem pgOf_state {m : Mp} (h : keysOk m) {x : Int} (hs : ¬ (pgOf m x).state = 0) : 0 ≤ x ∧ x < 3840 := by
  cases hg : (pgGet m x).isSome
  · rw [pgOf_none (by simpa using hg)] at hs
    exact absurd rfl hs
  · exact h.2 x ((pgGet_isSome m x).1 hg)

theorem Okay.set {H : List Mp} (h : Okay H) (p : Nat) {m : Mp} (hm : keysOk m) : Okay (H.set p m) := by
  refine ⟨by rw [List.length_set]; exact h.1, fun m' hm' => ?_⟩
  rcases List.mem_or_eq_of_mem_set hm' with h1 | rfl
  · exact h.2 m' h1
  · exact hm

theorem Okay.give {H : List Mp} (h : Okay H) (part : Int) (l : List Int) (kind mark : Int) : Okay (hGive H part l kind mark).2 := by
  unfold hGive
  split
  · exact h
  · rename_i m hm
    split
    · exact h
    · split
      · rename_i hg
        have hk := h.2 m (partM_mem hm)
        refine h.set _ (keysOk_giveAll hk _ _ fun x hx => ?_)
        obtain ⟨j, hj, e⟩ := List.mem_iff_getElem.1 hx
        have := (hg j x hj (by rw [List.getElem?_eq_getElem hj, e])).1
        exact pgOf_state hk (by omega)
      · exact h

theorem rsuchOf_mem {H : List Mp} (h : Okay H) {part : Int} {m : Mp} (hm : partM H part = some m) {q : Pg → Bool} {x : Int} (hx : x ∈ rsuchOf H part q) : 0 ≤ x ∧ x < 3840 := by
  unfold rsuchOf at hx
  rw [hm] at hx
  simp only [rsuchK, List.mem_map, List.mem_filter, List.mem_range] at hx
  obtain ⟨i, ⟨_, h1⟩, rfl⟩ := hx
  refine (h.2 m (partM_mem hm)).2 _ ((pgGet_isSome m _).1 ?_)
  cases hg : pgGet m (i : Int) with
  | none => rw [hg] at h1; cases h1
  | some p => rfl

theorem Okay.back {H : List Mp} (h : Okay H) (part : Int) (q : Pg → Bool) : Okay (hBack H part (rsuchOf H part q)) := by
  unfold hBack
  split
  · rename_i m hm
    exact h.set _ (keysOk_backAll (h.2 m (partM_mem hm)) fun x hx => rsuchOf_mem h hm hx)
  · exact h

theorem Okay.away {H : List Mp} (h : Okay H) (part : Int) (l : List Int) : Okay (hAway H part l) := by
  unfold hAway
  split
  · rename_i m hm
    exact h.set _ (keysOk_delAll (h.2 m (partM_mem hm)) l)
  · exact h

theorem Okay.put {H : List Mp} (h : Okay H) (part at_ : Int) (l : List Leaf) (mark : Int) : Okay (hPut H part at_ l mark).2 := by
  unfold hPut
  split
  · exact h
  · rename_i m hm
    split
    · exact h
    · rename_i hn
      split
      · exact h.set _ (keysOk_putUp (h.2 m (partM_mem hm)) mark (by omega) (by omega) _ (Nat.le_refl _))
      · exact h

theorem Okay.turn {H : List Mp} (h : Okay H) (part page a b : Int) (ha : ¬ a = 0) : Okay (hTurn H part page a b).2 := by
  unfold hTurn
  split
  · exact h
  · rename_i m hm
    have hk := h.2 m (partM_mem hm)
    unfold turnM
    split
    · exact h
    · rename_i m' hm'
      split at hm'
      · rename_i hs
        cases hm'
        exact h.set _ (keysOk_pset hk (pgOf_state hk (by rw [hs]; exact ha)) _)
      · cases hm'

theorem given_q (mark : Int) (p : Pg) : (p.mark == mark && (p.state == 2 || p.state == 3)) = marksQ mark [2, 3] p := by
  simp only [marksQ, List.any_cons, List.any_nil, Bool.or_false]
  cases p.mark == mark <;> simp

theorem out_q (mark : Int) (p : Pg) : (p.mark == mark && p.state == 4) = marksQ mark [4] p := by
  simp [marksQ]

def firstR (i : Nat) : List Leaf := (List.range (4 + i)).map fun (k : Nat) => (10 * (i : Int) + (k : Int), 7)
def H0 : List Mp := [newM (firstR 0), newM (firstR 1), newM (firstR 2)]

def keysOkB (m : Mp) : Bool := decide ((m.map Prod.fst).Nodup) && (m.map Prod.fst).all fun x => decide (0 ≤ x) && decide (x < 3840)

theorem keysOkB_ok {m : Mp} (h : keysOkB m = true) : keysOk m := by
  simp only [keysOkB, Bool.and_eq_true, decide_eq_true_eq, List.all_eq_true] at h
  exact h

theorem H0_ok : Okay H0 := by
  refine ⟨rfl, fun m hm => ?_⟩
  simp only [H0, List.mem_cons, List.not_mem_nil, or_false] at hm
  rcases hm with rfl | rfl | rfl
  · exact keysOkB_ok (by kernel_rfl)
  · exact keysOkB_ok (by kernel_rfl)
  · exact keysOkB_ok (by kernel_rfl)

end Go.Proofs.Yteiclengdlhnnaa
