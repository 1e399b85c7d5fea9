/- hold: pages of some kind. -/
import Derived.Test.YteiclengdlhnnaaHold1
import Derived.Test.YteiclengdlhnnaaShelf
namespace Go.Proofs.Yteiclengdlhnnaa
open Go Go.Sh
set_option maxRecDepth 20000
set_option maxHeartbeats 4000000
set_option linter.unusedSimpArgs false
set_option linter.unusedVariables false
attribute [local simp] sWanted sOp ev put pl1 pl0 sResults sResL oneOf sBin sGuardOk sEqT sInt sUn sConvNum sNil sField sFieldV sPart sIndex sLoad sStore sBuiltin sLen sLookup sMapUpdate sAlloc sBox sMakeMap SW.set SW.new setL Value.cells Value.oneCell' opAt cls stable sNew ancB readsHeap noResult Go.undef List.replicate ite_lt ite_gt frL Nat.testBit
attribute [local simp ↓] vcD_skip vcD_label vcD_exit vcD_goto vcD_ret vcD_seq vcD_cond vcD_block vcD_region vcD_draw vcD_loop vcD_scope vcOps_nil vcOps_cons vcOp_eq vcEnts_nil vcEnts_chk vcEnts_run thenQ_normal thenQ_exit thenQ_goto thenQ_ret inBlockQ_normal inBlockQ_exit inBlockQ_goto inBlockQ_ret bodyQ_normal bodyQ_ret Kont_apply entK_apply

theorem keys_call (s : SW) (mb : Option Nat) : SCalls Try.prog 135 [.map mb] s fun v s' => v = .func (.func 160) #[] #[.pointer (some ⟨s.next, 0, none⟩)] ∧ s' = s.new (.cells [.map mb] true 0) := by
  refine SCalls.body Try.func135 rfl rfl ?_
  refine vcD_ok (D := fun _ => none) (n := 4) mixed (by kernel_rfl) ?_
  cases mb <;> simp

theorem sorted_keys (s : SW) (b i : Nat) (own own' : Bool) (m : List (Int × Value)) (hb : s.heap b = some (.cells [.map (some i)] own 0)) (hi : s.heap i = some (.map .i64 own' m))
    (hm : m.length ≤ 1000000) (hr : ∀ kv ∈ m, (Lit.int .i64 kv.1).wf = true) :
    SCalls Try.prog 109 [.func (.func 160) #[] #[.pointer (some ⟨b, 0, none⟩)]] s fun v s' =>
      (m = [] ∧ v = .slice none 0 0 ∧ s' = s) ∨
      (m ≠ [] ∧ v = .slice (some ⟨s.next, 0, none⟩) m.length m.length ∧ s' = s.new (.cells ((risingKeys m).map (Value.int .i64)) true 1)) :=
  sorted_call Try.keysA Try.sortedA Try.sortA rfl rfl (by kernel_rfl) (by kernel_rfl) (by kernel_rfl) s b i own own' m hb hi hm hr

theorem sorted_keys_nil (s : SW) (b : Nat) (own : Bool) (hb : s.heap b = some (.cells [.map none] own 0)) :
    SCalls Try.prog 109 [.func (.func 160) #[] #[.pointer (some ⟨b, 0, none⟩)]] s fun v s' => v = .slice none 0 0 ∧ s' = s :=
  sorted_call_nil Try.keysA Try.sortedA Try.sortA rfl (by kernel_rfl) (by kernel_rfl) (by kernel_rfl) s b own hb

def intsC (l : List Int) : SObj := .cells (l.map (Value.int .i64)) true 1

/-- A row of numbers is handed back: nil if there are none. -/
def IntsOut (l : List Int) (s : SW) (v : Value) (s' : SW) : Prop :=
  (l = [] ∧ v = .slice none 0 0 ∧ ∃ n, s.next ≤ n ∧ s' = s.at n) ∨
  (l ≠ [] ∧ ∃ b n, s.next ≤ b ∧ b < n ∧ v = .slice (some ⟨b, 0, none⟩) l.length l.length ∧ s' = ⟨fun j => if j = b then some (intsC l) else s.heap j, n⟩)

def suchL (m : Mp) (q : Pg → Bool) : List Int := (rising m).filter fun k => q (pgOf m k)

theorem such_nil' (s : SW) (x part f : Value) (hof : ∀ s' : SW, (∀ j, j < s.next → s'.heap j = s.heap j) → SCalls Try.prog 83 [x, part] s' fun v s'' => s'' = s' ∧ v = .map none) :
    SCalls Try.prog 84 [x, part, f] s (IntsOut [] s) := by
  refine SCalls.bodyL Try.func84 rfl rfl fun hwf => vcD_ok (D := fun _ => none) (n := 32) mixed (by kernel_rfl) ?_
  try simp
  refine (hof s fun _ _ => rfl).mono ?_
  rintro v s' ⟨rfl, rfl⟩
  try simp
  refine (keys_call _ _).mono ?_
  rintro v s' ⟨rfl, rfl⟩
  try simp
  refine (sorted_keys_nil _ _ true (by simp)).mono ?_
  rintro v s' ⟨rfl, rfl⟩
  try simp
  refine SWp.upto0 ?_
  refine vcD_ok (D := fun _ => none) (n := 32) mixed (by kernel_rfl) ?_
  simp
  exact Post.at hwf (fun n hn => .inl ⟨rfl, rfl, n, hn, rfl⟩) (fun j hj => by simp (disch := omega)) (by simp)

theorem rising_mem {m : Mp} {k : Int} (h : k ∈ rising m) : ∃ p, pgGet m k = some p := by
  have h1 : k ∈ m.map Prod.fst := (List.mergeSort_perm _ _).mem_iff.1 h
  simp only [List.mem_map] at h1
  obtain ⟨kv, h2, rfl⟩ := h1
  unfold pgGet
  cases hf : m.find? fun kv' => kv'.1 == kv.1 with
  | some x => exact ⟨_, rfl⟩
  | none =>
    have := List.find?_eq_none.1 hf kv h2
    simp at this

theorem rising_length (m : Mp) : (rising m).length = m.length := by simp [rising]

/-- The row so far. -/
def slL (l : List Int) (b : Nat) : Value := if l = [] then .slice none 0 0 else .slice (some ⟨b, 0, none⟩) l.length l.length

theorem such_some (s : SW) (x part : Value) (i : Nat) (m : Mp) (g : Nat) (caps : List Value) (q : Pg → Bool) (hq : Tells s g caps q) (hi : s.heap i = some (.map .i64 true (encM m)))
    (hm : m.length ≤ 1000000) (hr : ∀ kv ∈ m, (Lit.int .i64 kv.1).wf = true)
    (hof : ∀ s' : SW, (∀ j, j < s.next → s'.heap j = s.heap j) → SCalls Try.prog 83 [x, part] s' fun v s'' => s'' = s' ∧ v = .map (some i)) :
    SCalls Try.prog 84 [x, part, .func (.func g) #[] caps.toArray] s (IntsOut (suchL m q) s) := by
  refine SCalls.bodyL Try.func84 rfl rfl fun hwf => vcD_ok (D := fun _ => none) (n := 32) mixed (by kernel_rfl) ?_
  have hil := hwf.lt hi
  simp
  refine (hof s fun _ _ => rfl).mono ?_
  rintro v s' ⟨rfl, rfl⟩
  try simp
  refine (keys_call _ _).mono ?_
  rintro v s' ⟨rfl, rfl⟩
  try simp
  refine (sorted_keys _ _ i true true (encM m) (by simp) (by simp (disch := omega) [hi]) (by rw [encM_length]; exact hm) ?_).mono ?_
  · intro kv hkv
    simp only [encM, List.mem_map] at hkv
    obtain ⟨kv', h1, rfl⟩ := hkv
    exact hr kv' h1
  rintro v s' (⟨hm0, rfl, rfl⟩ | ⟨hm0, rfl, rfl⟩)
  · have hm0' : m = [] := by simpa [encM] using hm0
    subst hm0'
    try simp
    refine SWp.upto0 ?_
    refine vcD_ok (D := fun _ => none) (n := 32) mixed (by kernel_rfl) ?_
    simp
    exact Post.at hwf (fun n hn => .inl ⟨by simp [suchL, rising], rfl, n, hn, rfl⟩) (fun j hj => by simp (disch := omega)) (by simp)
  · simp [rising_enc, encM_length]
    have key : ∀ k, k < m.length → ∃ x, (rising m)[k]? = some x ∧ mget (encM m) x = some (pv (pgOf m x)) := by
      intro k hk
      have hk' : k < (rising m).length := by rw [rising_length]; exact hk
      obtain ⟨p, hp⟩ := rising_mem (List.getElem_mem hk')
      exact ⟨_, List.getElem?_eq_getElem hk', by rw [mget_enc, hp]; simp [pgOf, hp]⟩
    let L : Nat → List Int := fun k => ((rising m).take k).filter fun x => q (pgOf m x)
    refine SWp.upto m.length (fun _ (x : Nat × Nat) => s'.next + 1 < x.1 ∧ x.1 < x.2)
      (fun k x => [junk, junk, .func (.func g) #[] caps.toArray, junk, junk, junk, slL (L k) x.1, .map (some i), junk, junk, junk, junk, junk, junk, junk, .slice (some ⟨s'.next + 1, 0, none⟩) m.length m.length, .int .i64 m.length, .int .i64 k, junk, junk, junk, junk, junk, junk, junk, junk, junk, junk, junk, junk, junk, junk])
      (fun k x => ⟨fun j => if j = s'.next + 1 then some (intsC (rising m)) else if j = x.1 then (if L k = [] then none else some (intsC (L k))) else s'.heap j, x.2⟩)
      (s'.next + 2, s'.next + 3) ⟨by simp, by simp⟩ (by simp [L, slL]) ?_ ?_ ?_
    · refine ⟨fun j o hj => ?_, by simp⟩
      dsimp only at hj ⊢
      by_cases h1 : j = s'.next + 1
      · simpa [h1, intsC] using hj
      · by_cases h2 : j = s'.next + 2
        · simp [h1, h2, L] at hj
        · simp only [h1, h2, if_false] at hj ⊢
          have := hwf.lt hj
          simp (disch := omega) [hj]
    · rintro k ⟨b, n⟩ hk ⟨hb1, hb2⟩
      obtain ⟨x, hx, hgx⟩ := key k hk
      refine vcD_ok (D := fun _ => none) (n := 32) mixed (by kernel_rfl) ?_
      dsimp only at hb1 hb2 ⊢
      have hib : ¬ i = b := by omega
      have hik : ¬ i = s'.next + 1 := by omega
      simp [hk, hx, hgx, hi, hib, hik, intsC]
      have hw : IntKind.i64.wrap ((k : Int) + 1) = k + 1 := Sh.wrap_small (by omega) (by omega)
      have hL : L (k + 1) = if q (pgOf m x) then L k ++ [x] else L k := by
        simp only [L, List.take_add_one, hx, List.filter_append, Option.toList]
        split <;> simp [*]
      refine (hq _ _ ?_ ?_).mono ?_
      · intro j hj
        simp (disch := omega)
      · simp; omega
      rintro v s'' ⟨rfl, n', hn', rfl⟩
      simp only at hn'
      cases hqx : q (pgOf m x)
      · simp [hw, hL, hqx, SW.at]
        refine ⟨b, n', ⟨hb1, by omega⟩, .inr rfl, SW.less_refl _⟩
      · have hLk : (L k).length ≤ 1000000 := by
          refine Nat.le_trans (List.length_filter_le _ _) (Nat.le_trans (List.length_take_le _ _) (by omega))
        have e1 : ¬ b = n' := by omega
        have e2 : ¬ b = s'.next + 1 := by omega
        have e3 : ¬ 1073741823 < (L k).length := by omega
        have e4 : ¬ (L k).length + 1 ≤ (L k).length := by omega
        have e5 : ¬ n' = s'.next + 1 := by omega
        by_cases h0 : L k = []
        · simp [hw, hL, hqx, SW.at, slL, h0, sBuildSlice, partOk, Instr.fill, sZeros, sAppend, sFirst, sLenOf, intD]
          refine ⟨n' + 1, n' + 2, by omega, .inr rfl, fun j o hj => ?_, by simp⟩
          have := hwf j
          grind
        · simp [hw, hL, hqx, SW.at, slL, h0, sBuildSlice, partOk, Instr.fill, sZeros, sAppend, sFirst, sLenOf, intD, e1, e2, e3, e4, SW.kill, List.take_of_length_le]
          refine ⟨n' + 1, n' + 2, by omega, .inr rfl, fun j o hj => ?_, by simp⟩
          have := hwf j
          grind
    · rintro ⟨b, n⟩ ⟨hb1, hb2⟩
      refine vcD_ok (D := fun _ => none) (n := 32) mixed (by kernel_rfl) ?_
      dsimp only at hb1 hb2 ⊢
      simp
      have hLm : L m.length = suchL m q := by
        simp only [L, suchL]
        rw [List.take_of_length_le (by rw [rising_length]; exact Nat.le_refl _)]
      rw [hLm]
      by_cases h0 : suchL m q = []
      · simp only [slL, h0, if_true]
        exact Post.at hwf (fun n hn => .inl ⟨rfl, rfl, n, hn, rfl⟩) (fun j hj => by simp (disch := omega)) (by simp; omega)
      · simp only [slL, h0, if_false]
        exact ⟨⟨fun j => if j = b then some (intsC (suchL m q)) else s'.heap j, n⟩, ⟨fun j o hj => by have := hwf j; grind, by simp⟩, .inr ⟨h0, b, n, by omega, hb2, rfl, rfl⟩⟩

end Go.Proofs.Yteiclengdlhnnaa
