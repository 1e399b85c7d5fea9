/- No hold; rows in a row; deeds. -/
import Derived.Test.YteiclengdlhnnaaAll1
import Derived.Test.YteiclengdlhnnaaSimC
namespace Go.Proofs.Yteiclengdlhnnaa
open Go Go.Sh
set_option maxRecDepth 20000
set_option maxHeartbeats 4000000
set_option linter.unusedSimpArgs false
set_option linter.unusedVariables false
attribute [local simp] sWanted sOp ev put pl1 pl0 sResults sResL oneOf sBin sGuardOk sEqT sInt sUn sConvNum sNil sField sFieldV sPart sIndex sLoad sStore sBuiltin sLen sLookup sMapUpdate sAlloc sBox sMakeMap SW.set SW.new setL Value.cells Value.oneCell' opAt cls stable sNew ancB readsHeap noResult Go.undef List.replicate ite_lt ite_gt frL Nat.testBit
attribute [local simp ↓] vcD_skip vcD_label vcD_exit vcD_goto vcD_ret vcD_seq vcD_cond vcD_block vcD_region vcD_draw vcD_loop vcD_scope vcOps_nil vcOps_cons vcOp_eq vcEnts_nil vcEnts_chk vcEnts_run thenQ_normal thenQ_exit thenQ_goto thenQ_ret inBlockQ_normal inBlockQ_exit inBlockQ_goto inBlockQ_ret bodyQ_normal bodyQ_ret Kont_apply entK_apply

theorem such_nilptr (s : SW) (part f : Value) (p : Int) (hp : part = .int .i64 p) : SCalls Try.prog 84 [.pointer none, part, f] s (RowOut [] s) := by
  subst hp
  exact (such_nil' s _ _ _ fun s' _ => of_nil s' p).mono fun _ _ h => h.row

theorem pages_nil (s : SW) (part : Int) : SCalls Try.prog 20 [.pointer none, .int .i64 part] s (RowOut [] s) := by
  refine SCalls.bodyL Try.func20 rfl rfl fun hwf => vcD_ok (D := fun _ => none) (n := 8) mixed (by kernel_rfl) ?_
  simp
  refine (such_nilptr s _ _ part rfl).mono ?_
  intro v s' hv
  try simp
  exact Post.refl hv

theorem seen_nil (s : SW) (part : Int) : SCalls Try.prog 19 [.pointer none, .int .i64 part] s (RowOut [] s) := by
  refine SCalls.bodyL Try.func19 rfl rfl fun hwf => vcD_ok (D := fun _ => none) (n := 8) mixed (by kernel_rfl) ?_
  simp
  refine (such_nilptr s _ _ part rfl).mono ?_
  intro v s' hv
  try simp
  exact Post.refl hv

theorem out_nil (s : SW) (part mark : Int) : SCalls Try.prog 21 [.pointer none, .int .i64 part, .int .u64 mark] s fun v s' => v = .slice none 0 0 ∧ Agree s s' := by
  refine SCalls.bodyL Try.func21 rfl rfl fun hwf => vcD_ok (D := fun _ => none) (n := 14) mixed (by kernel_rfl) ?_
  simp
  have ha := agree_new s (.cells [.int .u64 mark] true 0)
  refine (such_nilptr _ _ _ part rfl).mono ?_
  rintro v s' ⟨hv, ag⟩
  rcases hv with ⟨_, rfl⟩ | ⟨h0, _⟩
  · simp
    refine (away_nil s' _ _).mono ?_
    rintro v s'' ⟨rfl, ag'⟩
    simp
    exact Post.refl ⟨rfl, (ha.trans ag).trans ag'⟩
  · exact absurd rfl h0

theorem give_nil (s : SW) (part kind mark : Int) (v : Value) : SCalls Try.prog 17 [.pointer none, .int .i64 part, v, .int .i64 kind, .int .u64 mark] s fun v s' => v = .int .i64 (-2) ∧ Agree s s' := by
  refine SCalls.bodyL Try.func17 rfl rfl fun hwf => vcD_ok (D := fun _ => none) (n := 75) mixed (by kernel_rfl) ?_
  simp
  refine (of_nil s part).mono ?_
  rintro v s' ⟨rfl, rfl⟩
  simp
  exact Post.refl ⟨rfl, .refl _⟩

theorem put_nil (s : SW) (part at_ mark : Int) (v : Value) : SCalls Try.prog 18 [.pointer none, .int .i64 part, .int .i64 at_, v, .int .u64 mark] s fun v s' => v = .int .i64 (-2) ∧ Agree s s' := by
  refine SCalls.bodyL Try.func18 rfl rfl fun hwf => vcD_ok (D := fun _ => none) (n := 75) mixed (by kernel_rfl) ?_
  simp
  refine (of_nil s part).mono ?_
  rintro v s' ⟨rfl, rfl⟩
  simp
  exact Post.refl ⟨rfl, .refl _⟩

theorem turn_nil (s : SW) (part page a b : Int) : SCalls Try.prog 93 [.pointer none, .int .i64 part, .int .i64 page, .int .i64 a, .int .i64 b] s fun v s' => v = .int .i64 (-2) ∧ Agree s s' := by
  refine SCalls.bodyL Try.func93 rfl rfl fun hwf => vcD_ok (D := fun _ => none) (n := 30) mixed (by kernel_rfl) ?_
  simp
  refine (of_nil s part).mono ?_
  rintro v s' ⟨rfl, rfl⟩
  simp
  exact Post.refl ⟨rfl, .refl _⟩

theorem box_nil (s : SW) (part page : Int) : SCalls Try.prog 32 [.pointer none, .int .i64 part, .int .i64 page] s fun v s' => v = .int .i64 (-2) ∧ Agree s s' := by
  refine SCalls.bodyL Try.func32 rfl rfl fun hwf => vcD_ok (D := fun _ => none) (n := 11) mixed (by kernel_rfl) ?_
  simp
  refine (turn_nil s part page 1 5).mono ?_
  rintro v s' ⟨rfl, h1⟩
  simp
  exact Post.refl ⟨rfl, h1⟩

/-! ### three rows in an array -/

structure RowsInv (s0 : SW) (b7 : Nat) (rows : List Value) (l : Nat → List Leaf) (s : SW) : Prop where
  agree : Agree s0 s
  lo : s0.next ≤ b7
  cells : s.heap b7 = some (.cells rows true 0)
  len : rows.length = 3
  row : ∀ (j : Nat) (v : Value), rows[j]? = some v → LeavesRow s (l j) v
  base : ∀ (j : Nat) (v : Value) (b : Nat), rows[j]? = some v → baseOf v = some b → s0.next ≤ b
  apart : ∀ (i j : Nat) (v w : Value) (b : Nat), rows[i]? = some v → rows[j]? = some w → i ≠ j → baseOf v = some b → ¬ baseOf w = some b

theorem LeavesRow.base_heap {s : SW} {l : List Leaf} {v : Value} (h : LeavesRow s l v) {b : Nat} (hb : baseOf v = some b) : ∃ cs, s.heap b = some (.cells cs true 2) := by
  rcases h with ⟨_, rfl⟩ | ⟨_, b', rfl, hb'⟩
  · cases hb
  · cases hb; exact ⟨_, hb'⟩

theorem RowsInv.step {s0 : SW} {b7 : Nat} {rows : List Value} {l : Nat → List Leaf} {s s' : SW} (h : RowsInv s0 b7 rows l s) (hwf : s.wf) (hwf' : s'.wf) {i : Nat} {v v' : Value} {x : Leaf} (hv : rows[i]? = some v)
    (h3 : LeavesRow s' (l i ++ [x]) v') (h4 : Kept v s s') (h5 : ∀ b, baseOf v' = some b → s.next ≤ b) :
    s'.heap b7 = some (.cells rows true 0) ∧ RowsInv s0 b7 (rows.set i v') (fun j => if j = i then l i ++ [x] else l j) ⟨fun j => if j = b7 then some (.cells (rows.set i v') true 0) else s'.heap j, s'.next⟩ := by
  have hb7 : ¬ baseOf v = some b7 := by
    intro e
    obtain ⟨cs, h1⟩ := (h.row i v hv).base_heap e
    rw [h.cells] at h1
    simp at h1
  have l7 := hwf.lt h.cells
  have hc7 := (h4.2 b7 l7 hb7).trans h.cells
  have hi : i < rows.length := by
    rcases Nat.lt_or_ge i rows.length with h1 | h1
    · exact h1
    · rw [List.getElem?_eq_none h1] at hv; cases hv
  have hlt : ∀ (j : Nat) (w : Value) (b : Nat), rows[j]? = some w → baseOf w = some b → b < s.next := by
    intro j w b hw hb
    obtain ⟨cs, h1⟩ := (h.row j w hw).base_heap hb
    exact hwf.lt h1
  have hget : ∀ (j : Nat) (w : Value), (rows.set i v')[j]? = some w → (j = i ∧ w = v') ∨ (j ≠ i ∧ rows[j]? = some w) := by
    intro j w hw
    rw [List.getElem?_set] at hw
    by_cases e : i = j
    · subst e
      simp [hi] at hw
      exact .inl ⟨rfl, hw.symm⟩
    · rw [if_neg e] at hw
      exact .inr ⟨fun e' => e e'.symm, hw⟩
  refine ⟨hc7, ⟨?_, ?_⟩, h.lo, by simp, by simpa using h.len, ?_, ?_, ?_⟩
  · exact Nat.le_trans h.agree.1 h4.1
  · intro j hj
    have hj7 : ¬ j = b7 := by have := h.lo; omega
    simp only [hj7, if_false]
    rw [h4.2 j (Nat.lt_of_lt_of_le hj h.agree.1) (fun e => by have := h.base i v j hv e; omega)]
    exact h.agree.2 j hj
  · intro j w hw
    rcases hget j w hw with ⟨rfl, rfl⟩ | ⟨hne, hw⟩
    · simp only [if_true]
      rcases h3 with h3 | ⟨h30, b, rfl, hb⟩
      · exact .inl h3
      · have : s.next ≤ b := h5 b rfl
        have hb7' : ¬ b = b7 := by omega
        exact .inr ⟨h30, b, rfl, by simp only [hb7', if_false]; exact hb⟩
    · simp only [hne, if_false]
      rcases h.row j w hw with h3 | ⟨h30, b, rfl, hb⟩
      · exact .inl h3
      · have hb7' : ¬ b = b7 := by
          rintro rfl
          rw [h.cells] at hb
          simp at hb
        refine .inr ⟨h30, b, rfl, ?_⟩
        simp only [hb7', if_false]
        rw [h4.2 b (hwf.lt hb) (fun e => h.apart j i _ _ b hw hv hne rfl e)]
        exact hb
  · intro j w b hw hb
    rcases hget j w hw with ⟨rfl, rfl⟩ | ⟨hne, hw⟩
    · have := h5 b hb; have := h.agree.1; omega
    · exact h.base j w b hw hb
  · intro j k w u b hw hu hjk hb hb'
    rcases hget j w hw with ⟨ej, ew⟩ | ⟨hne, hw1⟩
    · rcases hget k u hu with ⟨ek, eu⟩ | ⟨hne', hu1⟩
      · exact hjk (ej.trans ek.symm)
      · rw [ew] at hb
        have := h5 b hb; have := hlt k u b hu1 hb'; omega
    · rcases hget k u hu with ⟨ek, eu⟩ | ⟨hne', hu1⟩
      · rw [eu] at hb'
        have := h5 b hb'; have := hlt j w b hw1 hb; omega
      · exact h.apart j k w u b hw1 hu1 hjk hb hb'

/-! ### deeds -/

structure DeedM where
  kind : Int
  part : Int
  at_ : Int
  what : Int
  pages : List Int
  leaves : List Leaf
  mark : Int

structure DeedAt (s : SW) (cs : List Value) (o : Nat) (d : DeedM) (vp vl : Value) : Prop where
  c0 : cs[o]? = some (.int .i64 d.kind)
  c1 : cs[o + 1]? = some (.int .i64 d.part)
  c2 : cs[o + 2]? = some (.int .i64 d.at_)
  c3 : cs[o + 3]? = some (.int .i64 d.what)
  c4 : cs[o + 4]? = some vp
  c5 : cs[o + 5]? = some vl
  c6 : cs[o + 6]? = some (.int .u64 d.mark)
  ints : IntsIn s d.pages vp
  leavs : LeavesIn s d.leaves vl
  kindR : (Lit.int .i64 d.kind).wf = true

theorem DeedAt.cells {s : SW} {cs : List Value} {o : Nat} {d : DeedM} {vp vl : Value} (h : DeedAt s cs o d vp vl) :
    (cs.drop o).take 7 = [.int .i64 d.kind, .int .i64 d.part, .int .i64 d.at_, .int .i64 d.what, vp, vl, .int .u64 d.mark] ∧ o + 7 ≤ cs.length := by
  have key : ∀ (k : Nat) (v : Value), cs[k]? = some v → cs.drop k = v :: cs.drop (k + 1) := by
    intro k v h1
    obtain ⟨h, rfl⟩ := List.getElem?_eq_some_iff.1 h1
    exact List.drop_eq_getElem_cons h
  refine ⟨?_, ?_⟩
  · rw [key _ _ h.c0, key _ _ h.c1, key _ _ h.c2, key _ _ h.c3, key _ _ h.c4, key _ _ h.c5, key _ _ h.c6]
    rfl
  · obtain ⟨h, _⟩ := List.getElem?_eq_some_iff.1 h.c6
    omega

def DeedsIn (s : SW) (l : List DeedM) (v : Value) : Prop :=
  (l = [] ∧ ∃ a c, v = .slice a 0 c) ∨
  (l ≠ [] ∧ ∃ b o c cs own g, v = .slice (some ⟨b, o, none⟩) l.length c ∧ s.heap b = some (.cells cs own g) ∧ ∀ (k : Nat) (d : DeedM), l[k]? = some d → ∃ vp vl, DeedAt s cs (o + k * 7) d vp vl)

theorem rem9 (a : Int) : 0 ≤ (IntKind.i64.wrap (a.tmod 9 + 9)).tmod 9 ∧ (IntKind.i64.wrap (a.tmod 9 + 9)).tmod 9 ≤ 8 := by
  have h1 : a.tmod 9 < 9 := Int.tmod_lt_of_pos a (by omega)
  have h2 : -9 < a.tmod 9 := Int.lt_tmod_of_pos a (by omega)
  rw [wrap_i64 (by omega) (by omega), Int.tmod_eq_emod_of_nonneg (by omega)]
  omega

end Go.Proofs.Yteiclengdlhnnaa
