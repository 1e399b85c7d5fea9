/- law22.begun. -/
import Derived.Test.YteiclengdlhnnaaHold9
namespace Go.Proofs.Yteiclengdlhnnaa
open Go Go.Sh
set_option maxRecDepth 20000
set_option maxHeartbeats 4000000
set_option linter.unusedSimpArgs false
set_option linter.unusedVariables false
attribute [local simp] sWanted sOp ev put pl1 pl0 sResults sResL oneOf sBin sGuardOk sEqT sInt sUn sConvNum sNil sField sFieldV sPart sIndex sLoad sStore sBuiltin sLen sLookup sMapUpdate sAlloc sBox sMakeMap SW.set SW.new setL Value.cells Value.oneCell' opAt cls stable sNew ancB readsHeap noResult Go.undef List.replicate ite_lt ite_gt frL Nat.testBit
attribute [local simp ↓] vcD_skip vcD_label vcD_exit vcD_goto vcD_ret vcD_seq vcD_cond vcD_block vcD_region vcD_draw vcD_loop vcD_scope vcOps_nil vcOps_cons vcOp_eq vcEnts_nil vcEnts_chk vcEnts_run thenQ_normal thenQ_exit thenQ_goto thenQ_ret inBlockQ_normal inBlockQ_exit inBlockQ_goto inBlockQ_ret bodyQ_normal bodyQ_ret Kont_apply entK_apply

def ins (x : Int) : List Int → List Int
  | [] => [x]
  | y :: l => if x ≤ y then x :: y :: l else y :: ins x l
def isort : List Int → List Int
  | [] => []
  | x :: l => ins x (isort l)

theorem ins_perm (x : Int) : ∀ l, (ins x l).Perm (x :: l)
  | [] => .refl _
  | y :: l => by
    unfold ins
    split
    · exact .refl _
    · exact ((ins_perm x l).cons y).trans (.swap x y l)

theorem isort_perm : ∀ l, (isort l).Perm l
  | [] => .refl _
  | x :: l => (ins_perm x (isort l)).trans ((isort_perm l).cons x)

theorem ins_sorted (x : Int) : ∀ l : List Int, l.Pairwise (· ≤ ·) → (ins x l).Pairwise (· ≤ ·)
  | [], _ => by simp [ins]
  | y :: l, h => by
    unfold ins
    rw [List.pairwise_cons] at h
    split
    · rename_i hxy
      rw [List.pairwise_cons]
      refine ⟨fun z hz => ?_, List.pairwise_cons.2 h⟩
      rcases List.mem_cons.1 hz with rfl | hz
      · exact hxy
      · have := h.1 z hz; omega
    · rename_i hxy
      rw [List.pairwise_cons]
      refine ⟨fun z hz => ?_, ins_sorted x l h.2⟩
      rcases List.mem_cons.1 ((ins_perm x l).mem_iff.1 hz) with rfl | hz
      · omega
      · exact h.1 z hz

theorem isort_sorted : ∀ l : List Int, (isort l).Pairwise (· ≤ ·)
  | [] => .nil
  | x :: l => ins_sorted x _ (isort_sorted l)

theorem rising_isort (m : Mp) : rising m = isort (m.map Prod.fst) := by
  unfold rising
  rw [mergeSort_of_perm_i (isort_perm (m.map Prod.fst)).symm]
  exact List.mergeSort_of_pairwise ((isort_sorted _).imp fun h => by simpa using h)

def suchC (m : Mp) (q : Pg → Bool) : List Int := (isort (m.map Prod.fst)).filter fun k => q (pgOf m k)
theorem suchL_eq (m : Mp) (q : Pg → Bool) : suchL m q = suchC m q := by simp [suchL, suchC, rising_isort]
def suchOfC (H : List Mp) (part : Int) (q : Pg → Bool) : List Int := match partM H part with
  | some m => suchC m q
  | none => []
theorem suchOf_eq (H : List Mp) (part : Int) (q : Pg → Bool) : suchOf H part q = suchOfC H part q := by
  unfold suchOf suchOfC
  cases partM H part <;> simp [suchL_eq]

theorem HoldPost.cells {s s' : SW} {h la c : Nat} {ms : List Nat} {H H' : List Mp} (hh : HoldAt s h la c ms H) (hwf : s.wf) (hp : HoldPost h la c ms H' s s') {b : Nat} {cs : List Value} {o : Bool} {g : Nat}
    (hb : s.heap b = some (.cells cs o g)) : s'.heap b = some (.cells cs o g) := by
  rw [hp.2.2 b (hwf.lt hb) ?_]
  · exact hb
  · intro hm
    obtain ⟨k, hk, e⟩ := List.mem_iff_getElem.1 hm
    have hk' : k < H.length := by rw [← hh.len]; exact hk
    have := hh.maps k b _ (by rw [List.getElem?_eq_getElem hk, e]) (List.getElem?_eq_getElem hk')
    exact ne_of_heap hb this rfl

theorem HoldPost.ints {s s' : SW} {h la c : Nat} {ms : List Nat} {H H' : List Mp} (hh : HoldAt s h la c ms H) (hwf : s.wf) (hp : HoldPost h la c ms H' s s') {l : List Int} {v : Value} (hv : IntsIn s l v) : IntsIn s' l v := by
  rcases hv with h | ⟨h0, b, o, c, cs, own, g, h1, h2, h3⟩
  · exact .inl h
  · exact .inr ⟨h0, b, o, c, cs, own, g, h1, hp.cells hh hwf h2, h3⟩

theorem HoldPost.row {s s' : SW} {h la c : Nat} {ms : List Nat} {H H' : List Mp} (hh : HoldAt s h la c ms H) (hwf : s.wf) (hp : HoldPost h la c ms H' s s') {l : List Int} {v : Value} (hv : RowIs s l v) : RowIs s' l v := by
  rcases hv with h | ⟨h0, b, h1, h2⟩
  · exact .inl h
  · exact .inr ⟨h0, b, h1, hp.cells hh hwf h2⟩

theorem HoldPost.leaves {s s' : SW} {h la c : Nat} {ms : List Nat} {H H' : List Mp} (hh : HoldAt s h la c ms H) (hwf : s.wf) (hp : HoldPost h la c ms H' s s') {l : List Leaf} {v : Value} (hv : LeavesIn s l v) : LeavesIn s' l v := by
  rcases hv with h | ⟨h0, b, o, c, cs, own, g, h1, h2, h3⟩
  · exact .inl h
  · exact .inr ⟨h0, b, o, c, cs, own, g, h1, hp.cells hh hwf h2, h3⟩

instance (H : List Mp) : Decidable (Small H) := by unfold Small; infer_instance

def b0 : List Mp := [[(0, ⟨9, 7, 1, 0⟩), (1, ⟨10, 7, 1, 0⟩)], []]
def b1 : List Mp := [[(0, ⟨9, 7, 1, 0⟩), (1, ⟨10, 7, 3, 5⟩)], []]
def b2 : List Mp := [[(0, ⟨9, 7, 1, 0⟩), (1, ⟨10, 7, 3, 5⟩)], [(3, ⟨10, 1, 4, 5⟩)]]
def b5 : List Mp := [[(0, ⟨9, 7, 5, 0⟩), (1, ⟨10, 7, 1, 0⟩)], []]
theorem b_new : [[(9, 7), (10, 7)], []].map newM = b0 := by kernel_rfl
theorem b_give : hGive b0 0 [1] 2 5 = (0, b1) := by kernel_rfl
theorem b_get : getOf b1 0 1 = some ⟨10, 7, 3, 5⟩ := by kernel_rfl
theorem b_put : hPut b1 1 3 [(10, 1)] 5 = (0, b2) := by kernel_rfl
theorem b_such : suchOf b2 1 (fun p => p.mark == 5 && p.state == 4) = [3] := by rw [suchOf_eq]; kernel_rfl
theorem b_out : hAway b2 1 [3] = b1 := by kernel_rfl
theorem b_given : suchOf b1 0 (fun p => p.mark == 5 && (p.state == 2 || p.state == 3)) = [1] := by rw [suchOf_eq]; kernel_rfl
theorem b_back : hBack b1 0 [1] = b0 := by kernel_rfl
theorem b_seen : suchOf b0 0 (fun p => !(p.state == 3)) = [0, 1] := by rw [suchOf_eq]; kernel_rfl
theorem b_box : hTurn b0 0 0 1 5 = (0, b5) := by kernel_rfl
theorem b_unbox : hTurn b5 0 0 5 1 = (0, b0) := by kernel_rfl
theorem b_pages : suchOf b0 1 (fun _ => true) = [] := by rw [suchOf_eq]; kernel_rfl
theorem b_s0 : Small b0 := by decide
theorem b_s1 : Small b1 := by decide
theorem b_s2 : Small b2 := by decide


def leafCells (l : List Leaf) : List Value := l.flatMap fun x => [.int .i64 x.1, .int .i64 x.2]

theorem leafCells_length (l : List Leaf) : (leafCells l).length = l.length * 2 := by
  induction l with
  | nil => rfl
  | cons x l ih => simp [leafCells] at ih ⊢; omega

theorem leafCells_get : ∀ (l : List Leaf) (k : Nat) (x : Leaf), l[k]? = some x → (leafCells l)[k * 2]? = some (.int .i64 x.1) ∧ (leafCells l)[k * 2 + 1]? = some (.int .i64 x.2)
  | [], _, _, h => by simp at h
  | y :: l, 0, x, h => by
    simp at h
    subst h
    simp [leafCells]
  | y :: l, k + 1, x, h => by
    have := leafCells_get l k x (by simpa using h)
    have e1 : (k + 1) * 2 = k * 2 + 1 + 1 := by omega
    simpa [leafCells, e1] using this

theorem LeavesIn.lit {s : SW} {b : Nat} {l : List Leaf} {own : Bool} {g n c : Nat} (hne : l ≠ []) (hn : n = l.length) (h : s.heap b = some (.cells (leafCells l) own g)) : LeavesIn s l (.slice (some ⟨b, 0, none⟩) n c) := by
  subst hn
  refine .inr ⟨hne, b, 0, c, _, own, g, rfl, h, by rw [leafCells_length]; omega, fun k x hx => ?_⟩
  have := leafCells_get l k x hx
  simpa using this

theorem IntsIn.lit {s : SW} {b : Nat} {l : List Int} {own : Bool} {g n c : Nat} (hne : l ≠ []) (hn : n = l.length) (h : s.heap b = some (.cells (l.map (Value.int .i64)) own g)) : IntsIn s l (.slice (some ⟨b, 0, none⟩) n c) := by
  subst hn
  refine .inr ⟨hne, b, 0, c, _, own, g, rfl, h, fun k x hx => ?_⟩
  simp [hx]

theorem LeavesIn.nil {s : SW} : LeavesIn s [] (.slice none 0 0) := .inl ⟨rfl, none, 0, rfl, .inl rfl⟩

theorem HoldPost.mono {s t s' : SW} {h la c : Nat} {ms : List Nat} {H' : List Mp} (ha : Agree s t) (hp : HoldPost h la c ms H' t s') : HoldPost h la c ms H' s s' :=
  ⟨hp.1, Nat.le_trans ha.1 hp.2.1, fun j hj hm => (hp.2.2 j (Nat.lt_of_lt_of_le hj ha.1) hm).trans (ha.2 j hj)⟩

theorem HoldPost.agree {s s' : SW} {h la c : Nat} {ms : List Nat} {H' : List Mp} (hp : HoldPost h la c ms H' s s') {B : SW} (hB : Agree B s) (hlo : ∀ m ∈ ms, B.next ≤ m) : Agree B s' :=
  ⟨Nat.le_trans hB.1 hp.2.1, fun j hj => (hp.2.2 j (Nat.lt_of_lt_of_le hj hB.1) (fun hm => by have := hlo j hm; omega)).trans (hB.2 j hj)⟩

theorem SCalls.gen {P : Program} {f : FuncId} {args : List Value} {s : SW} {R : Value → SW → Prop} (h : ∀ s', s' = s → SCalls P f args s' R) : SCalls P f args s R := h s rfl

theorem begun_call (s : SW) : SCalls Try.prog 15 [] s fun v s' => v = .bool true ∧ Agree s s' := by
  refine SCalls.bodyL Try.func15 rfl rfl fun hwf => vcD_ok (D := fun _ => none) (n := 94) mixed (by kernel_rfl) ?_
  simp [build25, sBuildSlice, partOk, Instr.fill, sZeros]
  refine (new_call _ (s.next + 1) 2 _ true 0 [[(9, 7), (10, 7)], []] (by simp; rfl) rfl (by simp) (by simp) ?_).monoW ?_
  · intro k v l hv hl
    match k with
    | 0 =>
      simp at hv hl
      subst hv hl
      exact ⟨.lit (own := true) (g := 0) (by simp) rfl (by simp [leafCells]), by simp⟩
    | 1 =>
      simp at hv hl
      subst hv hl
      exact ⟨.nil, by simp⟩
    | k + 2 => simp at hl
  rintro v s1 hwf1 ⟨h, la, ms, rfl, hh, hnd, ha, hlo, _, _⟩
  rw [b_new] at hh
  have ha1 : Agree s s1 := Agree.trans ⟨by simp; omega, fun j hj => by simp (disch := omega)⟩ ha
  have hlo1 : ∀ m ∈ ms, s.next ≤ m := fun m hm => by have := hlo m hm; simp at this; omega
  clear ha hlo
  simp [sBuildSlice, partOk, Instr.fill, sZeros]
  have hg := give_call (s := ⟨fun j => if j = s1.next then some (.cells [.int .i64 1] true 0) else s1.heap j, s1.next + 1⟩) (hh.of_agree hwf1 (agree_new _ _)) hnd 0 2 5 [1] _ (.lit (own := true) (g := 0) (b := s1.next) (c := 1) (by simp) rfl (by simp)) (by simp)
  rw [b_give] at hg
  refine hg.monoW ?_
  rintro v s2 hwf2 ⟨rfl, hp2⟩
  have hp2 := hp2.mono (agree_new s1 _)
  have ha2 := hp2.agree ha1 hlo1
  have hh2 := hp2.1
  simp
  have hg3 := get_call hh2 0 1
  rw [b_get] at hg3
  refine hg3.monoW ?_
  rintro v s3 hwf3 ⟨rfl, ag3⟩
  have hh3 := hh2.of_agree hwf2 ag3
  have ha3 := ha2.trans ag3
  simp [pv, build25, sBuildSlice, partOk, Instr.fill, sZeros]
  refine SCalls.gen fun s4 hs4 => ?_
  have ag4 : Agree s3 s4 := by rw [hs4]; exact ⟨by simp; omega, fun j hj => by simp (disch := omega)⟩
  have f4 : s4.heap s3.next = some (.cells [.int .i64 10, .int .i64 7, .int .i64 3, .int .u64 5] true 0) := by rw [hs4]; simp
  have g4 : s4.heap (s3.next + 1) = some (.cells [.int .i64 10, .int .i64 1] true 0) := by rw [hs4]; simp
  have ha4 := ha3.trans ag4
  clear hs4
  refine SCalls.wf (by kernel_rfl) fun hwf4 => ?_
  have hh4 := hh3.of_agree hwf3 ag4
  have hpc := put_call hh4 hnd 1 3 5 [(10, 1)] (.slice (some ⟨s3.next + 1, 0, none⟩) 1 1) (.lit (own := true) (g := 0) (by simp) rfl g4) (by simp)
  rw [b_put] at hpc
  refine hpc.monoW ?_
  rintro v s5 hwf5 ⟨rfl, hp5⟩
  have f5 := hp5.cells hh4 hwf4 f4
  have ha5 := hp5.agree ha4 hlo1
  have hh5 := hp5.1
  simp
  have hoc := out_call hh5 hnd b_s2 1 5
  rw [b_such, b_out] at hoc
  refine hoc.monoW ?_
  rintro r6 s6 hwf6 ⟨hr6, hp6⟩
  have f6 := hp6.cells hh5 hwf5 f5
  have ha6 := hp6.agree ha5 hlo1
  have hh6 := hp6.1
  rcases hr6 with ⟨h0, _⟩ | ⟨_, x6, rfl, hr6⟩
  · cases h0
  simp
  have hbc := back_call hh6 hnd b_s1 0 5
  rw [b_given, b_back] at hbc
  refine hbc.monoW ?_
  rintro r7 s7 hwf7 ⟨hr7, hp7⟩
  have f7 := hp7.cells hh6 hwf6 f6
  have k7 := hp7.cells hh6 hwf6 hr6
  have ha7 := hp7.agree ha6 hlo1
  have hh7 := hp7.1
  rcases hr7 with ⟨h0, _⟩ | ⟨_, x7, rfl, hr7⟩
  · cases h0
  simp [f7]
  have hsc := seen_call hh7 b_s0 0
  rw [b_seen] at hsc
  refine hsc.monoW ?_
  rintro r8 s8 hwf8 ⟨hr8, ag8⟩
  have hh8 := hh7.of_agree hwf7 ag8
  have ha8 := ha7.trans ag8
  have k8 := (ag8.2 x6 (hwf7.lt k7)).trans k7
  have l8 := (ag8.2 x7 (hwf7.lt hr7)).trans hr7
  rcases hr8 with ⟨h0, _⟩ | ⟨_, x8, rfl, hr8⟩
  · cases h0
  simp [k8, l8, intsC]
  have hbx := box_call hh8 hnd 0 0
  rw [b_box] at hbx
  refine hbx.monoW ?_
  rintro r9 s9 hwf9 ⟨rfl, hp9⟩
  have ha9 := hp9.agree ha8 hlo1
  simp
  have hub := unbox_call hp9.1 hnd 0 0
  rw [b_unbox] at hub
  refine hub.monoW ?_
  rintro r10 s10 hwf10 ⟨rfl, hp10⟩
  have ha10 := hp10.agree ha9 hlo1
  simp
  have hpg := pages_call hp10.1 b_s0 1
  rw [b_pages] at hpg
  refine hpg.monoW ?_
  rintro r11 s11 hwf11 ⟨hr11, ag11⟩
  rcases hr11 with ⟨_, rfl⟩ | ⟨h0, _⟩
  · simp
    exact Post.refl ⟨rfl, ha10.trans ag11⟩
  · exact absurd rfl h0

end Go.Proofs.Yteiclengdlhnnaa
