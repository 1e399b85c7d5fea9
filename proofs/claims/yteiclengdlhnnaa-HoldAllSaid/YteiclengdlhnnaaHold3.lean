/- hold: pages that are told, and pages that go. -/
import Derived.Test.YteiclengdlhnnaaHold2
namespace Go.Proofs.Yteiclengdlhnnaa
open Go Go.Sh
set_option maxRecDepth 20000
set_option maxHeartbeats 4000000
set_option linter.unusedSimpArgs false
set_option linter.unusedVariables false
attribute [local simp] sWanted sOp ev put pl1 pl0 sResults sResL oneOf sBin sGuardOk sEqT sInt sUn sConvNum sNil sField sFieldV sPart sIndex sLoad sStore sBuiltin sLen sLookup sMapUpdate sAlloc sBox sMakeMap SW.set SW.new setL Value.cells Value.oneCell' opAt cls stable sNew ancB readsHeap noResult Go.undef List.replicate ite_lt ite_gt frL Nat.testBit
attribute [local simp ↓] vcD_skip vcD_label vcD_exit vcD_goto vcD_ret vcD_seq vcD_cond vcD_block vcD_region vcD_draw vcD_loop vcD_scope vcOps_nil vcOps_cons vcOp_eq vcEnts_nil vcEnts_chk vcEnts_run thenQ_normal thenQ_exit thenQ_goto thenQ_ret inBlockQ_normal inBlockQ_exit inBlockQ_goto inBlockQ_ret bodyQ_normal bodyQ_ret Kont_apply entK_apply

theorem ne_of_heap {s : SW} {a b : Nat} {cs : List Value} {o o' : Bool} {g : Nat} {k : IntKind} {m : List (Int × Value)} (ha : s.heap a = some (.cells cs o g)) (hb : s.heap b = some (.map k o' m)) : ¬ a = b := by
  intro e
  subst e
  rw [ha] at hb; cases hb

theorem HoldAt.agree {s s' : SW} {h la c : Nat} {ms : List Nat} {H : List Mp} (hh : HoldAt s h la c ms H) (hwf : s.wf) (ha : ∀ j, j < s.next → s'.heap j = s.heap j) : HoldAt s' h la c ms H := by
  obtain ⟨h1, ⟨g, h2⟩, h3, h4⟩ := hh
  exact ⟨(ha _ (hwf.lt h1)).trans h1, ⟨g, (ha _ (hwf.lt h2)).trans h2⟩, h3, fun k i m hk hm => (ha _ (hwf.lt (h4 k i m hk hm))).trans (h4 k i m hk hm)⟩

/-- Maps that are not too big, whose keys are numbers of the kind. -/
def Small (H : List Mp) : Prop := ∀ m ∈ H, m.length ≤ 1000000 ∧ ∀ kv ∈ m, (Lit.int .i64 kv.1).wf = true

def partM (H : List Mp) (part : Int) : Option Mp := if 0 ≤ part then H[part.toNat]? else none

theorem of_call {s : SW} {h la c : Nat} {ms : List Nat} {H : List Mp} (hh : HoldAt s h la c ms H) (part : Int) :
    (partM H part = none ∧ SCalls Try.prog 83 [.pointer (some ⟨h, 0, none⟩), .int .i64 part] s fun v s' => s' = s ∧ v = .map none) ∨
    (∃ p i m, part = (p : Nat) ∧ p < ms.length ∧ partM H part = some m ∧ ms[p]? = some i ∧ H[p]? = some m ∧ s.heap i = some (.map .i64 true (encM m)) ∧
      SCalls Try.prog 83 [.pointer (some ⟨h, 0, none⟩), .int .i64 part] s fun v s' => s' = s ∧ v = .map (some i)) := by
  by_cases h0 : 0 ≤ part
  · obtain ⟨p, rfl⟩ : ∃ p : Nat, part = p := ⟨part.toNat, by omega⟩
    by_cases hp : p < ms.length
    · right
      have hp' : p < H.length := by rw [← hh.len]; exact hp
      refine ⟨p, ms[p], H[p], rfl, hp, by simp [partM, hp'], List.getElem?_eq_getElem hp, List.getElem?_eq_getElem hp', hh.maps p _ _ (List.getElem?_eq_getElem hp) (List.getElem?_eq_getElem hp'), of_some s p la h c ms H hh hp⟩
    · left
      have hp' : ¬ p < H.length := by rw [← hh.len]; exact hp
      exact ⟨by simp [partM]; omega, of_none s p la h c ms H hh (.inr (by omega))⟩
  · left
    exact ⟨by simp [partM, h0], of_none s part la h c ms H hh (.inl (by omega))⟩

/-- What lay below is as it was. -/
def Agree (s s' : SW) : Prop := s.next ≤ s'.next ∧ ∀ j, j < s.next → s'.heap j = s.heap j

theorem Agree.refl (s : SW) : Agree s s := ⟨Nat.le_refl _, fun _ _ => rfl⟩
theorem Agree.trans {a b c : SW} (h : Agree a b) (k : Agree b c) : Agree a c := ⟨Nat.le_trans h.1 k.1, fun j hj => (k.2 j (Nat.lt_of_lt_of_le hj h.1)).trans (h.2 j hj)⟩

/-- .. but for one block. -/
def Turned (s : SW) (i : Nat) (o : SObj) (s' : SW) : Prop := s.next ≤ s'.next ∧ s'.heap i = some o ∧ ∀ j, j < s.next → ¬ j = i → s'.heap j = s.heap j

/-- A row of numbers that lies there. -/
def RowIs (s : SW) (l : List Int) (v : Value) : Prop := (l = [] ∧ v = .slice none 0 0) ∨ (l ≠ [] ∧ ∃ b, v = .slice (some ⟨b, 0, none⟩) l.length l.length ∧ s.heap b = some (intsC l))

def RowOut (l : List Int) (s : SW) (v : Value) (s' : SW) : Prop := RowIs s' l v ∧ Agree s s'

theorem IntsOut.row {l : List Int} {s s' : SW} {v : Value} (h : IntsOut l s v s') : RowOut l s v s' := by
  rcases h with ⟨h1, h2, n, hn, rfl⟩ | ⟨h1, b, n, hb, hn, rfl, rfl⟩
  · exact ⟨.inl ⟨h1, h2⟩, hn, fun j hj => rfl⟩
  · refine ⟨.inr ⟨h1, b, rfl, by simp⟩, by show s.next ≤ n; omega, fun j hj => ?_⟩
    simp (disch := omega)

theorem RowOut.mono {l : List Int} {s t s' : SW} {v : Value} (h : RowOut l t v s') (ha : Agree s t) : RowOut l s v s' := ⟨h.1, ha.trans h.2⟩

theorem HoldAt.of_agree {s s' : SW} {h la c : Nat} {ms : List Nat} {H : List Mp} (hh : HoldAt s h la c ms H) (hwf : s.wf) (ha : Agree s s') : HoldAt s' h la c ms H := hh.agree hwf ha.2

theorem agree_new (s : SW) (o : SObj) : Agree s ⟨fun j => if j = s.next then some o else s.heap j, s.next + 1⟩ := ⟨Nat.le_succ _, fun j hj => by simp (disch := omega)⟩

def suchOf (H : List Mp) (part : Int) (q : Pg → Bool) : List Int := match partM H part with
  | some m => suchL m q
  | none => []

theorem such_call {s : SW} {h la c : Nat} {ms : List Nat} {H : List Mp} (hh : HoldAt s h la c ms H) (hs : Small H) (part : Int) (g : Nat) (caps : List Value) (q : Pg → Bool) (hq : Tells s g caps q) :
    SCalls Try.prog 84 [.pointer (some ⟨h, 0, none⟩), .int .i64 part, .func (.func g) #[] caps.toArray] s (RowOut (suchOf H part q) s) := by
  refine SCalls.wf (by kernel_rfl) fun hwf => ?_
  unfold suchOf
  rcases of_call hh part with ⟨hn, _⟩ | ⟨p, i, m, rfl, hp, hm, hmi, hHm, hi, _⟩
  · rw [hn]
    refine (such_nil' s _ _ _ fun s' ha => ?_).mono fun _ _ h => h.row
    rcases of_call (hh.agree hwf ha) part with ⟨_, hc⟩ | ⟨p, i, m, rfl, _, hm, _⟩
    · exact hc
    · rw [hn] at hm; cases hm
  · rw [hm]
    have hm' := hs m (List.mem_of_getElem? hHm)
    refine (such_some s _ _ i m g caps q hq hi hm'.1 hm'.2 fun s' ha => ?_).mono fun _ _ h => h.row
    rcases of_call (hh.agree hwf ha) (p : Int) with ⟨hn, _⟩ | ⟨p', i', m', e, _, _, hmi', _, _, hc⟩
    · rw [hn] at hm; cases hm
    · have : p = p' := by omega
      subst this
      rw [hmi] at hmi'; cases hmi'
      exact hc

theorem Post.refl {R : Value → SW → Prop} {v : Value} {s : SW} (h : R v s) : Post R v s := ⟨s, SW.less_refl s, h⟩

theorem seen_call {s : SW} {h la c : Nat} {ms : List Nat} {H : List Mp} (hh : HoldAt s h la c ms H) (hs : Small H) (part : Int) :
    SCalls Try.prog 19 [.pointer (some ⟨h, 0, none⟩), .int .i64 part] s (RowOut (suchOf H part fun p => !(p.state == 3)) s) := by
  refine SCalls.bodyL Try.func19 rfl rfl fun hwf => vcD_ok (D := fun _ => none) (n := 8) mixed (by kernel_rfl) ?_
  simp
  refine (such_call hh hs part 85 [] _ (tells_seen s)).mono ?_
  intro v s' hv
  try simp
  exact Post.refl hv

theorem pages_call {s : SW} {h la c : Nat} {ms : List Nat} {H : List Mp} (hh : HoldAt s h la c ms H) (hs : Small H) (part : Int) :
    SCalls Try.prog 20 [.pointer (some ⟨h, 0, none⟩), .int .i64 part] s (RowOut (suchOf H part fun _ => true) s) := by
  refine SCalls.bodyL Try.func20 rfl rfl fun hwf => vcD_ok (D := fun _ => none) (n := 8) mixed (by kernel_rfl) ?_
  simp
  refine (such_call hh hs part 86 [] _ (tells_all s)).mono ?_
  intro v s' hv
  try simp
  exact Post.refl hv

theorem given_call {s : SW} {h la c : Nat} {ms : List Nat} {H : List Mp} (hh : HoldAt s h la c ms H) (hs : Small H) (part mark : Int) :
    SCalls Try.prog 89 [.pointer (some ⟨h, 0, none⟩), .int .i64 part, .int .u64 mark] s (RowOut (suchOf H part fun p => p.mark == mark && (p.state == 2 || p.state == 3)) s) := by
  refine SCalls.bodyL Try.func89 rfl rfl fun hwf => vcD_ok (D := fun _ => none) (n := 11) mixed (by kernel_rfl) ?_
  simp
  have ha := agree_new s (.cells [.int .u64 mark] true 0)
  refine (such_call (hh.of_agree hwf ha) hs part 136 [_] _ (tells_given _ s.next mark (by simp) (by simp))).mono ?_
  intro v s' hv
  exact Post.refl (hv.mono ha)

theorem RowIs.len {s : SW} {l : List Int} {v : Value} (h : RowIs s l v) : ∃ a c, v = .slice a l.length c := by
  rcases h with ⟨rfl, rfl⟩ | ⟨_, b, rfl, _⟩
  · exact ⟨_, _, rfl⟩
  · exact ⟨_, _, rfl⟩

def delAll (m : Mp) (l : List Int) : Mp := l.foldl pdel m

theorem away_some {s : SW} {h la c : Nat} {ms : List Nat} {H : List Mp} (hh : HoldAt s h la c ms H) {p i : Nat} {m : Mp} (hp : p < ms.length) (hmi : ms[p]? = some i) (hHm : H[p]? = some m)
    (l : List Int) (v : Value) (hl : l.length ≤ 1000000) (hv : RowIs s l v) :
    SCalls Try.prog 87 [.pointer (some ⟨h, 0, none⟩), .int .i64 p, v] s fun v' s' => v' = v ∧ Turned s i (.map .i64 true (encM (delAll m l))) s' := by
  refine SCalls.bodyL Try.func87 rfl rfl fun hwf => vcD_ok (D := fun _ => none) (n := 25) mixed (by kernel_rfl) ?_
  have hi := hh.maps p i m hmi hHm
  obtain ⟨h1, ⟨g, h2⟩, _, _⟩ := hh
  have n1 := ne_of_heap h1 hi
  have n2 := ne_of_heap h2 hi
  rcases hv with ⟨rfl, rfl⟩ | ⟨_, b, rfl, hb⟩
  · simp
    refine SWp.upto0 ?_
    refine vcD_ok (D := fun _ => none) (n := 25) mixed (by kernel_rfl) ?_
    simp
    exact Post.refl ⟨rfl, Nat.le_refl _, hi, fun _ _ _ => rfl⟩
  · have n3 := ne_of_heap hb hi
    simp
    refine SWp.upto l.length (fun _ (_ : Unit) => True)
      (fun k _ => [.pointer (some ⟨h, 0, none⟩), .int .i64 p, .slice (some ⟨b, 0, none⟩) l.length l.length, junk, junk, junk, junk, junk, junk, .slice (some ⟨b, 0, none⟩) l.length l.length, .int .i64 l.length, .int .i64 k, junk, junk, junk, junk, junk, junk, junk, junk, junk, junk, junk, junk, junk])
      (fun k _ => s.set i (.map .i64 true (encM (delAll m (l.take k))))) () trivial (by simp) ?_ ?_ ?_
    · refine ⟨fun j o hj => ?_, by simp⟩
      simp [delAll] at hj
      grind
    · intro k _ hk _
      obtain ⟨x, hx⟩ : ∃ x, l[k]? = some x := ⟨_, List.getElem?_eq_getElem hk⟩
      have hw : IntKind.i64.wrap ((k : Int) + 1) = k + 1 := Sh.wrap_small (by omega) (by omega)
      refine vcD_ok (D := fun _ => none) (n := 25) mixed (by kernel_rfl) ?_
      have hmi' : ms[p] = i := by rw [List.getElem?_eq_getElem hp] at hmi; exact Option.some.inj hmi
      have hd : delAll m (l.take (k + 1)) = pdel (delAll m (l.take k)) x := by
        simp [delAll, List.take_add_one, hx, List.foldl_append]
      simp [hk, h1, h2, hb, n1, n2, n3, hx, hmi', hp, hw, intsC, mdel_enc, sDelete, hd]
      refine ⟨fun j o hj => ?_, by simp⟩
      simp at hj ⊢
      grind
    · intro _ _
      refine vcD_ok (D := fun _ => none) (n := 25) mixed (by kernel_rfl) ?_
      simp
      refine Post.refl ⟨rfl, Nat.le_refl _, by simp, fun j hj hji => by simp [hji]⟩

theorem away_nil (s : SW) (x part : Value) :
    SCalls Try.prog 87 [x, part, .slice none 0 0] s fun v' s' => v' = .slice none 0 0 ∧ Agree s s' := by
  refine SCalls.bodyL Try.func87 rfl rfl fun hwf => vcD_ok (D := fun _ => none) (n := 25) mixed (by kernel_rfl) ?_
  simp
  refine SWp.upto0 ?_
  refine vcD_ok (D := fun _ => none) (n := 25) mixed (by kernel_rfl) ?_
  simp
  exact Post.refl ⟨rfl, Agree.refl s⟩

theorem Turned.holds {s s' : SW} {h la c : Nat} {ms : List Nat} {H : List Mp} (hh : HoldAt s h la c ms H) (hwf : s.wf) (hnd : ms.Nodup) {p i : Nat} {m' : Mp} (hmi : ms[p]? = some i) (ht : Turned s i (.map .i64 true (encM m')) s') :
    HoldAt s' h la c ms (H.set p m') := by
  obtain ⟨h1, ⟨g, h2⟩, h3, h4⟩ := hh
  obtain ⟨t1, t2, t3⟩ := ht
  have hp : p < H.length := by
    rw [← h3]
    rcases Nat.lt_or_ge p ms.length with h | h
    · exact h
    · rw [List.getElem?_eq_none h] at hmi; cases hmi
  have hi := h4 p i _ hmi (List.getElem?_eq_getElem hp)
  refine ⟨(t3 _ (hwf.lt h1) (ne_of_heap h1 hi)).trans h1, ⟨g, (t3 _ (hwf.lt h2) (ne_of_heap h2 hi)).trans h2⟩, by simpa using h3, fun k j m hk hm => ?_⟩
  rw [List.getElem?_set] at hm
  by_cases e : p = k
  · subst e
    rw [hmi] at hk; cases hk
    simp [hp] at hm
    rw [← hm]; exact t2
  · simp only [e, if_false] at hm
    have hj := h4 k j m hk hm
    have hne : ¬ j = i := by
      intro e'
      subst e'
      have hk1 : k < ms.length := by
        rcases Nat.lt_or_ge k ms.length with h | h
        · exact h
        · rw [List.getElem?_eq_none h] at hk; cases hk
      exact e ((List.getElem?_inj hk1 hnd).1 (by rw [hk, hmi])).symm
    exact (t3 j (hwf.lt hj) hne).trans hj

end Go.Proofs.Yteiclengdlhnnaa
