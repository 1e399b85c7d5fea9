/- hold: what is done to pages. -/
import Derived.Test.YteiclengdlhnnaaHold3
namespace Go.Proofs.Yteiclengdlhnnaa
open Go Go.Sh
set_option maxRecDepth 20000
set_option maxHeartbeats 4000000
set_option linter.unusedSimpArgs false
set_option linter.unusedVariables false
attribute [local simp] sWanted sOp ev put pl1 pl0 sResults sResL oneOf sBin sGuardOk sEqT sInt sUn sConvNum sNil sField sFieldV sPart sIndex sLoad sStore sBuiltin sLen sLookup sMapUpdate sAlloc sBox sMakeMap SW.set SW.new setL Value.cells Value.oneCell' opAt cls stable sNew ancB readsHeap noResult Go.undef List.replicate ite_lt ite_gt frL Nat.testBit
attribute [local simp ↓] vcD_skip vcD_label vcD_exit vcD_goto vcD_ret vcD_seq vcD_cond vcD_block vcD_region vcD_draw vcD_loop vcD_scope vcOps_nil vcOps_cons vcOp_eq vcEnts_nil vcEnts_chk vcEnts_run thenQ_normal thenQ_exit thenQ_goto thenQ_ret inBlockQ_normal inBlockQ_exit inBlockQ_goto inBlockQ_ret bodyQ_normal bodyQ_ret Kont_apply entK_apply

/-- A hold after a deed: its maps turned alone. -/
def HoldPost (h la c : Nat) (ms : List Nat) (H' : List Mp) (s s' : SW) : Prop :=
  HoldAt s' h la c ms H' ∧ s.next ≤ s'.next ∧ ∀ j, j < s.next → ¬ j ∈ ms → s'.heap j = s.heap j

theorem HoldPost.same {s s' : SW} {h la c : Nat} {ms : List Nat} {H : List Mp} (hh : HoldAt s h la c ms H) (hwf : s.wf) (ha : Agree s s') : HoldPost h la c ms H s s' :=
  ⟨hh.of_agree hwf ha, ha.1, fun j hj _ => ha.2 j hj⟩

theorem HoldPost.turned {s s' : SW} {h la c : Nat} {ms : List Nat} {H : List Mp} (hh : HoldAt s h la c ms H) (hwf : s.wf) (hnd : ms.Nodup) {p i : Nat} {m' : Mp} (hmi : ms[p]? = some i) (ht : Turned s i (.map .i64 true (encM m')) s') :
    HoldPost h la c ms (H.set p m') s s' :=
  ⟨ht.holds hh hwf hnd hmi, ht.1, fun j hj hm => ht.2.2 j hj fun e => hm (e ▸ List.mem_of_getElem? hmi)⟩

theorem Turned.agree {s t s' : SW} {i : Nat} {o o' : SObj} (ha : Agree s t) (hwf : s.wf) (hi : s.heap i = some o') (ht : Turned t i o s') : Turned s i o s' :=
  ⟨Nat.le_trans ha.1 ht.1, ht.2.1, fun j hj hji => (ht.2.2 j (Nat.lt_of_lt_of_le hj ha.1) hji).trans (ha.2 j hj)⟩

def hAway (H : List Mp) (part : Int) (l : List Int) : List Mp := match partM H part with
  | some m => H.set part.toNat (delAll m l)
  | none => H

theorem suchL_length (m : Mp) (q : Pg → Bool) : (suchL m q).length ≤ m.length := by
  unfold suchL
  exact Nat.le_trans (List.length_filter_le _ _) (by rw [rising_length]; exact Nat.le_refl _)

theorem RowIs.agree {s s' : SW} {l : List Int} {v : Value} (h : RowIs s l v) (hwf : s.wf) (ha : Agree s s') : RowIs s' l v := by
  rcases h with h | ⟨h0, b, h1, h2⟩
  · exact .inl h
  · exact .inr ⟨h0, b, h1, (ha.2 b (hwf.lt h2)).trans h2⟩

theorem RowIs.turned {s s' : SW} {l : List Int} {v : Value} (h : RowIs s l v) (hwf : s.wf) {i : Nat} {m : List (Int × Value)} {o : SObj} {k : IntKind} {ow : Bool} (hi : s.heap i = some (.map k ow m)) (ha : Turned s i o s') : RowIs s' l v := by
  rcases h with h | ⟨h0, b, h1, h2⟩
  · exact .inl h
  · exact .inr ⟨h0, b, h1, (ha.2.2 b (hwf.lt h2) (ne_of_heap h2 hi)).trans h2⟩

/-- A row of pages of some kind that goes. -/
theorem such_away {s s₁ : SW} {h la c : Nat} {ms : List Nat} {H : List Mp} (hh : HoldAt s h la c ms H) (hwf : s.wf) (hnd : ms.Nodup) (hs : Small H) (part : Int) (q : Pg → Bool) (v : Value) (hv : RowOut (suchOf H part q) s v s₁) :
    SCalls Try.prog 87 [.pointer (some ⟨h, 0, none⟩), .int .i64 part, v] s₁ fun v' s' => v' = v ∧ RowIs s' (suchOf H part q) v ∧ HoldPost h la c ms (hAway H part (suchOf H part q)) s s' := by
  refine SCalls.wf (by kernel_rfl) fun hwf1 => ?_
  obtain ⟨hv, ha⟩ := hv
  unfold suchOf hAway at *
  have hh1 := hh.of_agree hwf ha
  rcases of_call hh1 part with ⟨hn, _⟩ | ⟨p, i, m, rfl, hp, hm, hmi, hHm, hi, _⟩
  · rw [hn] at hv ⊢
    have hv0 : v = .slice none 0 0 := by
      rcases hv with ⟨_, h⟩ | ⟨h, _⟩
      · exact h
      · exact absurd rfl h
    subst hv0
    refine (away_nil s₁ _ _).mono ?_
    rintro v' s' ⟨rfl, h2⟩
    exact ⟨rfl, .inl ⟨rfl, rfl⟩, .same hh hwf (ha.trans h2)⟩
  · rw [hm] at hv ⊢
    have hm' := hs m (List.mem_of_getElem? hHm)
    refine (away_some hh1 hp hmi hHm _ v (Nat.le_trans (suchL_length _ _) hm'.1) hv).mono ?_
    rintro v' s' ⟨rfl, h2⟩
    have hi0 := hh.maps p i m hmi hHm
    refine ⟨rfl, hv.turned hwf1 hi h2, ?_⟩
    have : ((p : Nat) : Int).toNat = p := by simp
    rw [this]
    exact .turned hh hwf hnd hmi (h2.agree ha hwf hi0)

theorem out_call {s : SW} {h la c : Nat} {ms : List Nat} {H : List Mp} (hh : HoldAt s h la c ms H) (hnd : ms.Nodup) (hs : Small H) (part mark : Int) :
    SCalls Try.prog 21 [.pointer (some ⟨h, 0, none⟩), .int .i64 part, .int .u64 mark] s fun v s' =>
      RowIs s' (suchOf H part fun p => p.mark == mark && p.state == 4) v ∧ HoldPost h la c ms (hAway H part (suchOf H part fun p => p.mark == mark && p.state == 4)) s s' := by
  refine SCalls.bodyL Try.func21 rfl rfl fun hwf => vcD_ok (D := fun _ => none) (n := 14) mixed (by kernel_rfl) ?_
  simp
  have ha := agree_new s (.cells [.int .u64 mark] true 0)
  refine (such_call (hh.of_agree hwf ha) hs part 88 [_] _ (tells_out _ s.next mark (by simp) (by simp))).mono ?_
  intro v s' hv
  simp
  refine (such_away hh hwf hnd hs part _ v (hv.mono ha)).mono ?_
  rintro v' s'' ⟨rfl, h1, h2⟩
  simp
  exact Post.refl ⟨h1, h2⟩

theorem gone_call {s : SW} {h la c : Nat} {ms : List Nat} {H : List Mp} (hh : HoldAt s h la c ms H) (hnd : ms.Nodup) (hs : Small H) (part mark : Int) :
    SCalls Try.prog 28 [.pointer (some ⟨h, 0, none⟩), .int .i64 part, .int .u64 mark] s fun v s' =>
      RowIs s' (suchOf H part fun p => p.mark == mark && (p.state == 2 || p.state == 3)) v ∧ HoldPost h la c ms (hAway H part (suchOf H part fun p => p.mark == mark && (p.state == 2 || p.state == 3))) s s' := by
  refine SCalls.bodyL Try.func28 rfl rfl fun hwf => vcD_ok (D := fun _ => none) (n := 14) mixed (by kernel_rfl) ?_
  simp
  refine (given_call hh hs part mark).mono ?_
  intro v s' hv
  simp
  refine (such_away hh hwf hnd hs part _ v hv).mono ?_
  rintro v' s'' ⟨rfl, h1, h2⟩
  simp
  exact Post.refl ⟨h1, h2⟩

/-! ### turn -/

def turnM (m : Mp) (page a b : Int) : Option Mp := if (pgOf m page).state = a then some (pset m page { pgOf m page with state := b }) else none

def hTurn (H : List Mp) (part page a b : Int) : Int × List Mp := match partM H part with
  | none => (-2, H)
  | some m => match turnM m page a b with
    | none => (-6, H)
    | some m' => (0, H.set part.toNat m')

theorem turn_call {s : SW} {h la c : Nat} {ms : List Nat} {H : List Mp} (hh : HoldAt s h la c ms H) (hnd : ms.Nodup) (part page a b : Int) :
    SCalls Try.prog 93 [.pointer (some ⟨h, 0, none⟩), .int .i64 part, .int .i64 page, .int .i64 a, .int .i64 b] s fun v s' =>
      v = .int .i64 (hTurn H part page a b).1 ∧ HoldPost h la c ms (hTurn H part page a b).2 s s' := by
  refine SCalls.bodyL Try.func93 rfl rfl fun hwf => vcD_ok (D := fun _ => none) (n := 30) mixed (by kernel_rfl) ?_
  simp
  rcases of_call hh part with ⟨hn, hc⟩ | ⟨p, i, m, rfl, hp, hm, hmi, hHm, hi, hc⟩
  · refine hc.mono ?_
    rintro v s' ⟨rfl, rfl⟩
    simp
    refine Post.refl ?_
    simp only [hTurn, hn]
    exact ⟨trivial, HoldPost.same hh hwf (Agree.refl _)⟩
  · refine hc.mono ?_
    rintro v s' ⟨rfl, rfl⟩
    have hil := hwf.lt hi
    have hne : ¬ i = s'.next := by omega
    have hto : ((p : Nat) : Int).toNat = p := by simp
    have hset := mput_enc m page { pgOf m page with state := b }
    simp only [pv] at hset
    cases hst : (pgOf m page).state == a
    · have hst' : ¬ (pgOf m page).state = a := by simpa using hst
      simp [hi, look_enc, pv, hst, bne]
      refine Post.refl ⟨by simp [hTurn, hm, turnM, hst'], ?_⟩
      simp only [hTurn, hm, turnM, hst', if_false]
      exact HoldPost.same hh hwf ⟨by simp, fun j hj => by simp (disch := omega)⟩
    · have hst' : (pgOf m page).state = a := by simpa using hst
      simp [hi, look_enc, pv, hst, bne, hne, hset]
      refine Post.refl ⟨by simp [hTurn, hm, turnM, hst'], ?_⟩
      simp only [hTurn, hm, turnM, hst', if_true, hto]
      refine HoldPost.turned hh hwf hnd hmi ⟨by simp, by simp, fun j hj hji => by simp (disch := omega) [hji]⟩

theorem box_call {s : SW} {h la c : Nat} {ms : List Nat} {H : List Mp} (hh : HoldAt s h la c ms H) (hnd : ms.Nodup) (part page : Int) :
    SCalls Try.prog 32 [.pointer (some ⟨h, 0, none⟩), .int .i64 part, .int .i64 page] s fun v s' =>
      v = .int .i64 (hTurn H part page 1 5).1 ∧ HoldPost h la c ms (hTurn H part page 1 5).2 s s' := by
  refine SCalls.bodyL Try.func32 rfl rfl fun hwf => vcD_ok (D := fun _ => none) (n := 11) mixed (by kernel_rfl) ?_
  simp
  refine (turn_call hh hnd part page 1 5).mono ?_
  rintro v s' ⟨rfl, h1⟩
  simp
  exact Post.refl ⟨rfl, h1⟩

theorem unbox_call {s : SW} {h la c : Nat} {ms : List Nat} {H : List Mp} (hh : HoldAt s h la c ms H) (hnd : ms.Nodup) (part page : Int) :
    SCalls Try.prog 34 [.pointer (some ⟨h, 0, none⟩), .int .i64 part, .int .i64 page] s fun v s' =>
      v = .int .i64 (hTurn H part page 5 1).1 ∧ HoldPost h la c ms (hTurn H part page 5 1).2 s s' := by
  refine SCalls.bodyL Try.func34 rfl rfl fun hwf => vcD_ok (D := fun _ => none) (n := 11) mixed (by kernel_rfl) ?_
  simp
  refine (turn_call hh hnd part page 5 1).mono ?_
  rintro v s' ⟨rfl, h1⟩
  simp
  exact Post.refl ⟨rfl, h1⟩

def getOf (H : List Mp) (part page : Int) : Option Pg := (partM H part).bind fun m => pgGet m page

theorem get_call {s : SW} {h la c : Nat} {ms : List Nat} {H : List Mp} (hh : HoldAt s h la c ms H) (part page : Int) :
    SCalls Try.prog 24 [.pointer (some ⟨h, 0, none⟩), .int .i64 part, .int .i64 page] s fun v s' =>
      v = .tuple #[pv ((getOf H part page).getD pg0), .bool (getOf H part page).isSome] ∧ Agree s s' := by
  refine SCalls.bodyL Try.func24 rfl rfl fun hwf => vcD_ok (D := fun _ => none) (n := 20) mixed (by kernel_rfl) ?_
  simp
  rcases of_call (hh.of_agree hwf (agree_new s _)) part with ⟨hn, hc⟩ | ⟨p, i, m, rfl, hp, hm, hmi, hHm, hi, hc⟩
  · refine hc.mono ?_
    rintro v s' ⟨rfl, rfl⟩
    simp
    exact Post.refl ⟨by simp [getOf, hn, pv, pg0], by simp; omega, fun j hj => by simp (disch := omega)⟩
  · refine hc.mono ?_
    rintro v s' ⟨rfl, rfl⟩
    have hil := hwf.lt (hh.maps p i m hmi hHm)
    have hne : ¬ i = s.next := by omega
    have hne1 : ¬ i = s.next + 1 := by omega
    simp [hh.maps p i m hmi hHm, hne, look_enc, look_is, pv]
    exact Post.refl ⟨by simp [getOf, hm, pv, pgOf], by simp; omega, fun j hj => by simp (disch := omega)⟩

theorem get_nil (s : SW) (part page : Int) : SCalls Try.prog 24 [.pointer none, .int .i64 part, .int .i64 page] s fun v s' =>
      v = .tuple #[pv pg0, .bool false] ∧ Agree s s' := by
  refine SCalls.bodyL Try.func24 rfl rfl fun hwf => vcD_ok (D := fun _ => none) (n := 20) mixed (by kernel_rfl) ?_
  simp
  refine (of_nil _ part).mono ?_
  rintro v s' ⟨rfl, rfl⟩
  simp
  refine Post.refl ⟨by simp [pv, pg0], by simp; omega, fun j hj => by simp (disch := omega)⟩

end Go.Proofs.Yteiclengdlhnnaa
