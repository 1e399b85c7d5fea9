/- HoldAll: its walk. -/
import Derived.Test.YteiclengdlhnnaaAll3b
namespace Go.Proofs.Yteiclengdlhnnaa
open Go Go.Sh
set_option maxRecDepth 20000
set_option maxHeartbeats 4000000
set_option linter.unusedSimpArgs false
set_option linter.unusedVariables false
attribute [local simp] sWanted sOp ev put pl1 pl0 sResults sResL oneOf sBin sGuardOk sEqT sInt sUn sConvNum sNil sField sFieldV sPart sIndex sLoad sStore sBuiltin sLen sLookup sMapUpdate sAlloc sBox sMakeMap SW.set SW.new setL Value.cells Value.oneCell' opAt cls stable sNew ancB readsHeap noResult Go.undef List.replicate ite_lt ite_gt frL Nat.testBit
attribute [local simp ↓] vcD_skip vcD_label vcD_exit vcD_goto vcD_ret vcD_seq vcD_cond vcD_block vcD_region vcD_draw vcD_loop vcD_scope vcOps_nil vcOps_cons vcOp_eq vcEnts_nil vcEnts_chk vcEnts_run thenQ_normal thenQ_exit thenQ_goto thenQ_ret inBlockQ_normal inBlockQ_exit inBlockQ_goto inBlockQ_ret bodyQ_normal bodyQ_ret Kont_apply entK_apply

theorem all_walk (s : SW) (ds : List DeedM) (v : Value) (part page : Int) (hv : DeedsIn s ds v) :
    SCalls Try.prog 4 [v, .int .i64 part, .int .i64 page] s fun v _ => v = .bool true := by
  have hvl : ∃ a c, v = .slice a ds.length c := by
    rcases hv with ⟨rfl, a, c, rfl⟩ | ⟨_, b, o, c, _, _, _, rfl, _⟩
    · exact ⟨a, c, rfl⟩
    · exact ⟨_, c, rfl⟩
  obtain ⟨va, vc, rfl⟩ := hvl
  refine SCalls.bodyL Try.func4 rfl rfl fun hwf => ?_
  refine SWp.seq (vcD_ok (D := pl4) (n := 343) mixed (by kernel_rfl) ?_)
  simp
  refine SWp.seq (vcD_ok (D := pl4) (n := 343) mixed (by kernel_rfl) ?_)
  simp
  refine (begun_call s).monoW ?_
  rintro v s1 hwf1 ⟨rfl, ag1⟩
  simp
  refine SWp.seq (vcD_ok (D := pl4) (n := 343) mixed (by kernel_rfl) ?_)
  by_cases h20 : (20 : Int) < ds.length
  · simp [h20]
    exact Post.refl rfl
  simp [h20]
  refine SWp.seq (vcD_ok (D := pl4) (n := 343) mixed (by kernel_rfl) ?_)
  simp
  refine SWp.cutR (X := List Value) (fun rows s' => RowsInv s1 s1.next rows (fun j => if j < 3 then firstR j else []) s')
    (fun rows => [.slice va ds.length vc, .int .i64 part, .int .i64 page, junk, junk, junk, junk, .pointer (some ⟨s1.next, 0, none⟩), junk, junk, junk, junk, junk, junk, junk, junk, junk, junk, junk, junk, junk, junk, junk, junk, junk, junk, junk, junk, junk, junk, junk, junk, junk, junk, junk, junk, junk, junk, junk, junk, junk, junk, junk, junk, junk, junk, junk, junk, junk, junk, junk, junk, junk, junk, junk, junk, junk, junk, junk, junk, junk, junk, junk, junk, junk, junk, junk, junk, junk, junk, junk, junk, junk, junk, junk, junk, junk, junk, junk, junk, junk, junk, junk, junk, junk, junk, junk, junk, junk, junk, junk, junk, junk, junk, junk, junk, junk, junk, junk, junk, junk, junk, junk, junk, junk, junk, junk, junk, junk, junk, junk, junk, junk, junk, junk, junk, junk, junk, junk, junk, junk, junk, junk, junk, junk, junk, junk, junk, junk, junk, junk, junk, junk, junk, junk, junk, junk, junk, junk, junk, junk, junk, junk, junk, junk, junk, junk, junk, junk, junk, junk, junk, junk, junk, junk, junk, junk, junk, junk, junk, junk, junk, junk, junk, junk, junk, junk, junk, junk, junk, junk, junk, junk, junk, junk, junk, junk, junk, junk, junk, junk, junk, junk, junk, junk, junk, junk, junk, junk, junk, junk, junk, junk, junk, junk, junk, junk, junk, junk, junk, junk, junk, junk, junk, junk, junk, junk, junk, junk, junk, junk, junk, junk, junk, junk, junk, junk, junk, junk, junk, junk, junk, junk, junk, junk, junk, junk, junk, junk, junk, junk, junk, junk, junk, junk, junk, junk, junk, junk, junk, junk, junk, junk, junk, junk, junk, junk, junk, junk, junk, junk, junk, junk, junk, junk, junk, junk, junk, junk, junk, junk, junk, junk, junk, junk, junk, junk, junk, junk, junk, junk, junk, junk, junk, junk, junk, junk, junk, junk, junk, junk, junk, junk, junk, junk, junk, junk, junk, junk, junk, junk, junk, junk, junk, junk, junk, junk, junk, junk, junk, junk, junk, junk, junk, junk, junk, junk, junk, junk, junk, junk, junk, junk, junk, junk, junk, junk, junk, junk, junk, junk, junk, junk, junk, junk, junk, junk, junk, junk, junk, junk, junk, junk, junk, junk, junk, junk, junk, junk, junk, junk, junk, junk]) ?_ ?_
  · refine SWp.less (SWp.ends (all_rows (s1 := s1) (va := va) (dl := ds.length) (vc := vc) (part := part) (page := page) rfl) ?_) (frL.ok (by simp)) (SW.less_refl _)
    rintro fr' s' ⟨rows, h1, h2⟩
    exact ⟨rows, h1, h2⟩
  · rintro rows s3 hwf3 hI
    have hlen := hI.len
    obtain ⟨v0, v1, v2, rfl⟩ : ∃ a b c, rows = [a, b, c] := by
      match rows, hlen with
      | [a, b, c], _ => exact ⟨a, b, c, rfl⟩
    have hc3 := hI.cells
    have l3 := hwf3.lt hc3
    have r0 : LeavesRow s3 (firstR 0) v0 := hI.row 0 v0 rfl
    have r1 : LeavesRow s3 (firstR 1) v1 := hI.row 1 v1 rfl
    have r2 : LeavesRow s3 (firstR 2) v2 := hI.row 2 v2 rfl
    have ag3 := ag1.trans hI.agree
    clear hI hlen
    have hin : ∀ s', Agree s3 s' → ∀ (k : Nat) (v : Value) (l : List Leaf), [v0, v1, v2][k]? = some v → [firstR 0, firstR 1, firstR 2][k]? = some l → LeavesIn s' l v ∧ l.length ≤ 1000000 := by
      intro s' ag k v l hv hl
      match k with
      | 0 => simp at hv hl; subst hv hl; exact ⟨(r0.agree hwf3 ag).leaves, by simp [firstR]⟩
      | 1 => simp at hv hl; subst hv hl; exact ⟨(r1.agree hwf3 ag).leaves, by simp [firstR]⟩
      | 2 => simp at hv hl; subst hv hl; exact ⟨(r2.agree hwf3 ag).leaves, by simp [firstR]⟩
      | k + 3 => simp at hl
    rcases r0 with ⟨h0, _⟩ | ⟨_, b0, rfl, _⟩
    · simp [firstR] at h0
    rcases r1 with ⟨h0, _⟩ | ⟨_, b1, rfl, _⟩
    · simp [firstR] at h0
    rcases r2 with ⟨h0, _⟩ | ⟨_, b2, rfl, _⟩
    · simp [firstR] at h0
    have e1 : ¬ s1.next = s3.next := by omega
    refine SWp.seq (vcD_ok (D := pl4) (n := 343) mixed (by kernel_rfl) ?_)
    simp [hc3, pl4, sBuildSlice, partOk, Instr.fill, sZeros]
    refine (new_call _ s3.next 3 _ true 0 [firstR 0, firstR 1, firstR 2] (by simp) rfl (by simp) (by simp) (hin _ (agree_new s3 _))).monoW ?_
    rintro v s4 hwf4 ⟨h, la, ms, rfl, hh, hnd, ha, hlo, _, _⟩
    have ag4 := (agree_new s3 _).trans ha
    have hc4 := (ag4.2 _ l3).trans hc3
    have l4 := hwf4.lt hc4
    have e2 : ¬ s1.next = s4.next := by omega
    simp [hc4, pl4, sBuildSlice, partOk, Instr.fill, sZeros, e1, e2]
    refine (rnew_call _ s4.next 3 _ true 0 [firstR 0, firstR 1, firstR 2] (by simp) rfl (by simp) (by simp) (hin _ (ag4.trans (agree_new s4 _)))).monoW ?_
    rintro v s5 hwf5 ⟨h', la', ms', rfl, hh', hnd', ha', hlo', _, _⟩
    have ag45 := (agree_new s4 _).trans ha'
    have ag5 : Agree s s5 := (ag3.trans ag4).trans ag45
    have hdis : ∀ m ∈ ms, ¬ m ∈ ms' := by
      intro m hm hm'
      obtain ⟨k, hk, e⟩ := List.mem_iff_getElem.1 hm
      have hk' : k < [firstR 0, firstR 1, firstR 2].length := by have := hh.len; simpa [this] using hk
      have h1 := hwf4.lt (hh.maps k m _ (by rw [List.getElem?_eq_getElem hk, e]) (List.getElem?_eq_getElem (by simpa using hk')))
      have h2 := hlo' m hm'
      simp at h2
      omega
    have hlo0 : ∀ m ∈ ms, s.next ≤ m := fun m hm => by have := hlo m hm; have := ag3.1; simp at *; omega
    have hlo0' : ∀ m ∈ ms', s.next ≤ m := fun m hm => by have := hlo' m hm; have := ag3.1; have := ag4.1; simp at *; omega
    have hH : [firstR 0, firstR 1, firstR 2].map newM = H0 := rfl
    have hh5 := hh.of_agree hwf4 ag45
    rw [hH] at hh5 hh'
    have t5 : TwoAt s h la 3 ms h' la' 3 ms' H0 s5 := ⟨hh5, hh', H0_ok, ag5⟩
    have hc5 := (ag45.2 _ l4).trans hc4
    simp [hc5, pl4]
    clear hin hc5 hc4 hc3 hh hh' hh5 hlo hlo' ha ha'
    refine SWp.cutR (X := List Mp) (fun H s' => TwoAt s h la 3 ms h' la' 3 ms' H s') (fun _ => [junk, .int .i64 part, .int .i64 page, junk, junk, junk, junk, junk, junk, junk, .pointer (some ⟨h, 0, none⟩), .pointer (some ⟨h', 0, none⟩), junk, junk, junk, junk, junk, junk, junk, junk, junk, junk, junk, junk, junk, junk, junk, junk, junk, junk, junk, junk, junk, junk, junk, junk, junk, junk, junk, junk, junk, junk, junk, junk, junk, junk, junk, junk, junk, junk, junk, junk, junk, junk, junk, junk, junk, junk, junk, junk, junk, junk, junk, junk, junk, junk, junk, junk, junk, junk, junk, junk, junk, junk, junk, junk, junk, junk, junk, junk, junk, junk, junk, junk, junk, junk, junk, junk, junk, junk, junk, junk, junk, junk, junk, junk, junk, junk, junk, junk, junk, junk, junk, junk, junk, junk, junk, junk, junk, junk, junk, junk, junk, junk, junk, junk, junk, junk, junk, junk, junk, junk, junk, junk, junk, junk, junk, junk, junk, junk, junk, junk, junk, junk, junk, junk, junk, junk, junk, junk, junk, junk, junk, junk, junk, junk, junk, junk, junk, junk, junk, junk, junk, junk, junk, junk, junk, junk, junk, junk, junk, junk, junk, junk, junk, junk, junk, junk, junk, junk, junk, junk, junk, junk, junk, junk, junk, junk, junk, junk, junk, junk, junk, junk, junk, junk, junk, junk, junk, junk, junk, junk, junk, junk, junk, junk, junk, junk, junk, junk, junk, junk, junk, junk, junk, junk, junk, junk, junk, junk, junk, junk, junk, junk, junk, junk, junk, junk, junk, junk, junk, junk, junk, junk, junk, junk, junk, junk, junk, junk, junk, junk, junk, junk, junk, junk, junk, junk, junk, junk, junk, junk, junk, junk, junk, junk, junk, junk, junk, junk, junk, junk, junk, junk, junk, junk, junk, junk, junk, junk, junk, junk, junk, junk, junk, junk, junk, junk, junk, junk, junk, junk, junk, junk, junk, junk, junk, junk, junk, junk, junk, junk, junk, junk, junk, junk, junk, junk, junk, junk, junk, junk, junk, junk, junk, junk, junk, junk, junk, junk, junk, junk, junk, junk, junk, junk, junk, junk, junk, junk, junk, junk, junk, junk, junk, junk, junk, junk, junk, junk, junk, junk, junk, junk, junk, junk, junk, junk, junk, junk, junk, junk, junk, junk, junk, junk, junk, junk, junk, junk, junk, junk, junk]) ?_ ?_
    · refine vcD_ok (D := pl4) (n := 343) mixed (by kernel_rfl) ?_
      simp
      refine SWp.uptoR ds.length (fun k H s' => TwoAt s h la 3 ms h' la' 3 ms' H s')
        (fun k _ => [.slice va ds.length vc, .int .i64 part, .int .i64 page, junk, junk, junk, junk, junk, junk, junk, .pointer (some ⟨h, 0, none⟩), .pointer (some ⟨h', 0, none⟩), .int .i64 k, junk, junk, junk, junk, junk, junk, junk, junk, junk, junk, junk, junk, junk, junk, junk, junk, junk, junk, junk, junk, junk, junk, junk, junk, junk, junk, junk, junk, junk, junk, junk, junk, junk, junk, junk, junk, junk, junk, junk, junk, junk, junk, junk, junk, junk, junk, junk, junk, junk, junk, junk, junk, junk, junk, junk, junk, junk, junk, junk, junk, junk, junk, junk, junk, junk, junk, junk, junk, junk, junk, junk, junk, junk, junk, junk, junk, junk, junk, junk, junk, junk, junk, junk, junk, junk, junk, junk, junk, junk, junk, junk, junk, junk, junk, junk, junk, junk, junk, junk, junk, junk, junk, junk, junk, junk, junk, junk, junk, junk, junk, junk, junk, junk, junk, junk, junk, junk, junk, junk, junk, junk, junk, junk, junk, junk, junk, junk, junk, junk, junk, junk, junk, junk, junk, junk, junk, junk, junk, junk, junk, junk, junk, junk, junk, junk, junk, junk, junk, junk, junk, junk, junk, junk, junk, junk, junk, junk, junk, junk, junk, junk, junk, junk, junk, junk, junk, junk, junk, junk, junk, junk, junk, junk, junk, junk, junk, junk, junk, junk, junk, junk, junk, junk, junk, junk, junk, junk, junk, junk, junk, junk, junk, junk, junk, junk, junk, junk, junk, junk, junk, junk, junk, junk, junk, junk, junk, junk, junk, junk, junk, junk, junk, junk, junk, junk, junk, junk, junk, junk, junk, junk, junk, junk, junk, junk, junk, junk, junk, junk, junk, junk, junk, junk, junk, junk, junk, junk, junk, junk, junk, junk, junk, junk, junk, junk, junk, junk, junk, junk, junk, junk, junk, junk, junk, junk, junk, junk, junk, junk, junk, junk, junk, junk, junk, junk, junk, junk, junk, junk, junk, junk, junk, junk, junk, junk, junk, junk, junk, junk, junk, junk, junk, junk, junk, junk, junk, junk, junk, junk, junk, junk, junk, junk, junk, junk, junk, junk, junk, junk, junk, junk, junk, junk, junk, junk, junk, junk, junk, junk, junk, junk, junk, junk, junk, junk, junk, junk, junk, junk, junk, junk, junk, junk, junk, junk, junk, junk, junk, junk, junk]) H0 t5 (by simp) ?_ ?_
      · rintro k H s6 hk hwf6 t6
        rcases hv with ⟨rfl, _⟩ | ⟨_, b, o, c, cs, own, g, e, hb, hds⟩
        · simp at hk
        cases e
        obtain ⟨d, hd⟩ : ∃ d, ds[k]? = some d := ⟨_, List.getElem?_eq_getElem hk⟩
        obtain ⟨vp, vl, hd7⟩ := hds k d hd
        have hb6 := (t6.agree.2 b (hwf.lt hb)).trans hb
        obtain ⟨hc7, hlen7⟩ := hd7.cells
        have hvp := hd7.ints.agree hwf t6.agree
        have hvl := hd7.leavs.agree hwf t6.agree
        have hkr := wf_i64_iff.1 hd7.kindR
        clear hd7 hds hd
        obtain ⟨pa, pc, rfl⟩ := hvp.len
        obtain ⟨qa, qc, rfl⟩ : ∃ a c, vl = .slice a d.leaves.length c := by
          rcases hvl with ⟨e, a, c, rfl, _⟩ | ⟨_, b, o, c, _, _, _, rfl, _⟩
          · exact ⟨a, c, by rw [e]; rfl⟩
          · exact ⟨_, c, rfl⟩
        have hb6n := hwf6.lt hb6
        refine SWp.seq (vcD_ok (D := pl4) (n := 343) mixed (by kernel_rfl) ?_)
        simp [hk]
        refine SWp.seq (SWp.block ?_)
        refine SWp.seq (vcD_ok (D := pl4) (n := 343) mixed (by kernel_rfl) ?_)
        have e6 : ¬ b = s6.next := by omega
        simp [hk, hb6, hc7, hlen7, e6]
        refine SWp.gen fun s7 hs7 => ?_
        have ag67 : Agree s6 s7 := by rw [hs7]; exact ⟨by simp, fun j hj => by simp (disch := omega)⟩
        have f7 : s7.heap s6.next = some (.cells [.int .i64 d.kind, .int .i64 d.part, .int .i64 d.at_, .int .i64 d.what, .slice pa d.pages.length pc, .slice qa d.leaves.length qc, .int .u64 d.mark] true 0) := by rw [hs7]; simp
        clear hs7
        refine SWp.wf fun hwf7 => ?_
        have t7 := t6.mono hwf6 ag67
        have hvp7 := hvp.agree hwf6 ag67
        have hvl7 := hvl.agree hwf6 ag67
        clear hvp hvl t6 ag67 hc7 hlen7 e6 hb6
        refine SWp.seq (vcD_ok (D := pl4) (n := 343) mixed (by kernel_rfl) ?_)
        by_cases hp6 : (6 : Int) < d.pages.length
        · simp [f7, hp6]
          exact Post.refl rfl
        by_cases hl6 : (6 : Int) < d.leaves.length
        · simp [f7, hp6, hl6]
          exact Post.refl rfl
        simp [f7, hp6, hl6]
        refine SWp.seq (vcD_ok (D := pl4) (n := 343) mixed (by kernel_rfl) ?_)
        simp
        refine SWp.seq (vcD_ok (D := pl4) (n := 343) mixed (by kernel_rfl) ?_)
        simp
        refine SWp.cutR (X := List Mp × Int × Value × Value × List Int) (fun x s' => TwoAt s h la 3 ms h' la' 3 ms' x.1 s' ∧ IntsIn s' x.2.2.2.2 x.2.2.1 ∧ IntsIn s' x.2.2.2.2 x.2.2.2.1 ∧ x.2.2.2.2.length ≤ 4096)
          (fun x => [.slice (some ⟨b, o, none⟩) ds.length vc, .int .i64 part, .int .i64 page, junk, junk, junk, junk, junk, junk, junk, .pointer (some ⟨h, 0, none⟩), .pointer (some ⟨h', 0, none⟩), .int .i64 k, junk, .int .i64 x.2.1, .int .i64 x.2.1, x.2.2.1, x.2.2.2.1, junk, junk, junk, junk, junk, junk, junk, junk, junk, junk, junk, junk, junk, junk, junk, junk, junk, junk, junk, junk, junk, junk, junk, junk, junk, junk, junk, junk, junk, junk, junk, junk, junk, junk, junk, junk, junk, junk, junk, junk, junk, junk, junk, junk, junk, junk, junk, junk, junk, junk, junk, junk, junk, junk, junk, junk, junk, junk, junk, junk, junk, junk, junk, junk, junk, junk, junk, junk, junk, junk, junk, junk, junk, junk, junk, junk, junk, junk, junk, junk, junk, junk, junk, junk, junk, junk, junk, junk, junk, junk, junk, junk, junk, junk, junk, junk, junk, junk, junk, junk, junk, junk, junk, junk, junk, junk, junk, junk, junk, junk, junk, junk, junk, junk, junk, junk, junk, junk, junk, junk, junk, junk, junk, junk, junk, junk, junk, junk, junk, junk, junk, junk, junk, junk, junk, junk, junk, junk, junk, junk, junk, junk, junk, junk, junk, junk, junk, junk, junk, junk, junk, junk, junk, junk, junk, junk, junk, junk, junk, junk, junk, junk, junk, junk, junk, junk, junk, junk, junk, junk, junk, junk, junk, junk, junk, junk, junk, junk, junk, junk, junk, junk, junk, junk, junk, junk, junk, junk, junk, junk, junk, junk, junk, junk, junk, junk, junk, junk, junk, junk, junk, junk, junk, junk, junk, junk, junk, junk, junk, junk, junk, junk, junk, junk, junk, junk, junk, junk, junk, junk, junk, junk, junk, junk, junk, junk, junk, junk, junk, junk, junk, junk, junk, junk, junk, junk, junk, junk, junk, junk, junk, junk, junk, junk, junk, junk, junk, junk, junk, junk, junk, junk, junk, junk, junk, junk, junk, junk, junk, junk, junk, junk, junk, junk, junk, junk, junk, junk, junk, junk, junk, junk, junk, junk, junk, junk, junk, junk, junk, junk, junk, junk, junk, junk, junk, junk, junk, junk, junk, junk, junk, junk, junk, junk, junk, junk, junk, junk, junk, junk, junk, junk, junk, junk, junk, junk, junk, junk, junk, junk, junk, junk, junk, junk, junk, junk, junk, junk, junk, junk, junk, junk, junk, junk, junk]) ?_ ?_
        · obtain ⟨κ, hκ, h0, h8⟩ : ∃ κ, (IntKind.i64.wrap (d.kind.tmod 9 + 9)).tmod 9 = κ ∧ 0 ≤ κ ∧ κ ≤ 8 := ⟨_, rfl, (rem9 d.kind).1, (rem9 d.kind).2⟩
          have hκ9 : κ = 0 ∨ κ = 1 ∨ κ = 2 ∨ κ = 3 ∨ κ = 4 ∨ κ = 5 ∨ κ = 6 ∨ κ = 7 ∨ κ = 8 := by omega
          have hpl : d.pages.length ≤ 1000000 := by omega
          have hll : d.leaves.length ≤ 1000000 := by omega
          have fin : ∀ fr' s', AfterDeed s h la 3 ms h' la' 3 ms' (fun e va vb => [.slice (some ⟨b, o, none⟩) ds.length vc, .int .i64 part, .int .i64 page, junk, junk, junk, junk, junk, junk, junk, .pointer (some ⟨h, 0, none⟩), .pointer (some ⟨h', 0, none⟩), .int .i64 k, junk, .int .i64 e, .int .i64 e, va, vb, junk, junk, junk, junk, junk, junk, junk, junk, junk, junk, junk, junk, junk, junk, junk, junk, junk, junk, junk, junk, junk, junk, junk, junk, junk, junk, junk, junk, junk, junk, junk, junk, junk, junk, junk, junk, junk, junk, junk, junk, junk, junk, junk, junk, junk, junk, junk, junk, junk, junk, junk, junk, junk, junk, junk, junk, junk, junk, junk, junk, junk, junk, junk, junk, junk, junk, junk, junk, junk, junk, junk, junk, junk, junk, junk, junk, junk, junk, junk, junk, junk, junk, junk, junk, junk, junk, junk, junk, junk, junk, junk, junk, junk, junk, junk, junk, junk, junk, junk, junk, junk, junk, junk, junk, junk, junk, junk, junk, junk, junk, junk, junk, junk, junk, junk, junk, junk, junk, junk, junk, junk, junk, junk, junk, junk, junk, junk, junk, junk, junk, junk, junk, junk, junk, junk, junk, junk, junk, junk, junk, junk, junk, junk, junk, junk, junk, junk, junk, junk, junk, junk, junk, junk, junk, junk, junk, junk, junk, junk, junk, junk, junk, junk, junk, junk, junk, junk, junk, junk, junk, junk, junk, junk, junk, junk, junk, junk, junk, junk, junk, junk, junk, junk, junk, junk, junk, junk, junk, junk, junk, junk, junk, junk, junk, junk, junk, junk, junk, junk, junk, junk, junk, junk, junk, junk, junk, junk, junk, junk, junk, junk, junk, junk, junk, junk, junk, junk, junk, junk, junk, junk, junk, junk, junk, junk, junk, junk, junk, junk, junk, junk, junk, junk, junk, junk, junk, junk, junk, junk, junk, junk, junk, junk, junk, junk, junk, junk, junk, junk, junk, junk, junk, junk, junk, junk, junk, junk, junk, junk, junk, junk, junk, junk, junk, junk, junk, junk, junk, junk, junk, junk, junk, junk, junk, junk, junk, junk, junk, junk, junk, junk, junk, junk, junk, junk, junk, junk, junk, junk, junk, junk, junk, junk, junk, junk, junk, junk, junk, junk, junk, junk, junk, junk, junk, junk, junk, junk, junk, junk, junk, junk, junk, junk, junk, junk, junk, junk, junk, junk, junk, junk, junk, junk, junk, junk]) fr' s' →
              ∃ x : List Mp × Int × Value × Value × List Int, (TwoAt s h la 3 ms h' la' 3 ms' x.1 s' ∧ IntsIn s' x.2.2.2.2 x.2.2.1 ∧ IntsIn s' x.2.2.2.2 x.2.2.2.1 ∧ x.2.2.2.2.length ≤ 4096) ∧
                frL ([.slice (some ⟨b, o, none⟩) ds.length vc, .int .i64 part, .int .i64 page, junk, junk, junk, junk, junk, junk, junk, .pointer (some ⟨h, 0, none⟩), .pointer (some ⟨h', 0, none⟩), .int .i64 k, junk, .int .i64 x.2.1, .int .i64 x.2.1, x.2.2.1, x.2.2.2.1, junk, junk, junk, junk, junk, junk, junk, junk, junk, junk, junk, junk, junk, junk, junk, junk, junk, junk, junk, junk, junk, junk, junk, junk, junk, junk, junk, junk, junk, junk, junk, junk, junk, junk, junk, junk, junk, junk, junk, junk, junk, junk, junk, junk, junk, junk, junk, junk, junk, junk, junk, junk, junk, junk, junk, junk, junk, junk, junk, junk, junk, junk, junk, junk, junk, junk, junk, junk, junk, junk, junk, junk, junk, junk, junk, junk, junk, junk, junk, junk, junk, junk, junk, junk, junk, junk, junk, junk, junk, junk, junk, junk, junk, junk, junk, junk, junk, junk, junk, junk, junk, junk, junk, junk, junk, junk, junk, junk, junk, junk, junk, junk, junk, junk, junk, junk, junk, junk, junk, junk, junk, junk, junk, junk, junk, junk, junk, junk, junk, junk, junk, junk, junk, junk, junk, junk, junk, junk, junk, junk, junk, junk, junk, junk, junk, junk, junk, junk, junk, junk, junk, junk, junk, junk, junk, junk, junk, junk, junk, junk, junk, junk, junk, junk, junk, junk, junk, junk, junk, junk, junk, junk, junk, junk, junk, junk, junk, junk, junk, junk, junk, junk, junk, junk, junk, junk, junk, junk, junk, junk, junk, junk, junk, junk, junk, junk, junk, junk, junk, junk, junk, junk, junk, junk, junk, junk, junk, junk, junk, junk, junk, junk, junk, junk, junk, junk, junk, junk, junk, junk, junk, junk, junk, junk, junk, junk, junk, junk, junk, junk, junk, junk, junk, junk, junk, junk, junk, junk, junk, junk, junk, junk, junk, junk, junk, junk, junk, junk, junk, junk, junk, junk, junk, junk, junk, junk, junk, junk, junk, junk, junk, junk, junk, junk, junk, junk, junk, junk, junk, junk, junk, junk, junk, junk, junk, junk, junk, junk, junk, junk, junk, junk, junk, junk, junk, junk, junk, junk, junk, junk, junk, junk, junk, junk, junk, junk, junk, junk, junk, junk, junk, junk, junk, junk, junk, junk, junk, junk, junk, junk, junk, junk, junk, junk, junk, junk, junk, junk, junk, junk, junk, junk, junk, junk, junk]) fr' := by
            rintro fr' s' ⟨H', e, va, vb, l, h1, h2, h3, h4, h5⟩
            exact ⟨(H', e, va, vb, l), ⟨h1, h2, h3, h4⟩, h5⟩
          rcases hκ9 with rfl | rfl | rfl | rfl | rfl | rfl | rfl | rfl | rfl
          · refine SWp.less (SWp.ends (deed_0 (a0 := .slice (some ⟨b, o, none⟩) ds.length vc) (part := part) (page := page) (k := k) hwf7 t7 hnd hnd' hdis hlo0 hlo0' f7 hvp7 hvl7 hpl hll hκ rfl) fin) (frL.ok (by simp)) (SW.less_refl _)
          · refine SWp.less (SWp.ends (deed_1 (a0 := .slice (some ⟨b, o, none⟩) ds.length vc) (part := part) (page := page) (k := k) hwf7 t7 hnd hnd' hdis hlo0 hlo0' f7 hvp7 hvl7 hpl hll hκ rfl) fin) (frL.ok (by simp)) (SW.less_refl _)
          · refine SWp.less (SWp.ends (deed_2 (a0 := .slice (some ⟨b, o, none⟩) ds.length vc) (part := part) (page := page) (k := k) hwf7 t7 hnd hnd' hdis hlo0 hlo0' f7 hvp7 hvl7 hpl hll hκ rfl) fin) (frL.ok (by simp)) (SW.less_refl _)
          · refine SWp.less (SWp.ends (deed_3 (a0 := .slice (some ⟨b, o, none⟩) ds.length vc) (part := part) (page := page) (k := k) hwf7 t7 hnd hnd' hdis hlo0 hlo0' f7 hvp7 hvl7 hpl hll hκ rfl) fin) (frL.ok (by simp)) (SW.less_refl _)
          · refine SWp.less (SWp.ends (deed_4 (a0 := .slice (some ⟨b, o, none⟩) ds.length vc) (part := part) (page := page) (k := k) hwf7 t7 hnd hnd' hdis hlo0 hlo0' f7 hvp7 hvl7 hpl hll hκ rfl) fin) (frL.ok (by simp)) (SW.less_refl _)
          · refine SWp.less (SWp.ends (deed_5 (a0 := .slice (some ⟨b, o, none⟩) ds.length vc) (part := part) (page := page) (k := k) hwf7 t7 hnd hnd' hdis hlo0 hlo0' f7 hvp7 hvl7 hpl hll hκ rfl) fin) (frL.ok (by simp)) (SW.less_refl _)
          · refine SWp.less (SWp.ends (deed_6 (a0 := .slice (some ⟨b, o, none⟩) ds.length vc) (part := part) (page := page) (k := k) hwf7 t7 hnd hnd' hdis hlo0 hlo0' f7 hvp7 hvl7 hpl hll hκ rfl) fin) (frL.ok (by simp)) (SW.less_refl _)
          · refine SWp.less (SWp.ends (deed_7 (a0 := .slice (some ⟨b, o, none⟩) ds.length vc) (part := part) (page := page) (k := k) hwf7 t7 hnd hnd' hdis hlo0 hlo0' f7 hvp7 hvl7 hpl hll hκ rfl) fin) (frL.ok (by simp)) (SW.less_refl _)
          · refine SWp.less (SWp.ends (deed_8 (a0 := .slice (some ⟨b, o, none⟩) ds.length vc) (part := part) (page := page) (k := k) hwf7 t7 hnd hnd' hdis hlo0 hlo0' f7 hvp7 hvl7 hpl hll hκ rfl) fin) (frL.ok (by simp)) (SW.less_refl _)
        · rintro ⟨H', e, va', vb', l'⟩ s8 hwf8 ⟨t8, i1, i2, hl'⟩
          dsimp only at t8 i1 i2 hl'
          refine SWp.seq (vcD_ok (D := pl4) (n := 343) mixed (by kernel_rfl) ?_)
          simp
          refine (same_call s8 l' l' va' vb' i1 i2 (by omega) (by omega)).monoW ?_
          rintro v s9 hwf9 ⟨rfl, rfl⟩
          simp
          refine SWp.less (SWp.ends (all_looks (a0 := .slice (some ⟨b, o, none⟩) ds.length vc) (part := part) (page := page) (k := k) hwf9 t8 rfl) ?_) (frL.ok (by simp)) (SW.less_refl _)
          rintro fr' s' ⟨t10, hfr⟩
          simp
          have hwk : IntKind.i64.wrap ((k : Int) + 1) = k + 1 := Sh.wrap_small (by omega) (by omega)
          refine SWp.less (?_ : SWp Try.prog _ _ ([.slice (some ⟨b, o, none⟩) ds.length vc, .int .i64 part, .int .i64 page, junk, junk, junk, junk, junk, junk, junk, .pointer (some ⟨h, 0, none⟩), .pointer (some ⟨h', 0, none⟩), .int .i64 k, junk, junk, junk, junk, junk, junk, junk, junk, junk, junk, junk, junk, junk, junk, junk, junk, junk, junk, junk, junk, junk, junk, junk, junk, junk, junk, junk, junk, junk, junk, junk, junk, junk, junk, junk, junk, junk, junk, junk, junk, junk, junk, junk, junk, junk, junk, junk, junk, junk, junk, junk, junk, junk, junk, junk, junk, junk, junk, junk, junk, junk, junk, junk, junk, junk, junk, junk, junk, junk, junk, junk, junk, junk, junk, junk, junk, junk, junk, junk, junk, junk, junk, junk, junk, junk, junk, junk, junk, junk, junk, junk, junk, junk, junk, junk, junk, junk, junk, junk, junk, junk, junk, junk, junk, junk, junk, junk, junk, junk, junk, junk, junk, junk, junk, junk, junk, junk, junk, junk, junk, junk, junk, junk, junk, junk, junk, junk, junk, junk, junk, junk, junk, junk, junk, junk, junk, junk, junk, junk, junk, junk, junk, junk, junk, junk, junk, junk, junk, junk, junk, junk, junk, junk, junk, junk, junk, junk, junk, junk, junk, junk, junk, junk, junk, junk, junk, junk, junk, junk, junk, junk, junk, junk, junk, junk, junk, junk, junk, junk, junk, junk, junk, junk, junk, junk, junk, junk, junk, junk, junk, junk, junk, junk, junk, junk, junk, junk, junk, junk, junk, junk, junk, junk, junk, junk, junk, junk, junk, junk, junk, junk, junk, junk, junk, junk, junk, junk, junk, junk, junk, junk, junk, junk, junk, junk, junk, junk, junk, junk, junk, junk, junk, junk, junk, junk, junk, junk, junk, junk, junk, junk, junk, junk, junk, junk, junk, junk, junk, junk, junk, junk, junk, junk, junk, junk, junk, junk, junk, junk, junk, junk, junk, junk, junk, junk, junk, junk, junk, junk, junk, junk, junk, junk, junk, junk, junk, junk, junk, junk, junk, junk, junk, junk, junk, junk, junk, junk, junk, junk, junk, junk, junk, junk, junk, junk, junk, junk, junk, junk, junk, junk, junk, junk, junk, junk, junk, junk, junk, junk, junk, junk, junk, junk, junk, junk, junk, junk, junk, junk, junk, junk, junk, junk, junk, junk, junk, junk, junk, junk, junk]) s') hfr.ok (SW.less_refl _)
          refine vcD_ok (D := pl4) (n := 343) mixed (by kernel_rfl) ?_
          simp [hwk]
          exact ⟨_, t10⟩
      · rintro H s6 hwf6 t6
        refine vcD_ok (D := pl4) (n := 343) mixed (by kernel_rfl) ?_
        simp
        exact ⟨H, t6⟩
    · rintro H s6 hwf6 t6
      exact all_tail hwf6 t6 rfl

end Go.Proofs.Yteiclengdlhnnaa
