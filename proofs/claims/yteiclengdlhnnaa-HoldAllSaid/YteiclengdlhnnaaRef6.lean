/- ref18's hold: a new one. -/
import Derived.Test.YteiclengdlhnnaaRef5
namespace Go.Proofs.Yteiclengdlhnnaa
open Go Go.Sh
def pl25 : Nat → Option (List Nat × List Ent)
  | 9 => some ([0, 0, 0, 0, 12, 28, 0, 124, 252, 508, 0, 0, 3072, 7168, 0, 31744, 64512, 130048, 262140, 524287], [.run 0, .run 1, .run 2, .run 3, .run 4, .run 5, .run 6, .run 7, .run 8, .run 9, .run 10, .run 11, .run 12, .run 13, .run 14, .run 15, .run 16, .run 17, .run 18, .run 19])
  | _ => none

set_option maxRecDepth 20000
set_option maxHeartbeats 4000000
set_option linter.unusedSimpArgs false
set_option linter.unusedVariables false
attribute [local simp] sWanted sOp ev put pl1 pl0 sResults sResL oneOf sBin sGuardOk sEqT sInt sUn sConvNum sNil sField sFieldV sPart sIndex sLoad sStore sBuiltin sLen sLookup sMapUpdate sAlloc sBox sMakeMap SW.set SW.new setL Value.cells Value.oneCell' opAt cls stable sNew ancB readsHeap noResult Go.undef List.replicate ite_lt ite_gt frL Nat.testBit
attribute [local simp ↓] vcD_skip vcD_label vcD_exit vcD_goto vcD_ret vcD_seq vcD_cond vcD_block vcD_region vcD_draw vcD_loop vcD_scope vcOps_nil vcOps_cons vcOp_eq vcEnts_nil vcEnts_chk vcEnts_run thenQ_normal thenQ_exit thenQ_goto thenQ_ret inBlockQ_normal inBlockQ_exit inBlockQ_goto inBlockQ_ret bodyQ_normal bodyQ_ret Kont_apply entK_apply

theorem rnew_call (s : SW) (b c : Nat) (vs : List Value) (own : Bool) (g : Nat) (firsts : List (List Leaf)) (hb : s.heap b = some (.cells vs own g)) (hlen : vs.length = firsts.length) (hne : firsts ≠ []) (hsm : firsts.length ≤ 1000)
    (hvs : ∀ (k : Nat) (v : Value) (l : List Leaf), vs[k]? = some v → firsts[k]? = some l → LeavesIn s l v ∧ l.length ≤ 1000000) :
    SCalls Try.prog 25 [.slice (some ⟨b, 0, none⟩) firsts.length c] s (NewPost firsts s) := by
  refine SCalls.bodyL Try.func25 rfl rfl fun hwf => vcD_ok (D := pl25) (n := 55) mixed (by kernel_rfl) ?_
  have lb := hwf.lt hb
  simp
  refine SWp.uptoR firsts.length (fun k (x : Nat × List Nat) s' => NewInv s s.next firsts k x.1 x.2 s')
    (fun k x => [.slice (some ⟨b, 0, none⟩) firsts.length c, junk, junk, .pointer (some ⟨s.next, 0, none⟩), .int .i64 k, junk, junk, junk, junk, junk, junk, junk, junk, junk, junk, junk, junk, junk, junk, junk, junk, junk, junk, junk, junk, junk, junk, junk, junk, junk, junk, junk, junk, junk, junk, junk, junk, junk, junk, junk, junk, junk, junk, junk, junk, junk, junk, junk, junk, junk, junk, junk, junk, junk, junk])
    (s.next, []) ?_ (by simp) ?_ ?_
  · refine ⟨⟨by simp, fun j hj => by simp (disch := omega)⟩, Nat.le_refl _, by simp, by simp, Nat.le_refl _, rfl, List.nodup_nil, by simp, by simp, by simp⟩
  · rintro k ⟨la, ms⟩ s1 hk hwf1 hI
    obtain ⟨v, hv⟩ : ∃ v, vs[k]? = some v := ⟨_, List.getElem?_eq_getElem (by omega)⟩
    obtain ⟨l, hl⟩ : ∃ l, firsts[k]? = some l := ⟨_, List.getElem?_eq_getElem hk⟩
    obtain ⟨hin, hl1⟩ := hvs k v l hv hl
    have hin1 := hin.agree hwf hI.agree
    have hb1 := (hI.agree.2 b lb).trans hb
    have lb1 := hwf1.lt hb1
    have lh1 := hwf1.lt hI.hd
    obtain ⟨a, cc, hva⟩ : ∃ a cc, v = .slice a l.length cc := by
      rcases hin1 with ⟨rfl, a, cc, rfl, _⟩ | ⟨_, b', o, cc, _, _, _, rfl, _⟩
      · exact ⟨a, cc, rfl⟩
      · exact ⟨_, cc, rfl⟩
    subst hva
    refine vcD_ok (D := pl25) (n := 55) mixed (by kernel_rfl) ?_
    simp [hk, hb1, hv]
    refine SWp.uptoR l.length (fun i (_ : Unit) s2 => s2.heap s1.next = some (.map .i64 true (encM (putUp [] 0 l 0 i))) ∧ Agree s1 s2 ∧ s1.next < s2.next)
      (fun i _ => [.slice (some ⟨b, 0, none⟩) firsts.length c, junk, junk, .pointer (some ⟨s.next, 0, none⟩), .int .i64 k, .map (some s1.next), .int .i64 i, junk, junk, junk, junk, junk, junk, junk, junk, junk, junk, junk, junk, junk, junk, junk, junk, junk, junk, junk, junk, junk, junk, junk, junk, junk, junk, junk, junk, junk, junk, junk, junk, junk, junk, junk, junk, junk, junk, junk, junk, junk, junk, junk, junk, junk, junk, junk, junk])
      () ⟨by simp [putUp, encM], ⟨by simp, fun j hj => by simp (disch := omega)⟩, by simp⟩ (by simp) ?_ ?_
    · rintro i _ s2 hi hwf2 ⟨i1, i2, i3⟩
      obtain ⟨x, hx⟩ : ∃ x, l[i]? = some x := ⟨_, List.getElem?_eq_getElem hi⟩
      have hb2 := (i2.2 b lb1).trans hb1
      rcases hin1.agree hwf1 i2 with ⟨rfl, _⟩ | ⟨_, b', o, c', cs, own', g', e, hb', hcl, hcs⟩
      · cases hx
      cases e
      have hw : IntKind.i64.wrap ((i : Int) + 1) = i + 1 := Sh.wrap_small (by omega) (by omega)
      obtain ⟨c1, c2⟩ := hcs i x hx
      have hle : o + i * 2 + 2 ≤ cs.length := by omega
      have hd : putUp [] 0 l 0 (i + 1) = pset (putUp [] 0 l 0 i) i ⟨x.1, x.2, 1, 0⟩ := by
        simp [putUp, hx]
      have hset := mput_enc (putUp [] 0 l 0 i) i ⟨x.1, x.2, 1, 0⟩
      simp only [pv] at hset
      refine vcD_ok (D := pl25) (n := 55) mixed (by kernel_rfl) ?_
      simp [hk, hi, hb2, hv, hb', hw, c1, c2, hle, hd, hset, build37', i1, pl25]
      refine ⟨⟨?_, fun j hj => ?_⟩, by omega⟩
      · exact i2.1
      · have := i2.2 j hj
        simp (disch := omega) [this]
    · rintro _ s2 hwf2 ⟨i1, i2, i3⟩
      have hb2 := (i2.2 b lb1).trans hb1
      refine vcD_ok (D := pl25) (n := 55) mixed (by kernel_rfl) ?_
      have hd2 := (i2.2 _ lh1).trans hI.hd
      have e1 : ¬ s.next = s2.next := by omega
      have hwk : IntKind.i64.wrap ((k : Int) + 1) = k + 1 := Sh.wrap_small (by omega) (by omega)
      have lla := hI.lalo
      rcases Nat.eq_zero_or_pos k with rfl | hk0
      · obtain rfl : ms = [] := List.eq_nil_of_length_eq_zero hI.len
        simp at hd2
        have e2 : ¬ s.next = s2.next + 1 := by omega
        have e3 : ¬ s1.next = s.next := by omega
        have e4 : ¬ s2.next + 1 = s.next := by omega
        have hw1 : IntKind.i64.wrap 1 = 1 := Sh.wrap_small (by omega) (by omega)
        simp [hk, hb2, hv, hd2, e1, e2, hw1, sBuildSlice, partOk, Instr.fill, sZeros, sAppend, sFirst, sLenOf, intD]
        refine ⟨s2.next + 1, [s1.next], hI.snoc hwf1 hl ?_ ?_ ?_ ?_ ?_ ?_⟩
        · simp
        · simp [e4]
        · simp (disch := omega) [e3, i1, newM]
        · intro j hj hj2 _
          have := i2.2 j hj
          simp (disch := omega) [hj2, this]
        · simp; omega
        · omega
      · have hk0' : ¬ k = 0 := by omega
        simp only [hk0', if_false] at hd2
        have hrow0 := hI.row hk0'
        have hll := hwf1.lt hrow0
        have hrow := (i2.2 _ hll).trans hrow0
        dsimp only at lla hrow hll hrow0
        have e2 : ¬ s.next = s2.next + 1 := by omega
        have e3 : ¬ s1.next = s.next := by omega
        have e4 : ¬ s2.next + 1 = s.next := by omega
        have e5 : ¬ 1073741823 < k := by omega
        have e6 : ¬ k + 1 ≤ k := by omega
        have e7 : ¬ la = s2.next := by omega
        have e8 : ¬ s.next = la := by
          intro e
          rw [← e] at hrow
          rw [hd2] at hrow
          simp only [Option.some.injEq, SObj.cells.injEq] at hrow
          omega
        have hml : ms.length = k := hI.len
        simp [hk, hb2, hv, hd2, e1, e2, e5, e6, e7, e8, hwk, hrow, hml, sBuildSlice, partOk, Instr.fill, sZeros, sAppend, sFirst, sLenOf, intD, SW.kill, List.take_of_length_le]
        refine ⟨s2.next + 1, ms ++ [s1.next], hI.snoc hwf1 hl ?_ ?_ ?_ ?_ ?_ ?_⟩
        · simp
        · simp [e4]
        · have : ¬ s1.next = la := by omega
          simp (disch := omega) [e3, i1, newM, this]
        · intro j hj hj2 hj3
          have := i2.2 j hj
          simp (disch := omega) [hj2, hj3 hk0', this]
        · simp; omega
        · omega
  · rintro ⟨la, ms⟩ s1 hwf1 hI
    refine vcD_ok (D := pl25) (n := 55) mixed (by kernel_rfl) ?_
    simp
    refine Post.refl ⟨s.next, la, ms, rfl, ⟨?_, ⟨1, hI.row ?_⟩, by simp [hI.len], ?_⟩, hI.nd, hI.agree, hI.lo, Nat.le_refl _, hI.lalo⟩
    · have := hI.hd
      rw [if_neg (fun e => hne (List.eq_nil_of_length_eq_zero e))] at this
      rw [hI.len]
      exact this
    · exact fun e => hne (List.eq_nil_of_length_eq_zero e)
    · intro j i m hj hm
      rw [List.getElem?_map] at hm
      simp only [Option.map_eq_some_iff] at hm
      obtain ⟨l, hl, rfl⟩ := hm
      exact hI.maps j i l hj hl

end Go.Proofs.Yteiclengdlhnnaa
