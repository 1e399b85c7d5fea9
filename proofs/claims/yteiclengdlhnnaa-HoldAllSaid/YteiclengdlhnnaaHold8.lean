/- A new hold. -/
import Derived.Test.YteiclengdlhnnaaHold7
namespace Go.Proofs.Yteiclengdlhnnaa
open Go Go.Sh
set_option maxRecDepth 20000
set_option maxHeartbeats 4000000
set_option linter.unusedSimpArgs false
set_option linter.unusedVariables false
attribute [local simp] sWanted sOp ev put pl1 pl0 sResults sResL oneOf sBin sGuardOk sEqT sInt sUn sConvNum sNil sField sFieldV sPart sIndex sLoad sStore sBuiltin sLen sLookup sMapUpdate sAlloc sBox sMakeMap SW.set SW.new setL Value.cells Value.oneCell' opAt cls stable sNew ancB readsHeap noResult Go.undef List.replicate ite_lt ite_gt frL Nat.testBit
attribute [local simp ↓] vcD_skip vcD_label vcD_exit vcD_goto vcD_ret vcD_seq vcD_cond vcD_block vcD_region vcD_draw vcD_loop vcD_scope vcOps_nil vcOps_cons vcOp_eq vcEnts_nil vcEnts_chk vcEnts_run thenQ_normal thenQ_exit thenQ_goto thenQ_ret inBlockQ_normal inBlockQ_exit inBlockQ_goto inBlockQ_ret bodyQ_normal bodyQ_ret Kont_apply entK_apply

def newM (l : List Leaf) : Mp := putUp [] 0 l 0 l.length

structure NewInv (s0 : SW) (h : Nat) (firsts : List (List Leaf)) (k la : Nat) (ms : List Nat) (s : SW) : Prop where
  agree : Agree s0 s
  hlo : s0.next ≤ h
  hd : s.heap h = some (.cells [if k = 0 then .slice none 0 0 else .slice (some ⟨la, 0, none⟩) k k] true 0)
  row : k ≠ 0 → s.heap la = some (.cells (ms.map fun m => Value.map (some m)) true 1)
  lalo : s0.next ≤ la
  len : ms.length = k
  nd : ms.Nodup
  lo : ∀ m ∈ ms, s0.next ≤ m
  maps : ∀ (j i : Nat) (l : List Leaf), ms[j]? = some i → firsts[j]? = some l → s.heap i = some (.map .i64 true (encM (newM l)))
  live : ∀ m ∈ ms, m < s.next

theorem NewInv.snoc {s0 : SW} {h : Nat} {firsts : List (List Leaf)} {k la : Nat} {ms : List Nat} {s1 s3 : SW} {l : List Leaf} {la' : Nat} (hI : NewInv s0 h firsts k la ms s1) (hwf : s1.wf) (hl : firsts[k]? = some l)
    (h1 : s3.heap h = some (.cells [.slice (some ⟨la', 0, none⟩) (k + 1) (k + 1)] true 0)) (h2 : s3.heap la' = some (.cells ((ms ++ [s1.next]).map fun m => Value.map (some m)) true 1))
    (h3 : s3.heap s1.next = some (.map .i64 true (encM (newM l)))) (h4 : ∀ j, j < s1.next → ¬ j = h → (k ≠ 0 → ¬ j = la) → s3.heap j = s1.heap j) (h5 : s1.next < s3.next) (h6 : s0.next ≤ la') : NewInv s0 h firsts (k + 1) la' (ms ++ [s1.next]) s3 := by
  have ha := hI.agree
  refine ⟨⟨by have := ha.1; omega, fun j hj => ?_⟩, hI.hlo, by simpa using h1, fun _ => h2, h6, by simp [hI.len], ?_, ?_, ?_, ?_⟩
  · rw [h4 j (by have := ha.1; omega) (by have := hI.hlo; omega) (fun _ => by have := hI.lalo; omega)]
    exact ha.2 j hj
  · rw [List.nodup_append]
    refine ⟨hI.nd, by simp, ?_⟩
    intro x hx y hy
    simp only [List.mem_singleton] at hy
    have := hI.live x hx
    omega
  · intro m hm
    simp only [List.mem_append, List.mem_singleton] at hm
    rcases hm with hm | rfl
    · exact hI.lo m hm
    · exact ha.1
  · intro j i l' hj hl'
    rw [List.getElem?_append] at hj
    split at hj
    · have hi := hI.maps j i l' hj hl'
      rw [h4 i (hwf.lt hi) (fun e => ne_of_heap hI.hd hi e.symm) (fun hk e => ne_of_heap (hI.row hk) hi e.symm)]
      exact hi
    · rename_i hjl
      have hj0 : j - ms.length = 0 := by
        rcases Nat.eq_zero_or_pos (j - ms.length) with h | h
        · exact h
        · rw [List.getElem?_eq_none (by simp only [List.length_cons, List.length_nil]; omega)] at hj; cases hj
      rw [hj0] at hj
      simp only [List.getElem?_cons_zero, Option.some.injEq] at hj
      subst hj
      have : j = k := by have := hI.len; omega
      subst this
      rw [hl] at hl'; cases hl'
      exact h3
  · intro m hm
    simp only [List.mem_append, List.mem_singleton] at hm
    rcases hm with hm | rfl
    · have := hI.live m hm; omega
    · exact h5

def NewPost (firsts : List (List Leaf)) (s : SW) (v : Value) (s' : SW) : Prop :=
  ∃ h la ms, v = .pointer (some ⟨h, 0, none⟩) ∧ HoldAt s' h la firsts.length ms (firsts.map newM) ∧ ms.Nodup ∧ Agree s s' ∧ (∀ m ∈ ms, s.next ≤ m) ∧ s.next ≤ h ∧ s.next ≤ la

theorem new_call (s : SW) (b c : Nat) (vs : List Value) (own : Bool) (g : Nat) (firsts : List (List Leaf)) (hb : s.heap b = some (.cells vs own g)) (hlen : vs.length = firsts.length) (hne : firsts ≠ []) (hsm : firsts.length ≤ 1000)
    (hvs : ∀ (k : Nat) (v : Value) (l : List Leaf), vs[k]? = some v → firsts[k]? = some l → LeavesIn s l v ∧ l.length ≤ 1000000) :
    SCalls Try.prog 16 [.slice (some ⟨b, 0, none⟩) firsts.length c] s (NewPost firsts s) := by
  refine SCalls.bodyL Try.func16 rfl rfl fun hwf => vcD_ok (D := fun _ => none) (n := 45) mixed (by kernel_rfl) ?_
  have lb := hwf.lt hb
  simp
  refine SWp.uptoR firsts.length (fun k (x : Nat × List Nat) s' => NewInv s s.next firsts k x.1 x.2 s')
    (fun k x => [junk, junk, junk, .pointer (some ⟨s.next, 0, none⟩), junk, junk, junk, junk, junk, junk, junk, .slice (some ⟨b, 0, none⟩) firsts.length c, .int .i64 firsts.length, .int .i64 k, junk, junk, junk, junk, junk, junk, junk, junk, junk, junk, junk, junk, junk, junk, junk, junk, junk, junk, junk, junk, junk, junk, junk, junk, junk, junk, junk, junk, junk, junk, junk])
    (s.next, []) ?_ (by simp) ?_ ?_
  · refine ⟨⟨by simp, fun j hj => by simp (disch := omega)⟩, Nat.le_refl _, by simp, by simp, Nat.le_refl _, rfl, List.nodup_nil, by simp, by simp, by simp⟩
  · rintro k ⟨la, ms⟩ s1 hk hwf1 hI
    obtain ⟨v, hv⟩ : ∃ v, vs[k]? = some v := ⟨_, List.getElem?_eq_getElem (by omega)⟩
    obtain ⟨l, hl⟩ : ∃ l, firsts[k]? = some l := ⟨_, List.getElem?_eq_getElem hk⟩
    obtain ⟨hin, hl1⟩ := hvs k v l hv hl
    have hin1 := hin.agree hwf hI.agree
    have hb1 := (hI.agree.2 b lb).trans hb
    have lb1 := hwf1.lt hb1
    have lh1 := hwf1.lt hI.hd
    obtain ⟨a, cc, hva⟩ : ∃ a cc, v = .slice a l.length cc := by
      rcases hin1 with ⟨rfl, a, cc, rfl, _⟩ | ⟨_, b', o, cc, _, _, _, rfl, _⟩
      · exact ⟨a, cc, rfl⟩
      · exact ⟨_, cc, rfl⟩
    subst hva
    refine vcD_ok (D := fun _ => none) (n := 45) mixed (by kernel_rfl) ?_
    simp [hk, hb1, hv]
    refine SWp.uptoR l.length (fun i (_ : Unit) s2 => s2.heap s1.next = some (.map .i64 true (encM (putUp [] 0 l 0 i))) ∧ Agree s1 s2 ∧ s1.next < s2.next)
      (fun i _ => [junk, junk, junk, .pointer (some ⟨s.next, 0, none⟩), junk, junk, .map (some s1.next), junk, junk, junk, junk, .slice (some ⟨b, 0, none⟩) firsts.length c, .int .i64 firsts.length, .int .i64 k, junk, junk, junk, junk, .slice a l.length cc, .int .i64 l.length, .int .i64 i, junk, junk, junk, junk, junk, junk, junk, junk, junk, junk, junk, junk, junk, junk, junk, junk, junk, junk, junk, junk, junk, junk, junk, junk])
      () ⟨by simp [putUp, encM], ⟨by simp, fun j hj => by simp (disch := omega)⟩, by simp⟩ (by simp) ?_ ?_
    · rintro i _ s2 hi hwf2 ⟨i1, i2, i3⟩
      obtain ⟨x, hx⟩ : ∃ x, l[i]? = some x := ⟨_, List.getElem?_eq_getElem hi⟩
      rcases hin1.agree hwf1 i2 with ⟨rfl, _⟩ | ⟨_, b', o, c', cs, own', g', e, hb', hcl, hcs⟩
      · cases hx
      cases e
      have hw : IntKind.i64.wrap ((i : Int) + 1) = i + 1 := Sh.wrap_small (by omega) (by omega)
      have hc2 := hcs i x hx
      have hdt := drop_two hc2.1 hc2.2
      have hle : o + i * 2 + 2 ≤ cs.length := by omega
      have hd : putUp [] 0 l 0 (i + 1) = pset (putUp [] 0 l 0 i) i ⟨x.1, x.2, 1, 0⟩ := by
        simp [putUp, hx]
      have hset := mput_enc (putUp [] 0 l 0 i) i ⟨x.1, x.2, 1, 0⟩
      simp only [pv] at hset
      have e1 : ¬ s1.next = s2.next := by omega
      have e2 : ¬ b' = s2.next := fun e => by have := hwf2.lt hb'; omega
      refine vcD_ok (D := fun _ => none) (n := 45) mixed (by kernel_rfl) ?_
      simp [hi, hb', e1, e2, hw, hdt, hle, hd, hset, build37', i1]
      refine ⟨⟨?_, fun j hj => ?_⟩, by omega⟩
      · have := i2.1; simp; omega
      · have := i2.2 j hj
        simp (disch := omega) [this]
    · rintro _ s2 hwf2 ⟨i1, i2, i3⟩
      refine vcD_ok (D := fun _ => none) (n := 45) mixed (by kernel_rfl) ?_
      have hd2 := (i2.2 _ lh1).trans hI.hd
      have e1 : ¬ s.next = s2.next := by omega
      have hwk : IntKind.i64.wrap ((k : Int) + 1) = k + 1 := Sh.wrap_small (by omega) (by omega)
      have lla := hI.lalo
      rcases Nat.eq_zero_or_pos k with rfl | hk0
      · obtain rfl : ms = [] := List.eq_nil_of_length_eq_zero hI.len
        simp at hd2
        have e2 : ¬ s.next = s2.next + 1 := by omega
        have e3 : ¬ s1.next = s.next := by omega
        have e4 : ¬ s2.next + 1 = s.next := by omega
        have hw1 : IntKind.i64.wrap 1 = 1 := Sh.wrap_small (by omega) (by omega)
        simp [hd2, e1, e2, hw1, sBuildSlice, partOk, Instr.fill, sZeros, sAppend, sFirst, sLenOf, intD]
        refine ⟨s2.next + 1, [s1.next], hI.snoc hwf1 hl ?_ ?_ ?_ ?_ ?_ ?_⟩
        · simp
        · simp [e4]
        · simp (disch := omega) [e3, i1, newM]
        · intro j hj hj2 _
          have := i2.2 j hj
          simp (disch := omega) [hj2, this]
        · simp; omega
        · omega
      · have hk0' : ¬ k = 0 := by omega
        simp only [hk0', if_false] at hd2
        have hrow0 := hI.row hk0'
        have hll := hwf1.lt hrow0
        have hrow := (i2.2 _ hll).trans hrow0
        dsimp only at lla hrow hll hrow0
        have e2 : ¬ s.next = s2.next + 1 := by omega
        have e3 : ¬ s1.next = s.next := by omega
        have e4 : ¬ s2.next + 1 = s.next := by omega
        have e5 : ¬ 1073741823 < k := by omega
        have e6 : ¬ k + 1 ≤ k := by omega
        have e7 : ¬ la = s2.next := by omega
        have e8 : ¬ s.next = la := by
          intro e
          rw [← e] at hrow
          rw [hd2] at hrow
          simp only [Option.some.injEq, SObj.cells.injEq] at hrow
          omega
        have hml : ms.length = k := hI.len
        simp [hd2, e1, e2, e5, e6, e7, e8, hwk, hrow, hml, sBuildSlice, partOk, Instr.fill, sZeros, sAppend, sFirst, sLenOf, intD, SW.kill, List.take_of_length_le]
        refine ⟨s2.next + 1, ms ++ [s1.next], hI.snoc hwf1 hl ?_ ?_ ?_ ?_ ?_ ?_⟩
        · simp
        · simp [e4]
        · have : ¬ s1.next = la := by omega
          simp (disch := omega) [e3, i1, newM, this]
        · intro j hj hj2 hj3
          have := i2.2 j hj
          simp (disch := omega) [hj2, hj3 hk0', this]
        · simp; omega
        · omega
  · rintro ⟨la, ms⟩ s1 hwf1 hI
    refine vcD_ok (D := fun _ => none) (n := 45) mixed (by kernel_rfl) ?_
    simp
    refine Post.refl ⟨s.next, la, ms, rfl, ⟨?_, ⟨1, hI.row ?_⟩, by simp [hI.len], ?_⟩, hI.nd, hI.agree, hI.lo, Nat.le_refl _, hI.lalo⟩
    · have := hI.hd
      rw [if_neg (fun e => hne (List.eq_nil_of_length_eq_zero e))] at this
      rw [hI.len]
      exact this
    · exact fun e => hne (List.eq_nil_of_length_eq_zero e)
    · intro j i m hj hm
      rw [List.getElem?_map] at hm
      simp only [Option.map_eq_some_iff] at hm
      obtain ⟨l, hl, rfl⟩ := hm
      exact hI.maps j i l hj hl

end Go.Proofs.Yteiclengdlhnnaa
