/- ref18's hold: pages of some kind. -/
import Derived.Test.YteiclengdlhnnaaRef1
import Derived.Test.YteiclengdlhnnaaHold12a
namespace Go.Proofs.Yteiclengdlhnnaa
open Go Go.Sh
def pl91 : Nat → Option (List Nat × List Ent)
  | 13 => some ([0, 1, 3, 7, 3, 31, 63, 127, 255, 127, 127, 1663, 3711, 8191, 16383, 32767, 65535], [.run 0, .run 1, .run 2, .run 3, .run 4, .run 5, .run 6, .run 7, .run 8, .run 9, .run 10, .run 11, .run 12, .run 13, .run 14, .run 15, .run 16])
  | _ => none

set_option maxRecDepth 20000
set_option maxHeartbeats 4000000
set_option linter.unusedSimpArgs false
set_option linter.unusedVariables false
attribute [local simp] sWanted sOp ev put pl1 pl0 sResults sResL oneOf sBin sGuardOk sEqT sInt sUn sConvNum sNil sField sFieldV sPart sIndex sLoad sStore sBuiltin sLen sLookup sMapUpdate sAlloc sBox sMakeMap SW.set SW.new setL Value.cells Value.oneCell' opAt cls stable sNew ancB readsHeap noResult Go.undef List.replicate ite_lt ite_gt frL Nat.testBit
attribute [local simp ↓] vcD_skip vcD_label vcD_exit vcD_goto vcD_ret vcD_seq vcD_cond vcD_block vcD_region vcD_draw vcD_loop vcD_scope vcOps_nil vcOps_cons vcOp_eq vcEnts_nil vcEnts_chk vcEnts_run thenQ_normal thenQ_exit thenQ_goto thenQ_ret inBlockQ_normal inBlockQ_exit inBlockQ_goto inBlockQ_ret bodyQ_normal bodyQ_ret Kont_apply entK_apply

def rsuchK (m : Mp) (q : Pg → Bool) (k : Nat) : List Int := ((List.range k).filter fun (i : Nat) => match pgGet m (i : Int) with
  | some p => q p
  | none => false).map fun (i : Nat) => (i : Int)

theorem rsuchK_succ (m : Mp) (q : Pg → Bool) (k : Nat) : rsuchK m q (k + 1) = rsuchK m q k ++ (match pgGet m (k : Int) with
  | some p => if q p then [(k : Int)] else []
  | none => []) := by
  unfold rsuchK
  rw [List.range_succ, List.filter_append, List.map_append]
  congr 1
  cases h : pgGet m (k : Int) with
  | none => simp [h]
  | some p => cases hq : q p <;> simp [h, hq]

theorem rsuchK_length (m : Mp) (q : Pg → Bool) (k : Nat) : (rsuchK m q k).length ≤ k := by
  unfold rsuchK
  rw [List.length_map]
  exact Nat.le_trans (List.length_filter_le _ _) (by simp)

def marksQ (mark : Int) (sts : List Int) (p : Pg) : Bool := sts.any fun k => p.mark == mark && p.state == k

theorem rsuch_marks {s : SW} {h la c : Nat} {ms : List Nat} {H : List Mp} (hh : HoldAt s h la c ms H) {p i : Nat} {m : Mp} (hp : p < ms.length) (hmi : ms[p]? = some i) (hHm : H[p]? = some m)
    (mark : Int) (sts : List Int) (v5 : Value) (hne : sts ≠ []) (hv5 : IntsIn s sts v5) (hl : sts.length ≤ 1000) :
    SCalls Try.prog 91 [.pointer (some ⟨h, 0, none⟩), .int .i64 p, .bool false, .bool false, .int .u64 mark, v5] s (RowOut (rsuchK m (marksQ mark sts) 4096) s) := by
  rcases hv5 with ⟨h0, _⟩ | ⟨_, b5, o5, c5, cs5, own5, g5, rfl, hb5, hcs5⟩
  · exact absurd h0 hne
  have hi := hh.maps p i m hmi hHm
  have hm : partM H (p : Int) = some m := by simp [partM, hHm]
  have hmi' : ms[p] = i := by rw [List.getElem?_eq_getElem hp] at hmi; exact Option.some.inj hmi
  refine SCalls.bodyL Try.func91 rfl rfl fun hwf => vcD_ok (D := pl91) (n := 78) mixed (by kernel_rfl) ?_
  simp
  refine (has_call hh p).mono ?_
  rintro v s' ⟨rfl, rfl⟩
  rw [hm]
  simp
  obtain ⟨h1, ⟨g, h2⟩, _, _⟩ := hh
  have l1 := hwf.lt h1
  have l2 := hwf.lt h2
  have l3 := hwf.lt hi
  have l5 := hwf.lt hb5
  refine SWp.uptoR 4096 (fun k (v : Value) s1 => Agree s' s1 ∧ RowIs s1 (rsuchK m (marksQ mark sts) k) v ∧ ∀ b, baseOf v = some b → s'.next ≤ b)
    (fun k v => [.pointer (some ⟨h, 0, none⟩), .int .i64 p, .bool false, .bool false, .int .u64 mark, .slice (some ⟨b5, o5, none⟩) sts.length c5, junk, junk, junk, junk, junk, junk, junk, v, .int .i64 k, junk, junk, junk, junk, junk, junk, junk, junk, junk, junk, junk, junk, junk, junk, junk, junk, junk, junk, junk, junk, junk, junk, junk, junk, junk, junk, junk, junk, junk, junk, junk, junk, junk, junk, junk, junk, junk, junk, junk, junk, junk, junk, junk, junk, junk, junk, junk, junk, junk, junk, junk, junk, junk, junk, junk, junk, junk, junk, junk, junk, junk, junk, junk])
    (.slice none 0 0) ⟨.refl _, .inl ⟨rfl, rfl⟩, by simp [baseOf]⟩ (by simp) ?_ ?_
  · rintro k v s1 hk hwf1 ⟨ag1, hrow, hbase⟩
    have hw : IntKind.i64.wrap ((k : Int) + 1) = k + 1 := Sh.wrap_small (by omega) (by omega)
    have hk' : (k : Int) < 4096 := by omega
    have k1 := (ag1.2 _ l1).trans h1
    have k2 := (ag1.2 _ l2).trans h2
    have k3 := (ag1.2 _ l3).trans hi
    have k5 := (ag1.2 _ l5).trans hb5
    have nn := ag1.1
    have e1 : ¬ h = s1.next := by omega
    have e2 : ¬ la = s1.next := by omega
    have e3 : ¬ i = s1.next := by omega
    have e5 : ¬ b5 = s1.next := by omega
    cases hg : pgGet m (k : Int) with
    | none =>
      have hgs : (pgGet m (k : Int)).isSome = false := by rw [hg]; rfl
      refine vcD_ok (D := pl91) (n := 78) mixed (by kernel_rfl) ?_
      simp [hk', k1, k2, k3, e1, e2, e3, hp, hmi', look_enc, look_is, pv, hgs, hw]
      have ag2 : Agree s1 ⟨fun j => if j = s1.next then some (.cells [.int .i64 (pgOf m k).frame, .int .i64 (pgOf m k).perm, .int .i64 (pgOf m k).state, .int .u64 (pgOf m k).mark] true 0) else if j = s1.next then some (.cells [.int .i64 0, .int .i64 0, .int .i64 0, .int .u64 0] true 0) else s1.heap j, s1.next + 1⟩ :=
        ⟨by simp, fun j hj => by simp (disch := omega)⟩
      refine ⟨v, ⟨ag1.trans ag2, ?_, hbase⟩, .inr rfl⟩
      rw [rsuchK_succ, hg]
      simpa using hrow.agree hwf1 ag2
    | some pg =>
      have hgs : (pgGet m (k : Int)).isSome = true := by rw [hg]; rfl
      have hpo : pgOf m (k : Int) = pg := by simp [pgOf, hg]
      refine vcD_ok (D := pl91) (n := 78) mixed (by kernel_rfl) ?_
      simp [hk', k1, k2, k3, e1, e2, e3, hp, hmi', look_enc, look_is, pv, hgs, hw, hpo]
      refine SWp.upto sts.length (fun _ (_ : Unit) => True)
        (fun j _ => [.pointer (some ⟨h, 0, none⟩), .int .i64 p, .bool false, .bool false, .int .u64 mark, .slice (some ⟨b5, o5, none⟩) sts.length c5, junk, junk, junk, junk, junk, junk, junk, v, .int .i64 k, .pointer (some ⟨s1.next, 0, none⟩), junk, .bool (marksQ mark (sts.take j) pg), .int .i64 j, junk, junk, junk, junk, junk, junk, junk, junk, junk, junk, junk, junk, junk, junk, junk, junk, junk, junk, junk, junk, junk, junk, junk, junk, junk, junk, junk, junk, junk, junk, junk, junk, junk, junk, junk, junk, junk, junk, junk, junk, junk, junk, junk, junk, junk, junk, junk, junk, junk, junk, junk, junk, junk, junk, junk, junk, junk, junk, junk])
        (fun _ _ => ⟨fun j => if j = s1.next then some (.cells [.int .i64 pg.frame, .int .i64 pg.perm, .int .i64 pg.state, .int .u64 pg.mark] true 0) else s1.heap j, s1.next + 1⟩) () trivial (by simp [marksQ]) ⟨fun j o hj => by simp at hj ⊢; grind, by simp⟩ ?_ ?_
      · intro j _ hj _
        obtain ⟨x, hx⟩ : ∃ x, sts[j]? = some x := ⟨_, List.getElem?_eq_getElem hj⟩
        have hcx := hcs5 j x hx
        have hwj : IntKind.i64.wrap ((j : Int) + 1) = j + 1 := Sh.wrap_small (by omega) (by omega)
        have hq : marksQ mark (sts.take (j + 1)) pg = (marksQ mark (sts.take j) pg || (pg.mark == mark && pg.state == x)) := by
          simp [marksQ, List.take_add_one, hx, List.any_append]
        rw [hq]
        cases hb0 : marksQ mark (sts.take j) pg <;> cases hmk : pg.mark == mark <;> cases hst : pg.state == x <;> refine vcD_ok (D := pl91) (n := 78) mixed (by kernel_rfl) ?_ <;>
          simp [hj, k5, e5, hcx, hwj, hmk, hst, pl91, SW.less_refl]
      · intro _ _
        cases hb0 : marksQ mark sts pg
        · refine vcD_ok (D := pl91) (n := 78) mixed (by kernel_rfl) ?_
          simp [hb0, hw]
          have ag2 : Agree s1 ⟨fun j => if j = s1.next then some (.cells [.int .i64 pg.frame, .int .i64 pg.perm, .int .i64 pg.state, .int .u64 pg.mark] true 0) else s1.heap j, s1.next + 1⟩ :=
            ⟨by simp, fun j hj => by simp (disch := omega)⟩
          refine ⟨v, ⟨ag1.trans ag2, ?_, hbase⟩, .inr rfl⟩
          rw [rsuchK_succ, hg]
          simpa [hb0] using hrow.agree hwf1 ag2
        · refine vcD_ok (D := pl91) (n := 78) mixed (by kernel_rfl) ?_
          have ag2 : Agree s1 ⟨fun j => if j = s1.next then some (.cells [.int .i64 pg.frame, .int .i64 pg.perm, .int .i64 pg.state, .int .u64 pg.mark] true 0) else s1.heap j, s1.next + 1⟩ :=
            ⟨by simp, fun j hj => by simp (disch := omega)⟩
          have hwf2 : SW.wf ⟨fun j => if j = s1.next then some (.cells [.int .i64 pg.frame, .int .i64 pg.perm, .int .i64 pg.state, .int .u64 pg.mark] true 0) else s1.heap j, s1.next + 1⟩ := by
            intro j hj
            have := hwf1 j
            simp at hj ⊢
            grind
          obtain ⟨bv, sx, v', s3, a1, a2, a3, a4, a5, _⟩ := append_int _ hwf2 _ v (k : Int) (hrow.agree hwf1 ag2) (Nat.le_trans (rsuchK_length _ _ _) (by omega))
          simp [hb0, hw, a1, a2]
          refine ⟨v', ⟨a4.agree (ag1.trans ag2) hbase, ?_, fun b hb => ?_⟩, .inr rfl⟩
          · rw [rsuchK_succ, hg]
            simpa [hb0] using a3
          · have := a5 b hb
            simp at this
            omega
  · rintro v s1 hwf1 ⟨ag1, hrow, hbase⟩
    refine vcD_ok (D := pl91) (n := 78) mixed (by kernel_rfl) ?_
    simp
    exact Post.refl ⟨hrow, ag1⟩

def seenQ (lent : Bool) (p : Pg) : Bool := lent || !(p.state == 3)

theorem rsuch_any {s : SW} {h la c : Nat} {ms : List Nat} {H : List Mp} (hh : HoldAt s h la c ms H) {p i : Nat} {m : Mp} (hp : p < ms.length) (hmi : ms[p]? = some i) (hHm : H[p]? = some m)
    (lent : Bool) (mark : Int) :
    SCalls Try.prog 91 [.pointer (some ⟨h, 0, none⟩), .int .i64 p, .bool lent, .bool true, .int .u64 mark, .slice none 0 0] s (RowOut (rsuchK m (seenQ lent) 4096) s) := by
  have hi := hh.maps p i m hmi hHm
  have hm : partM H (p : Int) = some m := by simp [partM, hHm]
  have hmi' : ms[p] = i := by rw [List.getElem?_eq_getElem hp] at hmi; exact Option.some.inj hmi
  refine SCalls.bodyL Try.func91 rfl rfl fun hwf => vcD_ok (D := pl91) (n := 78) mixed (by kernel_rfl) ?_
  simp
  refine (has_call hh p).mono ?_
  rintro v s' ⟨rfl, rfl⟩
  rw [hm]
  simp
  obtain ⟨h1, ⟨g, h2⟩, _, _⟩ := hh
  have l1 := hwf.lt h1
  have l2 := hwf.lt h2
  have l3 := hwf.lt hi
  refine SWp.uptoR 4096 (fun k (v : Value) s1 => Agree s' s1 ∧ RowIs s1 (rsuchK m (seenQ lent) k) v ∧ ∀ b, baseOf v = some b → s'.next ≤ b)
    (fun k v => [.pointer (some ⟨h, 0, none⟩), .int .i64 p, .bool lent, .bool true, .int .u64 mark, .slice none 0 0, junk, junk, junk, junk, junk, junk, junk, v, .int .i64 k, junk, junk, junk, junk, junk, junk, junk, junk, junk, junk, junk, junk, junk, junk, junk, junk, junk, junk, junk, junk, junk, junk, junk, junk, junk, junk, junk, junk, junk, junk, junk, junk, junk, junk, junk, junk, junk, junk, junk, junk, junk, junk, junk, junk, junk, junk, junk, junk, junk, junk, junk, junk, junk, junk, junk, junk, junk, junk, junk, junk, junk, junk, junk])
    (.slice none 0 0) ⟨.refl _, .inl ⟨rfl, rfl⟩, by simp [baseOf]⟩ (by simp) ?_ ?_
  · rintro k v s1 hk hwf1 ⟨ag1, hrow, hbase⟩
    have hw : IntKind.i64.wrap ((k : Int) + 1) = k + 1 := Sh.wrap_small (by omega) (by omega)
    have hk' : (k : Int) < 4096 := by omega
    have k1 := (ag1.2 _ l1).trans h1
    have k2 := (ag1.2 _ l2).trans h2
    have k3 := (ag1.2 _ l3).trans hi
    have nn := ag1.1
    have e1 : ¬ h = s1.next := by omega
    have e2 : ¬ la = s1.next := by omega
    have e3 : ¬ i = s1.next := by omega
    cases hg : pgGet m (k : Int) with
    | none =>
      have hgs : (pgGet m (k : Int)).isSome = false := by rw [hg]; rfl
      refine vcD_ok (D := pl91) (n := 78) mixed (by kernel_rfl) ?_
      simp [hk', k1, k2, k3, e1, e2, e3, hp, hmi', look_enc, look_is, pv, hgs, hw]
      have ag2 : Agree s1 ⟨fun j => if j = s1.next then some (.cells [.int .i64 (pgOf m k).frame, .int .i64 (pgOf m k).perm, .int .i64 (pgOf m k).state, .int .u64 (pgOf m k).mark] true 0) else if j = s1.next then some (.cells [.int .i64 0, .int .i64 0, .int .i64 0, .int .u64 0] true 0) else s1.heap j, s1.next + 1⟩ :=
        ⟨by simp, fun j hj => by simp (disch := omega)⟩
      refine ⟨v, ⟨ag1.trans ag2, ?_, hbase⟩, .inr rfl⟩
      rw [rsuchK_succ, hg]
      simpa using hrow.agree hwf1 ag2
    | some pg =>
      have hgs : (pgGet m (k : Int)).isSome = true := by rw [hg]; rfl
      have hpo : pgOf m (k : Int) = pg := by simp [pgOf, hg]
      have ag2 : Agree s1 ⟨fun j => if j = s1.next then some (.cells [.int .i64 pg.frame, .int .i64 pg.perm, .int .i64 pg.state, .int .u64 pg.mark] true 0) else if j = s1.next then some (.cells [.int .i64 0, .int .i64 0, .int .i64 0, .int .u64 0] true 0) else s1.heap j, s1.next + 1⟩ :=
        ⟨by simp, fun j hj => by simp (disch := omega)⟩
      have hwf2 : SW.wf ⟨fun j => if j = s1.next then some (.cells [.int .i64 pg.frame, .int .i64 pg.perm, .int .i64 pg.state, .int .u64 pg.mark] true 0) else if j = s1.next then some (.cells [.int .i64 0, .int .i64 0, .int .i64 0, .int .u64 0] true 0) else s1.heap j, s1.next + 1⟩ := by
        intro j hj
        have := hwf1 j
        simp at hj ⊢
        grind
      have hfalse : seenQ lent pg = false → lent = false ∧ (pg.state == 3) = true := by
        intro h
        simpa [seenQ] using h
      have htrue : seenQ lent pg = true → lent = true ∨ lent = false ∧ (pg.state == 3) = false := by
        intro h
        cases lent
        · exact .inr ⟨rfl, by simpa [seenQ] using h⟩
        · exact .inl rfl
      have hno : seenQ lent pg = false → ∃ v' : Value, (Agree s' ⟨fun j => if j = s1.next then some (.cells [.int .i64 pg.frame, .int .i64 pg.perm, .int .i64 pg.state, .int .u64 pg.mark] true 0) else if j = s1.next then some (.cells [.int .i64 0, .int .i64 0, .int .i64 0, .int .u64 0] true 0) else s1.heap j, s1.next + 1⟩ ∧
          RowIs ⟨fun j => if j = s1.next then some (.cells [.int .i64 pg.frame, .int .i64 pg.perm, .int .i64 pg.state, .int .u64 pg.mark] true 0) else if j = s1.next then some (.cells [.int .i64 0, .int .i64 0, .int .i64 0, .int .u64 0] true 0) else s1.heap j, s1.next + 1⟩ (rsuchK m (seenQ lent) (k + 1)) v' ∧ ∀ b, baseOf v' = some b → s'.next ≤ b) ∧ v' = v := by
        intro hq
        refine ⟨v, ⟨ag1.trans ag2, ?_, hbase⟩, rfl⟩
        rw [rsuchK_succ, hg]
        simpa [hq] using hrow.agree hwf1 ag2
      obtain ⟨bv, sx, v', s3, a1, a2, a3, a4, a5, _⟩ := append_int _ hwf2 _ v (k : Int) (hrow.agree hwf1 ag2) (Nat.le_trans (rsuchK_length _ _ _) (by omega))
      have hyes : seenQ lent pg = true → (Agree s' s3 ∧ RowIs s3 (rsuchK m (seenQ lent) (k + 1)) v' ∧ ∀ b, baseOf v' = some b → s'.next ≤ b) := by
        intro hq
        refine ⟨a4.agree (ag1.trans ag2) hbase, ?_, fun b hb => ?_⟩
        · rw [rsuchK_succ, hg]
          simpa [hq] using a3
        · have := a5 b hb
          simp at this
          omega
      cases hq : seenQ lent pg
      · obtain ⟨rfl, hst⟩ := hfalse hq
        refine vcD_ok (D := pl91) (n := 78) mixed (by kernel_rfl) ?_
        simp [hk', k1, k2, k3, e1, e2, e3, hp, hmi', look_enc, look_is, pv, hgs, hw, hpo, hst, bne]
        refine SWp.upto0 ?_
        refine vcD_ok (D := pl91) (n := 78) mixed (by kernel_rfl) ?_
        simp [hw]
        obtain ⟨v'', h1, rfl⟩ := hno hq
        exact ⟨v'', h1, .inr rfl⟩
      · rcases htrue hq with rfl | ⟨rfl, hst⟩
        · refine vcD_ok (D := pl91) (n := 78) mixed (by kernel_rfl) ?_
          simp [hk', k1, k2, k3, e1, e2, e3, hp, hmi', look_enc, look_is, pv, hgs, hw, hpo, bne]
          refine SWp.upto0 ?_
          refine vcD_ok (D := pl91) (n := 78) mixed (by kernel_rfl) ?_
          simp [hw, a1, a2]
          exact ⟨v', hyes hq, .inr rfl⟩
        · refine vcD_ok (D := pl91) (n := 78) mixed (by kernel_rfl) ?_
          simp [hk', k1, k2, k3, e1, e2, e3, hp, hmi', look_enc, look_is, pv, hgs, hw, hpo, hst, bne]
          refine SWp.upto0 ?_
          refine vcD_ok (D := pl91) (n := 78) mixed (by kernel_rfl) ?_
          simp [hw, a1, a2]
          exact ⟨v', hyes hq, .inr rfl⟩
  · rintro v s1 hwf1 ⟨ag1, hrow, hbase⟩
    refine vcD_ok (D := pl91) (n := 78) mixed (by kernel_rfl) ?_
    simp
    exact Post.refl ⟨hrow, ag1⟩

theorem rsuch_none {s : SW} {h la c : Nat} {ms : List Nat} {H : List Mp} (hh : HoldAt s h la c ms H) (part mark : Int) (lent any : Bool) (v5 : Value) (hm : partM H part = none) :
    SCalls Try.prog 91 [.pointer (some ⟨h, 0, none⟩), .int .i64 part, .bool lent, .bool any, .int .u64 mark, v5] s (RowOut [] s) := by
  refine SCalls.bodyL Try.func91 rfl rfl fun hwf => vcD_ok (D := pl91) (n := 78) mixed (by kernel_rfl) ?_
  simp
  refine (has_call hh part).mono ?_
  rintro v s' ⟨rfl, rfl⟩
  rw [hm]
  simp
  exact Post.refl ⟨.inl ⟨rfl, rfl⟩, .refl _⟩

def rsuchOf (H : List Mp) (part : Int) (q : Pg → Bool) : List Int := match partM H part with
  | some m => rsuchK m q 4096
  | none => []

theorem rmarks_call {s : SW} {h la c : Nat} {ms : List Nat} {H : List Mp} (hh : HoldAt s h la c ms H) (part mark : Int) (sts : List Int) (v5 : Value) (hne : sts ≠ []) (hv5 : IntsIn s sts v5) (hl : sts.length ≤ 1000) :
    SCalls Try.prog 91 [.pointer (some ⟨h, 0, none⟩), .int .i64 part, .bool false, .bool false, .int .u64 mark, v5] s (RowOut (rsuchOf H part (marksQ mark sts)) s) := by
  unfold rsuchOf
  rcases part_cases hh part with ⟨hn, _⟩ | ⟨p, i, m, rfl, hp, hm, hmi, hHm, hi⟩
  · rw [hn]; exact rsuch_none hh part mark _ _ v5 hn
  · rw [hm]; exact rsuch_marks hh hp hmi hHm mark sts v5 hne hv5 hl

theorem rany_call {s : SW} {h la c : Nat} {ms : List Nat} {H : List Mp} (hh : HoldAt s h la c ms H) (part mark : Int) (lent : Bool) :
    SCalls Try.prog 91 [.pointer (some ⟨h, 0, none⟩), .int .i64 part, .bool lent, .bool true, .int .u64 mark, .slice none 0 0] s (RowOut (rsuchOf H part (seenQ lent)) s) := by
  unfold rsuchOf
  rcases part_cases hh part with ⟨hn, _⟩ | ⟨p, i, m, rfl, hp, hm, hmi, hHm, hi⟩
  · rw [hn]; exact rsuch_none hh part mark _ _ _ hn
  · rw [hm]; exact rsuch_any hh hp hmi hHm lent mark

theorem rpages_call {s : SW} {h la c : Nat} {ms : List Nat} {H : List Mp} (hh : HoldAt s h la c ms H) (part : Int) :
    SCalls Try.prog 36 [.pointer (some ⟨h, 0, none⟩), .int .i64 part] s (RowOut (rsuchOf H part (seenQ true)) s) := by
  refine SCalls.bodyL Try.func36 rfl rfl fun hwf => vcD_ok (D := fun _ => none) (n := 8) mixed (by kernel_rfl) ?_
  simp
  refine (rany_call hh part 0 true).mono ?_
  intro v s' hv
  simp
  exact Post.refl hv

theorem rseen_call {s : SW} {h la c : Nat} {ms : List Nat} {H : List Mp} (hh : HoldAt s h la c ms H) (part : Int) :
    SCalls Try.prog 37 [.pointer (some ⟨h, 0, none⟩), .int .i64 part] s (RowOut (rsuchOf H part (seenQ false)) s) := by
  refine SCalls.bodyL Try.func37 rfl rfl fun hwf => vcD_ok (D := fun _ => none) (n := 8) mixed (by kernel_rfl) ?_
  simp
  refine (rany_call hh part 0 false).mono ?_
  intro v s' hv
  simp
  exact Post.refl hv

end Go.Proofs.Yteiclengdlhnnaa
