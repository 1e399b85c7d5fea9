/- hold: pages that are given. -/
import Derived.Test.YteiclengdlhnnaaHold5
namespace Go.Proofs.Yteiclengdlhnnaa
open Go Go.Sh
set_option maxRecDepth 20000
set_option maxHeartbeats 4000000
set_option linter.unusedSimpArgs false
set_option linter.unusedVariables false
attribute [local simp] sWanted sOp ev put pl1 pl0 sResults sResL oneOf sBin sGuardOk sEqT sInt sUn sConvNum sNil sField sFieldV sPart sIndex sLoad sStore sBuiltin sLen sLookup sMapUpdate sAlloc sBox sMakeMap SW.set SW.new setL Value.cells Value.oneCell' opAt cls stable sNew ancB readsHeap noResult Go.undef List.replicate ite_lt ite_gt frL Nat.testBit
attribute [local simp ↓] vcD_skip vcD_label vcD_exit vcD_goto vcD_ret vcD_seq vcD_cond vcD_block vcD_region vcD_draw vcD_loop vcD_scope vcOps_nil vcOps_cons vcOp_eq vcEnts_nil vcEnts_chk vcEnts_run thenQ_normal thenQ_exit thenQ_goto thenQ_ret inBlockQ_normal inBlockQ_exit inBlockQ_goto inBlockQ_ret bodyQ_normal bodyQ_ret Kont_apply entK_apply

theorem find_map_key {β : Type} (m : List (Int × β)) (n k : Int) (v : β) : ((m.map fun kv => if kv.1 == n then (n, v) else kv).find? fun kv => kv.1 == k).map (·.2) =
    if k = n then (if (m.any fun kv => kv.1 == n) then some v else none) else (m.find? fun kv => kv.1 == k).map (·.2) := by
  induction m with
  | nil => simp
  | cons kv m ih =>
    simp only [List.map_cons, List.find?_cons, List.any_cons]
    by_cases h : kv.1 = n
    · by_cases h2 : k = n
      · simp [h, h2]
      · have e : (n == k) = false := by simpa using fun e => h2 e.symm
        simp only [h, beq_self_eq_true, if_true, e]
        rw [ih]
        simp [h2]
    · have e : (kv.1 == n) = false := by simpa using h
      simp only [e, Bool.false_eq_true, if_false, Bool.false_or]
      by_cases h3 : kv.1 = k
      · have h4 : ¬ k = n := fun e => h (h3.trans e)
        simp [h3, h4]
      · have e3 : (kv.1 == k) = false := by simpa using h3
        simp only [e3]
        exact ih

theorem mget_mput (m : List (Int × Value)) (n k : Int) (v : Value) : mget (mput m n v) k = if k = n then some v else mget m k := by
  unfold mput mget
  split
  · rename_i h
    rw [find_map_key, h]
    simp
  · rename_i h
    rw [List.find?_append]
    by_cases hk : k = n
    · subst hk
      have : (m.find? fun kv => kv.1 == k) = none := by
        rw [List.find?_eq_none]
        intro x hx
        simp only [Bool.not_eq_true, List.any_eq_false] at h
        simpa using h x hx
      simp [this]
    · have e : (n == k) = false := by simpa using fun e => hk e.symm
      simp [e, hk]

theorem pgGet_pset (m : Mp) (n k : Int) (p : Pg) : pgGet (pset m n p) k = if k = n then some p else pgGet m k := by
  unfold pset pgGet
  split
  · rename_i h
    rw [find_map_key, h]
    simp
  · rename_i h
    rw [List.find?_append]
    by_cases hk : k = n
    · subst hk
      have : (m.find? fun kv => kv.1 == k) = none := by
        rw [List.find?_eq_none]
        intro x hx
        simp only [Bool.not_eq_true, List.any_eq_false] at h
        simpa using h x hx
      simp [this]
    · have e : (n == k) = false := by simpa using fun e => hk e.symm
      simp [e, hk]

theorem pgGet_pdel (m : Mp) (n k : Int) : pgGet (pdel m n) k = if k = n then none else pgGet m k := by
  unfold pdel pgGet
  induction m with
  | nil => simp
  | cons kv m ih =>
    by_cases h : kv.1 = n
    · have e : (!(kv.1 == n)) = false := by simp [h]
      rw [List.filter_cons]
      simp only [e, Bool.false_eq_true, if_false]
      rw [ih]
      by_cases hk : k = n
      · simp [hk]
      · have : (kv.1 == k) = false := by simpa using fun e => hk (e.symm.trans h)
        simp [hk, this]
    · have e : (!(kv.1 == n)) = true := by simp [h]
      rw [List.filter_cons]
      simp only [e, if_true, List.find?_cons]
      by_cases h3 : kv.1 = k
      · have : ¬ k = n := fun e => h (h3.trans e)
        simp [h3, this]
      · have e3 : (kv.1 == k) = false := by simpa using h3
        simp only [e3]
        exact ih

/-- Numbers that have been seen. -/
def seenM (l : List Int) : List (Int × Value) := l.foldl (fun m x => mput m x (.bool true)) []

theorem seenM_snoc (l : List Int) (x : Int) : seenM (l ++ [x]) = mput (seenM l) x (.bool true) := by simp [seenM, List.foldl_append]

theorem seenM_get (l : List Int) (x : Int) : (mget (seenM l) x).getD (.bool false) = .bool (l.contains x) := by
  have key : ∀ (l : List Int) (m : List (Int × Value)), (mget (l.foldl (fun m x => mput m x (.bool true)) m) x) = if l.contains x then some (.bool true) else mget m x := by
    intro l
    induction l with
    | nil => intro m; simp
    | cons y l ih =>
      intro m
      rw [List.foldl_cons, ih, mget_mput]
      by_cases h : x = y
      · simp [h]
      · have : (x == y) = false := by simpa using h
        simp [h, this]
  unfold seenM
  rw [key]
  cases l.contains x <;> simp [mget]

/-- A row of numbers that is handed in. -/
def IntsIn (s : SW) (l : List Int) (v : Value) : Prop :=
  (l = [] ∧ ∃ a c, v = .slice a 0 c ∧ (a = none ∨ ∃ b, a = some b)) ∨
  (l ≠ [] ∧ ∃ b o c cs own g, v = .slice (some ⟨b, o, none⟩) l.length c ∧ s.heap b = some (.cells cs own g) ∧ ∀ (k : Nat) (x : Int), l[k]? = some x → cs[o + k]? = some (.int .i64 x))

theorem IntsIn.agree {s s' : SW} {l : List Int} {v : Value} (h : IntsIn s l v) (hwf : s.wf) (ha : Agree s s') : IntsIn s' l v := by
  rcases h with h | ⟨h0, b, o, c, cs, own, g, h1, h2, h3⟩
  · exact .inl h
  · exact .inr ⟨h0, b, o, c, cs, own, g, h1, (ha.2 b (hwf.lt h2)).trans h2, h3⟩

theorem RowIs.ints {s : SW} {l : List Int} {v : Value} (h : RowIs s l v) : IntsIn s l v := by
  rcases h with ⟨h1, rfl⟩ | ⟨h0, b, h1, h2⟩
  · exact .inl ⟨h1, none, 0, rfl, .inl rfl⟩
  · refine .inr ⟨h0, b, 0, _, _, _, _, h1, h2, fun k x hx => ?_⟩
    simp [hx]

def giveOne (kind mark : Int) (m : Mp) (x : Int) : Mp := pset m x { pgOf m x with state := if kind = 1 then 2 else 3, mark := mark }
def giveAll (kind mark : Int) (m : Mp) (l : List Int) : Mp := l.foldl (giveOne kind mark) m

def mayGive (m : Mp) (l : List Int) (k : Nat) : Prop := ∀ j x, j < k → l[j]? = some x → (pgOf m x).state = 1 ∧ ¬ x ∈ l.take j

def mayGiveB (m : Mp) (l : List Int) (k : Nat) : Bool := (List.range k).all fun j => match l[j]? with
  | some x => (pgOf m x).state == 1 && !(l.take j).contains x
  | none => true

theorem mayGiveB_iff (m : Mp) (l : List Int) (k : Nat) : mayGiveB m l k = true ↔ mayGive m l k := by
  unfold mayGiveB mayGive
  rw [List.all_eq_true]
  constructor
  · intro h j x hj hx
    have := h j (List.mem_range.2 hj)
    rw [hx] at this
    simpa using this
  · intro h j hj
    cases hx : l[j]? with
    | none => rfl
    | some x =>
      have := h j x (List.mem_range.1 hj) hx
      simpa using this

instance (m : Mp) (l : List Int) (k : Nat) : Decidable (mayGive m l k) := decidable_of_iff _ (mayGiveB_iff m l k)

def hGive (H : List Mp) (part : Int) (l : List Int) (kind mark : Int) : Int × List Mp := match partM H part with
  | none => (-2, H)
  | some m => if kind < 1 ∨ kind > 3 ∨ l = [] then (-2, H) else if mayGive m l l.length then (0, H.set part.toNat (giveAll kind mark m l)) else (-6, H)

theorem IntsIn.len {s : SW} {l : List Int} {v : Value} (h : IntsIn s l v) : ∃ a c, v = .slice a l.length c := by
  rcases h with ⟨rfl, a, c, rfl, _⟩ | ⟨_, b, o, c, _, _, _, rfl, _⟩
  · exact ⟨a, c, rfl⟩
  · exact ⟨_, c, rfl⟩

theorem give_call {s : SW} {h la c : Nat} {ms : List Nat} {H : List Mp} (hh : HoldAt s h la c ms H) (hnd : ms.Nodup) (part kind mark : Int) (l : List Int) (v : Value) (hv : IntsIn s l v) (hl : l.length ≤ 1000000) :
    SCalls Try.prog 17 [.pointer (some ⟨h, 0, none⟩), .int .i64 part, v, .int .i64 kind, .int .u64 mark] s fun v s' =>
      v = .int .i64 (hGive H part l kind mark).1 ∧ HoldPost h la c ms (hGive H part l kind mark).2 s s' := by
  rcases of_call hh part with ⟨hn, hc⟩ | ⟨p, i, m, rfl, hp, hm, hmi, hHm, hi, hc⟩
  · refine SCalls.bodyL Try.func17 rfl rfl fun hwf => vcD_ok (D := fun _ => none) (n := 75) mixed (by kernel_rfl) ?_
    simp
    refine hc.mono ?_
    rintro v s' ⟨rfl, rfl⟩
    simp
    refine Post.refl ?_
    simp only [hGive, hn]
    exact ⟨trivial, .same hh hwf (.refl _)⟩
  have hto : ((p : Nat) : Int).toNat = p := by simp
  by_cases k1 : kind < 1
  · refine SCalls.bodyL Try.func17 rfl rfl fun hwf => vcD_ok (D := fun _ => none) (n := 75) mixed (by kernel_rfl) ?_
    simp
    refine hc.mono ?_
    rintro v' s' ⟨rfl, rfl⟩
    simp [k1]
    refine Post.refl ?_
    simp only [hGive, hm, k1, true_or, if_true]
    exact ⟨trivial, .same hh hwf (.refl _)⟩
  by_cases k2 : 3 < kind
  · refine SCalls.bodyL Try.func17 rfl rfl fun hwf => vcD_ok (D := fun _ => none) (n := 75) mixed (by kernel_rfl) ?_
    simp
    refine hc.mono ?_
    rintro v' s' ⟨rfl, rfl⟩
    simp [k1, k2]
    refine Post.refl ?_
    simp only [hGive, hm, k2, gt_iff_lt, true_or, or_true, if_true]
    exact ⟨trivial, .same hh hwf (.refl _)⟩
  rcases hv with ⟨rfl, a, c', rfl, _⟩ | ⟨hne, b, o, c', cs, own, g, rfl, hb, hcs⟩
  · refine SCalls.bodyL Try.func17 rfl rfl fun hwf => vcD_ok (D := fun _ => none) (n := 75) mixed (by kernel_rfl) ?_
    simp
    refine hc.mono ?_
    rintro v' s' ⟨rfl, rfl⟩
    simp [k1, k2]
    refine Post.refl ?_
    simp only [hGive, hm, or_true, if_true]
    exact ⟨trivial, .same hh hwf (.refl _)⟩
  have hlen0 : ¬ (l.length : Int) = 0 := by
    have : l.length ≠ 0 := fun e => hne (List.eq_nil_of_length_eq_zero e)
    omega
  have hlen0' : ((l.length : Int) == 0) = false := by simpa using hlen0
  have n3 := ne_of_heap hb hi
  refine SCalls.bodyL Try.func17 rfl rfl fun hwf => vcD_ok (D := fun _ => none) (n := 75) mixed (by kernel_rfl) ?_
  have l4 := hwf.lt hi
  have l3 := hwf.lt hb
  simp
  refine hc.mono ?_
  rintro v' s' ⟨rfl, rfl⟩
  simp [k1, k2, hlen0']
  refine SWp.upto l.length (fun k (_ : Unit) => mayGive m l k)
    (fun k _ => [junk, junk, .slice (some ⟨b, o, none⟩) l.length c', .int .i64 kind, .int .u64 mark, junk, junk, junk, junk, junk, junk, .map (some i), .map (some s'.next), junk, junk, junk, junk, junk, junk, junk, junk, junk, junk, junk, junk, junk, junk, junk, junk, junk, junk, junk, junk, junk, junk, junk, junk, .slice (some ⟨b, o, none⟩) l.length c', .int .i64 l.length, .int .i64 k, junk, junk, junk, junk, junk, junk, junk, junk, junk, junk, junk, junk, junk, junk, junk, junk, junk, junk, junk, junk, junk, junk, junk, junk, junk, junk, junk, junk, junk, junk, junk, junk, junk, junk, junk])
    (fun k _ => ⟨fun j => if j = s'.next then some (.map .i64 true (seenM (l.take k))) else s'.heap j, s'.next + 1⟩) () (fun j x hj => by omega) (by simp) ?_ ?_ ?_
  · exact SW.less_refl _
  · intro k _ hk hI
    obtain ⟨x, hx⟩ : ∃ x, l[k]? = some x := ⟨_, List.getElem?_eq_getElem hk⟩
    have hw : IntKind.i64.wrap ((k : Int) + 1) = k + 1 := Sh.wrap_small (by omega) (by omega)
    have hcx := hcs k x hx
    have e1 : ¬ b = s'.next := by omega
    have e2 : ¬ i = s'.next := by omega
    have hsn : seenM (l.take (k + 1)) = mput (seenM (l.take k)) x (.bool true) := by
      rw [List.take_add_one, hx]
      exact seenM_snoc _ _
    have hxl : x ∈ l := List.mem_of_getElem? hx
    have hbad : ((pgOf m x).state = 1 ∧ ¬ x ∈ l.take k → False) → hGive H (p : Int) l kind mark = (-6, H) := by
      intro hb
      have : ¬ mayGive m l l.length := fun hg => hb (hg k x hk hx)
      simp [hGive, hm, k1, k2, hne, this]
    cases hst : (pgOf m x).state == 1
    · have hst' : ¬ (pgOf m x).state = 1 := by simpa using hst
      refine vcD_ok (D := fun _ => none) (n := 75) mixed (by kernel_rfl) ?_
      simp [hk, hcx, hb, hi, e1, e2, look_enc, pv, hst, bne]
      refine Post.refl ?_
      rw [hbad fun h => hst' h.1]
      exact ⟨rfl, .same hh hwf ⟨by simp, fun j hj => by simp (disch := omega)⟩⟩
    · have hst' : (pgOf m x).state = 1 := by simpa using hst
      by_cases hsx : x ∈ l.take k
      · refine vcD_ok (D := fun _ => none) (n := 75) mixed (by kernel_rfl) ?_
        simp [hk, hcx, hb, hi, e1, e2, look_enc, pv, hst, bne, seenM_get, hsx, hw, hsn]
        refine Post.refl ?_
        rw [hbad fun h => h.2 hsx]
        exact ⟨rfl, .same hh hwf ⟨by simp, fun j hj => by simp (disch := omega)⟩⟩
      · refine vcD_ok (D := fun _ => none) (n := 75) mixed (by kernel_rfl) ?_
        simp [hk, hcx, hb, hi, e1, e2, look_enc, pv, hst, bne, seenM_get, hsx, hw, hsn]
        refine ⟨fun j y hj hy => ?_, fun j o hj => ?_, by simp⟩
        · rcases Nat.lt_or_ge j k with h | h
          · exact hI j y h hy
          · have : j = k := by omega
            subst this
            rw [hx] at hy; cases hy
            exact ⟨hst', hsx⟩
        · simp at hj ⊢
          grind
  · intro _ hI
    refine vcD_ok (D := fun _ => none) (n := 75) mixed (by kernel_rfl) ?_
    simp
    have hgood : hGive H (p : Int) l kind mark = (0, H.set p (giveAll kind mark m l)) := by
      simp [hGive, hm, k1, k2, hne, hI]
    refine SWp.upto l.length (fun k (_ : Unit) => True)
      (fun k _ => [junk, junk, junk, .int .i64 kind, .int .u64 mark, junk, junk, junk, junk, junk, junk, .map (some i), junk, junk, junk, junk, junk, junk, junk, junk, junk, junk, junk, junk, junk, junk, junk, junk, junk, junk, junk, junk, junk, junk, junk, junk, junk, junk, junk, junk, junk, junk, junk, junk, junk, junk, junk, junk, junk, junk, junk, junk, junk, junk, junk, junk, .slice (some ⟨b, o, none⟩) l.length c', .int .i64 l.length, .int .i64 k, junk, junk, junk, junk, junk, junk, junk, junk, junk, junk, junk, junk, junk, junk, junk, junk])
      (fun k _ => ⟨fun j => if j = i then some (.map .i64 true (encM (giveAll kind mark m (l.take k)))) else s'.heap j, s'.next + 1 + k⟩) () trivial (by simp) ?_ ?_ ?_
    · refine ⟨fun j o hj => ?_, by simp⟩
      simp [giveAll] at hj
      have := hwf j
      simp
      grind
    · intro k _ hk _
      obtain ⟨x, hx⟩ : ∃ x, l[k]? = some x := ⟨_, List.getElem?_eq_getElem hk⟩
      have hw : IntKind.i64.wrap ((k : Int) + 1) = k + 1 := Sh.wrap_small (by omega) (by omega)
      have hcx := hcs k x hx
      have hd : giveAll kind mark m (l.take (k + 1)) = giveOne kind mark (giveAll kind mark m (l.take k)) x := by
        simp [giveAll, List.take_add_one, hx, List.foldl_append]
      have hset := mput_enc (giveAll kind mark m (l.take k)) x { pgOf (giveAll kind mark m (l.take k)) x with state := if kind = 1 then 2 else 3, mark := mark }
      simp only [pv] at hset
      have e1 : ¬ b = s'.next + 1 + k := by omega
      have e2 : ¬ i = s'.next + 1 + k := by omega
      have e3 : ¬ s'.next + 1 + k = i := by omega
      by_cases hk1 : kind = 1
      · subst hk1
        simp only [if_true] at hset
        refine vcD_ok (D := fun _ => none) (n := 75) mixed (by kernel_rfl) ?_
        simp [hk, hcx, hb, n3, e1, e2, e3, look_enc, pv, hw, hd, giveOne, hset]
        refine ⟨fun j o hj => ?_, by simp; omega⟩
        simp at hj ⊢
        have := hwf j
        grind
      · simp only [hk1, if_false] at hset
        have hk1' : (kind == 1) = false := by simpa using hk1
        refine vcD_ok (D := fun _ => none) (n := 75) mixed (by kernel_rfl) ?_
        simp [hk, hcx, hb, n3, e1, e2, e3, look_enc, pv, hw, hd, giveOne, hset, hk1, hk1']
        refine ⟨fun j o hj => ?_, by simp; omega⟩
        simp at hj ⊢
        have := hwf j
        grind
    · intro _ _
      refine vcD_ok (D := fun _ => none) (n := 75) mixed (by kernel_rfl) ?_
      simp
      refine Post.refl ?_
      rw [hgood]
      refine ⟨rfl, .turned hh hwf hnd hmi ⟨by simp; omega, by simp, fun j hj hji => by simp [hji]⟩⟩

end Go.Proofs.Yteiclengdlhnnaa
