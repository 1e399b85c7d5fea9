/- hold: what lies where, and the small functions. -/
import Derived.Test.YteiclengdlhnnaaTy
import Derived.Test.YteiclengdlhnnaaSimC
namespace Go.Proofs.Yteiclengdlhnnaa
open Go Go.Sh
set_option maxRecDepth 20000
set_option maxHeartbeats 4000000
set_option linter.unusedSimpArgs false
set_option linter.unusedVariables false
attribute [local simp] sWanted sOp ev put pl1 pl0 sResults sResL oneOf sBin sGuardOk sEqT sInt sUn sConvNum sNil sField sFieldV sPart sIndex sLoad sStore sBuiltin sLen sLookup sMapUpdate sAlloc sBox sMakeMap SW.set SW.new setL Value.cells Value.oneCell' opAt cls stable sNew ancB readsHeap noResult Go.undef List.replicate ite_lt ite_gt frL Nat.testBit
attribute [local simp ↓] vcD_skip vcD_label vcD_exit vcD_goto vcD_ret vcD_seq vcD_cond vcD_block vcD_region vcD_draw vcD_loop vcD_scope vcOps_nil vcOps_cons vcOp_eq vcEnts_nil vcEnts_chk vcEnts_run thenQ_normal thenQ_exit thenQ_goto thenQ_ret inBlockQ_normal inBlockQ_exit inBlockQ_goto inBlockQ_ret bodyQ_normal bodyQ_ret Kont_apply entK_apply

structure Pg where
  frame : Int
  perm : Int
  state : Int
  mark : Int
  deriving DecidableEq

abbrev Mp := List (Int × Pg)

def pv (p : Pg) : Value := .agg #[.int .i64 p.frame, .int .i64 p.perm, .int .i64 p.state, .int .u64 p.mark]
def encM (m : Mp) : List (Int × Value) := m.map fun kv => (kv.1, pv kv.2)

def pgGet (m : Mp) (n : Int) : Option Pg := (m.find? fun kv => kv.1 == n).map (·.2)
def pg0 : Pg := ⟨0, 0, 0, 0⟩
def pgOf (m : Mp) (n : Int) : Pg := (pgGet m n).getD pg0
def pset (m : Mp) (n : Int) (p : Pg) : Mp := if (m.any fun kv => kv.1 == n) then m.map fun kv => if kv.1 == n then (n, p) else kv else m ++ [(n, p)]
def pdel (m : Mp) (n : Int) : Mp := m.filter fun kv => !(kv.1 == n)
def rising (m : Mp) : List Int := (m.map Prod.fst).mergeSort fun x y => decide (x ≤ y)

theorem mget_enc (m : Mp) (n : Int) : mget (encM m) n = (pgGet m n).map pv := by
  induction m with
  | nil => rfl
  | cons kv m ih =>
    unfold mget pgGet encM at *
    simp only [List.map_cons, List.find?_cons]
    by_cases h : kv.1 = n
    · simp [h]
    · have : (kv.1 == n) = false := by simpa using h
      simp only [this]
      exact ih

theorem look_enc (m : Mp) (n : Int) : (mget (encM m) n).getD (.agg #[.int .i64 0, .int .i64 0, .int .i64 0, .int .u64 0]) = pv (pgOf m n) := by
  rw [mget_enc]
  unfold pgOf
  cases pgGet m n <;> rfl

theorem look_is (m : Mp) (n : Int) : (mget (encM m) n).isSome = (pgGet m n).isSome := by
  rw [mget_enc]
  cases pgGet m n <;> rfl

theorem mput_enc (m : Mp) (n : Int) (p : Pg) : mput (encM m) n (pv p) = encM (pset m n p) := by
  have ha : ((encM m).any fun kv => kv.1 == n) = (m.any fun kv => kv.1 == n) := by simp [encM, List.any_map, Function.comp_def]
  unfold mput pset
  rw [ha]
  split
  · simp only [encM, List.map_map]
    apply List.map_congr_left
    intro kv _
    simp only [Function.comp]
    split <;> rfl
  · simp [encM]

theorem mdel_enc (m : Mp) (n : Int) : mdel (encM m) n = encM (pdel m n) := by
  simp [mdel, encM, pdel, List.filter_map, Function.comp_def]

theorem rising_enc (m : Mp) : risingKeys (encM m) = rising m := by
  simp [risingKeys, rising, encM, Function.comp_def]

theorem encM_length (m : Mp) : (encM m).length = m.length := by simp [encM]

/-- Where a hold's parts lie. -/
structure HoldAt (s : SW) (h la : Nat) (c : Nat) (ms : List Nat) (H : List Mp) : Prop where
  hd : s.heap h = some (.cells [.slice (some ⟨la, 0, none⟩) ms.length c] true 0)
  row : ∃ g, s.heap la = some (.cells (ms.map fun m => Value.map (some m)) true g)
  len : ms.length = H.length
  maps : ∀ (k i : Nat) (m : Mp), ms[k]? = some i → H[k]? = some m → s.heap i = some (.map .i64 true (encM m))

theorem of_some (s : SW) (part : Nat) (la h c : Nat) (ms : List Nat) (H : List Mp) (hh : HoldAt s h la c ms H) (hp : part < ms.length) :
    SCalls Try.prog 83 [.pointer (some ⟨h, 0, none⟩), .int .i64 part] s (fun v s' => s' = s ∧ v = .map (some ms[part])) := by
  obtain ⟨h1, ⟨g, h2⟩, _, _⟩ := hh
  have hq : ¬ ms.length ≤ part := by omega
  have hr : ¬ (part : Int) < 0 := by omega
  refine SCalls.body Try.func83 rfl rfl ?_
  refine vcD_ok (D := fun _ => none) (n := 27) mixed (by kernel_rfl) ?_
  simp [h1, hq, hr, hp, h2]

theorem of_none (s : SW) (part : Int) (la h c : Nat) (ms : List Nat) (H : List Mp) (hh : HoldAt s h la c ms H) (hp : part < 0 ∨ (ms.length : Int) ≤ part) :
    SCalls Try.prog 83 [.pointer (some ⟨h, 0, none⟩), .int .i64 part] s (fun v s' => s' = s ∧ v = .map none) := by
  obtain ⟨h1, ⟨g, h2⟩, _, _⟩ := hh
  refine SCalls.body Try.func83 rfl rfl ?_
  refine vcD_ok (D := fun _ => none) (n := 27) mixed (by kernel_rfl) ?_
  by_cases hr : part < 0
  · simp [h1, hr, hp, h2]
  · have hq : (ms.length : Int) ≤ part := hp.resolve_left hr
    simp [h1, hr, hq, h2]

theorem of_nil (s : SW) (part : Int) : SCalls Try.prog 83 [.pointer none, .int .i64 part] s (fun v s' => s' = s ∧ v = .map none) := by
  refine SCalls.body Try.func83 rfl rfl ?_
  refine vcD_ok (D := fun _ => none) (n := 27) mixed (by kernel_rfl) ?_
  simp

/-- A closure that tells pages apart, and turns nothing. -/
def Tells (s : SW) (g : Nat) (caps : List Value) (q : Pg → Bool) : Prop :=
  ∀ (p : Pg) (s' : SW), (∀ j, j < s.next → s'.heap j = s.heap j) → s.next ≤ s'.next → SCalls Try.prog g (pv p :: caps) s' fun v s'' => v = .bool (q p) ∧ ∃ n, s'.next ≤ n ∧ s'' = s'.at n

theorem tells_seen (s : SW) : Tells s 85 [] fun p => !(p.state == 3) := by
  intro p s' _ _
  refine SCalls.bodyL Try.func85 rfl rfl fun hwf => vcD_ok (D := fun _ => none) (n := 6) mixed (by kernel_rfl) ?_
  cases h : p.state == 3 <;> simp [pv, h, bne] <;>
  exact Post.at hwf (fun n hn => ⟨by simp [h], n, hn, rfl⟩) (fun j hj => by simp (disch := omega)) (by simp)

theorem tells_all (s : SW) : Tells s 86 [] fun _ => true := by
  intro p s' _ _
  refine SCalls.bodyL Try.func86 rfl rfl fun hwf => vcD_ok (D := fun _ => none) (n := 3) mixed (by kernel_rfl) ?_
  simp [pv]
  exact Post.at hwf (fun n hn => ⟨rfl, n, hn, rfl⟩) (fun j hj => by simp (disch := omega)) (by simp)

theorem tells_out (s : SW) (b : Nat) (mark : Int) (hb : s.heap b = some (.cells [.int .u64 mark] true 0)) (hlt : b < s.next) : Tells s 88 [.pointer (some ⟨b, 0, none⟩)] fun p => p.mark == mark && p.state == 4 := by
  intro p s' hs' hn
  refine SCalls.bodyL Try.func88 rfl rfl fun hwf => vcD_ok (D := fun _ => none) (n := 13) mixed (by kernel_rfl) ?_
  have hb' := (hs' b hlt).trans hb
  have hne : ¬ b = s'.next := by omega
  cases h : p.mark == mark <;> cases h4 : p.state == 4 <;> simp [pv, hb', hne, h, h4] <;>
  exact Post.at hwf (fun n hn => ⟨by simp [h, h4], n, hn, rfl⟩) (fun j hj => by simp (disch := omega)) (by simp)

theorem tells_given (s : SW) (b : Nat) (mark : Int) (hb : s.heap b = some (.cells [.int .u64 mark] true 0)) (hlt : b < s.next) : Tells s 136 [.pointer (some ⟨b, 0, none⟩)] fun p => p.mark == mark && (p.state == 2 || p.state == 3) := by
  intro p s' hs' hn
  refine SCalls.bodyL Try.func136 rfl rfl fun hwf => vcD_ok (D := fun _ => none) (n := 18) mixed (by kernel_rfl) ?_
  have hb' := (hs' b hlt).trans hb
  have hne : ¬ b = s'.next := by omega
  cases h : p.mark == mark <;> cases h4 : p.state == 2 <;> cases h5 : p.state == 3 <;> simp [pv, hb', hne, h, h4, h5] <;>
  exact Post.at hwf (fun n hn => ⟨by simp [h, h4, h5], n, hn, rfl⟩) (fun j hj => by simp (disch := omega)) (by simp)

end Go.Proofs.Yteiclengdlhnnaa
