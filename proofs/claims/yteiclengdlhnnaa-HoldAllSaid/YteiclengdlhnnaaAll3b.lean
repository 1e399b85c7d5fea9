/- HoldAll: its rows, its looks, its end. -/
import Derived.Test.YteiclengdlhnnaaAll3a
namespace Go.Proofs.Yteiclengdlhnnaa
open Go Go.Sh
set_option maxRecDepth 20000
set_option maxHeartbeats 4000000
set_option linter.unusedSimpArgs false
set_option linter.unusedVariables false
attribute [local simp] sWanted sOp ev put pl1 pl0 sResults sResL oneOf sBin sGuardOk sEqT sInt sUn sConvNum sNil sField sFieldV sPart sIndex sLoad sStore sBuiltin sLen sLookup sMapUpdate sAlloc sBox sMakeMap SW.set SW.new setL Value.cells Value.oneCell' opAt cls stable sNew ancB readsHeap noResult Go.undef List.replicate ite_lt ite_gt frL Nat.testBit
attribute [local simp ↓] vcD_skip vcD_label vcD_exit vcD_goto vcD_ret vcD_seq vcD_cond vcD_block vcD_region vcD_draw vcD_loop vcD_scope vcOps_nil vcOps_cons vcOp_eq vcEnts_nil vcEnts_chk vcEnts_run thenQ_normal thenQ_exit thenQ_goto thenQ_ret inBlockQ_normal inBlockQ_exit inBlockQ_goto inBlockQ_ret bodyQ_normal bodyQ_ret endsQ_normal endsQ_exit endsQ_goto endsQ_ret Kont_apply entK_apply

def rowsP : List Nat := [1, 1, 1, 1, 0]
def looksP : List Nat := [1, 1, 1, 1, 1, 1, 0, 1, 0, 0, 1, 0, 0, 1, 1, 1, 1, 1, 1]
def tailP : List Nat := [1, 1, 1, 1, 1, 1, 1]

theorem all_rows {s1 : SW} {va : Option Addr} {dl vc : Nat} {part page : Int} {cd : Code} (hcd : codeOf Try.f4 rowsP = some cd) :
    SWp Try.prog cd (endsQ fun fr' s' => ∃ rows : List Value, RowsInv s1 s1.next rows (fun j => if j < 3 then firstR j else []) s' ∧ frL ([.slice va dl vc, .int .i64 part, .int .i64 page, junk, junk, junk, junk, .pointer (some ⟨s1.next, 0, none⟩), junk, junk, junk, junk, junk, junk, junk, junk, junk, junk, junk, junk, junk, junk, junk, junk, junk, junk, junk, junk, junk, junk, junk, junk, junk, junk, junk, junk, junk, junk, junk, junk, junk, junk, junk, junk, junk, junk, junk, junk, junk, junk, junk, junk, junk, junk, junk, junk, junk, junk, junk, junk, junk, junk, junk, junk, junk, junk, junk, junk, junk, junk, junk, junk, junk, junk, junk, junk, junk, junk, junk, junk, junk, junk, junk, junk, junk, junk, junk, junk, junk, junk, junk, junk, junk, junk, junk, junk, junk, junk, junk, junk, junk, junk, junk, junk, junk, junk, junk, junk, junk, junk, junk, junk, junk, junk, junk, junk, junk, junk, junk, junk, junk, junk, junk, junk, junk, junk, junk, junk, junk, junk, junk, junk, junk, junk, junk, junk, junk, junk, junk, junk, junk, junk, junk, junk, junk, junk, junk, junk, junk, junk, junk, junk, junk, junk, junk, junk, junk, junk, junk, junk, junk, junk, junk, junk, junk, junk, junk, junk, junk, junk, junk, junk, junk, junk, junk, junk, junk, junk, junk, junk, junk, junk, junk, junk, junk, junk, junk, junk, junk, junk, junk, junk, junk, junk, junk, junk, junk, junk, junk, junk, junk, junk, junk, junk, junk, junk, junk, junk, junk, junk, junk, junk, junk, junk, junk, junk, junk, junk, junk, junk, junk, junk, junk, junk, junk, junk, junk, junk, junk, junk, junk, junk, junk, junk, junk, junk, junk, junk, junk, junk, junk, junk, junk, junk, junk, junk, junk, junk, junk, junk, junk, junk, junk, junk, junk, junk, junk, junk, junk, junk, junk, junk, junk, junk, junk, junk, junk, junk, junk, junk, junk, junk, junk, junk, junk, junk, junk, junk, junk, junk, junk, junk, junk, junk, junk, junk, junk, junk, junk, junk, junk, junk, junk, junk, junk, junk, junk, junk, junk, junk, junk, junk, junk, junk, junk, junk, junk, junk, junk, junk, junk, junk, junk, junk, junk, junk, junk, junk, junk, junk, junk, junk, junk, junk, junk, junk, junk, junk, junk, junk, junk, junk, junk, junk, junk, junk, junk, junk, junk, junk, junk, junk, junk]) fr')
      ([.slice va dl vc, .int .i64 part, .int .i64 page, junk, junk, junk, junk, .pointer (some ⟨s1.next, 0, none⟩), junk, junk, junk, junk, junk, junk, junk, junk, junk, junk, junk, junk, junk, junk, junk, junk, junk, junk, junk, junk, junk, junk, junk, junk, junk, junk, junk, junk, junk, junk, junk, junk, junk, junk, junk, junk, junk, junk, junk, junk, junk, junk, junk, junk, junk, junk, junk, junk, junk, junk, junk, junk, junk, junk, junk, junk, junk, junk, junk, junk, junk, junk, junk, junk, junk, junk, junk, junk, junk, junk, junk, junk, junk, junk, junk, junk, junk, junk, junk, junk, junk, junk, junk, junk, junk, junk, junk, junk, junk, junk, junk, junk, junk, junk, junk, junk, junk, junk, junk, junk, junk, junk, junk, junk, junk, junk, junk, junk, junk, junk, junk, junk, junk, junk, junk, junk, junk, junk, junk, junk, junk, junk, junk, junk, junk, junk, junk, junk, junk, junk, junk, junk, junk, junk, junk, junk, junk, junk, junk, junk, junk, junk, junk, junk, junk, junk, junk, junk, junk, junk, junk, junk, junk, junk, junk, junk, junk, junk, junk, junk, junk, junk, junk, junk, junk, junk, junk, junk, junk, junk, junk, junk, junk, junk, junk, junk, junk, junk, junk, junk, junk, junk, junk, junk, junk, junk, junk, junk, junk, junk, junk, junk, junk, junk, junk, junk, junk, junk, junk, junk, junk, junk, junk, junk, junk, junk, junk, junk, junk, junk, junk, junk, junk, junk, junk, junk, junk, junk, junk, junk, junk, junk, junk, junk, junk, junk, junk, junk, junk, junk, junk, junk, junk, junk, junk, junk, junk, junk, junk, junk, junk, junk, junk, junk, junk, junk, junk, junk, junk, junk, junk, junk, junk, junk, junk, junk, junk, junk, junk, junk, junk, junk, junk, junk, junk, junk, junk, junk, junk, junk, junk, junk, junk, junk, junk, junk, junk, junk, junk, junk, junk, junk, junk, junk, junk, junk, junk, junk, junk, junk, junk, junk, junk, junk, junk, junk, junk, junk, junk, junk, junk, junk, junk, junk, junk, junk, junk, junk, junk, junk, junk, junk, junk, junk, junk, junk, junk, junk, junk, junk, junk, junk, junk, junk, junk, junk, junk, junk, junk, junk, junk, junk, junk, junk, junk]) ⟨fun j => if j = s1.next then some (.cells [.slice none 0 0, .slice none 0 0, .slice none 0 0] true 0) else s1.heap j, s1.next + 1⟩ := by
  cases hcd
  refine vcD_ok (D := fun _ => none) (n := 343) mixed (by kernel_rfl) ?_
  simp
  refine SWp.uptoR 3 (fun i (rows : List Value) s' => RowsInv s1 s1.next rows (fun j => if j < i then firstR j else []) s')
    (fun i rows => [.slice va dl vc, .int .i64 part, .int .i64 page, junk, junk, junk, junk, .pointer (some ⟨s1.next, 0, none⟩), .int .i64 i, junk, junk, junk, junk, junk, junk, junk, junk, junk, junk, junk, junk, junk, junk, junk, junk, junk, junk, junk, junk, junk, junk, junk, junk, junk, junk, junk, junk, junk, junk, junk, junk, junk, junk, junk, junk, junk, junk, junk, junk, junk, junk, junk, junk, junk, junk, junk, junk, junk, junk, junk, junk, junk, junk, junk, junk, junk, junk, junk, junk, junk, junk, junk, junk, junk, junk, junk, junk, junk, junk, junk, junk, junk, junk, junk, junk, junk, junk, junk, junk, junk, junk, junk, junk, junk, junk, junk, junk, junk, junk, junk, junk, junk, junk, junk, junk, junk, junk, junk, junk, junk, junk, junk, junk, junk, junk, junk, junk, junk, junk, junk, junk, junk, junk, junk, junk, junk, junk, junk, junk, junk, junk, junk, junk, junk, junk, junk, junk, junk, junk, junk, junk, junk, junk, junk, junk, junk, junk, junk, junk, junk, junk, junk, junk, junk, junk, junk, junk, junk, junk, junk, junk, junk, junk, junk, junk, junk, junk, junk, junk, junk, junk, junk, junk, junk, junk, junk, junk, junk, junk, junk, junk, junk, junk, junk, junk, junk, junk, junk, junk, junk, junk, junk, junk, junk, junk, junk, junk, junk, junk, junk, junk, junk, junk, junk, junk, junk, junk, junk, junk, junk, junk, junk, junk, junk, junk, junk, junk, junk, junk, junk, junk, junk, junk, junk, junk, junk, junk, junk, junk, junk, junk, junk, junk, junk, junk, junk, junk, junk, junk, junk, junk, junk, junk, junk, junk, junk, junk, junk, junk, junk, junk, junk, junk, junk, junk, junk, junk, junk, junk, junk, junk, junk, junk, junk, junk, junk, junk, junk, junk, junk, junk, junk, junk, junk, junk, junk, junk, junk, junk, junk, junk, junk, junk, junk, junk, junk, junk, junk, junk, junk, junk, junk, junk, junk, junk, junk, junk, junk, junk, junk, junk, junk, junk, junk, junk, junk, junk, junk, junk, junk, junk, junk, junk, junk, junk, junk, junk, junk, junk, junk, junk, junk, junk, junk, junk, junk, junk, junk, junk, junk, junk, junk, junk, junk, junk, junk, junk, junk, junk, junk, junk, junk, junk])
    [.slice none 0 0, .slice none 0 0, .slice none 0 0] ?_ (by simp) ?_ ?_
  · refine ⟨agree_new s1 _, Nat.le_refl _, by simp, rfl, ?_, ?_, ?_⟩
    · intro j v hj
      have : v = .slice none 0 0 := by
        match j with
        | 0 => simpa using hj.symm
        | 1 => simpa using hj.symm
        | 2 => simpa using hj.symm
        | j + 3 => simp at hj
      subst this
      exact .inl ⟨by simp, rfl⟩
    · intro j v b hj hb
      have : v = .slice none 0 0 := by
        match j with
        | 0 => simpa using hj.symm
        | 1 => simpa using hj.symm
        | 2 => simpa using hj.symm
        | j + 3 => simp at hj
      subst this
      cases hb
    · intro i j v w b hi _ _ hb
      have : v = .slice none 0 0 := by
        match i with
        | 0 => simpa using hi.symm
        | 1 => simpa using hi.symm
        | 2 => simpa using hi.symm
        | i + 3 => simp at hi
      subst this
      cases hb
  · rintro i rows s3 hi hwf3 hI
    have hi3 : (i : Int) < 3 := by omega
    have hwi : IntKind.i64.wrap ((i : Int) + 1) = i + 1 := Sh.wrap_small (by omega) (by omega)
    refine vcD_ok (D := fun _ => none) (n := 343) mixed (by kernel_rfl) ?_
    simp [hi3]
    refine SWp.uptoR (4 + i) (fun k (rows : List Value) s' => RowsInv s1 s1.next rows (fun j => if j < i then firstR j else if j = i then (firstR i).take k else []) s')
      (fun k rows => [.slice va dl vc, .int .i64 part, .int .i64 page, junk, junk, junk, junk, .pointer (some ⟨s1.next, 0, none⟩), .int .i64 i, .int .i64 k, junk, junk, junk, junk, junk, junk, junk, junk, junk, junk, junk, junk, junk, junk, junk, junk, junk, junk, junk, junk, junk, junk, junk, junk, junk, junk, junk, junk, junk, junk, junk, junk, junk, junk, junk, junk, junk, junk, junk, junk, junk, junk, junk, junk, junk, junk, junk, junk, junk, junk, junk, junk, junk, junk, junk, junk, junk, junk, junk, junk, junk, junk, junk, junk, junk, junk, junk, junk, junk, junk, junk, junk, junk, junk, junk, junk, junk, junk, junk, junk, junk, junk, junk, junk, junk, junk, junk, junk, junk, junk, junk, junk, junk, junk, junk, junk, junk, junk, junk, junk, junk, junk, junk, junk, junk, junk, junk, junk, junk, junk, junk, junk, junk, junk, junk, junk, junk, junk, junk, junk, junk, junk, junk, junk, junk, junk, junk, junk, junk, junk, junk, junk, junk, junk, junk, junk, junk, junk, junk, junk, junk, junk, junk, junk, junk, junk, junk, junk, junk, junk, junk, junk, junk, junk, junk, junk, junk, junk, junk, junk, junk, junk, junk, junk, junk, junk, junk, junk, junk, junk, junk, junk, junk, junk, junk, junk, junk, junk, junk, junk, junk, junk, junk, junk, junk, junk, junk, junk, junk, junk, junk, junk, junk, junk, junk, junk, junk, junk, junk, junk, junk, junk, junk, junk, junk, junk, junk, junk, junk, junk, junk, junk, junk, junk, junk, junk, junk, junk, junk, junk, junk, junk, junk, junk, junk, junk, junk, junk, junk, junk, junk, junk, junk, junk, junk, junk, junk, junk, junk, junk, junk, junk, junk, junk, junk, junk, junk, junk, junk, junk, junk, junk, junk, junk, junk, junk, junk, junk, junk, junk, junk, junk, junk, junk, junk, junk, junk, junk, junk, junk, junk, junk, junk, junk, junk, junk, junk, junk, junk, junk, junk, junk, junk, junk, junk, junk, junk, junk, junk, junk, junk, junk, junk, junk, junk, junk, junk, junk, junk, junk, junk, junk, junk, junk, junk, junk, junk, junk, junk, junk, junk, junk, junk, junk, junk, junk, junk, junk, junk, junk, junk, junk, junk, junk, junk, junk, junk, junk, junk, junk, junk, junk, junk])
      rows ?_ (by simp) ?_ ?_
    · have : (fun j => if j < i then firstR j else if j = i then (firstR i).take 0 else []) = fun j => if j < i then firstR j else [] := by
        funext j
        simp
      rw [this]
      exact hI
    · rintro k rows s4 hk hwf4 hI
      have hk4 : (k : Int) < 4 + (i : Int) := by omega
      have hw0 : IntKind.i64.wrap (4 + (i : Int)) = 4 + i := Sh.wrap_small (by omega) (by omega)
      have hw1 : IntKind.i64.wrap (10 * (i : Int)) = 10 * i := Sh.wrap_small (by omega) (by omega)
      have hw2 : IntKind.i64.wrap (10 * (i : Int) + (k : Int)) = 10 * i + k := Sh.wrap_small (by omega) (by omega)
      have hwk : IntKind.i64.wrap ((k : Int) + 1) = k + 1 := Sh.wrap_small (by omega) (by omega)
      have hlen := hI.len
      obtain ⟨v, hv⟩ : ∃ v, rows[i]? = some v := ⟨_, List.getElem?_eq_getElem (by omega)⟩
      have hrow := hI.row i v hv
      simp only [Nat.lt_irrefl, if_false, if_true] at hrow
      obtain ⟨bv, sx, v', s5, e1, e2, e3, e4, e5, hwf5⟩ := append_leaf s4 hwf4 _ v (10 * (i : Int) + (k : Int), 7) hrow (Nat.le_trans (List.length_take_le _ _) (by omega))
      have htk : (firstR i).take k ++ [(10 * (i : Int) + (k : Int), (7 : Int))] = (firstR i).take (k + 1) := by
        rw [List.take_add_one, firstR_get i k hk]; rfl
      have hil : i < rows.length := by omega
      have hc4 := hI.cells
      obtain ⟨hc5, hI'⟩ := hI.step hwf4 hwf5 hv (x := (10 * (i : Int) + (k : Int), 7)) (v' := v') (s' := s5) (by simpa using e3) e4 e5
      have hfun : (fun j => if j = i then (if i < i then firstR i else if i = i then (firstR i).take k else []) ++ [(10 * (i : Int) + (k : Int), (7 : Int))] else (if j < i then firstR j else if j = i then (firstR i).take k else [])) =
          fun j => if j < i then firstR j else if j = i then (firstR i).take (k + 1) else [] := by
        funext j
        by_cases hj : j = i
        · subst hj; simp [htk]
        · simp [hj]
      rw [hfun] at hI'
      rcases e3 with ⟨h0, _⟩ | ⟨_, b', rfl, _⟩
      · simp at h0
      have hv' : rows[i] = v := by rw [List.getElem?_eq_getElem hil] at hv; exact Option.some.inj hv
      refine vcD_ok (D := fun _ => none) (n := 343) mixed (by kernel_rfl) ?_
      have hi2 : i ≤ 2 := by omega
      simp [hk4, hw0, hw1, hw2, hwk, hi3, hc4, hv, hv', build25, e1, e2, hc5, hlen, hil, hi, hi2]
      exact ⟨_, by simpa using hI'⟩
    · rintro rows s4 hwf4 hI
      have hfun : (fun j => if j < i then firstR j else if j = i then (firstR i).take (4 + i) else []) = fun j => if j < i + 1 then firstR j else [] := by
        funext j
        by_cases hj : j = i
        · subst hj
          have : (firstR j).take (4 + j) = firstR j := List.take_of_length_le (by simp [firstR])
          simp [this]
        · by_cases hj2 : j < i
          · have : j < i + 1 := by omega
            simp [hj2, this]
          · have : ¬ j < i + 1 := by omega
            simp [hj, hj2, this]
      rw [hfun] at hI
      have hw0 : IntKind.i64.wrap (4 + (i : Int)) = 4 + i := Sh.wrap_small (by omega) (by omega)
      refine vcD_ok (D := fun _ => none) (n := 343) mixed (by kernel_rfl) ?_
      simp [hw0, hwi]
      exact ⟨_, hI⟩
  · rintro rows s3 hwf3 hI
    refine vcD_ok (D := fun _ => none) (n := 343) mixed (by kernel_rfl) ?_
    simp
    exact ⟨_, hI⟩

theorem all_looks {s0 s8 : SW} {h la : Nat} {ms : List Nat} {h' la' : Nat} {ms' : List Nat} {H' : List Mp} {a0 : Value} {part page k : Int} (hwf8 : s8.wf) (t8 : TwoAt s0 h la 3 ms h' la' 3 ms' H' s8)
    {cd : Code} (hcd : codeOf Try.f4 looksP = some cd) :
    SWp Try.prog cd (endsQ fun fr' s' => TwoAt s0 h la 3 ms h' la' 3 ms' H' s' ∧ frL ([a0, .int .i64 part, .int .i64 page, junk, junk, junk, junk, junk, junk, junk, .pointer (some ⟨h, 0, none⟩), .pointer (some ⟨h', 0, none⟩), .int .i64 k, junk, junk, junk, junk, junk, junk, junk, junk, junk, junk, junk, junk, junk, junk, junk, junk, junk, junk, junk, junk, junk, junk, junk, junk, junk, junk, junk, junk, junk, junk, junk, junk, junk, junk, junk, junk, junk, junk, junk, junk, junk, junk, junk, junk, junk, junk, junk, junk, junk, junk, junk, junk, junk, junk, junk, junk, junk, junk, junk, junk, junk, junk, junk, junk, junk, junk, junk, junk, junk, junk, junk, junk, junk, junk, junk, junk, junk, junk, junk, junk, junk, junk, junk, junk, junk, junk, junk, junk, junk, junk, junk, junk, junk, junk, junk, junk, junk, junk, junk, junk, junk, junk, junk, junk, junk, junk, junk, junk, junk, junk, junk, junk, junk, junk, junk, junk, junk, junk, junk, junk, junk, junk, junk, junk, junk, junk, junk, junk, junk, junk, junk, junk, junk, junk, junk, junk, junk, junk, junk, junk, junk, junk, junk, junk, junk, junk, junk, junk, junk, junk, junk, junk, junk, junk, junk, junk, junk, junk, junk, junk, junk, junk, junk, junk, junk, junk, junk, junk, junk, junk, junk, junk, junk, junk, junk, junk, junk, junk, junk, junk, junk, junk, junk, junk, junk, junk, junk, junk, junk, junk, junk, junk, junk, junk, junk, junk, junk, junk, junk, junk, junk, junk, junk, junk, junk, junk, junk, junk, junk, junk, junk, junk, junk, junk, junk, junk, junk, junk, junk, junk, junk, junk, junk, junk, junk, junk, junk, junk, junk, junk, junk, junk, junk, junk, junk, junk, junk, junk, junk, junk, junk, junk, junk, junk, junk, junk, junk, junk, junk, junk, junk, junk, junk, junk, junk, junk, junk, junk, junk, junk, junk, junk, junk, junk, junk, junk, junk, junk, junk, junk, junk, junk, junk, junk, junk, junk, junk, junk, junk, junk, junk, junk, junk, junk, junk, junk, junk, junk, junk, junk, junk, junk, junk, junk, junk, junk, junk, junk, junk, junk, junk, junk, junk, junk, junk, junk, junk, junk, junk, junk, junk, junk, junk, junk, junk, junk, junk, junk, junk, junk, junk, junk, junk, junk, junk, junk, junk, junk, junk, junk]) fr')
      ([a0, .int .i64 part, .int .i64 page, junk, junk, junk, junk, junk, junk, junk, .pointer (some ⟨h, 0, none⟩), .pointer (some ⟨h', 0, none⟩), .int .i64 k, junk, junk, junk, junk, junk, junk, junk, junk, junk, junk, junk, junk, junk, junk, junk, junk, junk, junk, junk, junk, junk, junk, junk, junk, junk, junk, junk, junk, junk, junk, junk, junk, junk, junk, junk, junk, junk, junk, junk, junk, junk, junk, junk, junk, junk, junk, junk, junk, junk, junk, junk, junk, junk, junk, junk, junk, junk, junk, junk, junk, junk, junk, junk, junk, junk, junk, junk, junk, junk, junk, junk, junk, junk, junk, junk, junk, junk, junk, junk, junk, junk, junk, junk, junk, junk, junk, junk, junk, junk, junk, junk, junk, junk, junk, junk, junk, junk, junk, junk, junk, junk, junk, junk, junk, junk, junk, junk, junk, junk, junk, junk, junk, junk, junk, junk, junk, junk, junk, junk, junk, junk, junk, junk, junk, junk, junk, junk, junk, junk, junk, junk, junk, junk, junk, junk, junk, junk, junk, junk, junk, junk, junk, junk, junk, junk, junk, junk, junk, junk, junk, junk, junk, junk, junk, junk, junk, junk, junk, junk, junk, junk, junk, junk, junk, junk, junk, junk, junk, junk, junk, junk, junk, junk, junk, junk, junk, junk, junk, junk, junk, junk, junk, junk, junk, junk, junk, junk, junk, junk, junk, junk, junk, junk, junk, junk, junk, junk, junk, junk, junk, junk, junk, junk, junk, junk, junk, junk, junk, junk, junk, junk, junk, junk, junk, junk, junk, junk, junk, junk, junk, junk, junk, junk, junk, junk, junk, junk, junk, junk, junk, junk, junk, junk, junk, junk, junk, junk, junk, junk, junk, junk, junk, junk, junk, junk, junk, junk, junk, junk, junk, junk, junk, junk, junk, junk, junk, junk, junk, junk, junk, junk, junk, junk, junk, junk, junk, junk, junk, junk, junk, junk, junk, junk, junk, junk, junk, junk, junk, junk, junk, junk, junk, junk, junk, junk, junk, junk, junk, junk, junk, junk, junk, junk, junk, junk, junk, junk, junk, junk, junk, junk, junk, junk, junk, junk, junk, junk, junk, junk, junk, junk, junk, junk, junk, junk, junk, junk, junk, junk, junk, junk, junk, junk, junk, junk, junk, junk, junk, junk, junk]) s8 := by
  cases hcd
  refine SWp.seq (vcD_ok (D := fun _ => none) (n := 343) mixed (by kernel_rfl) ?_)
  simp
  refine SWp.block ?_
  refine SWp.uptoR 5 (fun (_ : Nat) (_ : Unit) s' => TwoAt s0 h la 3 ms h' la' 3 ms' H' s')
    (fun j _ => [a0, .int .i64 part, .int .i64 page, junk, junk, junk, junk, junk, junk, junk, .pointer (some ⟨h, 0, none⟩), .pointer (some ⟨h', 0, none⟩), .int .i64 k, junk, junk, junk, junk, junk, .int .i64 ((j : Int) - 1), junk, junk, junk, junk, junk, junk, junk, junk, junk, junk, junk, junk, junk, junk, junk, junk, junk, junk, junk, junk, junk, junk, junk, junk, junk, junk, junk, junk, junk, junk, junk, junk, junk, junk, junk, junk, junk, junk, junk, junk, junk, junk, junk, junk, junk, junk, junk, junk, junk, junk, junk, junk, junk, junk, junk, junk, junk, junk, junk, junk, junk, junk, junk, junk, junk, junk, junk, junk, junk, junk, junk, junk, junk, junk, junk, junk, junk, junk, junk, junk, junk, junk, junk, junk, junk, junk, junk, junk, junk, junk, junk, junk, junk, junk, junk, junk, junk, junk, junk, junk, junk, junk, junk, junk, junk, junk, junk, junk, junk, junk, junk, junk, junk, junk, junk, junk, junk, junk, junk, junk, junk, junk, junk, junk, junk, junk, junk, junk, junk, junk, junk, junk, junk, junk, junk, junk, junk, junk, junk, junk, junk, junk, junk, junk, junk, junk, junk, junk, junk, junk, junk, junk, junk, junk, junk, junk, junk, junk, junk, junk, junk, junk, junk, junk, junk, junk, junk, junk, junk, junk, junk, junk, junk, junk, junk, junk, junk, junk, junk, junk, junk, junk, junk, junk, junk, junk, junk, junk, junk, junk, junk, junk, junk, junk, junk, junk, junk, junk, junk, junk, junk, junk, junk, junk, junk, junk, junk, junk, junk, junk, junk, junk, junk, junk, junk, junk, junk, junk, junk, junk, junk, junk, junk, junk, junk, junk, junk, junk, junk, junk, junk, junk, junk, junk, junk, junk, junk, junk, junk, junk, junk, junk, junk, junk, junk, junk, junk, junk, junk, junk, junk, junk, junk, junk, junk, junk, junk, junk, junk, junk, junk, junk, junk, junk, junk, junk, junk, junk, junk, junk, junk, junk, junk, junk, junk, junk, junk, junk, junk, junk, junk, junk, junk, junk, junk, junk, junk, junk, junk, junk, junk, junk, junk, junk, junk, junk, junk, junk, junk, junk, junk, junk, junk, junk, junk, junk, junk, junk, junk, junk, junk, junk, junk, junk, junk, junk, junk, junk, junk, junk, junk, junk, junk, junk]) () t8 (by simp) ?_ ?_
  · rintro j _ s10 hj hwf10 t10
    have hj3 : (j : Int) - 1 ≤ 3 := by omega
    have hwj : IntKind.i64.wrap ((j : Int) - 1 + 1) = j := by
      rw [wrap_i64 (by omega) (by omega)]; omega
    refine vcD_ok (D := fun _ => none) (n := 343) mixed (by kernel_rfl) ?_
    simp [hj3]
    refine (rpages_call t10.b ((j : Int) - 1)).monoW ?_
    rintro v s11 hwf11 ⟨hv11, ag11⟩
    have t11 := t10.mono hwf10 ag11
    have hlen := rsuchOf_length H' ((j : Int) - 1) (seenQ true)
    have hlen2 := rsuchOf_length H' ((j : Int) - 1) (seenQ false)
    simp
    refine (t11.pages ((j : Int) - 1)).monoW ?_
    rintro w s12 hwf12 ⟨hv12, ag12⟩
    have t12 := t11.mono hwf11 ag12
    replace hv11 := hv11.agree hwf11 ag12
    simp
    refine (same_call s12 _ _ w v hv12.ints hv11.ints (by omega) (by omega)).monoW ?_
    rintro r s13 hwf13 ⟨rfl, rfl⟩
    simp
    refine (t12.seen ((j : Int) - 1)).monoW ?_
    rintro w2 s14 hwf14 ⟨hv14, ag14⟩
    have t14 := t12.mono hwf12 ag14
    replace hv11 := hv11.agree hwf12 ag14
    simp
    refine (rseen_call t14.b ((j : Int) - 1)).monoW ?_
    rintro w3 s15 hwf15 ⟨hv15, ag15⟩
    have t15 := t14.mono hwf14 ag15
    replace hv11 := hv11.agree hwf14 ag15
    replace hv14 := hv14.agree hwf14 ag15
    simp
    refine (same_call s15 _ _ w2 w3 hv14.ints hv15.ints (by omega) (by omega)).monoW ?_
    rintro r s16 hwf16 ⟨rfl, rfl⟩
    simp
    generalize rsuchOf H' ((j : Int) - 1) (seenQ true) = L at hv11 hlen
    refine SWp.uptoR L.length (fun (_ : Nat) (_ : Unit) s' => TwoAt s0 h la 3 ms h' la' 3 ms' H' s' ∧ RowIs s' L v)
      (fun i _ => [a0, .int .i64 part, .int .i64 page, junk, junk, junk, junk, junk, junk, junk, .pointer (some ⟨h, 0, none⟩), .pointer (some ⟨h', 0, none⟩), .int .i64 k, junk, junk, junk, junk, junk, .int .i64 ((j : Int) - 1), v, .int .i64 i, junk, junk, junk, junk, junk, junk, junk, junk, junk, junk, junk, junk, junk, junk, junk, junk, junk, junk, junk, junk, junk, junk, junk, junk, junk, junk, junk, junk, junk, junk, junk, junk, junk, junk, junk, junk, junk, junk, junk, junk, junk, junk, junk, junk, junk, junk, junk, junk, junk, junk, junk, junk, junk, junk, junk, junk, junk, junk, junk, junk, junk, junk, junk, junk, junk, junk, junk, junk, junk, junk, junk, junk, junk, junk, junk, junk, junk, junk, junk, junk, junk, junk, junk, junk, junk, junk, junk, junk, junk, junk, junk, junk, junk, junk, junk, junk, junk, junk, junk, junk, junk, junk, junk, junk, junk, junk, junk, junk, junk, junk, junk, junk, junk, junk, junk, junk, junk, junk, junk, junk, junk, junk, junk, junk, junk, junk, junk, junk, junk, junk, junk, junk, junk, junk, junk, junk, junk, junk, junk, junk, junk, junk, junk, junk, junk, junk, junk, junk, junk, junk, junk, junk, junk, junk, junk, junk, junk, junk, junk, junk, junk, junk, junk, junk, junk, junk, junk, junk, junk, junk, junk, junk, junk, junk, junk, junk, junk, junk, junk, junk, junk, junk, junk, junk, junk, junk, junk, junk, junk, junk, junk, junk, junk, junk, junk, junk, junk, junk, junk, junk, junk, junk, junk, junk, junk, junk, junk, junk, junk, junk, junk, junk, junk, junk, junk, junk, junk, junk, junk, junk, junk, junk, junk, junk, junk, junk, junk, junk, junk, junk, junk, junk, junk, junk, junk, junk, junk, junk, junk, junk, junk, junk, junk, junk, junk, junk, junk, junk, junk, junk, junk, junk, junk, junk, junk, junk, junk, junk, junk, junk, junk, junk, junk, junk, junk, junk, junk, junk, junk, junk, junk, junk, junk, junk, junk, junk, junk, junk, junk, junk, junk, junk, junk, junk, junk, junk, junk, junk, junk, junk, junk, junk, junk, junk, junk, junk, junk, junk, junk, junk, junk, junk, junk, junk, junk, junk, junk, junk, junk, junk, junk, junk, junk, junk, junk, junk, junk, junk, junk, junk, junk, junk]) () ⟨t15, hv11⟩ (by simp) ?_ ?_
    · rintro i _ s17 hi hwf17 ⟨t17, hv17⟩
      obtain ⟨x, hx⟩ : ∃ x, L[i]? = some x := ⟨_, List.getElem?_eq_getElem hi⟩
      have hx' : L[i] = x := by rw [List.getElem?_eq_getElem hi] at hx; exact Option.some.inj hx
      have hwi : IntKind.i64.wrap ((i : Int) + 1) = i + 1 := Sh.wrap_small (by omega) (by omega)
      have hv17' := hv17
      rcases hv17 with ⟨h0, _⟩ | ⟨_, b19, rfl, h19⟩
      · rw [h0] at hi; simp at hi
      have hi' : (i : Int) < L.length := by omega
      have l19 := hwf17.lt h19
      refine vcD_ok (D := fun _ => none) (n := 343) mixed (by kernel_rfl) ?_
      simp [-sBin, lss_i64, hi, hi', h19, intsC, hx, hx']
      refine (get_call t17.a ((j : Int) - 1) x).monoW ?_
      rintro r s18 hwf18 ⟨rfl, ag18⟩
      have t18 := t17.mono hwf17 ag18
      have h19' := (ag18.2 _ l19).trans h19
      have l19' := hwf18.lt h19'
      have e19 : ¬ b19 = s18.next := by omega
      generalize hG : (getOf H' ((j : Int) - 1) x).getD pg0 = G
      generalize hB : (getOf H' ((j : Int) - 1) x).isSome = B
      simp [-sBin, hi, hi', h19', intsC, hx, hx', pv, e19]
      refine SCalls.gen fun s19 hs19 => ?_
      have ag19 : Agree s18 s19 := by rw [hs19]; exact ⟨by simp, fun j hj => by simp (disch := omega)⟩
      have f19 : s19.heap s18.next = some (.cells [.int .i64 G.frame, .int .i64 G.perm, .int .i64 G.state, .int .u64 G.mark] true 0) := by rw [hs19]; simp
      clear hs19
      refine SCalls.wf (by kernel_rfl) fun hwf19 => ?_
      have t19 := t18.mono hwf18 ag19
      have hr := rget_call t19.b ((j : Int) - 1) x
      rw [hG, hB] at hr
      refine hr.monoW ?_
      rintro r s20 hwf20 ⟨rfl, ag20⟩
      have t20 := t19.mono hwf19 ag20
      have f20 := (ag20.2 _ (hwf19.lt f19)).trans f19
      have l20 := hwf20.lt f20
      have e20 : ¬ s18.next = s20.next := by omega
      simp [-sBin, pv, f20, e20, neq37_same, neq4, add_i64, hwi]
      have ag21 : Agree s20 ⟨fun j => if j = s20.next then some (.cells [.int .i64 G.frame, .int .i64 G.perm, .int .i64 G.state, .int .u64 G.mark] true 0) else if j = s20.next then some (.cells [.int .i64 0, .int .i64 0, .int .i64 0, .int .u64 0] true 0) else s20.heap j, s20.next + 1⟩ :=
        ⟨by simp, fun j hj => by simp (disch := omega)⟩
      exact ⟨t20.mono hwf20 ag21, (((hv17'.agree hwf17 ag18).agree hwf18 ag19).agree hwf19 ag20).agree hwf20 ag21⟩
    · rintro _ s17 hwf17 ⟨t17, hv17⟩
      obtain ⟨a19, c19, rfl⟩ := hv17.len
      refine vcD_ok (D := fun _ => none) (n := 343) mixed (by kernel_rfl) ?_
      simp [hwj]
      exact ⟨t17, .inr (wrap_i64 (by omega) (by omega)).symm⟩
  · rintro _ s10 hwf10 t10
    refine vcD_ok (D := fun _ => none) (n := 343) mixed (by kernel_rfl) ?_
    simp
    exact t10

theorem all_tail {s0 s6 : SW} {h la : Nat} {ms : List Nat} {h' la' : Nat} {ms' : List Nat} {H : List Mp} {part page : Int} (hwf6 : s6.wf) (t6 : TwoAt s0 h la 3 ms h' la' 3 ms' H s6)
    {cd : Code} (hcd : codeOf Try.f4 tailP = some cd) :
    SWp Try.prog cd (bodyQ Try.prog Try.f4 (Post fun v _ => v = .bool true))
      ([junk, .int .i64 part, .int .i64 page, junk, junk, junk, junk, junk, junk, junk, .pointer (some ⟨h, 0, none⟩), .pointer (some ⟨h', 0, none⟩), junk, junk, junk, junk, junk, junk, junk, junk, junk, junk, junk, junk, junk, junk, junk, junk, junk, junk, junk, junk, junk, junk, junk, junk, junk, junk, junk, junk, junk, junk, junk, junk, junk, junk, junk, junk, junk, junk, junk, junk, junk, junk, junk, junk, junk, junk, junk, junk, junk, junk, junk, junk, junk, junk, junk, junk, junk, junk, junk, junk, junk, junk, junk, junk, junk, junk, junk, junk, junk, junk, junk, junk, junk, junk, junk, junk, junk, junk, junk, junk, junk, junk, junk, junk, junk, junk, junk, junk, junk, junk, junk, junk, junk, junk, junk, junk, junk, junk, junk, junk, junk, junk, junk, junk, junk, junk, junk, junk, junk, junk, junk, junk, junk, junk, junk, junk, junk, junk, junk, junk, junk, junk, junk, junk, junk, junk, junk, junk, junk, junk, junk, junk, junk, junk, junk, junk, junk, junk, junk, junk, junk, junk, junk, junk, junk, junk, junk, junk, junk, junk, junk, junk, junk, junk, junk, junk, junk, junk, junk, junk, junk, junk, junk, junk, junk, junk, junk, junk, junk, junk, junk, junk, junk, junk, junk, junk, junk, junk, junk, junk, junk, junk, junk, junk, junk, junk, junk, junk, junk, junk, junk, junk, junk, junk, junk, junk, junk, junk, junk, junk, junk, junk, junk, junk, junk, junk, junk, junk, junk, junk, junk, junk, junk, junk, junk, junk, junk, junk, junk, junk, junk, junk, junk, junk, junk, junk, junk, junk, junk, junk, junk, junk, junk, junk, junk, junk, junk, junk, junk, junk, junk, junk, junk, junk, junk, junk, junk, junk, junk, junk, junk, junk, junk, junk, junk, junk, junk, junk, junk, junk, junk, junk, junk, junk, junk, junk, junk, junk, junk, junk, junk, junk, junk, junk, junk, junk, junk, junk, junk, junk, junk, junk, junk, junk, junk, junk, junk, junk, junk, junk, junk, junk, junk, junk, junk, junk, junk, junk, junk, junk, junk, junk, junk, junk, junk, junk, junk, junk, junk, junk, junk, junk, junk, junk, junk, junk, junk, junk, junk, junk, junk, junk, junk, junk, junk, junk, junk, junk, junk, junk, junk]) s6 := by
  cases hcd
  refine SWp.seq (vcD_ok (D := fun _ => none) (n := 343) mixed (by kernel_rfl) ?_)
  simp
  refine (get_call t6.a part page).monoW ?_
  rintro r s7 hwf7 ⟨rfl, ag7⟩
  have t7 := t6.mono hwf6 ag7
  generalize hG : (getOf H part page).getD pg0 = G
  generalize hB : (getOf H part page).isSome = B
  simp [pv]
  refine SWp.gen fun s8 hs8 => ?_
  have ag8 : Agree s7 s8 := by rw [hs8]; exact ⟨by simp, fun j hj => by simp (disch := omega)⟩
  have f8 : s8.heap s7.next = some (.cells [.int .i64 G.frame, .int .i64 G.perm, .int .i64 G.state, .int .u64 G.mark] true 0) := by rw [hs8]; simp
  clear hs8
  refine SWp.wf fun hwf8 => ?_
  have t8 := t7.mono hwf7 ag8
  have hr := rget_call t8.b part page
  rw [hG, hB] at hr
  refine SWp.seq (vcD_ok (D := fun _ => none) (n := 343) mixed (by kernel_rfl) ?_)
  simp
  refine hr.monoW ?_
  rintro r s9 hwf9 ⟨rfl, ag9⟩
  have f9 := (ag9.2 _ (hwf8.lt f8)).trans f8
  have l9 := hwf9.lt f9
  simp [pv]
  refine SWp.gen fun s10 hs10 => ?_
  have f10 : s10.heap s7.next = some (.cells [.int .i64 G.frame, .int .i64 G.perm, .int .i64 G.state, .int .u64 G.mark] true 0) := by
    rw [hs10]
    simp (disch := omega) [f9]
  have g10 : s10.heap s9.next = some (.cells [.int .i64 G.frame, .int .i64 G.perm, .int .i64 G.state, .int .u64 G.mark] true 0) := by rw [hs10]; simp
  clear hs10
  refine SWp.wf fun hwf10 => ?_
  refine SWp.seq (vcD_ok (D := fun _ => none) (n := 343) mixed (by kernel_rfl) ?_)
  simp
  refine SWp.seq (vcD_ok (D := fun _ => none) (n := 343) mixed (by kernel_rfl) ?_)
  simp
  refine (get_nil s10 0 0).monoW ?_
  rintro r s11 hwf11 ⟨rfl, ag11⟩
  have f11 := (ag11.2 _ (hwf10.lt f10)).trans f10
  have g11 := (ag11.2 _ (hwf10.lt g10)).trans g10
  have lf := hwf11.lt f11
  have lg := hwf11.lt g11
  have e1 : ¬ s7.next = s11.next := by omega
  have e2 : ¬ s9.next = s11.next := by omega
  simp [pv, pg0]
  refine vcD_ok (D := fun _ => none) (n := 343) mixed (by kernel_rfl) ?_
  simp [-sBin, f11, g11, e1, e2, eql37_same, eql4, eql_e, eql_i, sBuildSlice, partOk, Instr.fill, sZeros]
  refine (give_nil _ 0 1 1 _).monoW ?_
  rintro r s12 hwf12 ⟨rfl, _⟩
  simp [-sBin, eql_e]
  refine (pages_nil _ 0).monoW ?_
  rintro r s13 hwf13 ⟨hr, _⟩
  rcases hr with ⟨_, rfl⟩ | ⟨h0, _⟩
  case inr => exact absurd rfl h0
  simp [-sBin]
  refine (seen_nil _ 0).monoW ?_
  rintro r s14 hwf14 ⟨hr, _⟩
  rcases hr with ⟨_, rfl⟩ | ⟨h0, _⟩
  case inr => exact absurd rfl h0
  have hw0 : IntKind.i64.wrap 0 = 0 := Sh.wrap_small (by omega) (by omega)
  simp [-sBin, add_i64, hw0]
  refine (out_nil _ 0 1).monoW ?_
  rintro r s15 hwf15 ⟨rfl, _⟩
  simp [-sBin, add_i64, hw0, eql_i, build25z, sBuildSlice, partOk, Instr.fill, sZeros]
  refine (put_nil _ 0 0 1 _).monoW ?_
  rintro r s16 hwf16 ⟨rfl, _⟩
  simp [-sBin, eql_e]
  refine (box_nil _ 0 0).monoW ?_
  rintro r s17 hwf17 ⟨rfl, _⟩
  simp [-sBin, eql_e]
  exact Post.refl rfl

end Go.Proofs.Yteiclengdlhnnaa
