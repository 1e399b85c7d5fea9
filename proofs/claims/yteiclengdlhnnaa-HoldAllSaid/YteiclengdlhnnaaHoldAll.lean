/- The statement HoldAll: whatever the run of deeds, the part and the page, the law's function returns true and turns nothing that lay there before; no conditions. -/
import Derived.Test.YteiclengdlhnnaaRows
import Derived.WalkKit
import Derived.ProofKit
import Derived.OpenShut
import Derived.ShutString
import Derived.Test.YteiclengdlhnnaaAll3c
import Derived.Test.YteiclengdlhnnaaEnter
namespace Go.Proofs.Yteiclengdlhnnaa.holdAll
open Go.ChangeShapes Go.WideShapes Go.ChangeAt Go.RowKit
open Go.Sh Go Go.Deep
set_option linter.unusedVariables false
set_option maxRecDepth 20000

theorem own : ownKnob Try.prog.godebug = none := by kernel_rfl
theorem laidOut : laidOutB Try.prog = true := by kernel_rfl

section
variable {H : Type} {enc : TypeId × Value → H} {W : World} {base : Nat} {held : Bool} {fuel : Nat} {cs : List Value} {x : DataW H × List MemPlace}

theorem shV_int {ρ : Rho} {k : IntKind} {n : Int} : shV ρ (.int k n) = .int k n := shV_plain rfl

theorem deed_shown (hl : cs.length = 7) (h : DataW.trod enc Try.prog W base (fun _ => true) held fuel 46 cs = some x) :
    ∃ d vp vl, ∀ (cs' : List Value) (off : Nat), (∀ k, k < 7 → cs'[off + k]? = (cs[k]?).map (shV (idRho W))) → DeedAt (idSW W) cs' off d vp vl := by
  obtain ⟨xs, n, _, _, _, hxl, hf⟩ := DataW.trod_struct Try.underlying46 h
  have hxl7 : xs.length = 7 := by simpa using hxl
  match cs, hl with
  | [c0, c1, c2, c3, c4, c5, c6], _ =>
    have k3 : Try.prog.cellsOf 3 = 1 := by kernel_rfl
    have k28 : Try.prog.cellsOf 28 = 1 := by kernel_rfl
    have k23 : Try.prog.cellsOf 23 = 1 := by kernel_rfl
    have k31 : Try.prog.cellsOf 31 = 1 := by kernel_rfl
    have one : ∀ {y : Option (DataW H × List MemPlace)} {t : TypeId} {c : Value}, DataW.trod enc Try.prog W base (fun _ => true) held n t [c] = y → y ≠ none → ∃ z, DataW.trod enc Try.prog W base (fun _ => true) held n t [c] = some z := by
      intro y t c h h0
      cases y with
      | none => exact absurd rfl h0
      | some z => exact ⟨z, h⟩
    have hx : ∀ i, i < 7 → xs[i]? ≠ none := by
      intro i hi
      rw [List.getElem?_eq_getElem (by omega)]
      simp
    obtain ⟨z0, g0⟩ := one (c := c0) (t := 3) (by have := hf 0 _ rfl; simpa [k3] using this) (hx 0 (by omega))
    obtain ⟨z1, g1⟩ := one (c := c1) (t := 3) (by have := hf 1 _ rfl; simpa [k3] using this) (hx 1 (by omega))
    obtain ⟨z2, g2⟩ := one (c := c2) (t := 3) (by have := hf 2 _ rfl; simpa [k3] using this) (hx 2 (by omega))
    obtain ⟨z3, g3⟩ := one (c := c3) (t := 3) (by have := hf 3 _ rfl; simpa [k3] using this) (hx 3 (by omega))
    obtain ⟨z4, g4⟩ := one (c := c4) (t := 28) (by have := hf 4 _ rfl; simpa [k28] using this) (hx 4 (by omega))
    obtain ⟨z5, g5⟩ := one (c := c5) (t := 23) (by have := hf 5 _ rfl; simpa [k23] using this) (hx 5 (by omega))
    obtain ⟨z6, g6⟩ := one (c := c6) (t := 31) (by have := hf 6 _ rfl; simpa [k31] using this) (hx 6 (by omega))
    obtain ⟨n0, e0, _, w0⟩ := DataW.trod_int Try.underlying3 g0
    obtain ⟨n1, e1, _, _⟩ := DataW.trod_int Try.underlying3 g1
    obtain ⟨n2, e2, _, _⟩ := DataW.trod_int Try.underlying3 g2
    obtain ⟨n3, e3, _, _⟩ := DataW.trod_int Try.underlying3 g3
    obtain ⟨v4, l4, e4, i4⟩ := ints_shown Try.underlying28 Try.underlying3 k3 g4
    obtain ⟨v5, l5, e5, i5⟩ := leaves_shown Try.underlying23 Try.underlying25 (by kernel_rfl) rfl rfl k3 k3 Try.underlying3 Try.underlying3 g5
    obtain ⟨n6, e6, _, _⟩ := DataW.trod_int Try.underlying31 g6
    simp only [List.cons.injEq, and_true] at e0 e1 e2 e3 e4 e5 e6
    subst e0 e1 e2 e3 e4 e5 e6
    refine ⟨⟨n0, n1, n2, n3, l4, l5, n6⟩, _, _, fun cs' off hc => ⟨?_, ?_, ?_, ?_, ?_, ?_, ?_, i4, i5, w0⟩⟩
    · have := hc 0 (by omega); simpa [shV_int] using this
    · have := hc 1 (by omega); simpa [shV_int] using this
    · have := hc 2 (by omega); simpa [shV_int] using this
    · have := hc 3 (by omega); simpa [shV_int] using this
    · have := hc 4 (by omega); simpa using this
    · have := hc 5 (by omega); simpa using this
    · have := hc 6 (by omega); simpa [shV_int] using this

theorem deeds_shown (h : DataW.trod enc Try.prog W base (fun _ => true) held fuel 41 cs = some x) : ∃ v ds, cs = [v] ∧ DeedsIn (idSW W) ds (shV (idRho W) v) := by
  rcases structs_shown (n := 7) (by omega) Try.underlying41 (by kernel_rfl) h with rfl | ⟨a, len, cap, m, C, D, rfl, hl, hC, hs⟩
  · exact ⟨_, [], rfl, .inl ⟨rfl, none, 0, shV_plain rfl⟩⟩
  · have hd : ∀ i, i < cap → ∃ q : DeedM × Value × Value, ∀ (cs' : List Value) (off : Nat), (∀ k, k < 7 → cs'[off + k]? = ((C i)[k]?).map (shV (idRho W))) → DeedAt (idSW W) cs' off q.1 q.2.1 q.2.2 := by
      intro i hi
      obtain ⟨d, vp, vl, hq⟩ := deed_shown (hC i hi).1 (hC i hi).2
      exact ⟨(d, vp, vl), hq⟩
    obtain ⟨Q, hQ⟩ : ∃ Q : Nat → DeedM × Value × Value, ∀ i, i < cap → ∀ (cs' : List Value) (off : Nat), (∀ k, k < 7 → cs'[off + k]? = ((C i)[k]?).map (shV (idRho W))) → DeedAt (idSW W) cs' off (Q i).1 (Q i).2.1 (Q i).2.2 := by
      refine ⟨fun i => if h : i < cap then Classical.choose (hd i h) else ⟨⟨0, 0, 0, 0, [], [], 0⟩, Go.undef, Go.undef⟩, fun i hi => ?_⟩
      simp only [hi, dif_pos]
      exact Classical.choose_spec (hd i hi)
    refine ⟨_, (List.range len).map fun i => (Q i).1, rfl, ?_⟩
    rcases hs with ⟨h0, a', ha'⟩ | ⟨b, o, cs', e1, hb, e2, e3⟩
    · subst h0
      exact .inl ⟨rfl, some a', cap, ha'⟩
    · rcases Nat.eq_zero_or_pos len with h0 | h0
      · subst h0
        exact .inl ⟨rfl, _, cap, e1⟩
      · refine .inr ⟨?_, b, o, cap, cs', false, 0, by rw [e1]; simp, e2, fun k d hk => ?_⟩
        · intro h
          have := congrArg List.length h
          simp at this
          omega
        · have hk' : k < len := by
            rcases Nat.lt_or_ge k len with h | h
            · exact h
            · rw [List.getElem?_eq_none (by simpa using h)] at hk; cases hk
          simp [hk'] at hk
          subst hk
          exact ⟨_, _, hQ k (by omega) cs' (o + k * 7) fun j hj => e3 k j (by omega) hj⟩
end

theorem walk {H : Type} {enc : TypeId × Value → H} (v : Value) (a1 a2 : Int) (W : World) {fuel : Nat} {x : DataW H × List MemPlace} (hv : DataW.trod enc Try.prog W 0 (fun _ => true) true fuel 41 [v] = some x) :
    Calls Try.prog 4 #[v, .int .i64 a1, .int .i64 a2] W fun e w' => e = .returned (.bool true) ∧ Below W.heap.size W w' := by
  obtain ⟨v', ds, e, hd⟩ := deeds_shown hv
  cases e
  have hw := all_walk (idSW W) ds _ a1 a2 hd
  refine (SCalls.entered (args := [v, .int .i64 a1, .int .i64 a2]) (W := W) (f := 4) (P := Try.prog) (R := fun v _ => v = .bool true) ?_).mono ?_
  · have e1 : shV (idRho W) (.int .i64 a1) = .int .i64 a1 := shV_plain rfl
    have e2 : shV (idRho W) (.int .i64 a2) = .int .i64 a2 := shV_plain rfl
    simpa [e1, e2] using hw
  · rintro e w' ⟨ρ, v, rv, s', rfl, hr, rfl, hb⟩
    refine ⟨?_, hb⟩
    rw [hr.bool]

set_option maxRecDepth 100000 in
theorem lifted (os : Os) (started : os.Started) (H : Type) (enc : TypeId × Value → H) :
    ReturnsInHanded {} Try.checked os 4 .any (Rows.holdAllSpec.pre6 enc Try.prog Try.f4 Rows.holdAllRow.domain false) (Rows.holdAllSpec.post enc Try.prog Try.f4 false true false false) := by
  refine returnsInHanded_of_change (C := Try.checked) own started (by kernel_rfl) Try.func4
    (ChangeSpec.witness6 (enc := enc) (C := Try.checked) false ⟨#[], #[.slice none 0 0, .int .i64 0, .int .i64 0], []⟩ 8 (by kernel_rfl) (by kernel_rfl) (by kernel_rfl) (by kernel_rfl)) ?_
  intro W base args ds gs before hval0 hW hcnd _
  have hval : ∀ (j : Nat) t v, Try.f4.params[j]? = some t → args[j]? = some v → Value.okWide Try.prog W .any base t v := hval0
  have hW' := hW
  obtain ⟨p, q, hA0, hV, rfl, hfz, hnd⟩ := hW
  have hA : DataW.TrodAll enc Try.prog W 0 (fun _ => true) true Try.f4.params.toList args.toList ds p := hA0
  rw [Try.params4] at hA hval
  obtain ⟨v0, vs0, d0, ds0, p0, q0, hargs, rfl, rfl, h0, r0⟩ := trodAll_cons hA
  obtain ⟨v1, vs1, d1, ds1, p1, q1, rfl, rfl, rfl, h1, r1⟩ := trodAll_cons r0
  obtain ⟨v2, vs2, d2, ds2, p2, q2, rfl, rfl, rfl, h2, r2⟩ := trodAll_cons r1
  obtain ⟨rfl, rfl, rfl⟩ := trodAll_nil r2
  obtain rfl : args = #[v0, v1, v2] := by cases args; simp_all
  obtain ⟨rfl, rfl⟩ := trodVars_none hV
  have h0k := h0
  obtain ⟨aa, al, ac, rfl⟩ := okWide_slice Try.underlying41 (hval 0 41 v0 rfl rfl)
  obtain ⟨f0, h0⟩ := h0
  obtain ⟨a1, rfl, rfl, rfl, w1⟩ := open_int Try.underlying3 (hval 1 3 v1 rfl rfl) h1
  obtain ⟨a2, rfl, rfl, rfl, w2⟩ := open_int Try.underlying3 (hval 2 3 v2 rfl rfl) h2
  clear hA0 hval0
  have hlt : ∀ x ∈ p0, x.block < W.heap.size := fun x hx => by simpa using hW'.lt x (by simp [hx])
  refine (walk (enc := enc) (.slice aa al ac) a1 a2 W h0).mono fun e W' ⟨he, hg⟩ => ?_
  subst he
  refine ⟨_, rfl, post_kept (pa := p0 ++ ([] ++ ([] ++ []))) (pv := []) hW' (fun _ _ => (trodAll_cons_mk (shut_bool Try.underlying4 _) trodAll_mk0)) (fun sp hsp => (trodAll_cons_mk ?_ (trodAll_cons_mk (shut_int Try.underlying3 w1) (trodAll_cons_mk (shut_int Try.underlying3 w2) trodAll_mk0)))) (fun _ _ => rfl) hg⟩
  exact WideElems.Trod_stays laidOut (by kernel_rfl) (of_decide_eq_true (by kernel_rfl)) h0k (fun x hx => hg.same (hlt x hx)) (fun x hx => hsp x (by simp [hx]))

theorem over : Rows.holdAllRow.holds Try.pinned (OpenSpec.ofChange Rows.holdAllSpec) :=
  OpenClaim.holds_of_wide 4 Try.f4 rfl rfl rfl rfl rfl rfl rfl ⟨rfl, rfl, rfl, rfl, rfl⟩ rfl rfl rfl rfl rfl (by kernel_rfl) Try.func4 (by kernel_rfl)
    (of_decide_eq_true (by kernel_rfl)) (by unfold Func.isWrapper; first | (rw [if_pos (by decide +kernel)]; kernel_rfl) | (rw [if_neg (by decide +kernel)]; exact ⟨rfl, rfl⟩))
    (fun os started H enc _ => lifted os started H enc)

/-- The statement. -/
theorem proved : Rows.HoldAllSaid :=
  over
#print axioms proved
end Go.Proofs.Yteiclengdlhnnaa.holdAll
