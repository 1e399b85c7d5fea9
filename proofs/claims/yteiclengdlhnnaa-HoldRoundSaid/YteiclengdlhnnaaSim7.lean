/- Slices: literals, make, parts, append, copy, clear, len. -/
import Derived.Test.YteiclengdlhnnaaSim6
namespace Go.Sh
open Go

def sAlloc (P : Program) (e : TypeId) (s : SW) : Option (Value × SW) :=
  match zeroV P e with
  | some z => if z.cells.toList.all pl0 then some (.pointer (some ⟨s.next, 0, none⟩), s.new (.cells z.cells.toList true 0)) else none
  | none => none

theorem F2.zero {ρ : Rho} {cs : List Value} (h : cs.all pl0 = true) : F2 (VRel ρ) cs cs := by
  induction cs with
  | nil => exact .nil
  | cons c cs ih =>
    simp only [List.all_cons, Bool.and_eq_true] at h
    exact .cons (.plain h.1) (ih h.2)

theorem sAlloc_ok {P : Program} {ρ : Rho} {s s' : SW} {w : World} {e : TypeId} {v : Value} (hr : HRel ρ s w) (h : sAlloc P e s = some (v, s')) :
    Good P (Instr.alloc e true (.tuple #[])) ρ s w v s' := by
  unfold sAlloc at h
  split at h
  · rename_i z hz
    split at h
    · rename_i hall
      cases h
      obtain ⟨ρ', w', h1, h2, h3, h4⟩ := Good.newRow (P := P) hr e (F2.zero hall)
      refine ⟨ρ', w', .pointer (some ⟨w.heap.size, 0, none⟩), ?_, .ptr h1, h3, h4⟩
      simp only [Instr.alloc, Sem.run_bind, run_zeroValue' w hz, Result.andThen_ok, newVar]
      rw [show z.cells = z.cells.toList.toArray by simp, h2]
      rfl
    · cases h
  · cases h

def sBuildSlice (P : Program) (t : TypeId) (len : Nat) (parts : List (Nat × Value)) (s : SW) : Option (Value × SW) :=
  match P.underlying t with
  | some (.slice e) =>
    match sz P e, zeroV P e with
    | some n, some z =>
      if len * n ≤ 16777216 ∧ z.cells.size = n ∧ z.cells.toList.all pl0 = true ∧ parts.all partOk = true then
        match Instr.fill (fun i => some (i * n, n)) (sZeros z.cells.toList len).toArray parts with
        | some out => some (.slice (some ⟨s.next, 0, none⟩) len len, s.new (.cells out.toList true 0))
        | none => none
      else none
    | _, _ => none
  | _ => none

theorem sZeros_all {zero : List Value} (h : zero.all pl0 = true) (n : Nat) : (sZeros zero n).all pl0 = true := by
  unfold sZeros
  rw [List.all_eq_true]
  intro v hv
  simp only [List.mem_flatten, List.mem_replicate] at hv
  obtain ⟨l, ⟨_, rfl⟩, hv⟩ := hv
  exact List.all_eq_true.1 h v hv

theorem sBuildSlice_ok {P : Program} {ρ : Rho} {s s' : SW} {w : World} {t : TypeId} {len : Nat} {parts : List (Nat × Value)} {rparts : Array (Nat × Value)} {v : Value} (hr : HRel ρ s w)
    (h : sBuildSlice P t len parts s = some (v, s')) (hp : F2 (PRel ρ) parts rparts.toList) : Good P (Instr.buildSlice t len rparts) ρ s w v s' := by
  unfold sBuildSlice at h
  split at h
  · rename_i e ht
    split at h
    · rename_i n z hn hz
      split at h
      · rename_i hc
        obtain ⟨h1, h2, h3, h4⟩ := hc
        split at h
        · rename_i out ho
          cases h
          obtain ⟨rout, g1, g2, g3⟩ := fill_rel _ _ hp h4 (sZeros z.cells.toList len).toArray (sZeros z.cells.toList len).toArray out rfl (rel_zero (by simpa using sZeros_all h3 len)) ho
          obtain ⟨ρ', w', e1, e2, e3, e4⟩ := Good.newRow (P := P) hr e (cs := out.toList) (rcs := rout.toList) (F2.of_get (by simpa using g2) (by simpa using g3))
          refine ⟨ρ', w', .slice (some ⟨w.heap.size, 0, none⟩) len len, ?_, .slice e1 (Nat.le_refl _) (.inl rfl), e3, e4⟩
          have hb0 : len * n = 0 → (sZeros z.cells.toList len).toArray = #[] := fun h0 => by
            apply Array.toList_inj.1
            have hlen : (sZeros z.cells.toList len).length = 0 := by
              simp only [sZeros, List.length_flatten, List.map_replicate, List.sum_replicate_nat, Array.length_toList, h2]
              exact h0
            rw [List.length_eq_zero_iff.1 hlen]
          have hb1 : ((Array.range (len * n)).map fun i => z.cells[i % z.cells.size]!) = (sZeros z.cells.toList len).toArray := by
            apply Array.toList_inj.1
            rw [← h2, sZeros_eq]
          simp only [Instr.buildSlice, Sem.run_bind, run_underlying' w ht, Result.andThen_ok, run_sizeOf' w hn]
          rw [if_neg (by omega)]
          by_cases h0 : len * n = 0
          · rw [hb0 h0] at g1
            simp only [h0, if_true, Sem.run_bind, Sem.run_pure, Result.andThen_ok]
            have : (Array.map (fun (i : Nat) => (#[] : Array Value)[i % (#[] : Array Value).size]!) (Array.range 0)) = #[] := by simp
            rw [this, g1]
            simp only [Sem.run_bind]
            rw [show rout = rout.toList.toArray by simp, e2]
            rfl
          · simp only [h0, if_false, Sem.run_bind, Sem.run_pure, Result.andThen_ok, run_zeroValue' w hz]
            rw [hb1, g1]
            simp only [Sem.run_bind]
            rw [show rout = rout.toList.toArray by simp, e2]
            rfl
        · cases h
      · cases h
    · cases h
  · cases h

def sMakeSlice (P : Program) (t : TypeId) (len cap : Value) (s : SW) : Option (Value × SW) :=
  match P.underlying t, len, cap with
  | some (.slice e), .int _ l, .int _ c =>
    match sz P e, zeroV P e, bytesV P e with
    | some n, some z, some b =>
      if 0 ≤ l ∧ l ≤ c ∧ c ≤ 1073741824 ∧ b ≤ 1024 ∧ z.cells.size = n ∧ z.cells.toList.all pl0 = true then
        some (.slice (some ⟨s.next, 0, none⟩) l.toNat c.toNat, s.new (.cells (sZeros z.cells.toList c.toNat) true 0))
      else none
    | _, _, _ => none
  | _, _, _ => none

theorem wrap_small {n : Int} (h0 : 0 ≤ n) (h1 : n ≤ 1073741824) : IntKind.i64.wrap n = n := by
  have h2 : n % (2 ^ 64 : Int) = n := Int.emod_eq_of_lt h0 (by omega)
  show (if (true && decide (n % (2 ^ 64 : Int) ≥ (2 ^ 63 : Int))) = true then n % (2 ^ 64 : Int) - 2 ^ 64 else n % (2 ^ 64 : Int)) = n
  rw [h2, if_neg]
  simp only [Bool.true_and, decide_eq_true_eq]
  omega

theorem run_bytes {P : Program} {e : TypeId} {b : Nat} (h : bytesV P e = some b) (w : World) : ∃ i, (typeInfo e).run P w = .ok i w ∧ i.bytes = b := by
  unfold bytesV at h
  cases hi : P.info? e with
  | none => rw [hi] at h; cases h
  | some i => rw [hi] at h; cases h; exact ⟨i, run_typeInfo w hi, rfl⟩

theorem sMakeSlice_ok {P : Program} {ρ : Rho} {s s' : SW} {w : World} {t : TypeId} {len cap rlen rcap v : Value} (hr : HRel ρ s w) (h : sMakeSlice P t len cap s = some (v, s'))
    (hl : VRel ρ len rlen) (hc : VRel ρ cap rcap) : Good P (Instr.makeSlice t rlen rcap) ρ s w v s' := by
  unfold sMakeSlice at h
  split at h
  · rename_i e k l k' c ht
    obtain rfl := hl.int; obtain rfl := hc.int
    split at h
    · rename_i n z b hn hz hb
      split at h
      · rename_i hcond
        obtain ⟨a1, a2, a3, a4, a5, a6⟩ := hcond
        cases h
        obtain ⟨ρ', w', e1, e2, e3, e4⟩ := Good.newRow (P := P) hr e (F2.zero (ρ := ρ) (sZeros_all a6 c.toNat))
        refine ⟨ρ', w', .slice (some ⟨w.heap.size, 0, none⟩) l.toNat c.toNat, ?_, .slice e1 (by omega) (.inl rfl), e3, e4⟩
        obtain ⟨i, hi, hib⟩ := run_bytes (P := P) hb w
        have hbig : ¬ ((b : Int) * c > 2 ^ 48) := by
          have h1 : (b : Int) * c ≤ 1024 * 1073741824 := Int.mul_le_mul (by omega) a3 (by omega) (by omega)
          omega
        simp only [Instr.makeSlice, Sem.run_bind, run_underlying' w ht, Result.andThen_ok, asInt, asIntOf, Sem.run_pure, hi, hib, wrap_small a1 (by omega : l ≤ 1073741824), wrap_small (by omega : 0 ≤ c) a3]
        rw [if_neg (by simp; omega)]
        simp only [Sem.run_bind, run_askRoom, Result.andThen_ok, run_sizeOf' w hn]
        have hb1 : ((Array.range (c.toNat * n)).map fun i => z.cells[i % z.cells.size]!) = (sZeros z.cells.toList c.toNat).toArray := by
          apply Array.toList_inj.1
          rw [← a5, sZeros_eq]
        by_cases h0 : c.toNat * n = 0
        · have hb0 : (sZeros z.cells.toList c.toNat).toArray = #[] := by
            apply Array.toList_inj.1
            have hlen : (sZeros z.cells.toList c.toNat).length = 0 := by
              simp only [sZeros, List.length_flatten, List.map_replicate, List.sum_replicate_nat, Array.length_toList, a5]
              exact h0
            rw [List.length_eq_zero_iff.1 hlen]
          simp only [h0, if_true, Sem.run_bind, Sem.run_pure, Result.andThen_ok]
          have : (Array.map (fun (i : Nat) => (#[] : Array Value)[i % (#[] : Array Value).size]!) (Array.range 0)) = #[] := by simp
          rw [hb0] at e2
          rw [this, e2]
          rfl
        · simp only [h0, if_false, Sem.run_bind, Sem.run_pure, Result.andThen_ok, run_zeroValue' w hz]
          rw [hb1, e2]
          rfl
      · cases h
    · cases h
  · cases h

/-! ### parts -/

def sBound (x : Value) (y : Nat) : Option Nat :=
  match x with
  | .int _ i => if 0 ≤ i ∧ i ≤ (y : Int) then some i.toNat else none
  | _ => none

theorem sBound_ok {P : Program} {ρ : Rho} {x rx : Value} {y y' n : Nat} (h : sBound x y = some n) (hx : VRel ρ x rx) (hy : y ≤ y') (code : BoundsCode) (w : World) :
    n ≤ y ∧ (Instr.sliceBound rx y' code).run P w = .ok n w := by
  unfold sBound at h
  split at h
  · obtain rfl := hx.int
    split at h
    · rename_i hb
      cases h
      refine ⟨by omega, ?_⟩
      simp only [Instr.sliceBound, asIntOf, Sem.run_bind, Sem.run_pure, Result.andThen_ok]
      rw [if_pos (by omega)]
      rfl
    · cases h
  · cases h

def oRel (ρ : Rho) : Option Value → Option Value → Prop
  | none, none => True
  | some v, some v' => VRel ρ v v'
  | _, _ => False

/-- lo, hi, max of a part. -/
def sBounds (len cap : Nat) (lo hi mx : Option Value) : Option (Nat × Nat × Nat) :=
  match (match mx with | some v => sBound v cap | none => some cap) with
  | none => none
  | some m =>
    match (match hi, mx with | some v, some _ => sBound v m | some v, none => sBound v cap | none, none => some len | none, some _ => none) with
    | none => none
    | some h =>
      match (match lo with | some v => sBound v h | none => some 0) with
      | none => none
      | some l => some (l, h, m)

theorem sBounds_ok {P : Program} {ρ : Rho} {len cap cap' : Nat} {lo hi mx rlo rhi rmx : Option Value} {l h m : Nat} (hb : sBounds len cap lo hi mx = some (l, h, m)) (hlc : len ≤ cap) (hcap : cap ≤ cap')
    (hlo : oRel ρ lo rlo) (hhi : oRel ρ hi rhi) (hmx : oRel ρ mx rmx) (isS : Bool) (w : World) :
    l ≤ h ∧ h ≤ cap ∧ h ≤ m ∧ ((mx = none ∧ m = cap) ∨ (mx ≠ none ∧ m ≤ cap)) ∧ (Instr.sliceBounds isS len cap' rlo rhi rmx).run P w = .ok (l, h, if mx = none then cap' else m) w := by
  unfold sBounds at hb
  cases mx with
  | none =>
    cases rmx with
    | some _ => exact hmx.elim
    | none =>
      simp only at hb
      cases hi with
      | none =>
        cases rhi with
        | some _ => exact hhi.elim
        | none =>
          simp only at hb
          cases lo with
          | none =>
            cases rlo with
            | some _ => exact hlo.elim
            | none =>
              simp only at hb; cases hb
              exact ⟨by omega, by omega, by omega, .inl ⟨rfl, rfl⟩, by simp [Instr.sliceBounds]⟩
          | some v =>
            cases rlo with
            | none => exact hlo.elim
            | some rv =>
              simp only at hb
              cases h1 : sBound v len with
              | none => rw [h1] at hb; cases hb
              | some n =>
                rw [h1] at hb; cases hb
                obtain ⟨h2, h3⟩ := sBound_ok (P := P) h1 hlo (Nat.le_refl _) (if (none : Option Value).isSome then .slice3C else .sliceB) w
                refine ⟨h2, by omega, by omega, .inl ⟨rfl, rfl⟩, ?_⟩
                simp only [Instr.sliceBounds, Sem.run_bind, Sem.run_pure, Result.andThen_ok]
                rw [h3]; rfl
      | some vh =>
        cases rhi with
        | none => exact hhi.elim
        | some rvh =>
          simp only at hb
          cases h4 : sBound vh cap with
          | none => rw [h4] at hb; cases hb
          | some hh =>
            rw [h4] at hb
            simp only at hb
            obtain ⟨h5, h6⟩ := sBound_ok (P := P) h4 hhi hcap (if isS then .sliceAcap else .sliceAlen) w
            cases lo with
            | none =>
              cases rlo with
              | some _ => exact hlo.elim
              | none =>
                simp only at hb; cases hb
                refine ⟨by omega, by omega, by omega, .inl ⟨rfl, rfl⟩, ?_⟩
                simp only [Instr.sliceBounds, Sem.run_bind, Sem.run_pure, Result.andThen_ok]
                rw [h6]; rfl
            | some v =>
              cases rlo with
              | none => exact hlo.elim
              | some rv =>
                simp only at hb
                cases h1 : sBound v hh with
                | none => rw [h1] at hb; cases hb
                | some n =>
                  rw [h1] at hb; cases hb
                  obtain ⟨h2, h3⟩ := sBound_ok (P := P) h1 hlo (Nat.le_refl _) (if (none : Option Value).isSome then .slice3C else .sliceB) w
                  refine ⟨h2, by omega, by omega, .inl ⟨rfl, rfl⟩, ?_⟩
                  simp only [Instr.sliceBounds, Sem.run_bind, Sem.run_pure, Result.andThen_ok]
                  rw [h6]
                  simp only [Result.andThen_ok]
                  rw [h3]; rfl
  | some vm =>
    cases rmx with
    | none => exact hmx.elim
    | some rvm =>
      simp only at hb
      cases h7 : sBound vm cap with
      | none => rw [h7] at hb; cases hb
      | some mm =>
        rw [h7] at hb
        simp only at hb
        obtain ⟨h8, h9⟩ := sBound_ok (P := P) h7 hmx hcap (if isS then .slice3Acap else .slice3Alen) w
        cases hi with
        | none => simp only at hb; cases hb
        | some vh =>
          cases rhi with
          | none => exact hhi.elim
          | some rvh =>
            simp only at hb
            cases h4 : sBound vh mm with
            | none => rw [h4] at hb; cases hb
            | some hh =>
              rw [h4] at hb
              simp only at hb
              obtain ⟨h5, h6⟩ := sBound_ok (P := P) h4 hhi (Nat.le_refl _) .slice3B w
              cases lo with
              | none =>
                cases rlo with
                | some _ => exact hlo.elim
                | none =>
                  simp only at hb; cases hb
                  refine ⟨by omega, by omega, by omega, .inr ⟨by simp, h8⟩, ?_⟩
                  simp only [Instr.sliceBounds, Sem.run_bind, Sem.run_pure]
                  rw [h9]
                  simp only [Result.andThen_ok]
                  rw [h6]; rfl
              | some v =>
                cases rlo with
                | none => exact hlo.elim
                | some rv =>
                  simp only at hb
                  cases h1 : sBound v hh with
                  | none => rw [h1] at hb; cases hb
                  | some n =>
                    rw [h1] at hb; cases hb
                    obtain ⟨h2, h3⟩ := sBound_ok (P := P) h1 hlo (Nat.le_refl _) (if (some rvm).isSome then .slice3C else .sliceB) w
                    refine ⟨h2, by omega, by omega, .inr ⟨by simp, h8⟩, ?_⟩
                    simp only [Instr.sliceBounds, Sem.run_bind, Sem.run_pure, Result.andThen_ok]
                    rw [h9]
                    simp only [Result.andThen_ok]
                    rw [h6]
                    simp only [Result.andThen_ok]
                    rw [h3]; rfl

end Go.Sh
