/- The operations upon maps, as they run; copy, clear, texts and bytes. -/
import Derived.Test.YteiclengdlhnnaaSim11
namespace Go.Sh
open Go

def sMakeMap (P : Program) (k : TypeId) (s : SW) : Option (Value × SW) :=
  match P.underlying k with
  | some (.map kt _) =>
    match P.underlying kt with
    | some (.int kk) => some (.map (some s.next), s.new (.map kk true []))
    | _ => none
  | _ => none

theorem sMakeMap_ok {P : Program} {ρ : Rho} {s s' : SW} {w : World} {t : TypeId} {v : Value} (hr : HRel ρ s w) (h : sMakeMap P t s = some (v, s')) (res : Option Value) (hres : ∀ x, res = some x → ∃ k n, x = .int k n) :
    Good P (Instr.makeMap t res) ρ s w v s' := by
  unfold sMakeMap at h
  split at h
  · rename_i kt et ht
    split at h
    · rename_i kk hk
      cases h
      have hold : ∀ r, r < w.heap.size → (w.alloc (.map #[] 0)).heap[r]? = w.heap[r]? := fun r hr => RowKit.Below.heap_alloc _ _ _ hr
      have hnew : (w.alloc (.map #[] 0)).heap[w.heap.size]? = some (.map #[] 0) := by show (w.heap.push _)[w.heap.size]? = _; simp
      have h1 := hr.alloc (o := .map kk true []) (p := ⟨w.heap.size, 0, 0, 0, 0⟩) (w' := w.alloc (.map #[] 0)) rfl hold (by
        simp only [hnew]; exact MRel.nil _ _)
      have h2 := Ext.alloc hr (o := .map kk true []) (p := ⟨w.heap.size, 0, 0, 0, 0⟩) (w' := w.alloc (.map #[] 0)) rfl hold (by simp) ⟨rfl, rfl, rfl⟩
      refine ⟨_, _, .map (some w.heap.size), ?_, .map Rho.upd_same, h1, h2⟩
      cases res with
      | none => simp [Instr.makeMap]
      | some x =>
        obtain ⟨k, n, rfl⟩ := hres x rfl
        simp [Instr.makeMap, run_underlying' w ht, asInt, asIntOf]
    · cases h
  · cases h

def sLookup (P : Program) (t : TypeId) (x ix : Value) (ok : Bool) (s : SW) : Option Value :=
  match ix with
  | .int k n =>
    match P.underlying t with
    | some (.map kt et) =>
      match P.underlying kt, zeroV P et with
      | some (.int _), some z =>
        if pl1 z = true then
          match x with
          | .map none => some (if ok then .tuple #[z, .bool false] else z)
          | .map (some i) =>
            match s.heap i with
            | some (.map kk _ m) =>
              if kk = k then
                some (if ok then .tuple #[(mget m n).getD z, .bool (mget m n).isSome] else (mget m n).getD z)
              else none
            | _ => none
          | _ => none
        else none
      | _, _ => none
    | _ => none
  | _ => none

theorem run_checkKey_int' {P : Program} {kt : TypeId} {kk : IntKind} (h : P.underlying kt = some (.int kk)) (b : Bool) (d : Nat) (k : IntKind) (n : Int) (w : World) : (Instr.checkKey b (d + 1) kt (.int k n)).run P w = .ok () w := by
  simp only [Instr.checkKey, Sem.run_bind, run_underlying' w h, Result.andThen_ok, Sem.run_pure]

theorem run_checkKey_int {P : Program} {kt : TypeId} {kk : IntKind} (h : P.underlying kt = some (.int kk)) (b : Bool) (k : IntKind) (n : Int) (w : World) : (Instr.checkKey b 10000 kt (.int k n)).run P w = .ok () w :=
  run_checkKey_int' h b 9999 k n w

theorem VRel.pair {ρ : Rho} {a b ra rb : Value} (h : VRel ρ a ra) (k : VRel ρ b rb) : VRel ρ (.tuple #[a, b]) (.tuple #[ra, rb]) := by
  refine .tuple rfl fun i v v' h1 h2 => ?_
  match i with
  | 0 => simp at h1 h2; subst h1 h2; exact h
  | 1 => simp at h1 h2; subst h1 h2; exact k
  | i + 2 => simp at h1

theorem sLookup_ok {P : Program} {ρ : Rho} {s : SW} {w : World} {t : TypeId} {x ix v rx rix : Value} {ok : Bool} (hr : HRel ρ s w) (h : sLookup P t x ix ok s = some v) (hx : VRel ρ x rx) (hi : VRel ρ ix rix) :
    ∃ rv, VRel ρ v rv ∧ (Instr.lookup t rx rix ok).run P w = .ok rv w := by
  unfold sLookup at h
  split at h
  · rename_i k n
    obtain rfl := hi.int
    split at h
    · rename_i kt et ht
      split at h
      · rename_i kk z hk hz
        split at h
        · rename_i hz1
          split at h
          · cases h
            obtain rfl : rx = .map none := by cases hx; rfl
            refine ⟨if ok then .tuple #[z, .bool false] else z, ?_, ?_⟩
            rotate_left
            · simp only [Instr.lookup, Sem.run_bind, run_underlying' w ht, Result.andThen_ok, Sem.run_pure, run_checkKey_int hk, Instr.findKey, run_underlying' w hk, run_zeroValue' w hz]
              simp only [Instr.findNow, Sem.run_pure, Result.andThen_ok, Sem.run_bind, run_zeroValue' w hz]
            · cases ok
              · exact VRel.of_pl1 hz1
              · exact (VRel.of_pl1 hz1).pair (.plain rfl)
          · rename_i i
            split at h
            · rename_i kk' own m him
              split at h
              · rename_i hkk
                subst hkk
                obtain ⟨p, hp, rfl⟩ := hx.map_inv
                obtain ⟨es, clock, h1, h2⟩ := hr.mapAt him hp
                rcases run_findKey_int (P := P) h2 hk n w with ⟨g1, g2, _⟩ | ⟨v', i', e, g1, g2, g3, g4, g5⟩
                · rw [g1] at h
                  simp only [Option.getD_none, Option.isSome_none] at h
                  cases h
                  refine ⟨if ok then .tuple #[z, .bool false] else z, ?_, ?_⟩
                  rotate_left
                  · simp only [Instr.lookup, Sem.run_bind, run_underlying' w ht, Result.andThen_ok, run_getObj_map h1, Sem.run_pure, run_checkKey_int hk, g2, run_zeroValue' w hz]
                  · cases ok
                    · exact VRel.of_pl1 hz1
                    · exact (VRel.of_pl1 hz1).pair (.plain rfl)
                · rw [g1] at h
                  simp only [Option.getD_some, Option.isSome_some] at h
                  cases h
                  refine ⟨if ok then .tuple #[e.val, .bool true] else e.val, ?_, ?_⟩
                  rotate_left
                  · simp only [Instr.lookup, Sem.run_bind, run_underlying' w ht, Result.andThen_ok, run_getObj_map h1, Sem.run_pure, run_checkKey_int hk, g5]
                  · cases ok
                    · exact g4
                    · exact g4.pair (.plain rfl)
              · cases h
            · cases h
          · cases h
        · cases h
      · cases h
    · cases h
  · cases h

def sMapUpdate (P : Program) (t : TypeId) (x ix v : Value) (s : SW) : Option SW :=
  match ix, x with
  | .int k n, .map (some i) =>
    match P.underlying t with
    | some (.map kt _) =>
      match P.underlying kt, s.heap i with
      | some (.int _), some (.map kk true m) => if kk = k then some (s.set i (.map kk true (mput m n v))) else none
      | _, _ => none
    | _ => none
  | _, _ => none

theorem setObj_map {P : Program} {w : World} {r : Nat} {es : Array MapEntry} {clock : Nat} (h : w.heap[r]? = some (.map es clock)) (o : Obj) :
    (setObj r o).run P w = .ok () { w with heap := w.heap.setIfInBounds r o } := by
  simp [setObj, Sem.run, h]

theorem setHeap_other {w : World} {r r' : Nat} {o : Obj} (h : r' ≠ r) : ({ w with heap := w.heap.setIfInBounds r o } : World).heap[r']? = w.heap[r']? := by
  show (w.heap.setIfInBounds r o)[r']? = _
  rw [Array.getElem?_setIfInBounds_ne (Ne.symm h)]

theorem setHeap_same {w : World} {r : Nat} {o : Obj} (h : r < w.heap.size) : ({ w with heap := w.heap.setIfInBounds r o } : World).heap[r]? = some o := by
  show (w.heap.setIfInBounds r o)[r]? = _
  rw [Array.getElem?_setIfInBounds_self_of_lt h]

theorem HRel.setMap {ρ : Rho} {s : SW} {w : World} (hr : HRel ρ s w) {i : Nat} {k : IntKind} {m m' : List (Int × Value)} {p : Pl} (hi : s.heap i = some (.map k true m)) (hp : ρ i = some p)
    {es : Array MapEntry} {clock : Nat} (h : MRel ρ k m' es.toList clock) :
    HRel ρ (s.set i (.map k true m')) { w with heap := w.heap.setIfInBounds p.r (.map es clock) } ∧ Ext ρ s w ρ (s.set i (.map k true m')) { w with heap := w.heap.setIfInBounds p.r (.map es clock) } := by
  have hlt := hr.lt_size hi hp
  exact ⟨hr.upd hi hp (fun r h => setHeap_other h) (by rw [setHeap_same hlt]; exact h), Ext.upd hi hp rfl (fun r h => setHeap_other h) (by simp) ⟨rfl, rfl, rfl⟩⟩

theorem run_keyThatStays_int {P : Program} (k : IntKind) (n : Int) (w : World) : (Instr.keyThatStays (.int k n) (.int k n)).run P w = .ok (.int k n) w := by
  simp [Instr.keyThatStays, Instr.sameBits]

theorem sMapUpdate_ok {P : Program} {ρ : Rho} {s s' : SW} {w : World} {t : TypeId} {x ix v rx rix rv : Value} (hr : HRel ρ s w) (h : sMapUpdate P t x ix v s = some s') (hx : VRel ρ x rx) (hi : VRel ρ ix rix) (hv : VRel ρ v rv) :
    ∃ w', (Instr.mapUpdate t rx rix rv).run P w = .ok () w' ∧ HRel ρ s' w' ∧ Ext ρ s w ρ s' w' := by
  unfold sMapUpdate at h
  split at h
  · rename_i k n i
    obtain rfl := hi.int
    split at h
    · rename_i kt et ht
      split at h
      · rename_i k0 kk m hk him
        split at h
        · rename_i hkk
          subst hkk
          cases h
          obtain ⟨p, hp, rfl⟩ := hx.map_inv
          obtain ⟨es, clock, h1, h2⟩ := hr.mapAt him hp
          rcases run_findKey_int (P := P) h2 hk n w with ⟨g1, g2, _⟩ | ⟨v', i', e, g1, g2, g3, g4, g5⟩
          · obtain ⟨k1, k2⟩ := hr.setMap him hp (h2.push n hv g1)
            refine ⟨_, ?_, k1, k2⟩
            simp only [Instr.mapUpdate, Sem.run_bind, run_underlying' w ht, Result.andThen_ok, run_getObj_map h1, run_checkKey_int hk, g2]
            rw [setObj_map h1]
          · obtain ⟨k1, k2⟩ := hr.setMap him hp (h2.put n hv g2 g3)
            refine ⟨_, ?_, k1, k2⟩
            simp only [Instr.mapUpdate, Sem.run_bind, run_underlying' w ht, Result.andThen_ok, run_getObj_map h1, run_checkKey_int hk, g5, g2, Option.map_some, Option.getD_some, g3, run_keyThatStays_int]
            rw [setObj_map h1]
        · cases h
      · cases h
    · cases h
  · cases h

def sDelete (P : Program) (argTypes : Array TypeId) (args : Array Value) (s : SW) : Option SW :=
  match (argTypes[0]? : Option TypeId), (args[0]? : Option Value), (args[1]? : Option Value) with
  | some t, some x, some ix =>
    match ix, P.underlying t with
    | .int k n, some (.map kt _) =>
      match P.underlying kt, x with
      | some (.int _), .map none => some s
      | some (.int _), .map (some i) =>
        match s.heap i with
        | some (.map kk true m) => if kk = k then some (s.set i (.map kk true (mdel m n))) else none
        | _ => none
      | _, _ => none
    | _, _ => none
  | _, _, _ => none

theorem sDelete_ok {P : Program} {ρ : Rho} {s s' : SW} {w : World} {argTypes : Array TypeId} {args rargs : Array Value} (hr : HRel ρ s w) (h : sDelete P argTypes args s = some s') (ha : F2 (VRel ρ) args.toList rargs.toList) (t : TypeId) :
    ∃ w', (Builtin.delete_ argTypes t rargs).run P w = .ok (.tuple #[]) w' ∧ HRel ρ s' w' ∧ Ext ρ s w ρ s' w' := by
  unfold sDelete at h
  split at h
  · rename_i tt x ix hT hA0 hA1
    obtain ⟨rx, hB0, hx⟩ := getD_args ha hA0
    obtain ⟨rix, hB1, hi⟩ := getD_args ha hA1
    unfold Builtin.delete_
    rw [hT, hB0, hB1]
    split at h
    · rename_i k n kt et ht
      obtain rfl := hi.int
      split at h
      · rename_i kk hk
        cases h
        obtain rfl : rx = .map none := by cases hx; rfl
        exact ⟨w, by simp [run_underlying' w ht, run_checkKey_int hk], hr, Ext.refl _ _ _⟩
      · rename_i kk i hk
        split at h
        · rename_i k' m him
          split at h
          · rename_i hkk
            subst hkk
            cases h
            obtain ⟨p, hp, rfl⟩ := hx.map_inv
            obtain ⟨es, clock, h1, h2⟩ := hr.mapAt him hp
            rcases run_findKey_int (P := P) h2 hk n w with ⟨g1, g2, _⟩ | ⟨v', i', e, g1, g2, g3, g4, g5⟩
            · obtain ⟨k1, k2⟩ := hr.setMap him hp (h2.del_none n g1)
              refine ⟨_, ?_, k1, k2⟩
              simp only [Sem.run_bind, run_underlying' w ht, Result.andThen_ok, run_getObj_map h1, run_checkKey_int hk, g2]
              rw [setObj_map h1]
              rfl
            · obtain ⟨k1, k2⟩ := hr.setMap him hp (h2.del n g2 g3)
              refine ⟨_, ?_, k1, k2⟩
              simp only [Sem.run_bind, run_underlying' w ht, Result.andThen_ok, run_getObj_map h1, run_checkKey_int hk, g5]
              rw [setObj_map h1]
              rfl
          · cases h
        · cases h
      · cases h
    · cases h
  · cases h

end Go.Sh
