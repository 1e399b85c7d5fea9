/- copy, clear, the greater and the lesser of two; texts and bytes. -/
import Derived.Test.YteiclengdlhnnaaSim12
namespace Go.Sh
open Go

def sCopy (P : Program) (argTypes : Array TypeId) (args : Array Value) (s : SW) : Option (Value × SW) :=
  match (argTypes[0]? : Option TypeId), (args[0]? : Option Value), (args[1]? : Option Value) with
  | some t, some (.slice base dl _), some x =>
    match P.underlying t, sLenOf x with
    | some (.slice e), some m =>
      match sz P e with
      | some size =>
        match sFirst size (Nat.min m dl) x s with
        | some xs =>
          match base with
          | none => if dl = 0 then some (.int .i64 (Nat.min m dl), s) else none
          | some ⟨i, o, none⟩ =>
            match s.heap i with
            | some (.cells cs true g) =>
              if xs.all (·.oneCell') = true ∧ o + Nat.min m dl * size ≤ cs.length then some (.int .i64 (Nat.min m dl), s.set i (.cells (setL cs o xs) true g)) else none
            | _ => none
          | _ => none
        | none => none
      | none => none
    | _, _ => none
  | _, _, _ => none

theorem sCopy_ok {P : Program} {ρ : Rho} {s s' : SW} {w : World} {argTypes : Array TypeId} {args rargs : Array Value} {v : Value} (hr : HRel ρ s w) (h : sCopy P argTypes args s = some (v, s'))
    (ha : F2 (VRel ρ) args.toList rargs.toList) (t : TypeId) : Good P (Builtin.copy_ argTypes t rargs) ρ s w v s' := by
  unfold sCopy at h
  split at h
  · rename_i tt base dl c x hT hA0 hA1
    obtain ⟨rd, hB0, hd⟩ := getD_args ha hA0
    obtain ⟨rx, hB1, hx⟩ := getD_args ha hA1
    split at h
    · rename_i e m ht hm
      split at h
      · rename_i size hsz
        split at h
        · rename_i xs hxs
          obtain ⟨rxs, hF, hlen, hrun⟩ := sFirst_ok (P := P) hr hxs hx
          have hl := sLenOf_ok (P := P) hm hx w
          split at h
          · split at h
            · rename_i h0
              cases h
              obtain rfl : rd = .slice none dl c := by cases hd; rfl
              refine Good.still hr ?_ (.plain rfl)
              unfold Builtin.copy_
              rw [hT, hB0, hB1]
              simp only [Sem.run_bind, run_underlying' w ht, Result.andThen_ok, hl, run_sizeOf' w hsz, hrun]
              rfl
            · cases h
          · rename_i i o
            split at h
            · rename_i cs g hi
              split at h
              · rename_i hc
                cases h
                obtain ⟨p, c', hp, h1, h2, rfl⟩ := hd.slice_inv
                obtain ⟨w', e1, e2, e3⟩ := hr.storeCells (P := P) hi hp (o := o) (by omega) hF (List.all_eq_true.1 hc.1)
                refine ⟨ρ, w', .int .i64 (Nat.min m dl), ?_, .plain rfl, e2, e3⟩
                unfold Builtin.copy_
                rw [hT, hB0, hB1]
                simp only [Sem.run_bind, run_underlying' w ht, Result.andThen_ok, hl, run_sizeOf' w hsz, hrun]
                rw [e1]
                rfl
              · cases h
            · cases h
          · cases h
        · cases h
      · cases h
    · cases h
  · cases h

def sClear (P : Program) (argTypes : Array TypeId) (args : Array Value) (s : SW) : Option SW :=
  match (argTypes[0]? : Option TypeId), (args[0]? : Option Value) with
  | some t, some (.slice (some ⟨i, o, none⟩) (n + 1) _) =>
    match P.underlying t with
    | some (.slice e) =>
      match zeroV P e, s.heap i with
      | some z, some (.cells cs true g) =>
        if z.cells.toList.all pl0 = true ∧ o + (n + 1) * z.cells.size ≤ cs.length then some (s.set i (.cells (setL cs o (sZeros z.cells.toList (n + 1))) true g)) else none
      | _, _ => none
    | _ => none
  | _, _ => none

theorem sZeros_length (zero : List Value) (n : Nat) : (sZeros zero n).length = n * zero.length := by
  simp [sZeros]

theorem zeroCells_list (zero : Array Value) (n : Nat) : (Builtin.zeroCells zero n).toList = sZeros zero.toList n := sZeros_eq zero n

theorem sClear_ok {P : Program} {ρ : Rho} {s s' : SW} {w : World} {argTypes : Array TypeId} {args rargs : Array Value} (hr : HRel ρ s w) (h : sClear P argTypes args s = some s')
    (ha : F2 (VRel ρ) args.toList rargs.toList) (t : TypeId) : ∃ w', (Builtin.clear_ argTypes t rargs).run P w = .ok (.tuple #[]) w' ∧ HRel ρ s' w' ∧ Ext ρ s w ρ s' w' := by
  unfold sClear at h
  split at h
  · rename_i tt i o n c hT hA0
    obtain ⟨rd, hB0, hd⟩ := getD_args ha hA0
    split at h
    · rename_i e ht
      split at h
      · rename_i z cs g hz hi
        split at h
        · rename_i hc
          cases h
          obtain ⟨p, c', hp, h1, h2, rfl⟩ := hd.slice_inv
          have hall := sZeros_all hc.1 (n + 1)
          obtain ⟨w', e1, e2, e3⟩ := hr.storeCells (P := P) hi hp (o := o) (vs := sZeros z.cells.toList (n + 1)) (by rw [sZeros_length]; simpa using hc.2) (F2.zero hall)
            (fun v hv => pl0_oneCell (List.all_eq_true.1 hall v hv))
          refine ⟨w', ?_, e2, e3⟩
          unfold Builtin.clear_
          rw [hT, hB0]
          simp only [Sem.run_bind, run_underlying' w ht, Result.andThen_ok, run_zeroValue' w hz, zeroCells_list, e1, Sem.run_pure]
        · cases h
      · cases h
    · cases h
  · cases h

def sMinMax (mx : Bool) (args : Array Value) : Option Value :=
  match args.toList with
  | [.int k a, .int k' b] => if k = k' then some (.int k (if mx then (if b > a then b else a) else (if b < a then b else a))) else none
  | _ => none

theorem sMinMax_ok {P : Program} {ρ : Rho} {mx : Bool} {args rargs : Array Value} {v : Value} (h : sMinMax mx args = some v) (ha : F2 (VRel ρ) args.toList rargs.toList) (tys : Array TypeId) (t : TypeId) :
    pl0 v = true ∧ ∀ w, (if mx then Builtin.max_ tys t rargs else Builtin.min_ tys t rargs).run P w = .ok v w := by
  unfold sMinMax at h
  split at h
  · rename_i k a k' b hl
    split at h
    · rename_i hk
      subst hk
      cases h
      rw [hl] at ha
      generalize hrl : rargs.toList = rl at ha
      cases ha with
      | cons h1 h2 =>
        cases h2 with
        | cons h3 h4 =>
          cases h4
          obtain rfl := h1.int
          obtain rfl := h3.int
          refine ⟨rfl, fun w => ?_⟩
          cases mx
          · simp [Builtin.min_, hrl, Builtin.min2]
          · simp [Builtin.max_, hrl, Builtin.max2]
    · cases h
  · cases h

def byteOfV : Value → Option UInt8
  | .int .u8 n => some (UInt8.ofNat n.toNat)
  | _ => none

def bytesOfL : List Value → Option (List UInt8)
  | [] => some []
  | v :: vs => match byteOfV v, bytesOfL vs with
    | some b, some bs => some (b :: bs)
    | _, _ => none

/-- string(bytes) -/
def sBytesStr (P : Program) (src dst : TypeId) (x : Value) (s : SW) : Option Value :=
  match P.underlying src, P.underlying dst with
  | some (.slice e), some .string =>
    match P.underlying e, x with
    | some (.int .u8), .slice none _ _ => some (.string .empty)
    | some (.int .u8), .slice (some ⟨i, o, none⟩) n _ =>
      match s.heap i with
      | some (.cells cs _ _) =>
        if o + n ≤ cs.length then (bytesOfL ((cs.drop o).take n)).map fun bs => .string ⟨bs.toArray⟩ else none
      | _ => none
    | _, _ => none
  | _, _ => none

theorem run_pushBytes {P : Program} {ρ : Rho} : ∀ (vs rvs : List Value), F2 (VRel ρ) vs rvs → ∀ (bs : List UInt8), bytesOfL vs = some bs → ∀ (acc : ByteArray) (w : World),
    ((forIn rvs acc fun c (s : ByteArray) => match c with
      | .int .u8 n => pure (.yield (s.push (UInt8.ofNat n.toNat)))
      | _ => do
        stuck "bytesToString: byte expected"
        pure (.yield s)) : Sem ByteArray).run P w = .ok ⟨acc.data ++ bs.toArray⟩ w := by
  intro vs rvs h
  induction h with
  | nil => intro bs hb acc w; cases hb; simp
  | @cons v rv vs' rvs' h1 _ ih =>
    intro bs hb acc w
    simp only [bytesOfL] at hb
    split at hb
    · rename_i b bs' hb1 hb2
      cases hb
      cases v with
      | int k n =>
        obtain rfl := h1.int
        cases k <;> simp only [byteOfV] at hb1 <;> first | (cases hb1; done) | skip
        cases hb1
        simp only [List.forIn_cons, Sem.run_bind, Sem.run_pure, Result.andThen_ok]
        rw [ih bs' hb2]
        congr 2
        simp [ByteArray.push]
      | _ => cases hb1
    · cases hb

theorem sBytesStr_ok {P : Program} {ρ : Rho} {s : SW} {w : World} {src dst : TypeId} {x v rx : Value} (hr : HRel ρ s w) (h : sBytesStr P src dst x s = some v) (hx : VRel ρ x rx) :
    pl0 v = true ∧ (convert src dst rx).run P w = .ok v w := by
  unfold sBytesStr at h
  split at h
  · rename_i e hs hd
    split at h
    · rename_i l c he
      cases h
      obtain rfl : rx = .slice none l c := by cases hx; rfl
      refine ⟨rfl, ?_⟩
      simp only [convert, Sem.run_bind, run_underlying' w hs, run_underlying' w hd, Result.andThen_ok, run_underlying' w he, Conv.bytesToString, Sem.run_pure]
    · rename_i i o n c he
      split at h
      · rename_i cs own g hi
        split at h
        · rename_i hl
          cases hb : bytesOfL ((cs.drop o).take n) with
          | none => rw [hb] at h; cases h
          | some bs =>
            rw [hb] at h
            cases h
            obtain ⟨p, c', hp, h1, h2, rfl⟩ := hx.slice_inv
            obtain ⟨rvs, h3, h4⟩ := hr.loadCells (P := P) hi hp hl
            refine ⟨rfl, ?_⟩
            simp only [convert, Sem.run_bind, run_underlying' w hs, run_underlying' w hd, Result.andThen_ok, run_underlying' w he, Conv.bytesToString, h4]
            have := run_pushBytes (P := P) _ _ h3 bs hb ByteArray.empty w
            rw [← Array.forIn_toList]
            rw [show rvs.toArray.toList = rvs by simp]
            refine Eq.trans (congrArg (fun r => Result.andThen r fun (a : ByteArray) w' => Sem.run P (pure (Value.string a)) w') this) ?_
            simp
        · cases h
      · cases h
    · cases h
  · cases h

/-- []byte(s) -/
def sStrBytes (P : Program) (src dst : TypeId) (x : Value) (s : SW) : Option (Value × SW) :=
  match P.underlying src, P.underlying dst, x with
  | some .string, some (.slice e), .string b =>
    match P.underlying e with
    | some (.int .u8) => some (.slice (some ⟨s.next, 0, none⟩) b.size b.size, s.new (.cells (b.data.toList.map byteV) true 1))
    | _ => none
  | _, _, _ => none

theorem sStrBytes_ok {P : Program} {ρ : Rho} {s s' : SW} {w : World} {src dst : TypeId} {x v rx : Value} (hr : HRel ρ s w) (h : sStrBytes P src dst x s = some (v, s')) (hx : VRel ρ x rx) :
    Good P (convert src dst rx) ρ s w v s' := by
  unfold sStrBytes at h
  split at h
  · rename_i e b hs hd
    obtain rfl := hx.string
    split at h
    · rename_i he
      cases h
      have hcap : b.size ≤ (Question.appendCap b.size 0 e).cut (w.tape w.drawn (Question.appendCap b.size 0 e)) := by simp only [Question.cut]; omega
      generalize hc : (Question.appendCap b.size 0 e).cut (w.tape w.drawn (Question.appendCap b.size 0 e)) = cap at hcap
      let rc : Array Value := (b.data.map fun b => Value.int .u8 b.toNat) ++ Array.replicate (cap - b.size) (.int .u8 0)
      have hrc : rc.size = cap := by
        have : b.data.size = b.size := rfl
        simp only [rc, Array.size_append, Array.size_map, Array.size_replicate]
        omega
      have hn : ρ s.next = none := hr.next _ (Nat.le_refl _)
      let w₁ : World := (w.drew.alloc (.cells rc e))
      let w₂ : World := w₁.freeze ⟨w.heap.size, rc.size, none⟩ 1
      have hw2 : w₂.heap[w.heap.size]? = some (.cells rc e (rc.size, rc.size + 1)) := by
        simp only [w₂, World.freeze]
        rw [if_neg (by omega)]
        simp only [Array.getElem?_modify, if_true]
        have : w₁.heap[w.heap.size]? = some (.cells rc e) := by show (w.heap.push _)[w.heap.size]? = _; simp
        rw [this]
        rfl
      have hold : ∀ r, r < w.heap.size → w₂.heap[r]? = w.heap[r]? := fun r hlt => by
        simp only [w₂, World.freeze]
        rw [if_neg (by omega)]
        simp only [Array.getElem?_modify]
        rw [if_neg (by omega)]
        exact RowKit.Below.heap_alloc w.drew _ r hlt
      have hsz : w.heap.size ≤ w₂.heap.size := by
        simp only [w₂, World.freeze]
        rw [if_neg (by omega)]
        simp [w₁]
      have hsame : Same w w₂ := by
        simp only [w₂, World.freeze]
        rw [if_neg (by omega)]
        exact ⟨rfl, rfl, rfl⟩
      have hlen : (b.data.toList.map byteV).length = b.size := by rw [List.length_map]; rfl
      have ho : ORel (ρ.upd s.next ⟨w.heap.size, 0, b.size, cap - b.size, 1⟩) ⟨w.heap.size, 0, b.size, cap - b.size, 1⟩ (.cells (b.data.toList.map byteV) true 1) (w₂.heap[w.heap.size]?) := by
        rw [hw2]
        refine ⟨hlen, by rw [hrc]; simp; omega, ?_, ?_, fun h => by omega, fun _ => rfl⟩
        · intro k v hk
          refine ⟨v, ?_, ?_⟩
          · have hlt : k < b.data.size := by
              rcases Nat.lt_or_ge k (b.data.toList.map byteV).length with h | h
              · simpa using h
              · rw [List.getElem?_eq_none h] at hk; cases hk
            simp only [rc, Nat.zero_add]
            rw [Array.getElem?_append_left (by simpa using hlt)]
            simpa [byteV] using hk
          · simp only [List.getElem?_map, Option.map_eq_some_iff] at hk
            obtain ⟨_, _, rfl⟩ := hk
            exact .plain rfl
        · intro _ k hk h; simp only at h; omega
      have h1 := hr.alloc (o := .cells (b.data.toList.map byteV) true 1) (p := ⟨w.heap.size, 0, b.size, cap - b.size, 1⟩) (w' := w₂) rfl hold ho
      have h2 := Ext.alloc hr (o := .cells (b.data.toList.map byteV) true 1) (p := ⟨w.heap.size, 0, b.size, cap - b.size, 1⟩) (w' := w₂) rfl hold hsz hsame
      refine ⟨_, w₂, .slice (some ⟨w.heap.size, 0 + 0, none⟩) b.size cap, ?_, .slice Rho.upd_same (Nat.le_refl _) (.inr ⟨by simp only; omega, by simp⟩), h1, h2⟩
      simp only [convert, Sem.run_bind, run_underlying' w hs, run_underlying' w hd, Result.andThen_ok, run_underlying' w he, Conv.stringToBytes, run_choose, Question.forced, Bool.false_eq_true, if_false, hc, newRow, run_newObj, Sem.run_pure, markStringish, run_shape]
      have hshape : (w₁.shape? w.heap.size) = some (e, rc.size) := by
        have : w₁.heap[w.heap.size]? = some (.cells rc e) := by show (w.heap.push _)[w.heap.size]? = _; simp
        simp [World.shape?, this]
      show ((Sem.run P (match w₁.shape? w.heap.size with | some (_, n) => freeze { block := w.heap.size, off := n } 1 | _ => pure ()) w₁).andThen _) = _
      rw [hshape]
      simp only [run_freeze, Result.andThen_ok]
      rfl
    · cases h
  · cases h

end Go.Sh
