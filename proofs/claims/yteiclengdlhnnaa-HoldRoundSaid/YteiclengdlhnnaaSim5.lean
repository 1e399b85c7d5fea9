/- The operations upon cells: addresses, loads, stores, new rows, parts of slices. -/
import Derived.Test.YteiclengdlhnnaaSim4
namespace Go.Sh
open Go

/-- A reckoning ends well, in a world of which the shadow tells. -/
def Good (P : Program) (m : Sem Value) (ρ : Rho) (s : SW) (w : World) (v : Value) (s' : SW) : Prop :=
  ∃ ρ' w' rv, m.run P w = .ok rv w' ∧ VRel ρ' v rv ∧ HRel ρ' s' w' ∧ Ext ρ s w ρ' s' w'

theorem Good.still {P : Program} {m : Sem Value} {ρ : Rho} {s : SW} {w : World} {v rv : Value} (h : HRel ρ s w) (hr : m.run P w = .ok rv w) (hv : VRel ρ v rv) : Good P m ρ s w v s :=
  ⟨ρ, w, rv, hr, hv, h, Ext.refl ρ s w⟩

def sUn (op : UnOp) (x : Value) : Option Value :=
  match op, x with
  | .neg, .int k n => some (.int k (k.wrap (0 - n)))
  | .xor, .int k n => sInt .xor k (if k.signed then -1 else k.max) n
  | .not, .bool b => some (.bool (!b))
  | _, _ => none

theorem sUn_ok {P : Program} {ρ : Rho} {op : UnOp} {x v rx : Value} (h : sUn op x = some v) (hx : VRel ρ x rx) : pl0 v = true ∧ ∀ w, (Op.unary op rx).run P w = .ok v w := by
  unfold sUn at h
  split at h
  · obtain rfl := hx.int; cases h; exact ⟨rfl, fun w => by simp [Op.unary, Op.intArith]⟩
  · obtain rfl := hx.int
    simp only [sInt] at h; cases h
    exact ⟨rfl, fun w => by simp [Op.unary, Op.intBits]⟩
  · obtain rfl := hx.bool; cases h; exact ⟨rfl, fun w => by simp [Op.unary]⟩
  · cases h

def sConvNum (P : Program) (src dst : TypeId) (x : Value) : Option Value :=
  match P.underlying src, P.underlying dst, x with
  | some _, some (.int k), .int _ n => some (.int k (k.wrap n))
  | some _, some .string, .string b => some (.string b)
  | _, _, _ => none

theorem sConvNum_ok {P : Program} {ρ : Rho} {src dst : TypeId} {x v rx : Value} (h : sConvNum P src dst x = some v) (hx : VRel ρ x rx) : pl0 v = true ∧ ∀ w, (convert src dst rx).run P w = .ok v w := by
  unfold sConvNum at h
  split at h
  · rename_i h1 h2
    obtain rfl := hx.int; cases h
    exact ⟨rfl, fun w => by simp [convert, run_underlying' w h1, run_underlying' w h2, Conv.intToInt]⟩
  · rename_i h1 h2
    obtain rfl := hx.string; cases h
    refine ⟨rfl, fun w => ?_⟩
    simp only [convert, Sem.run_bind, run_underlying' w h1, run_underlying' w h2, Result.andThen_ok]
    rfl
  · cases h

/-! ### addresses -/

def sNil (x : Value) : Option Value :=
  match x with
  | .pointer (some a) => some (.pointer (some a))
  | .func (.func fn) f c => some (.func (.func fn) f c)
  | _ => none

def sField (P : Program) (t : TypeId) (x : Value) (f : Nat) : Option Value :=
  match P.underlying t, x with
  | some (.struct fs), .pointer (some ⟨i, o, none⟩) =>
    match fs[f]? with
    | some fd => match sz P fd.type with
      | some (_ + 1) => some (.pointer (some ⟨i, o + fd.offset, none⟩))
      | _ => none
    | none => none
  | _, _ => none

theorem VRel.ptr_inv {ρ : Rho} {i o : Nat} {rv : Value} (h : VRel ρ (.pointer (some ⟨i, o, none⟩)) rv) : ∃ p, ρ i = some p ∧ rv = .pointer (some ⟨p.r, p.b + o, none⟩) := by
  cases h with
  | plain h0 => simp [pl0] at h0
  | ptr hp => exact ⟨_, hp, rfl⟩

theorem VRel.slice_inv {ρ : Rho} {i o l c : Nat} {rv : Value} (h : VRel ρ (.slice (some ⟨i, o, none⟩) l c) rv) :
    ∃ p c', ρ i = some p ∧ l ≤ c ∧ (c' = c ∨ (c' = c + p.x ∧ o + c * p.z = p.n)) ∧ rv = .slice (some ⟨p.r, p.b + o, none⟩) l c' := by
  cases h with
  | plain h0 => simp [pl0] at h0
  | slice hp h1 h2 => exact ⟨_, _, hp, h1, h2, rfl⟩

theorem sField_ok {P : Program} {ρ : Rho} {t : TypeId} {x v rx : Value} {f : Nat} (h : sField P t x f = some v) (hx : VRel ρ x rx) :
    ∃ rv, VRel ρ v rv ∧ ∀ w, (Instr.fieldAt t rx f).run P w = .ok rv w := by
  unfold sField at h
  split at h
  · rename_i h1
    split at h
    · rename_i fd hf
      split at h
      · rename_i n hn
        obtain ⟨p, hp, rfl⟩ := hx.ptr_inv
        cases h
        refine ⟨.pointer (some ⟨p.r, p.b + (_ + fd.offset), none⟩), .ptr hp, fun w => ?_⟩
        simp only [Instr.fieldAt, Sem.run_bind, run_underlying' w h1, Result.andThen_ok, hf, Instr.sureAddr, Sem.run_pure]
        simp only [fieldPlace, Sem.run_bind, run_sizeOf' w hn, Result.andThen_ok]
        rw [if_neg (by omega)]
        simp [Addr.add_none, Nat.add_assoc]
      · cases h
    · cases h
  · cases h

def sIndex (P : Program) (t : TypeId) (x ix : Value) : Option Value :=
  match ix with
  | .int _ j =>
    match P.underlying t, x with
    | some (.array len e), .pointer (some ⟨i, o, none⟩) =>
      match sz P e with
      | some n => if 0 ≤ j ∧ j < (len : Int) then some (.pointer (some ⟨i, o + j.toNat * n, none⟩)) else none
      | none => none
    | some (.slice e), .slice (some ⟨i, o, none⟩) len _ =>
      match sz P e with
      | some n => if 0 ≤ j ∧ j < (len : Int) then some (.pointer (some ⟨i, o + j.toNat * n, none⟩)) else none
      | none => none
    | _, _ => none
  | _ => none

theorem sIndex_ok {P : Program} {ρ : Rho} {t : TypeId} {x ix v rx rix : Value} (h : sIndex P t x ix = some v) (hx : VRel ρ x rx) (hi : VRel ρ ix rix) :
    ∃ rv, VRel ρ v rv ∧ ∀ w, (Instr.indexAt t rx rix).run P w = .ok rv w := by
  unfold sIndex at h
  split at h
  · rename_i k j
    obtain rfl := hi.int
    split at h
    · rename_i len e i o h1
      split at h
      · rename_i n hn
        split at h
        · rename_i hj
          obtain ⟨p, hp, rfl⟩ := hx.ptr_inv
          cases h
          refine ⟨.pointer (some ⟨p.r, p.b + (o + j.toNat * n), none⟩), .ptr hp, fun w => ?_⟩
          simp only [Instr.indexAt, asIntOf, Sem.run_bind, Sem.run_pure, run_underlying' w h1, Result.andThen_ok, Instr.sureAddr]
          rw [if_pos hj]
          simp [run_sizeOf' w hn, Addr.add_none, Nat.add_assoc]
        · cases h
      · cases h
    · rename_i e i o len c h1
      split at h
      · rename_i n hn
        split at h
        · rename_i hj
          obtain ⟨p, c', hp, _, _, rfl⟩ := hx.slice_inv
          cases h
          refine ⟨.pointer (some ⟨p.r, p.b + (o + j.toNat * n), none⟩), .ptr hp, fun w => ?_⟩
          simp only [Instr.indexAt, asIntOf, Sem.run_bind, Sem.run_pure, run_underlying' w h1, Result.andThen_ok]
          rw [if_pos hj]
          simp [run_sizeOf' w hn, Addr.add_none, Nat.add_assoc]
        · cases h
      · cases h
    · cases h
  · cases h

/-! ### loads and stores -/

def sLoad (P : Program) (t : TypeId) (x : Value) (s : SW) : Option Value :=
  match x with
  | .pointer (some ⟨i, o, none⟩) =>
    match s.heap i with
    | some (.cells cs _ _) =>
      match aggT P t with
      | some true => match sz P t with
        | some n => if o + n ≤ cs.length then some (.agg ((cs.drop o).take n).toArray) else none
        | none => none
      | some false => cs[o]?
      | none => none
    | _ => none
  | _ => none

theorem VRel.agg_of {ρ : Rho} {vs rvs : List Value} (h : F2 (VRel ρ) vs rvs) : VRel ρ (.agg vs.toArray) (.agg rvs.toArray) :=
  .agg (by simp [h.length]) fun k v v' h1 h2 => h.get k v v' (by simpa using h1) (by simpa using h2)

theorem sLoad_run {P : Program} {ρ : Rho} {s : SW} {w : World} {t : TypeId} {i o : Nat} {v : Value} (hr : HRel ρ s w) (h : sLoad P t (.pointer (some ⟨i, o, none⟩)) s = some v) :
    ∃ p rv, ρ i = some p ∧ VRel ρ v rv ∧ (loadVar t ⟨p.r, p.b + o, none⟩).run P w = .ok rv w := by
  unfold sLoad at h
  simp only at h
  split at h
  · rename_i cs own gr hi
    obtain ⟨p, hp, _⟩ := hr.place hi
    refine ⟨p, ?_⟩
    split at h
    · rename_i ha
      split at h
      · rename_i n hn
        split at h
        · rename_i hl
          cases h
          obtain ⟨rvs, h1, h2⟩ := hr.loadCells (P := P) hi hp hl
          refine ⟨.agg rvs.toArray, hp, .agg_of h1, ?_⟩
          simp [loadVar, run_isAgg' w ha, run_sizeOf' w hn, h2]
        · cases h
      · cases h
    · rename_i ha
      obtain ⟨rv, h1, h2⟩ := hr.cell hi hp h
      refine ⟨rv, hp, h2, ?_⟩
      simp only [loadVar, Sem.run_bind, run_isAgg' w ha, Result.andThen_ok]
      simp [run_load, h1]
    · cases h
  · cases h

theorem sLoad_ok {P : Program} {ρ : Rho} {s : SW} {w : World} {t : TypeId} {x v rx : Value} (hr : HRel ρ s w) (h : sLoad P t x s = some v) (hx : VRel ρ x rx) :
    ∃ rv, VRel ρ v rv ∧ (Instr.loadAt t rx).run P w = .ok rv w := by
  have hx0 := h
  unfold sLoad at hx0
  split at hx0
  · obtain ⟨p, rv, hp, hv, hrun⟩ := sLoad_run hr h
    obtain ⟨q, hq, rfl⟩ := hx.ptr_inv
    rw [hp] at hq; cases hq
    exact ⟨rv, hv, by simp [Instr.loadAt, Instr.sureAddr, hrun]⟩
  · cases hx0

def sStore (P : Program) (t : TypeId) (x v : Value) (s : SW) : Option SW :=
  match x with
  | .pointer (some ⟨i, o, none⟩) =>
    match s.heap i with
    | some (.cells cs true gr) =>
      if sz P t = some v.cells.size ∧ v.cells.toList.all (·.oneCell') = true ∧ o + v.cells.size ≤ cs.length then some (s.set i (.cells (setL cs o v.cells.toList) true gr)) else none
    | _ => none
  | _ => none

theorem sStore_ok {P : Program} {ρ : Rho} {s s' : SW} {w : World} {t : TypeId} {x v rx rv : Value} (hr : HRel ρ s w) (h : sStore P t x v s = some s') (hx : VRel ρ x rx) (hv : VRel ρ v rv) :
    ∃ w', (Instr.storeAt t rx rv).run P w = .ok () w' ∧ HRel ρ s' w' ∧ Ext ρ s w ρ s' w' := by
  unfold sStore at h
  split at h
  · rename_i i o
    split at h
    · rename_i cs gr hi
      split at h
      · rename_i hc
        obtain ⟨hsz, hone, hlen⟩ := hc
        cases h
        obtain ⟨p, hp, rfl⟩ := hx.ptr_inv
        have hone' : ∀ c ∈ v.cells.toList, c.oneCell' = true := List.all_eq_true.1 hone
        have hF := hv.cells hone'
        obtain ⟨w', h1, h2, h3⟩ := hr.storeCells (P := P) hi hp (by simpa using hlen) hF hone'
        refine ⟨w', ?_, h2, h3⟩
        have hsz' : rv.cells.size = v.cells.size := by simpa using hF.length.symm
        simp only [Instr.storeAt, Instr.sureAddr, Sem.run_bind, Sem.run_pure, Result.andThen_ok, storeVar, run_sizeOf' w hsz, hsz', ne_eq, not_true, if_false]
        exact h1
      · cases h
    · cases h
  · cases h

/-! ### new rows -/

theorem Good.newRow {P : Program} {ρ : Rho} {s : SW} {w : World} (hr : HRel ρ s w) {cs rcs : List Value} (e : TypeId) (hF : F2 (VRel ρ) cs rcs) :
    ∃ ρ' w', ρ' s.next = some ⟨w.heap.size, 0, cs.length, 0, 1⟩ ∧ (newRow e rcs.toArray).run P w = .ok ⟨w.heap.size, 0, none⟩ w' ∧ HRel ρ' (s.new (.cells cs true 0)) w' ∧ Ext ρ s w ρ' (s.new (.cells cs true 0)) w' := by
  have h := hr.newCells (cs := cs) (rc := rcs.toArray) (e := e) 0 1 0 rfl (Same.refl w) (by simp [hF.length]) (fun _ => rfl) (fun h => absurd rfl h) (fun k v hk => by
    have hlt : k < rcs.length := by
      rw [← hF.length]
      rcases Nat.lt_or_ge k cs.length with h | h
      · exact h
      · rw [List.getElem?_eq_none h] at hk; cases hk
    exact ⟨rcs[k], by simp [hlt], hF.get k v _ hk (List.getElem?_eq_getElem hlt)⟩)
  exact ⟨_, _, Rho.upd_same, rfl, h.1, h.2⟩

def sBox (v : Value) (s : SW) : Option (Value × SW) :=
  if v.cells.toList.all (·.oneCell') = true then some (.pointer (some ⟨s.next, 0, none⟩), s.new (.cells v.cells.toList true 0)) else none

theorem sBox_ok {P : Program} {ρ : Rho} {s s' : SW} {w : World} {v rv u : Value} (hr : HRel ρ s w) (h : sBox v s = some (u, s')) (hv : VRel ρ v rv) (e : TypeId) :
    Good P (do pure (.pointer (some (← newVar e rv)))) ρ s w u s' := by
  unfold sBox at h
  split at h
  · rename_i hone
    cases h
    obtain ⟨ρ', w', h1, h2, h3, h4⟩ := Good.newRow (P := P) hr e (hv.cells (List.all_eq_true.1 hone))
    refine ⟨ρ', w', .pointer (some ⟨w.heap.size, 0, none⟩), ?_, .ptr h1, h3, h4⟩
    simp only [newVar, Sem.run_bind]
    rw [show rv.cells = rv.cells.toList.toArray by simp, h2]
    rfl
  · cases h

end Go.Sh
