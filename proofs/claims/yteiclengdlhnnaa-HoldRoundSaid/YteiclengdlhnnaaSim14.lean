/- One operation. -/
import Derived.Test.YteiclengdlhnnaaSim13
namespace Go.Sh
open Go

def sFieldV (P : Program) (t : TypeId) (x : Value) (f : Nat) : Option Value :=
  match P.underlying t, x with
  | some (.struct fs), .agg cs => match (fs[f]? : Option Field) with
    | some fd => sPart P fd.type cs fd.offset
    | none => none
  | _, _ => none

def sIndexV (P : Program) (t : TypeId) (x ix : Value) : Option Value :=
  match ix with
  | .int _ j =>
    match P.underlying t, x with
    | some (.array len e), .agg cs =>
      match sz P e with
      | some n => if 0 ≤ j ∧ j < (len : Int) then sPart P e cs (j.toNat * n) else none
      | none => none
    | some .string, .string b => if 0 ≤ j then (b[j.toNat]?).map byteV else none
    | _, _ => none
  | _ => none

theorem sFieldV_ok {P : Program} {ρ : Rho} {t : TypeId} {x v rx : Value} {f : Nat} (h : sFieldV P t x f = some v) (hx : VRel ρ x rx) : ∃ rv, VRel ρ v rv ∧ ∀ w, (Instr.field t rx f).run P w = .ok rv w := by
  unfold sFieldV at h
  split at h
  · rename_i fs cs ht
    obtain ⟨rcs, rfl, h1, h2⟩ := hx.agg_inv
    split at h
    · rename_i fd hf
      obtain ⟨rv, h3, h4⟩ := sPart_rel h1 h2 h
      refine ⟨rv, h4, fun w => ?_⟩
      simp only [Instr.field, Sem.run_bind, run_underlying' w ht, Result.andThen_ok, hf, asAgg, Sem.run_pure, run_part' h3 w]
    · cases h
  · cases h

theorem sIndexV_ok {P : Program} {ρ : Rho} {t : TypeId} {x ix v rx rix : Value} (h : sIndexV P t x ix = some v) (hx : VRel ρ x rx) (hi : VRel ρ ix rix) : ∃ rv, VRel ρ v rv ∧ ∀ w, (Instr.index t rx rix).run P w = .ok rv w := by
  unfold sIndexV at h
  split at h
  · rename_i k j
    obtain rfl := hi.int
    split at h
    · rename_i len e cs ht
      obtain ⟨rcs, rfl, h1, h2⟩ := hx.agg_inv
      split at h
      · rename_i n hn
        split at h
        · rename_i hj
          obtain ⟨rv, h3, h4⟩ := sPart_rel h1 h2 h
          refine ⟨rv, h4, fun w => ?_⟩
          simp only [Instr.index, asIntOf, Sem.run_bind, Sem.run_pure, run_underlying' w ht, Result.andThen_ok]
          rw [if_pos hj]
          simp only [Sem.run_bind, run_sizeOf' w hn, Result.andThen_ok, run_part' h3 w]
        · cases h
      · cases h
    · rename_i b ht
      obtain rfl := hx.string
      split at h
      · rename_i hj
        cases hb : b[j.toNat]? with
        | none => rw [hb] at h; cases h
        | some u =>
          rw [hb] at h; cases h
          refine ⟨byteV u, .plain rfl, fun w => ?_⟩
          simp only [Instr.index, asIntOf, Sem.run_bind, Sem.run_pure, run_underlying' w ht, Result.andThen_ok]
          rw [if_pos hj, hb]
          rfl
      · cases h
    · cases h
  · cases h

def sBuiltin (P : Program) (b : Builtin) (tys : Array TypeId) (args : Array Value) (s : SW) : Option (Value × SW) :=
  match b with
  | .append => sAppend P tys args s
  | .len => (sLen P tys args s).map (·, s)
  | .copy => sCopy P tys args s
  | .clear => (sClear P tys args s).map (Go.noResult, ·)
  | .delete => (sDelete P tys args s).map (Go.noResult, ·)
  | .max => (sMinMax true args).map (·, s)
  | .min => (sMinMax false args).map (·, s)
  | _ => none

/-- An operation that calls no function. -/
def sOp (P : Program) (o : Oper) (fr : List Value) (s : SW) : Option (Value × SW) :=
  match o.op with
  | .move x | .assign x => some (ev fr x, s)
  | .pick c a b => match ev fr c with | .bool t => some (if t then ev fr a else ev fr b, s) | _ => none
  | .alloc t => sAlloc P t s
  | .box _ v => sBox (ev fr v) s
  | .build t ps => (sBuild P t (ps.toList.map fun p => (p.1, ev fr p.2))).map (·, s)
  | .buildSlice t n ps => sBuildSlice P t n (ps.toList.map fun p => (p.1, ev fr p.2)) s
  | .insert t m k v | .mapUpdate t m k v => (sMapUpdate P t (ev fr m) (ev fr k) (ev fr v) s).map (Go.undef, ·)
  | .load t a => (sLoad P t (ev fr a) s).map (·, s)
  | .store t a v => (sStore P t (ev fr a) (ev fr v) s).map (Go.undef, ·)
  | .nilCheck x => (sNil (ev fr x)).map (·, s)
  | .binOp op t x y _ => (sBin P op t (ev fr x) (ev fr y)).map (·, s)
  | .unOp op _ x => (sUn op (ev fr x)).map (·, s)
  | .convert a b x =>
    match sConvNum P a b (ev fr x) with
    | some v => some (v, s)
    | none => match sBytesStr P a b (ev fr x) s with
      | some v => some (v, s)
      | none => sStrBytes P a b (ev fr x) s
  | .makeFunc fn f c => some (.func fn (f.map (ev fr)) (c.map (ev fr)), s)
  | .makeMap t none => sMakeMap P t s
  | .makeMap t (some x) => match ev fr x with | .int _ _ => sMakeMap P t s | _ => none
  | .makeSlice t l c => sMakeSlice P t (ev fr l) (ev fr c) s
  | .slice t x l h m => (sSlice P t (ev fr x) (l.map (ev fr)) (h.map (ev fr)) (m.map (ev fr)) s).map (·, s)
  | .fieldAddr t x f => (sField P t (ev fr x) f).map (·, s)
  | .field t x f => (sFieldV P t (ev fr x) f).map (·, s)
  | .indexAddr t x i => (sIndex P t (ev fr x) (ev fr i)).map (·, s)
  | .index t x i => (sIndexV P t (ev fr x) (ev fr i)).map (·, s)
  | .lookup t x i ok => (sLookup P t (ev fr x) (ev fr i) ok s).map (·, s)
  | .extract t i => (match ev fr t with | .tuple vs => if vs.size = 1 then none else vs[i]? | _ => none).map (·, s)
  | .call ⟨.builtin b, args, tys⟩ => sBuiltin P b tys (args.map (ev fr)) s
  | _ => none

/-- What the model does then. -/
def OpGood (P : Program) (o : Oper) (a : Act) (ρ : Rho) (s : SW) (w : World) (v : Value) (s' : SW) : Prop :=
  ∃ ρ' w' rv n, (execOp a.eval o).run P w = .ok n w' ∧ (n = .value rv ∨ (n = .skip ∧ rv = Go.undef)) ∧ VRel ρ' v rv ∧ HRel ρ' s' w' ∧ Ext ρ s w ρ' s' w'

theorem F2.map_ev {ρ : Rho} {fr : List Value} {a : Act} (hf : FRel ρ fr a) (l : List Operand) : F2 (VRel ρ) (l.map (ev fr)) (l.map a.eval) := by
  induction l with
  | nil => exact .nil
  | cons x l ih => exact .cons (hf.ev x) ih

theorem F2.map_parts {ρ : Rho} {fr : List Value} {a : Act} (hf : FRel ρ fr a) (l : List (Nat × Operand)) : F2 (PRel ρ) (l.map fun p => (p.1, ev fr p.2)) (l.map fun p => (p.1, a.eval p.2)) := by
  induction l with
  | nil => exact .nil
  | cons x l ih => exact .cons ⟨rfl, hf.ev x.2⟩ ih

theorem oRel_map {ρ : Rho} {fr : List Value} {a : Act} (hf : FRel ρ fr a) (x : Option Operand) : oRel ρ (x.map (ev fr)) (x.map a.eval) := by
  cases x with
  | none => trivial
  | some x => exact hf.ev x

theorem OpGood.value {P : Program} {o : Oper} {a : Act} {ρ : Rho} {s s' : SW} {w : World} {v : Value} {m : Sem Value} (he : execOp a.eval o = (do pure (.value (← m)))) (h : Good P m ρ s w v s') : OpGood P o a ρ s w v s' := by
  obtain ⟨ρ', w', rv, h1, h2, h3, h4⟩ := h
  exact ⟨ρ', w', rv, .value rv, by rw [he]; simp [h1], .inl rfl, h2, h3, h4⟩

theorem OpGood.unit {P : Program} {o : Oper} {a : Act} {ρ : Rho} {s s' : SW} {w : World} {m : Sem Unit} (he : execOp a.eval o = (do m; pure .skip)) (h : ∃ w', m.run P w = .ok () w' ∧ HRel ρ s' w' ∧ Ext ρ s w ρ s' w') : OpGood P o a ρ s w Go.undef s' := by
  obtain ⟨w', h1, h2, h3⟩ := h
  exact ⟨ρ, w', Go.undef, .skip, by rw [he]; simp [h1], .inr ⟨rfl, rfl⟩, .undef, h2, h3⟩

theorem sOp_ok {P : Program} {o : Oper} {fr : List Value} {a : Act} {ρ : Rho} {s s' : SW} {w : World} {v : Value} (hf : FRel ρ fr a) (hr : HRel ρ s w) (h : sOp P o fr s = some (v, s')) : OpGood P o a ρ s w v s' := by
  have hop : ∀ x, o.op = x → execOp a.eval o = execOp a.eval { o with op := x } := fun x hx => by cases o; cases hx; rfl
  unfold sOp at h
  split at h
  case h_1 x hx => cases h; exact ⟨ρ, w, a.eval x, .value (a.eval x), by rw [hop _ hx]; simp [execOp], .inl rfl, hf.ev x, hr, Ext.refl _ _ _⟩
  case h_2 x hx => cases h; exact ⟨ρ, w, a.eval x, .value (a.eval x), by rw [hop _ hx]; simp [execOp], .inl rfl, hf.ev x, hr, Ext.refl _ _ _⟩
  case h_3 c x y hx =>
    split at h
    · rename_i t hc
      cases h
      have h1 := hf.ev c
      rw [hc] at h1
      refine ⟨ρ, w, if t then a.eval x else a.eval y, .value (if t then a.eval x else a.eval y), ?_, .inl rfl, ?_, hr, Ext.refl _ _ _⟩
      · rw [hop _ hx]; simp [execOp, h1.bool, asBool]
      · cases t
        · exact hf.ev y
        · exact hf.ev x
    · cases h
  case h_4 t hx => exact .value (m := Instr.alloc t true (.tuple #[])) (by rw [hop _ hx]; rfl) (sAlloc_ok hr h)
  case h_5 t x hx => exact .value (m := Instr.box t (a.eval x)) (by rw [hop _ hx]; rfl) (sBox_ok hr h (hf.ev x) t)
  case h_6 t ps hx =>
    simp only [Option.map_eq_some_iff, Prod.mk.injEq] at h
    obtain ⟨v', h1, rfl, rfl⟩ := h
    obtain ⟨rv, h2, h3⟩ := sBuild_ok (ρ := ρ) (rparts := ps.map fun p => (p.1, a.eval p.2)) h1 (by simpa using F2.map_parts hf ps.toList)
    exact .value (m := Instr.build t (ps.map fun p => (p.1, a.eval p.2))) (by rw [hop _ hx]; rfl) (.still hr (h3 w) h2)
  case h_7 t n ps hx =>
    exact .value (m := Instr.buildSlice t n (ps.map fun p => (p.1, a.eval p.2))) (by rw [hop _ hx]; rfl) (sBuildSlice_ok hr h (by simpa using F2.map_parts hf ps.toList))
  case h_8 t m k x hx =>
    simp only [Option.map_eq_some_iff, Prod.mk.injEq] at h
    obtain ⟨s₁, h1, rfl, rfl⟩ := h
    exact .unit (m := Instr.mapUpdate t (a.eval m) (a.eval k) (a.eval x)) (by rw [hop _ hx]; rfl) (sMapUpdate_ok hr h1 (hf.ev m) (hf.ev k) (hf.ev x))
  case h_9 t m k x hx =>
    simp only [Option.map_eq_some_iff, Prod.mk.injEq] at h
    obtain ⟨s₁, h1, rfl, rfl⟩ := h
    exact .unit (m := Instr.mapUpdate t (a.eval m) (a.eval k) (a.eval x)) (by rw [hop _ hx]; rfl) (sMapUpdate_ok hr h1 (hf.ev m) (hf.ev k) (hf.ev x))
  case h_10 t x hx =>
    simp only [Option.map_eq_some_iff, Prod.mk.injEq] at h
    obtain ⟨v', h1, rfl, rfl⟩ := h
    obtain ⟨rv, h2, h3⟩ := sLoad_ok hr h1 (hf.ev x)
    exact .value (m := Instr.loadAt t (a.eval x)) (by rw [hop _ hx]; rfl) (.still hr h3 h2)
  case h_11 t x y hx =>
    simp only [Option.map_eq_some_iff, Prod.mk.injEq] at h
    obtain ⟨s₁, h1, rfl, rfl⟩ := h
    exact .unit (m := Instr.storeAt t (a.eval x) (a.eval y)) (by rw [hop _ hx]; rfl) (sStore_ok hr h1 (hf.ev x) (hf.ev y))
  case h_12 x hx =>
    simp only [Option.map_eq_some_iff, Prod.mk.injEq] at h
    obtain ⟨v', h1, rfl, rfl⟩ := h
    have hv := hf.ev x
    unfold sNil at h1
    split at h1
    · rename_i b he
      cases h1
      rw [he] at hv
      have : ∃ b', a.eval x = .pointer (some b') := by
        cases b with | mk i o sp => cases sp with
          | none => obtain ⟨p, _, h2⟩ := hv.ptr_inv; exact ⟨_, h2⟩
          | some k =>
            generalize a.eval x = r at hv
            cases hv with
            | plain h0 => simp [pl0] at h0
      obtain ⟨b', hb'⟩ := this
      refine ⟨ρ, w, a.eval x, .value (a.eval x), ?_, .inl rfl, hv, hr, Ext.refl _ _ _⟩
      rw [hop _ hx]; simp [execOp, hb']
    · rename_i fn f c he
      cases h1
      rw [he] at hv
      have : ∃ f' c', a.eval x = .func (.func fn) f' c' := by
        generalize a.eval x = r at hv
        cases hv with
        | plain h0 => simp [pl0] at h0
        | func _ _ _ _ => exact ⟨_, _, rfl⟩
      obtain ⟨f', c', hb'⟩ := this
      refine ⟨ρ, w, a.eval x, .value (a.eval x), ?_, .inl rfl, hv, hr, Ext.refl _ _ _⟩
      rw [hop _ hx]; simp [execOp, hb']
    · cases h1
  case h_13 op t x y ty hx =>
    simp only [Option.map_eq_some_iff, Prod.mk.injEq] at h
    obtain ⟨v', h1, rfl, rfl⟩ := h
    obtain ⟨h2, h3⟩ := sBin_rel h1 (hf.ev x) (hf.ev y) x y
    exact .value (m := (do eqGuard op t x y (a.eval x) (a.eval y); Go.binOp op t (a.eval x) (a.eval y) : Sem Value)) (by rw [hop _ hx]; rfl) (.still hr (h3 w) (.plain h2))
  case h_14 op t x hx =>
    simp only [Option.map_eq_some_iff, Prod.mk.injEq] at h
    obtain ⟨v', h1, rfl, rfl⟩ := h
    obtain ⟨h2, h3⟩ := sUn_ok (P := P) h1 (hf.ev x)
    exact .value (m := Op.unary op (a.eval x)) (by rw [hop _ hx]; rfl) (.still hr (h3 w) (.plain h2))
  case h_15 src dst x hx =>
    refine .value (m := convert src dst (a.eval x)) (by rw [hop _ hx]; rfl) ?_
    split at h
    · rename_i v' h1
      cases h
      obtain ⟨h2, h3⟩ := sConvNum_ok h1 (hf.ev x)
      exact .still hr (h3 w) (.plain h2)
    · split at h
      · rename_i v' h1
        cases h
        obtain ⟨h2, h3⟩ := sBytesStr_ok hr h1 (hf.ev x)
        exact .still hr h3 (.plain h2)
      · exact sStrBytes_ok hr h (hf.ev x)
  case h_16 fn f c hx =>
    cases h
    have h1 := F2.map_ev hf f.toList
    have h2 := F2.map_ev hf c.toList
    refine .value (m := Instr.makeFunc fn (f.map a.eval) (c.map a.eval)) (by rw [hop _ hx]; rfl) (.still hr rfl (.func (by simp) (by simp) ?_ ?_))
    · intro k u u' e1 e2; exact h1.get k u u' (by simpa using e1) (by simpa using e2)
    · intro k u u' e1 e2; exact h2.get k u u' (by simpa using e1) (by simpa using e2)
  case h_17 t hx => exact .value (m := Instr.makeMap t none) (by rw [hop _ hx]; rfl) (sMakeMap_ok hr h none fun x hx => by cases hx)
  case h_18 t x hx =>
    split at h
    · rename_i k n he
      have hv := hf.ev x
      rw [he] at hv
      exact .value (m := Instr.makeMap t (some (a.eval x))) (by rw [hop _ hx]; rfl) (sMakeMap_ok hr h _ fun y hy => by cases hy; exact ⟨k, n, hv.int⟩)
    · cases h
  case h_19 t l c hx => exact .value (m := Instr.makeSlice t (a.eval l) (a.eval c)) (by rw [hop _ hx]; rfl) (sMakeSlice_ok hr h (hf.ev l) (hf.ev c))
  case h_20 t x l hi m hx =>
    simp only [Option.map_eq_some_iff, Prod.mk.injEq] at h
    obtain ⟨v', h1, rfl, rfl⟩ := h
    obtain ⟨rv, h2, h3⟩ := sSlice_ok hr h1 (hf.ev x) (oRel_map hf l) (oRel_map hf hi) (oRel_map hf m)
    exact .value (m := Instr.sliceAt t (a.eval x) (l.map a.eval) (hi.map a.eval) (m.map a.eval)) (by rw [hop _ hx]; rfl) (.still hr (h3 w) h2)
  case h_21 t x f hx =>
    simp only [Option.map_eq_some_iff, Prod.mk.injEq] at h
    obtain ⟨v', h1, rfl, rfl⟩ := h
    obtain ⟨rv, h2, h3⟩ := sField_ok h1 (hf.ev x)
    exact .value (m := Instr.fieldAt t (a.eval x) f) (by rw [hop _ hx]; rfl) (.still hr (h3 w) h2)
  case h_22 t x f hx =>
    simp only [Option.map_eq_some_iff, Prod.mk.injEq] at h
    obtain ⟨v', h1, rfl, rfl⟩ := h
    obtain ⟨rv, h2, h3⟩ := sFieldV_ok h1 (hf.ev x)
    exact .value (m := Instr.field t (a.eval x) f) (by rw [hop _ hx]; rfl) (.still hr (h3 w) h2)
  case h_23 t x i hx =>
    simp only [Option.map_eq_some_iff, Prod.mk.injEq] at h
    obtain ⟨v', h1, rfl, rfl⟩ := h
    obtain ⟨rv, h2, h3⟩ := sIndex_ok h1 (hf.ev x) (hf.ev i)
    exact .value (m := Instr.indexAt t (a.eval x) (a.eval i)) (by rw [hop _ hx]; rfl) (.still hr (h3 w) h2)
  case h_24 t x i hx =>
    simp only [Option.map_eq_some_iff, Prod.mk.injEq] at h
    obtain ⟨v', h1, rfl, rfl⟩ := h
    obtain ⟨rv, h2, h3⟩ := sIndexV_ok h1 (hf.ev x) (hf.ev i)
    exact .value (m := Instr.index t (a.eval x) (a.eval i)) (by rw [hop _ hx]; rfl) (.still hr (h3 w) h2)
  case h_25 t x i ok hx =>
    simp only [Option.map_eq_some_iff, Prod.mk.injEq] at h
    obtain ⟨v', h1, rfl, rfl⟩ := h
    obtain ⟨rv, h2, h3⟩ := sLookup_ok hr h1 (hf.ev x) (hf.ev i)
    exact .value (m := Instr.lookup t (a.eval x) (a.eval i) ok) (by rw [hop _ hx]; rfl) (.still hr h3 h2)
  case h_26 x i hx =>
    simp only [Option.map_eq_some_iff, Prod.mk.injEq] at h
    obtain ⟨v', h1, rfl, rfl⟩ := h
    split at h1
    · rename_i vs he
      have hv := hf.ev x
      rw [he] at hv
      split at h1
      · cases h1
      · rename_i hsz
        have : ∃ rvs rv, a.eval x = .tuple rvs ∧ rvs[i]? = some rv ∧ VRel ρ v' rv := by
          generalize a.eval x = r at hv
          generalize hT : Value.tuple vs = T at hv
          cases hv with
          | plain h0 => subst hT; simp [pl0] at h0
          | junk =>
            simp only [junk, Value.tuple.injEq] at hT
            subst hT
            exact absurd rfl hsz
          | tuple h2 h3 =>
            cases hT
            have hlt : i < vs.size := (Array.getElem?_eq_some_iff.1 h1).1
            exact ⟨_, _, rfl, Array.getElem?_eq_getElem (by omega), h3 i _ _ h1 (Array.getElem?_eq_getElem (by omega))⟩
          | _ => cases hT
        obtain ⟨rvs, rv, h2, h3, h4⟩ := this
        exact .value (m := Instr.extract (a.eval x) i) (by rw [hop _ hx]; rfl) (.still hr (by rw [h2]; simp [Instr.extract, h3]) h4)
    · cases h1
  case h_27 b args tys hx =>
    have hargs : F2 (VRel ρ) (args.map (ev fr)).toList (args.map a.eval).toList := by simpa using F2.map_ev hf args.toList
    have he : execOp a.eval o = builtin b tys o.type ((args.map fun | .const _ => true | _ => false)) (args.map a.eval) := by
      rw [hop _ hx]
      simp only [execOp, resolve, invoke]
      rfl
    unfold sBuiltin at h
    split at h
    · exact .value (m := Builtin.append_ tys o.type (args.map a.eval)) (by rw [he]; rfl) (sAppend_ok hr h hargs _)
    · simp only [Option.map_eq_some_iff, Prod.mk.injEq] at h
      obtain ⟨v', h1, rfl, rfl⟩ := h
      obtain ⟨h2, h3⟩ := sLen_ok hr h1 hargs o.type
      exact .value (m := Builtin.len_ tys o.type (args.map a.eval)) (by rw [he]; rfl) (.still hr h3 (.plain h2))
    · exact .value (m := Builtin.copy_ tys o.type (args.map a.eval)) (by rw [he]; rfl) (sCopy_ok hr h hargs _)
    · simp only [Option.map_eq_some_iff, Prod.mk.injEq] at h
      obtain ⟨s₁, h1, rfl, rfl⟩ := h
      obtain ⟨w', h2, h3, h4⟩ := sClear_ok hr h1 hargs o.type
      exact .value (m := Builtin.clear_ tys o.type (args.map a.eval)) (by rw [he]; rfl) ⟨ρ, w', _, h2, .undef, h3, h4⟩
    · simp only [Option.map_eq_some_iff, Prod.mk.injEq] at h
      obtain ⟨s₁, h1, rfl, rfl⟩ := h
      obtain ⟨w', h2, h3, h4⟩ := sDelete_ok hr h1 hargs o.type
      exact .value (m := Builtin.delete_ tys o.type (args.map a.eval)) (by rw [he]; rfl) ⟨ρ, w', _, h2, .undef, h3, h4⟩
    · simp only [Option.map_eq_some_iff, Prod.mk.injEq] at h
      obtain ⟨v', h1, rfl, rfl⟩ := h
      obtain ⟨h2, h3⟩ := sMinMax_ok (P := P) h1 hargs tys o.type
      exact .value (m := Builtin.max_ tys o.type (args.map a.eval)) (by rw [he]; rfl) (.still hr (by simpa using h3 w) (.plain h2))
    · simp only [Option.map_eq_some_iff, Prod.mk.injEq] at h
      obtain ⟨v', h1, rfl, rfl⟩ := h
      obtain ⟨h2, h3⟩ := sMinMax_ok (P := P) h1 hargs tys o.type
      exact .value (m := Builtin.min_ tys o.type (args.map a.eval)) (by rw [he]; rfl) (.still hr (by simpa using h3 w) (.plain h2))
    · cases h
  case h_28 => cases h

end Go.Sh
