/- A region that draws its order: what its operations ask of each other. -/
import Derived.Test.YteiclengdlhnnaaSim17
namespace Go.Sh
open Go

/-- 0: it reads or reckons; 1: it turns something, or calls; 2: it makes a block. -/
def cls (o : Oper) : Nat :=
  match o.op with
  | .store _ _ _ | .mapUpdate _ _ _ _ | .insert _ _ _ _ => 1
  | .call ⟨.builtin b, _, _⟩ => match b with
    | .len | .max | .min => 0
    | _ => 1
  | .call _ => 1
  | .alloc _ | .box _ _ | .buildSlice _ _ _ | .makeMap _ _ | .makeSlice _ _ _ => 2
  | _ => 0

def readsHeap (o : Oper) : Bool :=
  match o.op with
  | .load _ _ | .lookup _ _ _ _ | .slice _ _ _ _ _ | .convert _ _ _ => true
  | .call ⟨.builtin b, _, _⟩ => match b with
    | .len => true
    | _ => false
  | _ => false

theorem sOp_pure {P : Program} {o : Oper} {fr : List Value} {s s' : SW} {v : Value} (hc : cls o = 0) (hh : readsHeap o = false) (h : sOp P o fr s = some (v, s')) (s₁ : SW) : sOp P o fr s₁ = some (v, s₁) := by
  unfold sOp at h ⊢
  unfold cls at hc
  unfold readsHeap at hh
  cases hop : o.op with
  | move x => simp only [hop] at h ⊢; cases h; rfl
  | assign x => simp only [hop] at h ⊢; cases h; rfl
  | pick c a b =>
    simp only [hop] at h ⊢
    split at h
    · cases h; rfl
    · cases h
  | build t ps => simp only [hop, Option.map_eq_some_iff, Prod.mk.injEq] at h ⊢; obtain ⟨v', h1, rfl, rfl⟩ := h; exact ⟨v', h1, rfl, by trivial⟩
  | nilCheck x => simp only [hop, Option.map_eq_some_iff, Prod.mk.injEq] at h ⊢; obtain ⟨v', h1, rfl, rfl⟩ := h; exact ⟨v', h1, rfl, by trivial⟩
  | binOp op t x y u => simp only [hop, Option.map_eq_some_iff, Prod.mk.injEq] at h ⊢; obtain ⟨v', h1, rfl, rfl⟩ := h; exact ⟨v', h1, rfl, by trivial⟩
  | unOp op t x => simp only [hop, Option.map_eq_some_iff, Prod.mk.injEq] at h ⊢; obtain ⟨v', h1, rfl, rfl⟩ := h; exact ⟨v', h1, rfl, by trivial⟩
  | makeFunc fn f c => simp only [hop] at h ⊢; cases h; rfl
  | fieldAddr t x f => simp only [hop, Option.map_eq_some_iff, Prod.mk.injEq] at h ⊢; obtain ⟨v', h1, rfl, rfl⟩ := h; exact ⟨v', h1, rfl, by trivial⟩
  | field t x f => simp only [hop, Option.map_eq_some_iff, Prod.mk.injEq] at h ⊢; obtain ⟨v', h1, rfl, rfl⟩ := h; exact ⟨v', h1, rfl, by trivial⟩
  | indexAddr t x i => simp only [hop, Option.map_eq_some_iff, Prod.mk.injEq] at h ⊢; obtain ⟨v', h1, rfl, rfl⟩ := h; exact ⟨v', h1, rfl, by trivial⟩
  | index t x i => simp only [hop, Option.map_eq_some_iff, Prod.mk.injEq] at h ⊢; obtain ⟨v', h1, rfl, rfl⟩ := h; exact ⟨v', h1, rfl, by trivial⟩
  | extract t i => simp only [hop, Option.map_eq_some_iff, Prod.mk.injEq] at h ⊢; obtain ⟨v', h1, rfl, rfl⟩ := h; exact ⟨v', h1, rfl, by trivial⟩
  | call c =>
    obtain ⟨callee, args, tys⟩ := c
    cases callee with
    | builtin b =>
      simp only [hop] at h hc hh ⊢
      cases b <;> simp only [sBuiltin] at h hc hh ⊢ <;> first
        | (cases hc; done)
        | (cases hh; done)
        | (simp only [Option.map_eq_some_iff, Prod.mk.injEq] at h ⊢; obtain ⟨v', h1, rfl, rfl⟩ := h; exact ⟨v', h1, rfl, by trivial⟩)
        | (cases h; done)
    | _ => simp only [hop] at h; cases h
  | _ => simp only [hop] at h hc hh <;> first | (cases h; done) | (cases hc; done) | (cases hh; done)

theorem sOp_same {P : Program} {o : Oper} {fr : List Value} {s s' : SW} {v : Value} (h : sOp P o fr s = some (v, s')) (hs : s' = s) : sOp P o fr s = some (v, s) := by rw [h, hs]

/-- What an operation looks at decides what it comes to. -/
theorem sOp_congr {P : Program} {o : Oper} {fr fr' : List Value} (s : SW) (h : ∀ x ∈ o.op.operands.toList, ev fr x = ev fr' x) : sOp P o fr s = sOp P o fr' s := by
  unfold sOp
  have hp : ∀ (ps : Array (Nat × Operand)), (∀ x ∈ (ps.toList.map (·.2)).toArray.toList, ev fr x = ev fr' x) → (ps.toList.map fun p => (p.1, ev fr p.2)) = (ps.toList.map fun p => (p.1, ev fr' p.2)) := by
    intro ps hps
    apply List.map_congr_left
    intro p hp
    rw [hps p.2 (by simpa using ⟨p.1, by simpa using hp⟩)]
  have ha : ∀ (xs : Array Operand), (∀ x ∈ xs.toList, ev fr x = ev fr' x) → xs.map (ev fr) = xs.map (ev fr') := by
    intro xs hxs
    apply Array.map_congr_left
    intro x hx
    exact hxs x (by simpa using hx)
  cases hop : o.op with
  | call c =>
    obtain ⟨callee, args, tys⟩ := c
    rw [hop] at h
    cases callee with
    | builtin b =>
      simp only
      rw [ha args fun x hx => h x (by simpa [Op.operands, Call.operands] using hx)]
    | _ => rfl
  | build t ps => rw [hop] at h; simp only; rw [hp ps h]
  | buildSlice t n ps => rw [hop] at h; simp only; rw [hp ps h]
  | makeFunc fn f c =>
    rw [hop] at h
    simp only
    rw [ha f fun x hx => h x (by simp [Op.operands]; exact .inl (by simpa using hx)), ha c fun x hx => h x (by simp [Op.operands]; exact .inr (by simpa using hx))]
  | makeMap t r =>
    rw [hop] at h
    cases r with
    | none => rfl
    | some x => simp only; rw [h x (by simp [Op.operands])]
  | slice t x l hi m =>
    rw [hop] at h
    have hl : l.map (ev fr) = l.map (ev fr') := by cases l with | none => rfl | some y => simp only [Option.map_some]; rw [h y (by simp [Op.operands])]
    have hh : hi.map (ev fr) = hi.map (ev fr') := by cases hi with | none => rfl | some y => simp only [Option.map_some]; rw [h y (by simp [Op.operands])]
    have hm : m.map (ev fr) = m.map (ev fr') := by cases m with | none => rfl | some y => simp only [Option.map_some]; rw [h y (by simp [Op.operands])]
    simp only
    rw [h x (by simp [Op.operands]), hl, hh, hm]
  | move x => rw [hop] at h; simp only; rw [h x (by simp [Op.operands])]
  | assign x => rw [hop] at h; simp only; rw [h x (by simp [Op.operands])]
  | box t x => rw [hop] at h; simp only; rw [h x (by simp [Op.operands])]
  | load t x => rw [hop] at h; simp only; rw [h x (by simp [Op.operands])]
  | nilCheck x => rw [hop] at h; simp only; rw [h x (by simp [Op.operands])]
  | unOp op t x => rw [hop] at h; simp only; rw [h x (by simp [Op.operands])]
  | convert t u x => rw [hop] at h; simp only; rw [h x (by simp [Op.operands])]
  | fieldAddr t x f => rw [hop] at h; simp only; rw [h x (by simp [Op.operands])]
  | field t x f => rw [hop] at h; simp only; rw [h x (by simp [Op.operands])]
  | extract x i => rw [hop] at h; simp only; rw [h x (by simp [Op.operands])]
  | pick c a b => rw [hop] at h; simp only; rw [h c (by simp [Op.operands]), h a (by simp [Op.operands]), h b (by simp [Op.operands])]
  | store t x y => rw [hop] at h; simp only; rw [h x (by simp [Op.operands]), h y (by simp [Op.operands])]
  | binOp op t x y u => rw [hop] at h; simp only; rw [h x (by simp [Op.operands]), h y (by simp [Op.operands])]
  | makeSlice t x y => rw [hop] at h; simp only; rw [h x (by simp [Op.operands]), h y (by simp [Op.operands])]
  | indexAddr t x y => rw [hop] at h; simp only; rw [h x (by simp [Op.operands]), h y (by simp [Op.operands])]
  | index t x y => rw [hop] at h; simp only; rw [h x (by simp [Op.operands]), h y (by simp [Op.operands])]
  | lookup t x y b => rw [hop] at h; simp only; rw [h x (by simp [Op.operands]), h y (by simp [Op.operands])]
  | mapUpdate t x y z => rw [hop] at h; simp only; rw [h x (by simp [Op.operands]), h y (by simp [Op.operands]), h z (by simp [Op.operands])]
  | insert t x y z => rw [hop] at h; simp only; rw [h x (by simp [Op.operands]), h y (by simp [Op.operands]), h z (by simp [Op.operands])]
  | _ => rfl

/-- A new block, whatever the heap: what it holds, and what leads to it. -/
def sNew (P : Program) (o : Oper) (fr : List Value) : Option (SObj × (Nat → Value)) :=
  match o.op with
  | .alloc t =>
    match zeroV P t with
    | some z => if z.cells.toList.all pl0 then some (.cells z.cells.toList true 0, fun i => .pointer (some ⟨i, 0, none⟩)) else none
    | none => none
  | .box _ v => if (ev fr v).cells.toList.all (·.oneCell') = true then some (.cells (ev fr v).cells.toList true 0, fun i => .pointer (some ⟨i, 0, none⟩)) else none
  | .buildSlice t len ps =>
    match P.underlying t with
    | some (.slice e) =>
      match sz P e, zeroV P e with
      | some n, some z =>
        if len * n ≤ 16777216 ∧ z.cells.size = n ∧ z.cells.toList.all pl0 = true ∧ (ps.toList.map fun p => (p.1, ev fr p.2)).all partOk = true then
          match Instr.fill (fun i => some (i * n, n)) (sZeros z.cells.toList len).toArray (ps.toList.map fun p => (p.1, ev fr p.2)) with
          | some out => some (.cells out.toList true 0, fun i => .slice (some ⟨i, 0, none⟩) len len)
          | none => none
        else none
      | _, _ => none
    | _ => none
  | .makeMap t none =>
    match P.underlying t with
    | some (.map kt _) => match P.underlying kt with
      | some (.int kk) => some (.map kk true [], fun i => .map (some i))
      | _ => none
    | _ => none
  | .makeSlice t l c =>
    match P.underlying t, ev fr l, ev fr c with
    | some (.slice e), .int _ l, .int _ c =>
      match sz P e, zeroV P e, bytesV P e with
      | some n, some z, some b =>
        if 0 ≤ l ∧ l ≤ c ∧ c ≤ 1073741824 ∧ b ≤ 1024 ∧ z.cells.size = n ∧ z.cells.toList.all pl0 = true then
          some (.cells (sZeros z.cells.toList c.toNat) true 0, fun i => .slice (some ⟨i, 0, none⟩) l.toNat c.toNat)
        else none
      | _, _, _ => none
    | _, _, _ => none
  | _ => none

theorem sNew_sOp {P : Program} {o : Oper} {fr : List Value} {obj : SObj} {val : Nat → Value} (h : sNew P o fr = some (obj, val)) (s : SW) : sOp P o fr s = some (val s.next, s.new obj) := by
  unfold sNew at h
  unfold sOp
  split at h
  · rename_i t hop
    simp only [hop, sAlloc]
    split at h
    · rename_i z hz
      simp only [hz]
      split at h
      · rename_i hall
        rw [if_pos hall]; cases h; rfl
      · cases h
    · cases h
  · rename_i t x hop
    simp only [hop, sBox]
    split at h
    · rename_i hall
      rw [if_pos hall]; cases h; rfl
    · cases h
  · rename_i t len ps hop
    simp only [hop, sBuildSlice]
    split at h
    · rename_i e ht
      simp only [ht]
      split at h
      · rename_i n z hn hz
        simp only [hn, hz]
        split at h
        · rename_i hc
          rw [if_pos hc]
          split at h
          · rename_i out ho
            simp only [ho]
            cases h; rfl
          · cases h
        · cases h
      · cases h
    · cases h
  · rename_i t hop
    simp only [hop, sMakeMap]
    split at h
    · rename_i kt et ht
      simp only [ht]
      split at h
      · rename_i kk hk
        simp only [hk]
        cases h; rfl
      · cases h
    · cases h
  · rename_i t l c hop
    simp only [hop, sMakeSlice]
    split at h
    · rename_i e k l' k' c' ht hl hc
      simp only [ht, hl, hc]
      split at h
      · rename_i n z b hn hz hb
        simp only [hn, hz, hb]
        split at h
        · rename_i hcc
          rw [if_pos hcc]
          cases h; rfl
        · cases h
      · cases h
    · cases h
  · cases h

theorem sNew_congr {P : Program} {o : Oper} {fr fr' : List Value} (h : ∀ x ∈ o.op.operands.toList, ev fr x = ev fr' x) : sNew P o fr = sNew P o fr' := by
  unfold sNew
  cases hop : o.op with
  | box t x => rw [hop] at h; simp only; rw [h x (by simp [Op.operands])]
  | makeSlice t x y => rw [hop] at h; simp only; rw [h x (by simp [Op.operands]), h y (by simp [Op.operands])]
  | buildSlice t n ps =>
    rw [hop] at h
    have : (ps.toList.map fun p => (p.1, ev fr p.2)) = (ps.toList.map fun p => (p.1, ev fr' p.2)) := by
      apply List.map_congr_left
      intro p hp
      rw [h p.2 (by simp [Op.operands]; exact ⟨p.1, by simpa using hp⟩)]
    simp only
    rw [this]
  | makeMap t r => cases r <;> rfl
  | _ => rfl

end Go.Sh
