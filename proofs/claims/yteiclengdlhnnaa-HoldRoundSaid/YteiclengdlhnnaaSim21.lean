/- The region that draws: the steps. -/
import Derived.Test.YteiclengdlhnnaaSim20
namespace Go.Sh
open Go

theorem HRel.adopt {ρ : Rho} {s : SW} {w : World} (h : HRel ρ s w) {o : SObj} {p : Pl} (hfree : ∀ j o' q, s.heap j = some o' → ρ j = some q → q.r ≠ p.r) (ho : ORel ρ p o (w.heap[p.r]?)) :
    HRel (ρ.upd s.next p) (s.new o) w := by
  have hn : ρ s.next = none := h.next _ (Nat.le_refl _)
  refine ⟨?_, ?_, ?_⟩
  · intro i hi
    simp only [SW.new] at hi
    simp only [Rho.upd, if_neg (show ¬ i = s.next by omega)]
    exact h.next i (by omega)
  · intro j u hj
    simp only [SW.new] at hj
    by_cases e : j = s.next
    · subst e
      simp only [if_true] at hj
      cases hj
      exact ⟨p, Rho.upd_same, ho.mono (Rho.le_upd hn)⟩
    · simp only [e, if_false] at hj
      obtain ⟨q, hq, hu⟩ := h.live j u hj
      exact ⟨q, by simp [Rho.upd, e, hq], hu.mono (Rho.le_upd hn)⟩
  · intro j k u u' q q' hj hk hq hq' er
    simp only [SW.new] at hj hk
    simp only [Rho.upd] at hq hq'
    by_cases ej : j = s.next <;> by_cases ek : k = s.next
    · rw [ej, ek]
    · simp only [ek, if_false] at hk hq'
      simp only [ej, if_true] at hq
      cases hq
      exact absurd er.symm (hfree _ _ _ hk hq')
    · simp only [ej, if_false] at hj hq
      simp only [ek, if_true] at hq'
      cases hq'
      exact absurd er (hfree _ _ _ hj hq)
    · simp only [ej, if_false] at hj hq
      simp only [ek, if_false] at hk hq'
      exact h.inj _ _ _ _ _ _ hj hk hq hq' er

theorem Ext.adopt {ρ₀ ρ : Rho} {s₀ s : SW} {w₀ w : World} (h : HRel ρ s w) (he : Ext ρ₀ s₀ w₀ ρ s w) {o : SObj} {p : Pl} (hp : w₀.heap.size ≤ p.r) : Ext ρ₀ s₀ w₀ (ρ.upd s.next p) (s.new o) w := by
  have hn : ρ s.next = none := h.next _ (Nat.le_refl _)
  have hn0 : ρ₀ s.next = none := by
    cases h1 : ρ₀ s.next with
    | none => rfl
    | some q => have := he.le _ _ h1; rw [hn] at this; cases this
  refine ⟨Rho.le_trans he.le (Rho.le_upd hn), ?_, ?_, Nat.le_trans he.next (by simp [SW.new]), he.size, he.frame, he.os, he.tape, he.output⟩
  · intro j q h1 h2
    simp only [Rho.upd] at h2
    by_cases e : j = s.next
    · simp only [e, if_true] at h2
      cases h2
      exact .inl hp
    · simp only [e, if_false] at h2
      exact he.fresh j q h1 h2
  · intro j u q hj hq
    simp only [SW.new] at hj
    by_cases e : j = s.next
    · rw [e, hn0] at hq; cases hq
    · simp only [e, if_false] at hj
      exact he.back j u q hj hq

theorem HRel.grow {ρ : Rho} {s : SW} {w w' : World} (h : HRel ρ s w) (hw : ∀ r, r < w.heap.size → w'.heap[r]? = w.heap[r]?) : HRel ρ s w' :=
  ⟨h.next, fun i o hi => let ⟨p, hp, ho⟩ := h.live i o hi; ⟨p, hp, by rw [hw p.r (h.lt_size hi hp)]; exact ho⟩, h.inj⟩

theorem Ext.grow {ρ₀ ρ : Rho} {s₀ s : SW} {w₀ w w' : World} (he : Ext ρ₀ s₀ w₀ ρ s w) (hw : ∀ r, r < w.heap.size → w'.heap[r]? = w.heap[r]?) (hsz : w.heap.size ≤ w'.heap.size) (hs : Same w w') : Ext ρ₀ s₀ w₀ ρ s w' :=
  ⟨he.le, he.fresh, he.back, he.next, Nat.le_trans he.size hsz, fun r hr hno => by rw [hw r (Nat.lt_of_lt_of_le hr he.size)]; exact he.frame r hr hno, hs.os.trans he.os, hs.tape.trans he.tape, hs.output.trans he.output⟩

section
variable (P : Program) (ops : Array Oper) (anc : List Nat) (K : List Value → SW → Prop) (ρ₀ : Rho) (s₀ : SW) (w₀ : World)

/-- A block that the model has made and the shadow has not. -/
def Early (ρ : Rho) (fr : List Value) (s : SW) (a : Act) (w : World) (r : Int) (o : Oper) : Prop :=
  (sWanted ops o fr = some false ∧ ∀ d, o.dst = some d → d < a.tmps.size → a.tmps[d]? = some Go.undef) ∨
  (sWanted ops o fr = some true ∧ ∃ obj val p rv, sNew P o fr = some (obj, val) ∧ (p.r : Int) = r ∧ p.r < w.heap.size ∧ w₀.heap.size ≤ p.r ∧ (∀ j o' q, s.heap j = some o' → ρ j = some q → q.r ≠ p.r) ∧ ORel ρ p obj (w.heap[p.r]?) ∧
    (∀ (ρ' : Rho) (id : Nat), ρ' id = some p → VRel ρ' (val id) rv) ∧ ∀ d, o.dst = some d → d < a.tmps.size → a.tmps[d]? = some rv)

/-- What the shadow has reckoned and the model has not. -/
def Pend (fr : List Value) (s : SW) (o : Oper) : Prop :=
  (sWanted ops o fr = some false ∧ ∀ d, o.dst = some d → ∀ v, fr[d]? = some v → v = Go.undef) ∨
  (sWanted ops o fr = some true ∧ ∃ d, o.dst = some d ∧ sOp P o fr s = some (fr.getD d Go.undef, s))

def Chk (fr : List Value) (o : Oper) : Prop := sWanted ops o fr = some false ∨ (sWanted ops o fr = some true ∧ (sNew P o fr).isSome = true)

def hole (pre : List Ent) (L : Nat → Prop) (d : Nat) : Prop := ∃ i, dstAt ops i = some d ∧ ((.run i ∈ pre ∧ ¬ L i) ∨ (L i ∧ .run i ∉ pre))

structure Inv (pre rest : List Ent) (L : Nat → Prop) (er : Nat → Int) (ρ : Rho) (fr : List Value) (s : SW) (a : Act) (w : World) : Prop where
  ok : okRest ops anc rest pre = true
  vcs : vcEnts P ops anc K rest pre fr s
  hr : HRel ρ s w
  ext : Ext ρ₀ s₀ w₀ ρ s w
  fx : FX ρ fr a (hole ops pre L)
  dlt : ∀ i d, dstAt ops i = some d → d < fr.length
  closed : ∀ i j, L i → ancB anc i j = true → L j
  i12 : ∀ i, L i → clsAt ops i ≠ 2 → .run i ∈ pre
  ifa : ∀ i, .run i ∈ pre → clsAt ops i ≠ 0 → L i
  early : ∀ i o, opAt ops i = some o → L i → cls o = 2 → .run i ∉ pre → .chk i ∈ pre ∧ Early P ops w₀ ρ fr s a w (er i) o
  pend : ∀ i o, opAt ops i = some o → .run i ∈ pre → ¬ L i → cls o = 0 → Pend P ops fr s o
  inj : ∀ i j, L i → L j → clsAt ops i = 2 → clsAt ops j = 2 → .run i ∉ pre → .run j ∉ pre → er i = er j → i = j
  erlt : ∀ i, L i → clsAt ops i = 2 → .run i ∉ pre → er i < w.heap.size
  chks : ∀ i o, opAt ops i = some o → .chk i ∈ pre → .run i ∉ pre → ¬ L i → Chk P ops fr o
  preAnc : ∀ i j, .run i ∈ pre → ancB anc i j = true → .run j ∈ pre
  chkAnc : ∀ i j, .chk i ∈ pre → ancB anc i j = true → .run j ∈ pre

end

section
variable {P : Program} {ops : Array Oper} {anc : List Nat} {K : List Value → SW → Prop} {ρ₀ : Rho} {s₀ : SW} {w₀ : World}

theorem lt_of_dst {i : Nat} {d : Tmp} (h : dstAt ops i = some d) : i < ops.size := by
  unfold dstAt opAt at h
  rcases Nat.lt_or_ge i ops.size with h1 | h1
  · exact h1
  · rw [Array.getElem?_eq_none h1] at h; cases h

theorem lt_of_looks {i : Nat} {d : Tmp} (h : d ∈ looksAt ops i) : i < ops.size := by
  unfold looksAt opAt at h
  rcases Nat.lt_or_ge i ops.size with h1 | h1
  · exact h1
  · rw [Array.getElem?_eq_none h1] at h; cases h

theorem names1 (hn : okNames ops anc = true) {i : Nat} {d : Tmp} (hd : dstAt ops i = some d) : d ∉ looksAt ops i := by
  have h := List.all_eq_true.1 hn i (List.mem_range.2 (lt_of_dst hd))
  simp only [hd, Bool.and_eq_true, Bool.not_eq_true'] at h
  intro hm
  have := h.1
  rw [List.contains_iff_mem.2 hm] at this
  cases this

theorem names2 (hn : okNames ops anc = true) {i j : Nat} {d : Tmp} (hd : dstAt ops i = some d) (hj : dstAt ops j = some d) : j = i := by
  have h := List.all_eq_true.1 hn i (List.mem_range.2 (lt_of_dst hd))
  simp only [hd, Bool.and_eq_true] at h
  have h2 := List.all_eq_true.1 h.2 j (List.mem_range.2 (lt_of_dst hj))
  simp only [Bool.or_eq_true, beq_iff_eq, Bool.and_eq_true, bne_iff_ne] at h2
  rcases h2 with h2 | h2
  · exact h2
  · exact absurd hj h2.1

theorem names3 (hn : okNames ops anc = true) {i j : Nat} {d : Tmp} (hd : dstAt ops i = some d) (hj : d ∈ looksAt ops j) (hne : j ≠ i) : ancB anc j i = true := by
  have h := List.all_eq_true.1 hn i (List.mem_range.2 (lt_of_dst hd))
  simp only [hd, Bool.and_eq_true] at h
  have h2 := List.all_eq_true.1 h.2 j (List.mem_range.2 (lt_of_looks hj))
  simp only [Bool.or_eq_true, beq_iff_eq, Bool.and_eq_true, bne_iff_ne, Bool.not_eq_true'] at h2
  rcases h2 with h2 | ⟨_, h2⟩
  · exact absurd h2 hne
  · rcases h2 with h2 | h2
    · rw [List.contains_iff_mem.2 hj] at h2; cases h2
    · exact h2

theorem looksAt_eq {i : Nat} {o : Oper} (h : opAt ops i = some o) : looksAt ops i = o.looksAt ops := by unfold looksAt; rw [h]; rfl
theorem dstAt_eq {i : Nat} {o : Oper} (h : opAt ops i = some o) : dstAt ops i = o.dst := by unfold dstAt; rw [h]; rfl
theorem clsAt_eq {i : Nat} {o : Oper} (h : opAt ops i = some o) : clsAt ops i = cls o := by unfold clsAt; rw [h]; rfl

/-- What comes to be in a temporary that an operation does not look at does not touch it. -/
theorem put_looks {fr : List Value} {i j : Nat} {oj : Oper} {v : Value} (hj : opAt ops j = some oj) (h : ∀ d, dstAt ops i = some d → d ∉ looksAt ops j) : ∀ t ∈ oj.looksAt ops, (put fr (dstAt ops i) v)[t]? = fr[t]? := by
  intro t ht
  refine put_get_ne fun e => h t e ?_
  rw [looksAt_eq hj]; exact ht

theorem Chk.congr {fr fr' : List Value} {o : Oper} (h : ∀ t ∈ o.looksAt ops, fr'[t]? = fr[t]?) (hc : Chk P ops fr o) : Chk P ops fr' o := by
  unfold Chk at *
  rw [sWanted_congr h, sNew_congr (looks_ev h)]
  exact hc

theorem Pend.congr {fr fr' : List Value} {s : SW} {o : Oper} (h : ∀ t ∈ o.looksAt ops, fr'[t]? = fr[t]?) (hd : ∀ d, o.dst = some d → fr'[d]? = fr[d]?) (hp : Pend P ops fr s o) : Pend P ops fr' s o := by
  unfold Pend at *
  rw [sWanted_congr h, sOp_congr s (looks_ev h)]
  rcases hp with ⟨h1, h2⟩ | ⟨h1, d, h2, h3⟩
  · exact .inl ⟨h1, fun d hdd v hv => h2 d hdd v (by rw [← hd d hdd]; exact hv)⟩
  · refine .inr ⟨h1, d, h2, ?_⟩
    rw [h3]
    simp only [List.getD, hd d h2]

theorem Early.congr {ρ : Rho} {fr fr' : List Value} {s : SW} {a a' : Act} {w : World} {r : Int} {o : Oper} (h : ∀ t ∈ o.looksAt ops, fr'[t]? = fr[t]?) (hsz : a'.tmps.size = a.tmps.size)
    (ha : ∀ d, o.dst = some d → a'.tmps[d]? = a.tmps[d]?) (he : Early P ops w₀ ρ fr s a w r o) : Early P ops w₀ ρ fr' s a' w r o := by
  unfold Early at *
  rw [sWanted_congr h, sNew_congr (looks_ev h)]
  rcases he with ⟨h1, h2⟩ | ⟨h1, obj, val, p, rv, g1, g2, g3, g4, g5, g6, g7, g8⟩
  · exact .inl ⟨h1, fun d hd hlt => by rw [ha d hd]; exact h2 d hd (by rw [← hsz]; exact hlt)⟩
  · exact .inr ⟨h1, obj, val, p, rv, g1, g2, g3, g4, g5, g6, g7, fun d hd hlt => by rw [ha d hd]; exact g8 d hd (by rw [← hsz]; exact hlt)⟩

/-- The run of the head, as checked. -/
theorem okRest_run {i : Nat} {rest pre : List Ent} (h : okRest ops anc (.run i :: rest) pre = true) : i < ops.size ∧ .run i ∉ pre ∧ (∀ k, ancB anc i k = true → k < ops.size → .run k ∈ pre) ∧
    (clsAt ops i ≠ 2 → ∀ k, k < ops.size → .run k ∈ pre → clsAt ops k ≠ 0 → ancB anc i k = true) ∧ (clsAt ops i = 2 → .chk i ∈ pre) ∧ okRest ops anc rest (.run i :: pre) = true := by
  simp only [okRest, Bool.and_eq_true, decide_eq_true_eq, Bool.not_eq_true', Bool.or_eq_true, bne_iff_ne, beq_iff_eq] at h
  obtain ⟨⟨⟨⟨h1, h2⟩, h3⟩, h4⟩, h5⟩ := h
  refine ⟨h1, fun hm => ?_, fun k hk hlt => ?_, fun hc k hlt hm hk => ?_, fun hc => ?_, h5⟩
  · rw [List.contains_iff_mem.2 hm] at h2; cases h2
  · have := List.all_eq_true.1 h3 k (List.mem_range.2 hlt)
    simp only [Bool.and_eq_true, Bool.or_eq_true, Bool.not_eq_true', beq_iff_eq] at this
    rcases this.1 with h6 | h6
    · rw [hk] at h6; cases h6
    · exact List.contains_iff_mem.1 h6
  · have := List.all_eq_true.1 h3 k (List.mem_range.2 hlt)
    simp only [Bool.and_eq_true, Bool.or_eq_true, Bool.not_eq_true', beq_iff_eq] at this
    rcases this.2 with ((h6 | h6) | h6) | h6
    · exact absurd h6 hc
    · rw [List.contains_iff_mem.2 hm] at h6; cases h6
    · exact absurd h6 hk
    · exact h6
  · rcases h4 with h6 | h6
    · exact absurd hc h6
    · exact List.contains_iff_mem.1 h6

theorem okRest_chk {i : Nat} {rest pre : List Ent} (h : okRest ops anc (.chk i :: rest) pre = true) : i < ops.size ∧ clsAt ops i = 2 ∧ (∀ k, ancB anc i k = true → k < ops.size → .run k ∈ pre) ∧
    (∀ k, k < ops.size → .run k ∈ pre → clsAt ops k ≠ 0 → ancB anc i k = true) ∧ okRest ops anc rest (.chk i :: pre) = true := by
  simp only [okRest, Bool.and_eq_true, decide_eq_true_eq, beq_iff_eq] at h
  obtain ⟨⟨⟨h1, h2⟩, h3⟩, h5⟩ := h
  refine ⟨h1, h2, fun k hk hlt => ?_, fun k hlt hm hk => ?_, h5⟩
  · have := List.all_eq_true.1 h3 k (List.mem_range.2 hlt)
    simp only [Bool.and_eq_true, Bool.or_eq_true, Bool.not_eq_true', beq_iff_eq] at this
    rcases this.1 with h6 | h6
    · rw [hk] at h6; cases h6
    · exact List.contains_iff_mem.1 h6
  · have := List.all_eq_true.1 h3 k (List.mem_range.2 hlt)
    simp only [Bool.and_eq_true, Bool.or_eq_true, Bool.not_eq_true', beq_iff_eq] at this
    rcases this.2 with (h6 | h6) | h6
    · rw [List.contains_iff_mem.2 hm] at h6; cases h6
    · exact absurd h6 hk
    · exact h6

theorem anc_lt (ha : okAnc ops anc = true) {i j : Nat} (hi : i < ops.size) (h : ancB anc i j = true) : j < ops.size := by
  have h1 := List.all_eq_true.1 ha i (List.mem_range.2 hi)
  simp only [Bool.and_eq_true, decide_eq_true_eq] at h1
  have h2 := h1.2
  unfold ancB at h
  rcases Nat.lt_or_ge j ops.size with h3 | h3
  · exact h3
  · have : anc.getD i 0 < 2 ^ j := Nat.lt_of_lt_of_le h2 (Nat.pow_le_pow_right (by omega) h3)
    rw [Nat.testBit_lt_two_pow this] at h
    cases h

theorem hole_run {pre : List Ent} {L : Nat → Prop} {i d : Nat} (hd : dstAt ops i ≠ some d) : hole ops (.run i :: pre) L d ↔ hole ops pre L d := by
  unfold hole
  constructor
  · rintro ⟨k, h1, h2⟩
    have hki : k ≠ i := fun e => hd (e ▸ h1)
    refine ⟨k, h1, ?_⟩
    rcases h2 with ⟨h3, h4⟩ | ⟨h3, h4⟩
    · rcases List.mem_cons.1 h3 with h5 | h5
      · cases h5; exact absurd rfl hki
      · exact .inl ⟨h5, h4⟩
    · exact .inr ⟨h3, fun h5 => h4 (List.mem_cons_of_mem _ h5)⟩
  · rintro ⟨k, h1, h2⟩
    have hki : k ≠ i := fun e => hd (e ▸ h1)
    refine ⟨k, h1, ?_⟩
    rcases h2 with ⟨h3, h4⟩ | ⟨h3, h4⟩
    · exact .inl ⟨List.mem_cons_of_mem _ h3, h4⟩
    · refine .inr ⟨h3, fun h5 => ?_⟩
      rcases List.mem_cons.1 h5 with h6 | h6
      · cases h6; exact hki rfl
      · exact h4 h6

/-- A check. -/
theorem Inv.stepChk {i : Nat} {pre rest : List Ent} {L : Nat → Prop} {er : Nat → Int} {ρ : Rho} {fr : List Value} {s : SW} {a : Act} {w : World} (ha : okAnc ops anc = true)
    (h : Inv P ops anc K ρ₀ s₀ w₀ pre (.chk i :: rest) L er ρ fr s a w) : Inv P ops anc K ρ₀ s₀ w₀ (.chk i :: pre) rest L er ρ fr s a w := by
  obtain ⟨h1, h2, h3, h4, h5⟩ := okRest_chk h.ok
  have hv := h.vcs
  simp only [vcEnts] at hv
  split at hv
  · exact hv.elim
  · rename_i o ho
    have hmem : ∀ k : Nat, Ent.run k ∈ (Ent.chk i :: pre) ↔ Ent.run k ∈ pre := fun k => by simp
    have hcv : Chk P ops fr o ∧ vcEnts P ops anc K rest (.chk i :: pre) fr s := by
      split at hv
      · exact hv.elim
      · rename_i hw; exact ⟨.inl hw, hv⟩
      · rename_i hw; exact ⟨.inr ⟨hw, hv.1⟩, hv.2⟩
    have hhole : ∀ d, hole ops (.chk i :: pre) L d ↔ hole ops pre L d := fun d => by unfold hole; simp only [hmem]
    refine ⟨h5, hcv.2, h.hr, h.ext, ⟨h.fx.size, h.fx.defers, fun k v hk hx => h.fx.val k v hk fun hx' => hx ((hhole k).2 hx')⟩, h.dlt, h.closed, fun j hj hc => (hmem j).2 (h.i12 j hj hc), fun j hj hc => h.ifa j ((hmem j).1 hj) hc,
      fun j o' hj hL hc hr => ⟨List.mem_cons_of_mem _ (h.early j o' hj hL hc (fun e => hr ((hmem j).2 e))).1, (h.early j o' hj hL hc (fun e => hr ((hmem j).2 e))).2⟩,
      fun j o' hj hr hL hc => h.pend j o' hj ((hmem j).1 hr) hL hc, fun j k h6 h7 h8 h9 h10 h11 => h.inj j k h6 h7 h8 h9 (fun e => h10 ((hmem j).2 e)) (fun e => h11 ((hmem k).2 e)), fun j h6 h7 h8 => h.erlt j h6 h7 (fun e => h8 ((hmem j).2 e)), ?_, fun j k hj hk => (hmem k).2 (h.preAnc j k ((hmem j).1 hj) hk), ?_⟩
    · intro j o' hj hm hr hL
      rcases List.mem_cons.1 hm with h6 | h6
      · cases h6
        rw [ho] at hj; cases hj
        exact hcv.1
      · exact h.chks j o' hj h6 (fun e => hr ((hmem j).2 e)) hL
    · intro j k hj hk
      rcases List.mem_cons.1 hj with h6 | h6
      · cases h6
        exact (hmem k).2 (h3 k hk (anc_lt ha h1 hk))
      · exact (hmem k).2 (h.chkAnc j k h6 hk)

end

end Go.Sh
