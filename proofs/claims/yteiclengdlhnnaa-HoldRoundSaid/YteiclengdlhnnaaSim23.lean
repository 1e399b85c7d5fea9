/- The region that draws: what the model carries out; the law. -/
import Derived.Test.YteiclengdlhnnaaSim22
namespace Go.Sh
open Go

section
variable {P : Program} {ops : Array Oper} {anc : List Nat} {K : List Value → SW → Prop} {ρ₀ : Rho} {s₀ : SW} {w₀ : World}
variable {i : Nat} {pre rest : List Ent} {L : Nat → Prop} {er : Nat → Int} {ρ : Rho} {fr : List Value} {s : SW} {a : Act} {w : World}

/-- The temporaries that an operation looks at, all ahead of it done and reckoned. -/
theorem Inv.known (hn : okNames ops anc = true) (h : Inv P ops anc K ρ₀ s₀ w₀ pre rest L er ρ fr s a w) {o : Oper} (ho : opAt ops i = some o) (hL : ∀ j, ancB anc i j = true → L j)
    (hp : ∀ j, ancB anc i j = true → .run j ∈ pre) : ∃ fr₀, FRel ρ fr₀ a ∧ fr₀.length = fr.length ∧ (∀ t ∈ o.looksAt ops, fr₀[t]? = fr[t]?) ∧ (∀ k, ¬ hole ops pre L k → fr₀[k]? = fr[k]?) := by
  obtain ⟨fr₀, h1, h2, h3⟩ := h.fx.frame
  refine ⟨fr₀, h1, h2, fun t ht => h3 t ?_, h3⟩
  rintro ⟨j, hj, hh⟩
  have ht' : t ∈ looksAt ops i := by rw [looksAt_eq ho]; exact ht
  have hne : i ≠ j := fun e => names1 hn hj (e ▸ ht')
  have hanc := names3 hn hj ht' hne
  rcases hh with ⟨_, g2⟩ | ⟨_, g2⟩
  · exact g2 (hL j hanc)
  · exact g2 (hp j hanc)

theorem vcOp_frame {o : Oper} {Kx : List Value → SW → Prop} {fr₀ : List Value} (hl : ∀ t ∈ o.looksAt ops, fr₀[t]? = fr[t]?) (h : vcOp P ops o Kx fr s) :
    vcOp P ops o (fun fr₁ s₁ => ∃ v, fr₁ = put fr₀ o.dst v ∧ Kx (put fr o.dst v) s₁) fr₀ s := by
  unfold vcOp at *
  rw [sWanted_congr hl]
  split at h
  · exact h.elim
  · exact ⟨_, rfl, h⟩
  · cases hop : o.op with
    | call c =>
      obtain ⟨callee, args, tys⟩ := c
      have hev := looks_ev hl
      rw [hop] at hev
      cases callee with
      | value f =>
        rw [hop] at h
        simp only at h ⊢
        rw [hev f (by simp [Op.operands, Call.operands])]
        have hargs : args.toList.map (ev fr₀) = args.toList.map (ev fr) := by
          apply List.map_congr_left
          intro x hx
          exact hev x (by simp [Op.operands, Call.operands]; exact .inr (by simpa using hx))
        rw [hargs]
        split at h
        · exact h.mono fun v s' hk => ⟨v, rfl, hk⟩
        · exact h.elim
      | _ =>
        rw [hop] at h
        simp only at h ⊢
        rw [sOp_congr s (looks_ev hl)]
        split at h
        · exact ⟨_, rfl, h⟩
        · exact h.elim
    | _ =>
      rw [hop] at h
      simp only at h ⊢
      rw [sOp_congr s (looks_ev hl)]
      split at h
      · exact ⟨_, rfl, h⟩
      · exact h.elim

/-- The model's wp of one operation, whatever the frame's holes. -/
theorem wpOp_of {o : Oper} {K' : Act → World → Prop} {Q' : Exit → Act → World → Prop} (ho : opAt ops i = some o)
    (h : if Region.wanted o (yielded ops a.tmps) then o.wp P a w K' Q' ∨ (o.asks P a w ∧ LetsOut Q') else K' (a.put o.dst Go.undef) w) : wpOp P ops Q' i K' a w := by
  unfold wpOp
  unfold opAt at ho
  rw [ho]
  exact h

/-- A turn, or a call. -/
theorem Inv.stepF (ha : okAnc ops anc = true) (hn : okNames ops anc = true) (h : Inv P ops anc K ρ₀ s₀ w₀ pre (.run i :: rest) L er ρ fr s a w) (hc : clsAt ops i = 1) (hLi : ¬ L i) (hanc : ∀ j, ancB anc i j = true → L j)
    {K' : Act → World → Prop} {Q' : Exit → Act → World → Prop}
    (hK : ∀ ρ' fr' s' a' w', Inv P ops anc K ρ₀ s₀ w₀ (.run i :: pre) rest (fun j => L j ∨ j = i) er ρ' fr' s' a' w' → K' a' w') : wpOp P ops Q' i K' a w := by
  obtain ⟨h1, h2, h3, h4, h5, h6⟩ := okRest_run h.ok
  have hv := h.vcs
  simp only [vcEnts] at hv
  split at hv
  · exact hv.elim
  · rename_i o ho
    have hco : cls o = 1 := by rw [← clsAt_eq ho]; exact hc
    have hdst := dstAt_eq ho
    simp only [hco] at hv
    obtain ⟨fr₀, g1, g2, g3, g4⟩ := h.known hn ho hanc fun j hj => h3 j hj (anc_lt ha h1 hj)
    refine wpOp_of ho (vcOp_ok g1 h.hr (vcOp_frame g3 hv) ?_)
    rintro ρ' fr₁ s' a' w' ⟨rv, rfl⟩ k1 k2 k3 ⟨v, rfl, hst, hvc⟩
    refine hK ρ' (put fr o.dst v) s' _ w' ?_
    rw [← hdst] at hvc hst k1 ⊢
    have hlook : ∀ (j : Nat) (oj : Oper), opAt ops j = some oj → (ancB anc j i = true → False) → j ≠ i → ∀ t ∈ oj.looksAt ops, (put fr (dstAt ops i) v)[t]? = fr[t]? :=
      fun j oj hj hno hne => put_looks hj fun d hd hl => hno (names3 hn hd hl hne)
    refine ⟨h6, hvc, k2, h.ext.trans k3, ⟨by rw [put_length, aput_size]; exact h.fx.size, by rw [aput_defers]; exact h.fx.defers, ?_⟩, fun j d hd => by rw [put_length]; exact h.dlt j d hd, ?_, ?_, ?_, ?_, ?_, ?_, ?_, ?_, ?_, ?_⟩
    · intro k u hk hx
      by_cases hki : dstAt ops i = some k
      · have : (put fr₀ (dstAt ops i) v)[k]? = some u := by
          rw [hki] at hk ⊢
          rw [put_get_self (h.dlt i k hki)] at hk
          rw [put_get_self (by rw [g2]; exact h.dlt i k hki)]
          exact hk
        exact k1.val k u this
      · rw [put_get_ne hki] at hk
        have hnh : ¬ hole ops pre L k := by
          rintro ⟨j, hj, hh⟩
          have hji : j ≠ i := fun e => hki (e ▸ hj)
          refine hx ⟨j, hj, ?_⟩
          rcases hh with ⟨q1, q2⟩ | ⟨q1, q2⟩
          · exact .inl ⟨List.mem_cons_of_mem _ q1, fun q => q.elim q2 hji⟩
          · exact .inr ⟨.inl q1, fun q => by
              rcases List.mem_cons.1 q with q | q
              · cases q; exact hji rfl
              · exact q2 q⟩
        have : (put fr₀ (dstAt ops i) v)[k]? = some u := by rw [put_get_ne hki, g4 k hnh]; exact hk
        exact k1.val k u this
    · intro j k hj hk
      rcases hj with hj | rfl
      · exact .inl (h.closed j k hj hk)
      · exact .inl (hanc k hk)
    · intro j hj hcj
      rcases hj with hj | rfl
      · exact List.mem_cons_of_mem _ (h.i12 j hj hcj)
      · exact List.mem_cons_self
    · intro j hj hcj
      rcases List.mem_cons.1 hj with h7 | h7
      · cases h7; exact .inr rfl
      · exact .inl (h.ifa j h7 hcj)
    · intro j oj hj hL hcj hr
      have hji : j ≠ i := fun e => by rw [e] at hj; rw [ho] at hj; cases hj; omega
      have hLj : L j := hL.resolve_right hji
      have hrp : .run j ∉ pre := fun e => hr (List.mem_cons_of_mem _ e)
      obtain ⟨q1, q2⟩ := h.early j oj hj hLj hcj hrp
      refine ⟨List.mem_cons_of_mem _ q1, Early.congr (hlook j oj hj (fun e => hLi (h.closed j i hLj e)) hji) (aput_size _ _ _) (fun d hd => aput_get_ne fun e => hji (names2 hn e (by rw [dstAt_eq hj]; exact hd))) ?_⟩
      rcases q2 with q2 | ⟨q0, obj', val', p', rv', b1, b2, b3, b3', b4, b5, b6, b7⟩
      · exact .inl q2
      · have hkeep : w'.heap[p'.r]? = w.heap[p'.r]? := k3.frame _ b3 fun j' o' q hj' _ hq => b4 j' o' q hj' hq
        refine .inr ⟨q0, obj', val', p', rv', b1, b2, Nat.lt_of_lt_of_le b3 k3.size, b3', ?_, ?_, b6, b7⟩
        · intro k u q hk hq
          cases hρ : ρ k with
          | some q' =>
            have := k3.le k q' hρ
            rw [hq] at this; cases this
            obtain ⟨u₀, hu, _⟩ := k3.back k u q hk hρ
            exact b4 k u₀ q hu hρ
          | none =>
            rcases k3.fresh k q hρ hq with c1 | ⟨j', o', q', c1, _, c2, c3⟩
            · omega
            · rw [← c3]; exact b4 j' o' q' c1 c2
        · rw [hkeep]; exact b5.mono k3.le
    · intro j oj hj hr hL hcj
      simp only [not_or] at hL
      rcases List.mem_cons.1 hr with h7 | h7
      · cases h7; exact absurd rfl hL.2
      · have hji : j ≠ i := hL.2
        have hancj : ancB anc i j = false := by
          cases hb : ancB anc i j with
          | false => rfl
          | true => exact absurd (hanc j hb) hL.1
        have hp0 := Pend.congr (hlook j oj hj (fun e => h2 (h.preAnc j i h7 e)) hji) (fun d hd => put_get_ne fun e => hji (names2 hn e (by rw [dstAt_eq hj]; exact hd))) (h.pend j oj hj h7 hL.1 hcj)
        cases hh : readsHeap oj with
        | true =>
          have := stable_get hst h7 hj hcj hh hancj
          rcases hp0 with ⟨q1, q2⟩ | ⟨q1, d, q2, q3⟩
          · exact .inl ⟨q1, q2⟩
          · rw [q1] at this
            simp only [q2] at this
            exact .inr ⟨q1, d, q2, this⟩
        | false =>
          rcases hp0 with ⟨q1, q2⟩ | ⟨q1, d, q2, q3⟩
          · exact .inl ⟨q1, q2⟩
          · exact .inr ⟨q1, d, q2, sOp_pure hcj hh q3 _⟩
    · intro j k h7 h8 h9 h10 h11 h12
      have hj : j ≠ i := fun e => by rw [e] at h9; omega
      have hk : k ≠ i := fun e => by rw [e] at h10; omega
      exact h.inj j k (h7.resolve_right hj) (h8.resolve_right hk) h9 h10 (fun e => h11 (List.mem_cons_of_mem _ e)) (fun e => h12 (List.mem_cons_of_mem _ e))
    · intro j q1 q2 q3
      have hj : j ≠ i := fun e => by rw [e] at q2; omega
      have := h.erlt j (q1.resolve_right hj) q2 (fun e => q3 (List.mem_cons_of_mem _ e))
      have := k3.size
      omega
    · intro j oj hj hm hr hL
      have hji : j ≠ i := fun e => hr (e ▸ List.mem_cons_self)
      rcases List.mem_cons.1 hm with h7 | h7
      · cases h7
      · exact Chk.congr (hlook j oj hj (fun e => h2 (h.chkAnc j i h7 e)) hji) (h.chks j oj hj h7 (fun e => hr (List.mem_cons_of_mem _ e)) (fun e => hL (.inl e)))
    · intro j k hj hk
      rcases List.mem_cons.1 hj with h7 | h7
      · cases h7
        exact List.mem_cons_of_mem _ (h3 k hk (anc_lt ha h1 hk))
      · exact List.mem_cons_of_mem _ (h.preAnc j k h7 hk)
    · intro j k hj hk
      rcases List.mem_cons.1 hj with h7 | h7
      · cases h7
      · exact List.mem_cons_of_mem _ (h.chkAnc j k h7 hk)

/-- What has been reckoned is carried out. -/
theorem Inv.stepR (hn : okNames ops anc = true) (h : Inv P ops anc K ρ₀ s₀ w₀ pre rest L er ρ fr s a w) {o : Oper} (ho : opAt ops i = some o) (hc : clsAt ops i = 0) (hLi : ¬ L i) (hrun : .run i ∈ pre)
    (hanc : ∀ j, ancB anc i j = true → L j) {K' : Act → World → Prop} {Q' : Exit → Act → World → Prop}
    (hK : ∀ ρ' fr' s' a' w', Inv P ops anc K ρ₀ s₀ w₀ pre rest (fun j => L j ∨ j = i) er ρ' fr' s' a' w' → K' a' w') : wpOp P ops Q' i K' a w := by
  have hco : cls o = 0 := by rw [← clsAt_eq ho]; exact hc
  have hdst := dstAt_eq ho
  obtain ⟨fr₀, g1, g2, g3, g4⟩ := h.known hn ho hanc fun j hj => h.preAnc i j hrun hj
  have key : ∀ (ρ' : Rho) (v rv : Value) (w' : World), HRel ρ' s w' → Ext ρ s w ρ' s w' → VRel ρ' v rv → (∀ d, o.dst = some d → fr[d]? = some v) → Inv P ops anc K ρ₀ s₀ w₀ pre rest (fun j => L j ∨ j = i) er ρ' fr s (a.put o.dst rv) w' := by
    intro ρ' v rv w' k1 k2 k3 hfv
    rw [← hdst] at hfv ⊢
    refine ⟨h.ok, h.vcs, k1, h.ext.trans k2, ⟨by rw [aput_size]; exact h.fx.size, by rw [aput_defers]; exact h.fx.defers, ?_⟩, h.dlt, ?_, ?_, fun j hj hcj => .inl (h.ifa j hj hcj), ?_, ?_, ?_, ?_, ?_, h.preAnc, h.chkAnc⟩
    · intro k u hk hx
      by_cases hki : dstAt ops i = some k
      · rw [hfv k hki] at hk
        cases hk
        refine ⟨rv, ?_, k3⟩
        rw [hki, aput_get_self (by rw [← h.fx.size]; exact h.dlt i k hki)]
      · have hnh : ¬ hole ops pre L k := by
          rintro ⟨j, hj, hh⟩
          have hji : j ≠ i := fun e => hki (e ▸ hj)
          refine hx ⟨j, hj, ?_⟩
          rcases hh with ⟨q1, q2⟩ | ⟨q1, q2⟩
          · exact .inl ⟨q1, fun q => q.elim q2 hji⟩
          · exact .inr ⟨.inl q1, q2⟩
        obtain ⟨ru, e1, e2⟩ := h.fx.val k u hk hnh
        exact ⟨ru, by rw [aput_get_ne hki]; exact e1, e2.mono k2.le⟩
    · intro j k hj hk
      rcases hj with hj | rfl
      · exact .inl (h.closed j k hj hk)
      · exact .inl (hanc k hk)
    · intro j hj hcj
      rcases hj with hj | rfl
      · exact h.i12 j hj hcj
      · exact hrun
    · intro j oj hj hL hcj hr
      have hji : j ≠ i := fun e => by rw [e] at hj; rw [ho] at hj; cases hj; omega
      have hLj : L j := hL.resolve_right hji
      obtain ⟨q1, q2⟩ := h.early j oj hj hLj hcj hr
      refine ⟨q1, Early.congr (fun _ _ => rfl) (aput_size _ _ _) (fun d hd => aput_get_ne fun e => hji (names2 hn e (by rw [dstAt_eq hj]; exact hd))) ?_⟩
      rcases q2 with q2 | ⟨q0, obj', val', p', rv', b1, b2, b3, b3', b4, b5, b6, b7⟩
      · exact .inl q2
      · have hkeep : w'.heap[p'.r]? = w.heap[p'.r]? := k2.frame _ b3 fun j' o' q hj' _ hq => b4 j' o' q hj' hq
        refine .inr ⟨q0, obj', val', p', rv', b1, b2, Nat.lt_of_lt_of_le b3 k2.size, b3', ?_, ?_, b6, b7⟩
        · intro k u q hk hq
          obtain ⟨q', hq', _⟩ := h.hr.live k u hk
          have := k2.le k q' hq'
          rw [hq] at this; cases this
          exact b4 k u q hk hq'
        · rw [hkeep]; exact b5.mono k2.le
    · intro j oj hj hr hL hcj
      exact h.pend j oj hj hr (fun e => hL (.inl e)) hcj
    · intro j k h7 h8 h9 h10 h11 h12
      have hj : j ≠ i := fun e => by rw [e] at h9; omega
      have hk : k ≠ i := fun e => by rw [e] at h10; omega
      exact h.inj j k (h7.resolve_right hj) (h8.resolve_right hk) h9 h10 h11 h12
    · intro j q1 q2 q3
      have hj : j ≠ i := fun e => by rw [e] at q2; omega
      have := h.erlt j (q1.resolve_right hj) q2 q3
      have := k2.size
      omega
    · intro j oj hj hm hr hL
      exact h.chks j oj hj hm hr fun e => hL (.inl e)
  refine wpOp_of ho ?_
  rcases h.pend i o ho hrun hLi hco with ⟨q1, q2⟩ | ⟨q1, d, q2, q3⟩
  · rw [← sWanted_congr g3] at q1
    rw [sWanted_ok g1 q1]
    simp only [Bool.false_eq_true, if_false]
    refine hK ρ fr s _ w (key ρ Go.undef Go.undef w h.hr (Ext.refl _ _ _) .undef fun d hd => ?_)
    have hlt := h.dlt i d (by rw [hdst]; exact hd)
    rw [List.getElem?_eq_getElem hlt]
    rw [q2 d hd _ (List.getElem?_eq_getElem hlt)]
  · rw [← sWanted_congr g3] at q1
    rw [sWanted_ok g1 q1]
    simp only [if_true]
    left
    rw [← sOp_congr s (looks_ev g3)] at q3
    obtain ⟨ρ', w', rv, n, e1, e2, e3, e4, e5⟩ := sOp_ok g1 h.hr q3
    unfold Oper.wp Oper.upon
    rw [e1]
    have hfin := key ρ' (fr.getD d Go.undef) rv w' e4 e5 e3 fun d' hd' => by
      rw [q2] at hd'; cases hd'
      have hlt := h.dlt i d (by rw [hdst]; exact q2)
      simp [List.getD, List.getElem?_eq_getElem hlt]
    rcases e2 with rfl | ⟨rfl, rfl⟩
    · exact hK _ _ _ _ _ hfin
    · exact hK _ _ _ _ _ hfin

/-- A block is made. -/
theorem Inv.stepA (hn : okNames ops anc = true) (h : Inv P ops anc K ρ₀ s₀ w₀ pre rest L er ρ fr s a w) {o : Oper} (ho : opAt ops i = some o) (hc : clsAt ops i = 2) (hLi : ¬ L i) (hchk : .chk i ∈ pre)
    (hanc : ∀ j, ancB anc i j = true → L j) {K' : Act → World → Prop} {Q' : Exit → Act → World → Prop}
    (hK : ∀ er' ρ' fr' s' a' w', Inv P ops anc K ρ₀ s₀ w₀ pre rest (fun j => L j ∨ j = i) er' ρ' fr' s' a' w' → K' a' w') : wpOp P ops Q' i K' a w := by
  have hco : cls o = 2 := by rw [← clsAt_eq ho]; exact hc
  have hdst := dstAt_eq ho
  have hnr : .run i ∉ pre := fun e => hLi (h.ifa i e (by omega))
  obtain ⟨fr₀, g1, g2, g3, g4⟩ := h.known hn ho hanc fun j hj => h.chkAnc i j hchk hj
  have key : ∀ (rv : Value) (w' : World) (r : Int), (∀ q, q < w.heap.size → w'.heap[q]? = w.heap[q]?) → w.heap.size ≤ w'.heap.size → Same w w' → r < w'.heap.size → (∀ j, L j → clsAt ops j = 2 → .run j ∉ pre → j ≠ i → er j ≠ r) →
      Early P ops w₀ ρ fr s (a.put o.dst rv) w' r o → Inv P ops anc K ρ₀ s₀ w₀ pre rest (fun j => L j ∨ j = i) (fun j => if j = i then r else er j) ρ fr s (a.put o.dst rv) w' := by
    intro rv w' r hw hsz hs hr0 hdiff hearly
    rw [← hdst] at hearly ⊢
    refine ⟨h.ok, h.vcs, h.hr.grow hw, h.ext.grow hw hsz hs, ⟨by rw [aput_size]; exact h.fx.size, by rw [aput_defers]; exact h.fx.defers, ?_⟩, h.dlt, ?_, ?_, fun j hj hcj => .inl (h.ifa j hj hcj), ?_, ?_, ?_, ?_, ?_, h.preAnc, h.chkAnc⟩
    · intro k u hk hx
      by_cases hki : dstAt ops i = some k
      · exact absurd ⟨i, hki, .inr ⟨.inr rfl, hnr⟩⟩ hx
      · have hnh : ¬ hole ops pre L k := by
          rintro ⟨j, hj, hh⟩
          have hji : j ≠ i := fun e => hki (e ▸ hj)
          refine hx ⟨j, hj, ?_⟩
          rcases hh with ⟨q1, q2⟩ | ⟨q1, q2⟩
          · exact .inl ⟨q1, fun q => q.elim q2 hji⟩
          · exact .inr ⟨.inl q1, q2⟩
        obtain ⟨ru, e1, e2⟩ := h.fx.val k u hk hnh
        exact ⟨ru, by rw [aput_get_ne hki]; exact e1, e2⟩
    · intro j k hj hk
      rcases hj with hj | rfl
      · exact .inl (h.closed j k hj hk)
      · exact .inl (hanc k hk)
    · intro j hj hcj
      rcases hj with hj | rfl
      · exact h.i12 j hj hcj
      · exact absurd hc hcj
    · intro j oj hj hL hcj hr
      by_cases hji : j = i
      · subst hji
        rw [ho] at hj; cases hj
        simp only [if_true]
        exact ⟨hchk, hearly⟩
      · have hLj : L j := hL.resolve_right hji
        obtain ⟨q1, q2⟩ := h.early j oj hj hLj hcj hr
        simp only [if_neg hji]
        refine ⟨q1, Early.congr (fun _ _ => rfl) (aput_size _ _ _) (fun d hd => aput_get_ne fun e => hji (names2 hn e (by rw [dstAt_eq hj]; exact hd))) ?_⟩
        rcases q2 with q2 | ⟨q0, obj', val', p', rv', b1, b2, b3, b3', b4, b5, b6, b7⟩
        · exact .inl q2
        · exact .inr ⟨q0, obj', val', p', rv', b1, b2, Nat.lt_of_lt_of_le b3 hsz, b3', b4, by rw [hw _ b3]; exact b5, b6, b7⟩
    · intro j oj hj hr hL hcj
      exact h.pend j oj hj hr (fun e => hL (.inl e)) hcj
    · intro j k h7 h8 h9 h10 h11 h12 heq
      by_cases hj : j = i <;> by_cases hk : k = i
      · rw [hj, hk]
      · simp only [hj, hk, if_true, if_false] at heq
        exact absurd heq.symm (hdiff k (h8.resolve_right hk) h10 h12 hk)
      · simp only [hj, hk, if_true, if_false] at heq
        exact absurd heq (hdiff j (h7.resolve_right hj) h9 h11 hj)
      · simp only [hj, hk, if_false] at heq
        exact h.inj j k (h7.resolve_right hj) (h8.resolve_right hk) h9 h10 h11 h12 heq
    · intro j q1 q2 q3
      by_cases hj : j = i
      · simp only [hj, if_true]; exact hr0
      · simp only [hj, if_false]
        have := h.erlt j (q1.resolve_right hj) q2 q3
        omega
    · intro j oj hj hm hr hL
      exact h.chks j oj hj hm hr fun e => hL (.inl e)
  refine wpOp_of ho ?_
  rcases h.chks i o ho hchk hnr hLi with q1 | ⟨q1, q2⟩
  · have q1' := q1
    rw [← sWanted_congr g3] at q1
    rw [sWanted_ok g1 q1]
    simp only [Bool.false_eq_true, if_false]
    obtain ⟨r, hr1, hr2⟩ : ∃ r : Int, r < 0 ∧ ∀ j, j < ops.size → er j ≠ r := by
      have : ∀ n : Nat, ∃ b : Int, b ≤ 0 ∧ ∀ j, j < n → b ≤ er j := by
        intro n
        induction n with
        | zero => exact ⟨0, by omega, fun j hj => by omega⟩
        | succ n ih =>
          obtain ⟨b, h1, h2⟩ := ih
          refine ⟨min b (er n), by omega, fun j hj => ?_⟩
          by_cases e : j = n
          · subst e; omega
          · have := h2 j (by omega); omega
      obtain ⟨b, h1, h2⟩ := this ops.size
      exact ⟨b - 1, by omega, fun j hj => by have := h2 j hj; omega⟩
    have hjs : ∀ j, clsAt ops j = 2 → j < ops.size := fun j hj => by
      unfold clsAt opAt at hj
      rcases Nat.lt_or_ge j ops.size with h1 | h1
      · exact h1
      · rw [Array.getElem?_eq_none h1] at hj; cases hj
    refine hK _ ρ fr s _ w (key Go.undef w r (fun _ _ => rfl) (Nat.le_refl _) (Same.refl w) (by omega) (fun j _ hj _ _ => hr2 j (hjs j hj)) (.inl ⟨q1', fun d hd hlt => ?_⟩))
    rw [aput_size] at hlt
    rw [hd, aput_get_self hlt]
  · have q1' := q1
    rw [← sWanted_congr g3] at q1
    rw [sWanted_ok g1 q1]
    simp only [if_true]
    left
    obtain ⟨⟨obj, val⟩, hnew⟩ := Option.isSome_iff_exists.1 q2
    have hnew' := hnew
    rw [← sNew_congr (looks_ev g3)] at hnew'
    obtain ⟨ob, rv, p, e1, e2, e3, e4⟩ := sNew_run (w := w) hnew' g1
    unfold Oper.wp Oper.upon
    rw [e2]
    have hgrow : ∀ q, q < w.heap.size → (w.alloc ob).heap[q]? = w.heap[q]? := fun q hq => RowKit.Below.heap_alloc _ _ _ hq
    have hsz1 : (p.r : Int) < (w.alloc ob).heap.size := by
      have : (w.alloc ob).heap.size = w.heap.size + 1 := by simp
      omega
    have hat : (w.alloc ob).heap[p.r]? = some ob := by rw [e1]; show (w.heap.push ob)[w.heap.size]? = _; simp
    refine hK _ ρ fr s _ _ (key rv (w.alloc ob) p.r hgrow (by simp) ⟨rfl, rfl, rfl⟩ hsz1 (fun j q3 q4 q5 _ => ?_) (.inr ⟨q1', obj, val, p, rv, hnew, rfl, by rw [e1]; simp, by rw [e1]; exact h.ext.size, ?_, by rw [hat]; exact e3, e4, fun d hd hlt => ?_⟩))
    · have := h.erlt j q3 q4 q5
      rw [e1]; omega
    · intro j o' q hj hq
      have := h.hr.lt_size hj hq
      omega
    · rw [aput_size] at hlt
      rw [hd, aput_get_self hlt]

end

end Go.Sh
