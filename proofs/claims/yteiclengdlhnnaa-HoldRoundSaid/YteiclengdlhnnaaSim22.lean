/- The region that draws: the steps, further. -/
import Derived.Test.YteiclengdlhnnaaSim21
namespace Go.Sh
open Go

section
variable {P : Program} {ops : Array Oper} {anc : List Nat} {K : List Value → SW → Prop} {ρ₀ : Rho} {s₀ : SW} {w₀ : World}
variable {i : Nat} {pre rest : List Ent} {L : Nat → Prop} {er : Nat → Int} {ρ : Rho} {fr : List Value} {s : SW} {a : Act} {w : World}

theorem stable_get {j : Nat} {oj : Oper} : ∀ {pre : List Ent} {fr : List Value} {s : SW}, stable P ops anc i pre fr s → .run j ∈ pre → opAt ops j = some oj → cls oj = 0 → readsHeap oj = true → ancB anc i j = false →
    (match sWanted ops oj fr with
      | some true => (match oj.dst with | some d => sOp P oj fr s = some (fr.getD d Go.undef, s) | none => False)
      | some false => True
      | none => False)
  | [], _, _, _, hm, _, _, _, _ => by cases hm
  | .chk _ :: pre, fr, s, h, hm, ho, hc, hh, ha => by
    simp only [stable] at h
    rcases List.mem_cons.1 hm with h1 | h1
    · cases h1
    · exact stable_get h h1 ho hc hh ha
  | .run k :: pre, fr, s, h, hm, ho, hc, hh, ha => by
    simp only [stable] at h
    rcases List.mem_cons.1 hm with h1 | h1
    · cases h1
      have h2 := h.1
      rw [ho] at h2
      simp only at h2
      rw [if_pos ⟨hc, hh, ha⟩] at h2
      exact h2
    · exact stable_get h.2 h1 ho hc hh ha

/-- A reading or a reckoning of the shadow's. -/
theorem Inv.stepRun0 (ha : okAnc ops anc = true) (hn : okNames ops anc = true) (h : Inv P ops anc K ρ₀ s₀ w₀ pre (.run i :: rest) L er ρ fr s a w) (hc : clsAt ops i = 0) :
    ∃ fr', Inv P ops anc K ρ₀ s₀ w₀ (.run i :: pre) rest L er ρ fr' s a w := by
  obtain ⟨h1, h2, h3, h4, h5, h6⟩ := okRest_run h.ok
  have hLi : ¬ L i := fun hL => h2 (h.i12 i hL (by omega))
  have hv := h.vcs
  simp only [vcEnts] at hv
  split at hv
  · exact hv.elim
  · rename_i o ho
    have hco : cls o = 0 := by rw [← clsAt_eq ho]; exact hc
    have hdst := dstAt_eq ho
    simp only [hco] at hv
    have key : ∀ v, vcEnts P ops anc K rest (.run i :: pre) (put fr o.dst v) s → Pend P ops (put fr o.dst v) s o → Inv P ops anc K ρ₀ s₀ w₀ (.run i :: pre) rest L er ρ (put fr o.dst v) s a w := by
      intro v hvc hpend
      rw [← hdst] at hvc hpend ⊢
      have hlook : ∀ (j : Nat) (oj : Oper), opAt ops j = some oj → (ancB anc j i = true → False) → j ≠ i → ∀ t ∈ oj.looksAt ops, (put fr (dstAt ops i) v)[t]? = fr[t]? :=
        fun j oj hj hno hne => put_looks hj fun d hd hl => hno (names3 hn hd hl hne)
      refine ⟨h6, hvc, h.hr, h.ext, ⟨by rw [put_length]; exact h.fx.size, h.fx.defers, ?_⟩, fun j d hd => by rw [put_length]; exact h.dlt j d hd, h.closed, fun j hj hcj => List.mem_cons_of_mem _ (h.i12 j hj hcj), ?_, ?_, ?_, ?_, fun j q1 q2 q3 => h.erlt j q1 q2 (fun e => q3 (List.mem_cons_of_mem _ e)), ?_, ?_, ?_⟩
      · intro k u hk hx
        by_cases hki : dstAt ops i = some k
        · exact absurd ⟨i, hki, .inl ⟨List.mem_cons_self, hLi⟩⟩ hx
        · rw [put_get_ne hki] at hk
          exact h.fx.val k u hk fun hx' => hx ((hole_run hki).2 hx')
      · intro j hj hcj
        rcases List.mem_cons.1 hj with h7 | h7
        · cases h7; exact absurd hc hcj
        · exact h.ifa j h7 hcj
      · intro j oj hj hL hcj hr
        have hji : j ≠ i := fun e => hLi (e ▸ hL)
        have := h.early j oj hj hL hcj (fun e => hr (List.mem_cons_of_mem _ e))
        exact ⟨List.mem_cons_of_mem _ this.1, Early.congr (hlook j oj hj (fun e => hLi (h.closed j i hL e)) hji) rfl (fun _ _ => rfl) this.2⟩
      · intro j oj hj hr hL hcj
        rcases List.mem_cons.1 hr with h7 | h7
        · cases h7
          rw [ho] at hj; cases hj
          exact hpend
        · have hji : j ≠ i := fun e => h2 (e ▸ h7)
          refine Pend.congr (hlook j oj hj (fun e => h2 (h.preAnc j i h7 e)) hji) (fun d hd => put_get_ne fun e => hji (names2 hn e (by rw [dstAt_eq hj]; exact hd))) (h.pend j oj hj h7 hL hcj)
      · intro j k h7 h8 h9 h10 h11 h12
        exact h.inj j k h7 h8 h9 h10 (fun e => h11 (List.mem_cons_of_mem _ e)) (fun e => h12 (List.mem_cons_of_mem _ e))
      · intro j oj hj hm hr hL
        have hji : j ≠ i := fun e => hr (e ▸ List.mem_cons_self)
        rcases List.mem_cons.1 hm with h7 | h7
        · cases h7
        · exact Chk.congr (hlook j oj hj (fun e => h2 (h.chkAnc j i h7 e)) hji) (h.chks j oj hj h7 (fun e => hr (List.mem_cons_of_mem _ e)) hL)
      · intro j k hj hk
        rcases List.mem_cons.1 hj with h7 | h7
        · cases h7
          exact List.mem_cons_of_mem _ (h3 k hk (anc_lt ha h1 hk))
        · exact List.mem_cons_of_mem _ (h.preAnc j k h7 hk)
      · intro j k hj hk
        rcases List.mem_cons.1 hj with h7 | h7
        · cases h7
        · exact List.mem_cons_of_mem _ (h.chkAnc j k h7 hk)
    have hself : ∀ v, ∀ t ∈ o.looksAt ops, (put fr o.dst v)[t]? = fr[t]? := fun v t ht => by
      rw [← hdst]
      exact put_looks ho (fun d hd => names1 hn hd) t ht
    split at hv
    · exact hv.elim
    · rename_i hw
      refine ⟨_, key _ hv (.inl ⟨by rw [sWanted_congr (hself _)]; exact hw, ?_⟩)⟩
      intro d hd u hu
      rw [hd, put_get_self (h.dlt i d (by rw [hdst]; exact hd))] at hu
      cases hu; rfl
    · rename_i hw
      split at hv
      · rename_i v s' hop
        obtain ⟨hs', hdn, hv⟩ := hv
        rw [hs'] at hop
        cases hd : o.dst with
        | none => exact absurd hd hdn
        | some d =>
          rw [hd] at hv
          have := key v (by rw [hd]; exact hv) (.inr ⟨by rw [sWanted_congr (hself _)]; exact hw, d, hd, ?_⟩)
          · exact ⟨_, this⟩
          · rw [sOp_congr s (looks_ev (hself v)), hop]
            rw [hd]
            simp only [List.getD, put_get_self (h.dlt i d (by rw [hdst]; exact hd)), Option.getD_some]
      · exact hv.elim

/-- A block that the model has made comes to be the shadow's. -/
theorem Inv.stepRun2 (ha : okAnc ops anc = true) (hn : okNames ops anc = true) (h : Inv P ops anc K ρ₀ s₀ w₀ pre (.run i :: rest) L er ρ fr s a w) (hc : clsAt ops i = 2) (hL : L i) :
    ∃ ρ' fr' s', Inv P ops anc K ρ₀ s₀ w₀ (.run i :: pre) rest L er ρ' fr' s' a w := by
  obtain ⟨h1, h2, h3, h4, h5, h6⟩ := okRest_run h.ok
  have hv := h.vcs
  simp only [vcEnts] at hv
  split at hv
  · exact hv.elim
  · rename_i o ho
    have hco : cls o = 2 := by rw [← clsAt_eq ho]; exact hc
    have hdst := dstAt_eq ho
    simp only [hco] at hv
    have hearly := (h.early i o ho hL hco h2).2
    have key : ∀ (ρ' : Rho) (s' : SW) (v rv : Value), Rho.le ρ ρ' → HRel ρ' s' w → Ext ρ₀ s₀ w₀ ρ' s' w → VRel ρ' v rv → (∀ d, o.dst = some d → d < a.tmps.size → a.tmps[d]? = some rv) →
        vcEnts P ops anc K rest (.run i :: pre) (put fr o.dst v) s' →
        (∀ j oj, opAt ops j = some oj → .run j ∈ pre → ¬ L j → cls oj = 0 → Pend P ops (put fr o.dst v) s' oj) →
        (∀ j oj, opAt ops j = some oj → L j → cls oj = 2 → .run j ∉ pre → j ≠ i → Early P ops w₀ ρ' fr s' a w (er j) oj) →
        Inv P ops anc K ρ₀ s₀ w₀ (.run i :: pre) rest L er ρ' (put fr o.dst v) s' a w := by
      intro ρ' s' v rv hle hr' hext' hvr hav hvc hpend hearl
      rw [← hdst] at hvc hpend hav ⊢
      have hlook : ∀ (j : Nat) (oj : Oper), opAt ops j = some oj → (ancB anc j i = true → False) → j ≠ i → ∀ t ∈ oj.looksAt ops, (put fr (dstAt ops i) v)[t]? = fr[t]? :=
        fun j oj hj hno hne => put_looks hj fun d hd hl => hno (names3 hn hd hl hne)
      refine ⟨h6, hvc, hr', hext', ⟨by rw [put_length]; exact h.fx.size, h.fx.defers, ?_⟩, fun j d hd => by rw [put_length]; exact h.dlt j d hd, h.closed, fun j hj hcj => List.mem_cons_of_mem _ (h.i12 j hj hcj), ?_, ?_, ?_, ?_, fun j q1 q2 q3 => h.erlt j q1 q2 (fun e => q3 (List.mem_cons_of_mem _ e)), ?_, ?_, ?_⟩
      · intro k u hk hx
        by_cases hki : dstAt ops i = some k
        · have hlt := h.dlt i k hki
          rw [hki, put_get_self hlt] at hk
          cases hk
          exact ⟨rv, hav k hki (by rw [← h.fx.size]; exact hlt), hvr⟩
        · rw [put_get_ne hki] at hk
          obtain ⟨ru, g1, g2⟩ := h.fx.val k u hk fun hx' => hx ((hole_run hki).2 hx')
          exact ⟨ru, g1, g2.mono hle⟩
      · intro j hj hcj
        rcases List.mem_cons.1 hj with h7 | h7
        · cases h7; exact hL
        · exact h.ifa j h7 hcj
      · intro j oj hj hLj hcj hr
        have hji : j ≠ i := fun e => hr (e ▸ List.mem_cons_self)
        have hrp : .run j ∉ pre := fun e => hr (List.mem_cons_of_mem _ e)
        have := h.early j oj hj hLj hcj hrp
        exact ⟨List.mem_cons_of_mem _ this.1, Early.congr (hlook j oj hj (fun e => h2 (h.chkAnc j i this.1 e)) hji) rfl (fun _ _ => rfl) (hearl j oj hj hLj hcj hrp hji)⟩
      · intro j oj hj hr hLj hcj
        rcases List.mem_cons.1 hr with h7 | h7
        · cases h7; exact absurd hL hLj
        · exact hpend j oj hj h7 hLj hcj
      · intro j k h7 h8 h9 h10 h11 h12
        exact h.inj j k h7 h8 h9 h10 (fun e => h11 (List.mem_cons_of_mem _ e)) (fun e => h12 (List.mem_cons_of_mem _ e))
      · intro j oj hj hm hr hLj
        have hji : j ≠ i := fun e => hr (e ▸ List.mem_cons_self)
        rcases List.mem_cons.1 hm with h7 | h7
        · cases h7
        · exact Chk.congr (hlook j oj hj (fun e => h2 (h.chkAnc j i h7 e)) hji) (h.chks j oj hj h7 (fun e => hr (List.mem_cons_of_mem _ e)) hLj)
      · intro j k hj hk
        rcases List.mem_cons.1 hj with h7 | h7
        · cases h7
          exact List.mem_cons_of_mem _ (h3 k hk (anc_lt ha h1 hk))
        · exact List.mem_cons_of_mem _ (h.preAnc j k h7 hk)
      · intro j k hj hk
        rcases List.mem_cons.1 hj with h7 | h7
        · cases h7
        · exact List.mem_cons_of_mem _ (h.chkAnc j k h7 hk)
    have hlookP : ∀ v, ∀ (j : Nat) (oj : Oper), opAt ops j = some oj → .run j ∈ pre → (∀ t ∈ oj.looksAt ops, (put fr o.dst v)[t]? = fr[t]?) ∧ (∀ d, oj.dst = some d → (put fr o.dst v)[d]? = fr[d]?) := by
      intro v j oj hj hr
      have hji : j ≠ i := fun e => h2 (e ▸ hr)
      rw [← hdst]
      exact ⟨put_looks hj fun d hd hl => h2 (h.preAnc j i hr (names3 hn hd hl hji)), fun d hd => put_get_ne fun e => hji (names2 hn e (by rw [dstAt_eq hj]; exact hd))⟩
    split at hv
    · exact hv.elim
    · rename_i hw
      rcases hearly with ⟨_, g2⟩ | ⟨g1, _⟩
      · refine ⟨ρ, _, s, key ρ s Go.undef Go.undef (Rho.le_refl _) h.hr h.ext .undef g2 hv ?_ ?_⟩
        · intro j oj hj hr hLj hcj
          obtain ⟨e1, e2⟩ := hlookP Go.undef j oj hj hr
          exact Pend.congr e1 e2 (h.pend j oj hj hr hLj hcj)
        · intro j oj hj hLj hcj hr _
          exact (h.early j oj hj hLj hcj hr).2
      · rw [hw] at g1; cases g1
    · rename_i hw
      rcases hearly with ⟨g1, _⟩ | ⟨_, obj, val, p, rv, g1, g2, g3, g3', g4, g5, g6, g7⟩
      · rw [hw] at g1; cases g1
      · rw [g1] at hv
        simp only at hv
        have hn0 : ρ s.next = none := h.hr.next _ (Nat.le_refl _)
        refine ⟨ρ.upd s.next p, _, s.new obj, key _ _ (val s.next) rv (Rho.le_upd hn0) (h.hr.adopt g4 g5) (Ext.adopt h.hr h.ext g3') (g6 _ _ Rho.upd_same) g7 hv.2 ?_ ?_⟩
        · intro j oj hj hr hLj hcj
          obtain ⟨e1, e2⟩ := hlookP (val s.next) j oj hj hr
          have hanc : ancB anc i j = false := by
            cases hb : ancB anc i j with
            | false => rfl
            | true => exact absurd (h.closed i j hL hb) hLj
          have hp0 := Pend.congr e1 e2 (h.pend j oj hj hr hLj hcj)
          cases hh : readsHeap oj with
          | true =>
            have := stable_get hv.1 hr hj hcj hh hanc
            rcases hp0 with ⟨q1, q2⟩ | ⟨q1, d, q2, q3⟩
            · exact .inl ⟨q1, q2⟩
            · rw [q1] at this
              simp only [q2] at this
              exact .inr ⟨q1, d, q2, this⟩
          | false =>
            rcases hp0 with ⟨q1, q2⟩ | ⟨q1, d, q2, q3⟩
            · exact .inl ⟨q1, q2⟩
            · exact .inr ⟨q1, d, q2, sOp_pure hcj hh q3 _⟩
        · intro j oj hj hLj hcj hr hji
          rcases (h.early j oj hj hLj hcj hr).2 with q1 | ⟨q0, obj', val', p', rv', q1, q2, q3, q3', q4, q5, q6, q7⟩
          · exact .inl q1
          · refine .inr ⟨q0, obj', val', p', rv', q1, q2, q3, q3', ?_, q5.mono (Rho.le_upd hn0), q6, q7⟩
            intro k u q hk hq
            simp only [SW.new] at hk
            simp only [Rho.upd] at hq
            by_cases e : k = s.next
            · simp only [e, if_true] at hq
              cases hq
              intro e2
              exact hji (h.inj i j hL hLj hc (by rw [clsAt_eq hj]; exact hcj) h2 hr (by rw [← g2, ← q2, e2])).symm
            · simp only [e, if_false] at hk hq
              exact q4 k u q hk hq

end

end Go.Sh
