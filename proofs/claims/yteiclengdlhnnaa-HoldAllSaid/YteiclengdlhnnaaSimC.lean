/- The region that draws: what the model carries out; the law. -/
import Derived.Test.YteiclengdlhnnaaSimB
import Derived.Shelf.SlIterI.Nil
import Derived.Shelf.SlIterI.Sorted
import Derived.Shelf.SortM.Plain
import Derived.Shelf.SortM.SortNone
import Derived.ProofKit
import Derived.ChangeSame
import Derived.Deep.Slices
import Derived.Deep.SlicePairs
import Derived.Carry
namespace Go.Sh
open Go

section
variable {P : Program} {ops : Array Oper} {anc : List Nat} {K : List Value → SW → Prop} {ρ₀ : Rho} {s₀ : SW} {w₀ : World}
variable {i : Nat} {pre rest : List Ent} {L : Nat → Prop} {er : Nat → Int} {ρ : Rho} {fr : List Value} {s : SW} {a : Act} {w : World}

/-- The temporaries that an operation looks at, all ahead of it done and reckoned. -/
theorem Inv.known (hn : okNames ops anc = true) (h : Inv P ops anc K ρ₀ s₀ w₀ pre rest L er ρ fr s a w) {o : Oper} (ho : opAt ops i = some o) (hL : ∀ j, ancB anc i j = true → L j)
    (hLi : ¬ L i) (hp : ∀ j, ancB anc i j = true → .run j ∈ pre) : ∃ fr₀, FRel ρ fr₀ a ∧ fr₀.length = fr.length ∧ (∀ t ∈ o.looksAt ops, fr₀[t]? = fr[t]?) ∧ (∀ k, ¬ hole ops pre L k → fr₀[k]? = fr[k]?) := by
  obtain ⟨fr₀, h1, h2, h3⟩ := h.fx.frame
  refine ⟨fr₀, h1, h2, fun t ht => h3 t ?_, h3⟩
  rintro ⟨j, hj, hh⟩
  have ht' : t ∈ looksAt ops i := by rw [looksAt_eq ho]; exact ht
  have hne : i ≠ j := fun e => names1 hn hj (e ▸ ht')
  rcases names3 hn hj ht' hne with hanc | ⟨c, hanc, c0⟩
  · rcases hh with ⟨_, g2⟩ | ⟨_, g2⟩
    · exact g2 (hL j hanc)
    · exact g2 (hp j hanc)
  · rcases hh with ⟨g1, g2⟩ | ⟨g1, g2⟩
    · exact hLi (h.cf j g1 c i hanc)
    · exact g2 (h.i12 j g1 (by omega))

theorem vcOp_frame {o : Oper} {Kx : List Value → SW → Prop} {fr₀ : List Value} (hl : ∀ t ∈ o.looksAt ops, fr₀[t]? = fr[t]?) (h : vcOp P ops o Kx fr s) :
    vcOp P ops o (fun fr₁ s₁ => ∃ v, fr₁ = put fr₀ o.dst v ∧ Kx (put fr o.dst v) s₁) fr₀ s := by
  unfold vcOp at *
  rw [sWanted_congr hl]
  split at h
  · exact h.elim
  · exact ⟨_, rfl, h⟩
  · cases hop : o.op with
    | call c =>
      obtain ⟨callee, args, tys⟩ := c
      have hev := looks_ev hl
      rw [hop] at hev
      cases callee with
      | value f =>
        rw [hop] at h
        simp only at h ⊢
        rw [hev f (by simp [Op.operands, Call.operands])]
        have hargs : args.toList.map (ev fr₀) = args.toList.map (ev fr) := by
          apply List.map_congr_left
          intro x hx
          exact hev x (by simp [Op.operands, Call.operands]; exact .inr (by simpa using hx))
        rw [hargs]
        split at h
        · exact h.mono fun v s' hk => ⟨v, rfl, hk⟩
        · exact h.elim
      | _ =>
        rw [hop] at h
        simp only at h ⊢
        rw [sOp_congr s (looks_ev hl)]
        split at h
        · exact ⟨_, rfl, h⟩
        · exact h.elim
    | _ =>
      rw [hop] at h
      simp only at h ⊢
      rw [sOp_congr s (looks_ev hl)]
      split at h
      · exact ⟨_, rfl, h⟩
      · exact h.elim

/-- The model's wp of one operation, whatever the frame's holes. -/
theorem wpOp_of {o : Oper} {K' : Act → World → Prop} {Q' : Exit → Act → World → Prop} (ho : opAt ops i = some o)
    (h : if Region.wanted o (yielded ops a.tmps) then o.wp P a w K' Q' ∨ (o.asks P a w ∧ LetsOut Q') else K' (a.put o.dst Go.undef) w) : wpOp P ops Q' i K' a w := by
  unfold wpOp
  unfold opAt at ho
  rw [ho]
  exact h

/-- A turn, or a call. -/
theorem Inv.stepF (ha : okAnc ops anc = true) (hn : okNames ops anc = true) (h : Inv P ops anc K ρ₀ s₀ w₀ pre (.run i :: rest) L er ρ fr s a w) (hc : clsAt ops i = 1) (hLi : ¬ L i) (hanc : ∀ j, ancB anc i j = true → L j)
    {K' : Act → World → Prop} {Q' : Exit → Act → World → Prop}
    (hK : ∀ ρ' fr' s' a' w', Inv P ops anc K ρ₀ s₀ w₀ (.run i :: pre) rest (fun j => L j ∨ j = i) er ρ' fr' s' a' w' → K' a' w') : wpOp P ops Q' i K' a w := by
  obtain ⟨h1, h2, h3, h4, h5, h6⟩ := okRest_run h.ok
  have hv := h.vcs
  simp only [vcEnts] at hv
  split at hv
  · exact hv.elim
  · rename_i o ho
    have hco : cls o = 1 := by rw [← clsAt_eq ho]; exact hc
    have hdst := dstAt_eq ho
    simp only [hco] at hv
    obtain ⟨fr₀, g1, g2, g3, g4⟩ := h.known hn ho hanc hLi fun j hj => h3 j hj (anc_lt ha h1 hj)
    refine wpOp_of ho (vcOp_ok g1 h.hr (vcOp_frame g3 hv) ?_)
    rintro ρ' fr₁ s' a' w' ⟨rv, rfl⟩ k1 k2 k3 ⟨v, rfl, hst, hvc⟩
    refine hK ρ' (put fr o.dst v) s' _ w' ?_
    rw [← hdst] at hvc hst k1 ⊢
    have hlook : ∀ (j : Nat) (oj : Oper), opAt ops j = some oj → (ancB anc j i = true → False) → j ≠ i → ∀ t ∈ oj.looksAt ops, (put fr (dstAt ops i) v)[t]? = fr[t]? :=
      fun j oj hj hno hne => put_looks hj fun d hd hl => (names3 hn hd hl hne).elim hno fun q => by have := q.2.2; omega
    refine ⟨h6, hvc, k2, h.ext.trans k3, ⟨by rw [put_length, aput_size]; exact h.fx.size, by rw [aput_defers]; exact h.fx.defers, ?_⟩, fun j d hd => by rw [put_length]; exact h.dlt j d hd, ?_, ?_, ?_, ?_, ?_, ?_, ?_, ?_, ?_, ?_, ?_⟩
    · intro k u hk hx
      by_cases hki : dstAt ops i = some k
      · have : (put fr₀ (dstAt ops i) v)[k]? = some u := by
          rw [hki] at hk ⊢
          rw [put_get_self (h.dlt i k hki)] at hk
          rw [put_get_self (by rw [g2]; exact h.dlt i k hki)]
          exact hk
        exact k1.val k u this
      · rw [put_get_ne hki] at hk
        have hnh : ¬ hole ops pre L k := by
          rintro ⟨j, hj, hh⟩
          have hji : j ≠ i := fun e => hki (e ▸ hj)
          refine hx ⟨j, hj, ?_⟩
          rcases hh with ⟨q1, q2⟩ | ⟨q1, q2⟩
          · exact .inl ⟨List.mem_cons_of_mem _ q1, fun q => q.elim q2 hji⟩
          · exact .inr ⟨.inl q1, fun q => by
              rcases List.mem_cons.1 q with q | q
              · cases q; exact hji rfl
              · exact q2 q⟩
        have : (put fr₀ (dstAt ops i) v)[k]? = some u := by rw [put_get_ne hki, g4 k hnh]; exact hk
        exact k1.val k u this
    · intro j k hj hk
      rcases hj with hj | rfl
      · exact .inl (h.closed j k hj hk)
      · exact .inl (hanc k hk)
    · intro j hj hcj
      rcases hj with hj | rfl
      · exact List.mem_cons_of_mem _ (h.i12 j hj hcj)
      · exact List.mem_cons_self
    · intro j hj hcj
      rcases List.mem_cons.1 hj with h7 | h7
      · cases h7; exact .inr rfl
      · exact .inl (h.ifa j h7 hcj)
    · intro j oj hj hL hcj hr
      have hji : j ≠ i := fun e => by rw [e] at hj; rw [ho] at hj; cases hj; omega
      have hLj : L j := hL.resolve_right hji
      have hrp : .run j ∉ pre := fun e => hr (List.mem_cons_of_mem _ e)
      obtain ⟨q1, q2⟩ := h.early j oj hj hLj hcj hrp
      refine ⟨List.mem_cons_of_mem _ q1, Early.congr (hlook j oj hj (fun e => hLi (h.closed j i hLj e)) hji) (aput_size _ _ _) (fun d hd => aput_get_ne fun e => hji (names2 hn e (by rw [dstAt_eq hj]; exact hd))) ?_⟩
      rcases q2 with q2 | ⟨q0, obj', val', p', rv', b1, b2, b3, b3', b4, b5, b6, b7⟩
      · exact .inl q2
      · have hkeep : w'.heap[p'.r]? = w.heap[p'.r]? := k3.frame _ b3 fun j' o' q hj' _ hq => b4 j' o' q hj' hq
        refine .inr ⟨q0, obj', val', p', rv', b1, b2, Nat.lt_of_lt_of_le b3 k3.size, b3', ?_, ?_, b6, b7⟩
        · intro k u q hk hq
          cases hρ : ρ k with
          | some q' =>
            have := k3.le k q' hρ
            rw [hq] at this; cases this
            obtain ⟨u₀, hu, _⟩ := k3.back k u q hk hρ
            exact b4 k u₀ q hu hρ
          | none =>
            rcases k3.fresh k q hρ hq with c1 | ⟨j', o', q', c1, _, c2, c3⟩
            · omega
            · rw [← c3]; exact b4 j' o' q' c1 c2
        · rw [hkeep]; exact b5.mono k3.le
    · intro j oj hj hr hL hcj
      simp only [not_or] at hL
      rcases List.mem_cons.1 hr with h7 | h7
      · cases h7; exact absurd rfl hL.2
      · have hji : j ≠ i := hL.2
        have hancj : ancB anc i j = false := by
          cases hb : ancB anc i j with
          | false => rfl
          | true => exact absurd (hanc j hb) hL.1
        have hp0 := Pend.congr (hlook j oj hj (fun e => h2 (h.preAnc j i h7 e)) hji) (fun d hd => put_get_ne fun e => hji (names2 hn e (by rw [dstAt_eq hj]; exact hd))) (h.pend j oj hj h7 hL.1 hcj)
        cases hh : readsHeap oj with
        | true =>
          have := stable_get hst h7 hj hcj hh hancj
          rcases hp0 with ⟨q1, q2⟩ | ⟨q1, d, q2, q3⟩
          · exact .inl ⟨q1, q2⟩
          · rw [q1] at this
            simp only [q2] at this
            exact .inr ⟨q1, d, q2, this⟩
        | false =>
          rcases hp0 with ⟨q1, q2⟩ | ⟨q1, d, q2, q3⟩
          · exact .inl ⟨q1, q2⟩
          · exact .inr ⟨q1, d, q2, sOp_pure hcj hh q3 _⟩
    · intro j k h7 h8 h9 h10 h11 h12
      have hj : j ≠ i := fun e => by rw [e] at h9; omega
      have hk : k ≠ i := fun e => by rw [e] at h10; omega
      exact h.inj j k (h7.resolve_right hj) (h8.resolve_right hk) h9 h10 (fun e => h11 (List.mem_cons_of_mem _ e)) (fun e => h12 (List.mem_cons_of_mem _ e))
    · intro j q1 q2 q3
      have hj : j ≠ i := fun e => by rw [e] at q2; omega
      have := h.erlt j (q1.resolve_right hj) q2 (fun e => q3 (List.mem_cons_of_mem _ e))
      have := k3.size
      omega
    · intro j oj hj hm hr hL
      have hji : j ≠ i := fun e => hr (e ▸ List.mem_cons_self)
      rcases List.mem_cons.1 hm with h7 | h7
      · cases h7
      · exact Chk.congr (hlook j oj hj (fun e => h2 (h.chkAnc j i h7 e)) hji) (h.chks j oj hj h7 (fun e => hr (List.mem_cons_of_mem _ e)) (fun e => hL (.inl e)))
    · intro j k hj hk
      rcases List.mem_cons.1 hj with h7 | h7
      · cases h7
        exact List.mem_cons_of_mem _ (h3 k hk (anc_lt ha h1 hk))
      · exact List.mem_cons_of_mem _ (h.preAnc j k h7 hk)
    · intro j k hj hk
      rcases List.mem_cons.1 hj with h7 | h7
      · cases h7
      · exact List.mem_cons_of_mem _ (h.chkAnc j k h7 hk)
    · intro j hj c k hk
      rcases List.mem_cons.1 hj with h7 | h7
      · cases h7
        have := conf_cls hn c
        omega
      · exact .inl (h.cf j h7 c k hk)

/-- What has been reckoned is carried out. -/
theorem Inv.stepR (hn : okNames ops anc = true) (h : Inv P ops anc K ρ₀ s₀ w₀ pre rest L er ρ fr s a w) {o : Oper} (ho : opAt ops i = some o) (hc : clsAt ops i = 0) (hLi : ¬ L i) (hrun : .run i ∈ pre)
    (hanc : ∀ j, ancB anc i j = true → L j) {K' : Act → World → Prop} {Q' : Exit → Act → World → Prop}
    (hK : ∀ ρ' fr' s' a' w', Inv P ops anc K ρ₀ s₀ w₀ pre rest (fun j => L j ∨ j = i) er ρ' fr' s' a' w' → K' a' w') : wpOp P ops Q' i K' a w := by
  have hco : cls o = 0 := by rw [← clsAt_eq ho]; exact hc
  have hdst := dstAt_eq ho
  obtain ⟨fr₀, g1, g2, g3, g4⟩ := h.known hn ho hanc hLi fun j hj => h.preAnc i j hrun hj
  have key : ∀ (ρ' : Rho) (v rv : Value) (w' : World), HRel ρ' s w' → Ext ρ s w ρ' s w' → VRel ρ' v rv → (∀ d, o.dst = some d → fr[d]? = some v) → Inv P ops anc K ρ₀ s₀ w₀ pre rest (fun j => L j ∨ j = i) er ρ' fr s (a.put o.dst rv) w' := by
    intro ρ' v rv w' k1 k2 k3 hfv
    rw [← hdst] at hfv ⊢
    refine ⟨h.ok, h.vcs, k1, h.ext.trans k2, ⟨by rw [aput_size]; exact h.fx.size, by rw [aput_defers]; exact h.fx.defers, ?_⟩, h.dlt, ?_, ?_, fun j hj hcj => .inl (h.ifa j hj hcj), ?_, ?_, ?_, ?_, ?_, h.preAnc, h.chkAnc, fun j hj c k hk => .inl (h.cf j hj c k hk)⟩
    · intro k u hk hx
      by_cases hki : dstAt ops i = some k
      · rw [hfv k hki] at hk
        cases hk
        refine ⟨rv, ?_, k3⟩
        rw [hki, aput_get_self (by rw [← h.fx.size]; exact h.dlt i k hki)]
      · have hnh : ¬ hole ops pre L k := by
          rintro ⟨j, hj, hh⟩
          have hji : j ≠ i := fun e => hki (e ▸ hj)
          refine hx ⟨j, hj, ?_⟩
          rcases hh with ⟨q1, q2⟩ | ⟨q1, q2⟩
          · exact .inl ⟨q1, fun q => q.elim q2 hji⟩
          · exact .inr ⟨.inl q1, q2⟩
        obtain ⟨ru, e1, e2⟩ := h.fx.val k u hk hnh
        exact ⟨ru, by rw [aput_get_ne hki]; exact e1, e2.mono k2.le⟩
    · intro j k hj hk
      rcases hj with hj | rfl
      · exact .inl (h.closed j k hj hk)
      · exact .inl (hanc k hk)
    · intro j hj hcj
      rcases hj with hj | rfl
      · exact h.i12 j hj hcj
      · exact hrun
    · intro j oj hj hL hcj hr
      have hji : j ≠ i := fun e => by rw [e] at hj; rw [ho] at hj; cases hj; omega
      have hLj : L j := hL.resolve_right hji
      obtain ⟨q1, q2⟩ := h.early j oj hj hLj hcj hr
      refine ⟨q1, Early.congr (fun _ _ => rfl) (aput_size _ _ _) (fun d hd => aput_get_ne fun e => hji (names2 hn e (by rw [dstAt_eq hj]; exact hd))) ?_⟩
      rcases q2 with q2 | ⟨q0, obj', val', p', rv', b1, b2, b3, b3', b4, b5, b6, b7⟩
      · exact .inl q2
      · have hkeep : w'.heap[p'.r]? = w.heap[p'.r]? := k2.frame _ b3 fun j' o' q hj' _ hq => b4 j' o' q hj' hq
        refine .inr ⟨q0, obj', val', p', rv', b1, b2, Nat.lt_of_lt_of_le b3 k2.size, b3', ?_, ?_, b6, b7⟩
        · intro k u q hk hq
          obtain ⟨q', hq', _⟩ := h.hr.live k u hk
          have := k2.le k q' hq'
          rw [hq] at this; cases this
          exact b4 k u q hk hq'
        · rw [hkeep]; exact b5.mono k2.le
    · intro j oj hj hr hL hcj
      exact h.pend j oj hj hr (fun e => hL (.inl e)) hcj
    · intro j k h7 h8 h9 h10 h11 h12
      have hj : j ≠ i := fun e => by rw [e] at h9; omega
      have hk : k ≠ i := fun e => by rw [e] at h10; omega
      exact h.inj j k (h7.resolve_right hj) (h8.resolve_right hk) h9 h10 h11 h12
    · intro j q1 q2 q3
      have hj : j ≠ i := fun e => by rw [e] at q2; omega
      have := h.erlt j (q1.resolve_right hj) q2 q3
      have := k2.size
      omega
    · intro j oj hj hm hr hL
      exact h.chks j oj hj hm hr fun e => hL (.inl e)
  refine wpOp_of ho ?_
  rcases h.pend i o ho hrun hLi hco with ⟨q1, q2⟩ | ⟨q1, d, q2, q3⟩
  · rw [← sWanted_congr g3] at q1
    rw [sWanted_ok g1 q1]
    simp only [Bool.false_eq_true, if_false]
    refine hK ρ fr s _ w (key ρ Go.undef Go.undef w h.hr (Ext.refl _ _ _) .undef fun d hd => ?_)
    have hlt := h.dlt i d (by rw [hdst]; exact hd)
    rw [List.getElem?_eq_getElem hlt]
    rw [q2 d hd _ (List.getElem?_eq_getElem hlt)]
  · rw [← sWanted_congr g3] at q1
    rw [sWanted_ok g1 q1]
    simp only [if_true]
    left
    rw [← sOp_congr s (looks_ev g3)] at q3
    obtain ⟨ρ', w', rv, n, e1, e2, e3, e4, e5⟩ := sOp_ok g1 h.hr q3
    unfold Oper.wp Oper.upon
    rw [e1]
    have hfin := key ρ' (fr.getD d Go.undef) rv w' e4 e5 e3 fun d' hd' => by
      rw [q2] at hd'; cases hd'
      have hlt := h.dlt i d (by rw [hdst]; exact q2)
      simp [List.getD, List.getElem?_eq_getElem hlt]
    rcases e2 with rfl | ⟨rfl, rfl⟩
    · exact hK _ _ _ _ _ hfin
    · exact hK _ _ _ _ _ hfin

/-- A block is made. -/
theorem Inv.stepA (hn : okNames ops anc = true) (h : Inv P ops anc K ρ₀ s₀ w₀ pre rest L er ρ fr s a w) {o : Oper} (ho : opAt ops i = some o) (hc : clsAt ops i = 2) (hLi : ¬ L i) (hchk : .chk i ∈ pre)
    (hanc : ∀ j, ancB anc i j = true → L j) {K' : Act → World → Prop} {Q' : Exit → Act → World → Prop}
    (hK : ∀ er' ρ' fr' s' a' w', Inv P ops anc K ρ₀ s₀ w₀ pre rest (fun j => L j ∨ j = i) er' ρ' fr' s' a' w' → K' a' w') : wpOp P ops Q' i K' a w := by
  have hco : cls o = 2 := by rw [← clsAt_eq ho]; exact hc
  have hdst := dstAt_eq ho
  have hnr : .run i ∉ pre := fun e => hLi (h.ifa i e (by omega))
  obtain ⟨fr₀, g1, g2, g3, g4⟩ := h.known hn ho hanc hLi fun j hj => h.chkAnc i j hchk hj
  have key : ∀ (rv : Value) (w' : World) (r : Int), (∀ q, q < w.heap.size → w'.heap[q]? = w.heap[q]?) → w.heap.size ≤ w'.heap.size → Same w w' → r < w'.heap.size → (∀ j, L j → clsAt ops j = 2 → .run j ∉ pre → j ≠ i → er j ≠ r) →
      Early P ops w₀ ρ fr s (a.put o.dst rv) w' r o → Inv P ops anc K ρ₀ s₀ w₀ pre rest (fun j => L j ∨ j = i) (fun j => if j = i then r else er j) ρ fr s (a.put o.dst rv) w' := by
    intro rv w' r hw hsz hs hr0 hdiff hearly
    rw [← hdst] at hearly ⊢
    refine ⟨h.ok, h.vcs, h.hr.grow hw, h.ext.grow hw hsz hs, ⟨by rw [aput_size]; exact h.fx.size, by rw [aput_defers]; exact h.fx.defers, ?_⟩, h.dlt, ?_, ?_, fun j hj hcj => .inl (h.ifa j hj hcj), ?_, ?_, ?_, ?_, ?_, h.preAnc, h.chkAnc, fun j hj c k hk => .inl (h.cf j hj c k hk)⟩
    · intro k u hk hx
      by_cases hki : dstAt ops i = some k
      · exact absurd ⟨i, hki, .inr ⟨.inr rfl, hnr⟩⟩ hx
      · have hnh : ¬ hole ops pre L k := by
          rintro ⟨j, hj, hh⟩
          have hji : j ≠ i := fun e => hki (e ▸ hj)
          refine hx ⟨j, hj, ?_⟩
          rcases hh with ⟨q1, q2⟩ | ⟨q1, q2⟩
          · exact .inl ⟨q1, fun q => q.elim q2 hji⟩
          · exact .inr ⟨.inl q1, q2⟩
        obtain ⟨ru, e1, e2⟩ := h.fx.val k u hk hnh
        exact ⟨ru, by rw [aput_get_ne hki]; exact e1, e2⟩
    · intro j k hj hk
      rcases hj with hj | rfl
      · exact .inl (h.closed j k hj hk)
      · exact .inl (hanc k hk)
    · intro j hj hcj
      rcases hj with hj | rfl
      · exact h.i12 j hj hcj
      · exact absurd hc hcj
    · intro j oj hj hL hcj hr
      by_cases hji : j = i
      · subst hji
        rw [ho] at hj; cases hj
        simp only [if_true]
        exact ⟨hchk, hearly⟩
      · have hLj : L j := hL.resolve_right hji
        obtain ⟨q1, q2⟩ := h.early j oj hj hLj hcj hr
        simp only [if_neg hji]
        refine ⟨q1, Early.congr (fun _ _ => rfl) (aput_size _ _ _) (fun d hd => aput_get_ne fun e => hji (names2 hn e (by rw [dstAt_eq hj]; exact hd))) ?_⟩
        rcases q2 with q2 | ⟨q0, obj', val', p', rv', b1, b2, b3, b3', b4, b5, b6, b7⟩
        · exact .inl q2
        · exact .inr ⟨q0, obj', val', p', rv', b1, b2, Nat.lt_of_lt_of_le b3 hsz, b3', b4, by rw [hw _ b3]; exact b5, b6, b7⟩
    · intro j oj hj hr hL hcj
      exact h.pend j oj hj hr (fun e => hL (.inl e)) hcj
    · intro j k h7 h8 h9 h10 h11 h12 heq
      by_cases hj : j = i <;> by_cases hk : k = i
      · rw [hj, hk]
      · simp only [hj, hk, if_true, if_false] at heq
        exact absurd heq.symm (hdiff k (h8.resolve_right hk) h10 h12 hk)
      · simp only [hj, hk, if_true, if_false] at heq
        exact absurd heq (hdiff j (h7.resolve_right hj) h9 h11 hj)
      · simp only [hj, hk, if_false] at heq
        exact h.inj j k (h7.resolve_right hj) (h8.resolve_right hk) h9 h10 h11 h12 heq
    · intro j q1 q2 q3
      by_cases hj : j = i
      · simp only [hj, if_true]; exact hr0
      · simp only [hj, if_false]
        have := h.erlt j (q1.resolve_right hj) q2 q3
        omega
    · intro j oj hj hm hr hL
      exact h.chks j oj hj hm hr fun e => hL (.inl e)
  refine wpOp_of ho ?_
  rcases h.chks i o ho hchk hnr hLi with q1 | ⟨q1, q2⟩
  · have q1' := q1
    rw [← sWanted_congr g3] at q1
    rw [sWanted_ok g1 q1]
    simp only [Bool.false_eq_true, if_false]
    obtain ⟨r, hr1, hr2⟩ : ∃ r : Int, r < 0 ∧ ∀ j, j < ops.size → er j ≠ r := by
      have : ∀ n : Nat, ∃ b : Int, b ≤ 0 ∧ ∀ j, j < n → b ≤ er j := by
        intro n
        induction n with
        | zero => exact ⟨0, by omega, fun j hj => by omega⟩
        | succ n ih =>
          obtain ⟨b, h1, h2⟩ := ih
          refine ⟨min b (er n), by omega, fun j hj => ?_⟩
          by_cases e : j = n
          · subst e; omega
          · have := h2 j (by omega); omega
      obtain ⟨b, h1, h2⟩ := this ops.size
      exact ⟨b - 1, by omega, fun j hj => by have := h2 j hj; omega⟩
    have hjs : ∀ j, clsAt ops j = 2 → j < ops.size := fun j hj => by
      unfold clsAt opAt at hj
      rcases Nat.lt_or_ge j ops.size with h1 | h1
      · exact h1
      · rw [Array.getElem?_eq_none h1] at hj; cases hj
    refine hK _ ρ fr s _ w (key Go.undef w r (fun _ _ => rfl) (Nat.le_refl _) (Same.refl w) (by omega) (fun j _ hj _ _ => hr2 j (hjs j hj)) (.inl ⟨q1', fun d hd hlt => ?_⟩))
    rw [aput_size] at hlt
    rw [hd, aput_get_self hlt]
  · have q1' := q1
    rw [← sWanted_congr g3] at q1
    rw [sWanted_ok g1 q1]
    simp only [if_true]
    left
    obtain ⟨⟨obj, val⟩, hnew⟩ := Option.isSome_iff_exists.1 q2
    have hnew' := hnew
    rw [← sNew_congr (looks_ev g3)] at hnew'
    obtain ⟨ob, rv, p, e1, e2, e3, e4⟩ := sNew_run (w := w) hnew' g1
    unfold Oper.wp Oper.upon
    rw [e2]
    have hgrow : ∀ q, q < w.heap.size → (w.alloc ob).heap[q]? = w.heap[q]? := fun q hq => RowKit.Below.heap_alloc _ _ _ hq
    have hsz1 : (p.r : Int) < (w.alloc ob).heap.size := by
      have : (w.alloc ob).heap.size = w.heap.size + 1 := by simp
      omega
    have hat : (w.alloc ob).heap[p.r]? = some ob := by rw [e1]; show (w.heap.push ob)[w.heap.size]? = _; simp
    refine hK _ ρ fr s _ _ (key rv (w.alloc ob) p.r hgrow (by simp) ⟨rfl, rfl, rfl⟩ hsz1 (fun j q3 q4 q5 _ => ?_) (.inr ⟨q1', obj, val, p, rv, hnew, rfl, by rw [e1]; simp, by rw [e1]; exact h.ext.size, ?_, by rw [hat]; exact e3, e4, fun d hd hlt => ?_⟩))
    · have := h.erlt j q3 q4 q5
      rw [e1]; omega
    · intro j o' q hj hq
      have := h.hr.lt_size hj hq
      omega
    · rw [aput_size] at hlt
      rw [hd, aput_get_self hlt]

end

end Go.Sh

/- The region that draws: the law. -/
namespace Go.Sh
open Go

theorem cls_le (o : Oper) : cls o = 0 ∨ cls o = 1 ∨ cls o = 2 := by
  unfold cls
  split <;> first | (simp; done) | (split <;> simp)

section
variable {P : Program} {ops : Array Oper} {anc : List Nat} {K : List Value → SW → Prop} {ρ₀ : Rho} {s₀ : SW} {w₀ : World}
variable {L : Nat → Prop} {er : Nat → Int} {a : Act} {w : World}

theorem clsAt_le (i : Nat) : clsAt ops i = 0 ∨ clsAt ops i = 1 ∨ clsAt ops i = 2 := by
  unfold clsAt
  cases opAt ops i with
  | none => exact .inl rfl
  | some o => exact cls_le o

theorem okRest_tail : ∀ {p1 p2 pre : List Ent}, okRest ops anc (p1 ++ p2) pre = true → okRest ops anc p2 (p1.reverse ++ pre) = true
  | [], _, _, h => h
  | .run i :: p1, p2, pre, h => by
    have := okRest_tail (okRest_run h).2.2.2.2.2
    simpa using this
  | .chk i :: p1, p2, pre, h => by
    have := okRest_tail (okRest_chk h).2.2.2.2
    simpa using this

theorem okRest_all : ∀ {rest pre : List Ent}, okRest ops anc rest pre = true → ∀ i, i < ops.size → .run i ∈ pre ∨ .run i ∈ rest
  | [], pre, h, i, hi => by
    simp only [okRest] at h
    exact .inl (List.contains_iff_mem.1 (List.all_eq_true.1 h i (List.mem_range.2 hi)))
  | .run k :: rest, pre, h, i, hi => by
    rcases okRest_all (okRest_run h).2.2.2.2.2 i hi with h1 | h1
    · rcases List.mem_cons.1 h1 with h2 | h2
      · cases h2; exact .inr List.mem_cons_self
      · exact .inl h2
    · exact .inr (List.mem_cons_of_mem _ h1)
  | .chk k :: rest, pre, h, i, hi => by
    rcases okRest_all (okRest_chk h).2.2.2.2 i hi with h1 | h1
    · rcases List.mem_cons.1 h1 with h2 | h2
      · cases h2
      · exact .inl h2
    · exact .inr (List.mem_cons_of_mem _ h1)

/-- The shadow goes on past what may be passed. -/
theorem Inv.advance (ha : okAnc ops anc = true) (hn : okNames ops anc = true) : ∀ (p1 p2 pre : List Ent) (ρ : Rho) (fr : List Value) (s : SW), Inv P ops anc K ρ₀ s₀ w₀ pre (p1 ++ p2) L er ρ fr s a w →
    (∀ k, .run k ∈ p1 → clsAt ops k ≠ 0 → L k) → (∀ k, .run k ∈ p1 → conf ops anc k = true → ∀ j, ancB anc k j = true → L j) → ∃ ρ' fr' s', Inv P ops anc K ρ₀ s₀ w₀ (p1.reverse ++ pre) p2 L er ρ' fr' s' a w := by
  intro p1
  induction p1 with
  | nil => intro p2 pre ρ fr s h _ _; exact ⟨ρ, fr, s, h⟩
  | cons e p1 ih =>
    intro p2 pre ρ fr s h hp hcf
    have hcrest : ∀ k, .run k ∈ p1 → conf ops anc k = true → ∀ j, ancB anc k j = true → L j := fun k hk => hcf k (List.mem_cons_of_mem _ hk)
    have hrest : ∀ k, .run k ∈ p1 → clsAt ops k ≠ 0 → L k := fun k hk => hp k (List.mem_cons_of_mem _ hk)
    have fin : ∀ ρ fr s, Inv P ops anc K ρ₀ s₀ w₀ (e :: pre) (p1 ++ p2) L er ρ fr s a w → ∃ ρ' fr' s', Inv P ops anc K ρ₀ s₀ w₀ ((e :: p1).reverse ++ pre) p2 L er ρ' fr' s' a w := by
      intro ρ fr s h1
      obtain ⟨ρ', fr', s', h2⟩ := ih p2 (e :: pre) ρ fr s h1 hrest hcrest
      exact ⟨ρ', fr', s', by simpa using h2⟩
    cases e with
    | chk i => exact fin ρ fr s (Inv.stepChk ha h)
    | run i =>
      rcases clsAt_le (ops := ops) i with h1 | h1 | h1
      · obtain ⟨fr', h2⟩ := Inv.stepRun0 ha hn h h1 (hcf i List.mem_cons_self)
        exact fin ρ fr' s h2
      · have hL := hp i List.mem_cons_self (by omega)
        exact absurd (h.i12 i hL (by omega)) (okRest_run h.ok).2.1
      · have hL := hp i List.mem_cons_self (by omega)
        obtain ⟨ρ', fr', s', h2⟩ := Inv.stepRun2 ha hn h h1 hL
        exact fin ρ' fr' s' h2

/-- Whatever may come up now, may. -/
theorem Inv.step (ha : okAnc ops anc = true) (hn : okNames ops anc = true) {pre rest : List Ent} {ρ : Rho} {fr : List Value} {s : SW} (h : Inv P ops anc K ρ₀ s₀ w₀ pre rest L er ρ fr s a w) {i : Nat} (hi : i < ops.size) (hLi : ¬ L i)
    (hanc : ∀ j, ancB anc i j = true → L j) {K' : Act → World → Prop} {Q' : Exit → Act → World → Prop}
    (hK : ∀ pre' rest' er' ρ' fr' s' a' w', Inv P ops anc K ρ₀ s₀ w₀ pre' rest' (fun j => L j ∨ j = i) er' ρ' fr' s' a' w' → K' a' w') : wpOp P ops Q' i K' a w := by
  obtain ⟨o, ho⟩ : ∃ o, opAt ops i = some o := ⟨ops[i], by unfold opAt; rw [Array.getElem?_eq_getElem hi]⟩
  -- entries ahead of an entry that asks for what is ahead of it
  have passed : ∀ p1 p2, rest = p1 ++ .run i :: p2 → clsAt ops i ≠ 2 → ∀ k, .run k ∈ p1 → clsAt ops k ≠ 0 → L k := by
    intro p1 p2 hsp hc k hk hck
    have h1 := okRest_tail (hsp ▸ h.ok)
    obtain ⟨_, _, _, h2, _⟩ := okRest_run h1
    have hkl : k < ops.size := by
      unfold clsAt opAt at hck
      rcases Nat.lt_or_ge k ops.size with h3 | h3
      · exact h3
      · rw [Array.getElem?_eq_none h3] at hck; exact absurd rfl hck
    exact hanc k (h2 hc k hkl (List.mem_append_left _ (List.mem_reverse.2 hk)) hck)
  have passedC : ∀ p1 e p2, rest = p1 ++ e :: p2 → (e = .run i ∨ e = .chk i) → ∀ k, .run k ∈ p1 → conf ops anc k = true → ∀ j, ancB anc k j = true → L j := by
    intro p1 e p2 hsp he k hk hck
    exfalso
    obtain ⟨q1, q2, hsq⟩ := List.append_of_mem hk
    have hsp2 : rest = q1 ++ .run k :: (q2 ++ e :: p2) := by rw [hsp, hsq]; simp
    have h1 := okRest_tail (hsp2 ▸ h.ok)
    have h2 := okRest_late (k := i) h1 hck (by
      rcases he with rfl | rfl
      · exact .inl (by simp)
      · exact .inr (by simp))
    have h3 := (okRest_run h1).2.1
    exact h3 (List.mem_append_right _ (h.i12 k (hanc k h2) (by rw [conf_cls hn hck]; decide)))
  rcases clsAt_le (ops := ops) i with hc | hc | hc
  · by_cases hr : .run i ∈ pre
    · exact Inv.stepR hn h ho hc hLi hr hanc fun ρ' fr' s' a' w' h' => hK _ _ _ _ _ _ _ _ h'
    · have hm := (okRest_all h.ok i hi).resolve_left hr
      obtain ⟨p1, p2, hsp⟩ := List.append_of_mem hm
      obtain ⟨ρ₁, fr₁, s₁, h1⟩ := Inv.advance ha hn p1 (.run i :: p2) pre ρ fr s (hsp ▸ h) (passed p1 p2 hsp (by omega)) (passedC p1 _ p2 hsp (.inl rfl))
      obtain ⟨fr₂, h2⟩ := Inv.stepRun0 ha hn h1 hc (fun _ => hanc)
      exact Inv.stepR hn h2 ho hc hLi List.mem_cons_self hanc fun ρ' fr' s' a' w' h' => hK _ _ _ _ _ _ _ _ h'
  · have hr : .run i ∉ pre := fun e => hLi (h.ifa i e (by omega))
    have hm := (okRest_all h.ok i hi).resolve_left hr
    obtain ⟨p1, p2, hsp⟩ := List.append_of_mem hm
    obtain ⟨ρ₁, fr₁, s₁, h1⟩ := Inv.advance ha hn p1 (.run i :: p2) pre ρ fr s (hsp ▸ h) (passed p1 p2 hsp (by omega)) (passedC p1 _ p2 hsp (.inl rfl))
    exact Inv.stepF ha hn h1 hc hLi hanc fun ρ' fr' s' a' w' h' => hK _ _ _ _ _ _ _ _ h'
  · by_cases hch : .chk i ∈ pre
    · exact Inv.stepA hn h ho hc hLi hch hanc fun er' ρ' fr' s' a' w' h' => hK _ _ _ _ _ _ _ _ h'
    · have hr : .run i ∉ pre := fun e => hLi (h.ifa i e (by omega))
      have hm := (okRest_all h.ok i hi).resolve_left hr
      obtain ⟨p1, p2, hsp⟩ := List.append_of_mem hm
      have h1 := okRest_tail (hsp ▸ h.ok)
      obtain ⟨_, _, _, _, h2, _⟩ := okRest_run h1
      have hm2 : .chk i ∈ p1 := by
        rcases List.mem_append.1 (h2 hc) with h3 | h3
        · exact List.mem_reverse.1 h3
        · exact absurd h3 hch
      obtain ⟨q1, q2, hsq⟩ := List.append_of_mem hm2
      have hsp2 : rest = q1 ++ .chk i :: (q2 ++ .run i :: p2) := by rw [hsp, hsq]; simp
      have h4 := okRest_tail (hsp2 ▸ h.ok)
      obtain ⟨_, _, _, h5, _⟩ := okRest_chk h4
      obtain ⟨ρ₁, fr₁, s₁, h6⟩ := Inv.advance ha hn q1 (.chk i :: (q2 ++ .run i :: p2)) pre ρ fr s (hsp2 ▸ h) (fun k hk hck => by
        have hkl : k < ops.size := by
          unfold clsAt opAt at hck
          rcases Nat.lt_or_ge k ops.size with h3 | h3
          · exact h3
          · rw [Array.getElem?_eq_none h3] at hck; exact absurd rfl hck
        exact hanc k (h5 k hkl (List.mem_append_left _ (List.mem_reverse.2 hk)) hck)) (passedC q1 _ _ hsp2 (.inr rfl))
      have h7 := Inv.stepChk ha h6
      exact Inv.stepA hn h7 ho hc hLi List.mem_cons_self hanc fun er' ρ' fr' s' a' w' h' => hK _ _ _ _ _ _ _ _ h'

/-- All is done. -/
theorem Inv.done (ha : okAnc ops anc = true) (hn : okNames ops anc = true) {pre rest : List Ent} {ρ : Rho} {fr : List Value} {s : SW} (h : Inv P ops anc K ρ₀ s₀ w₀ pre rest L er ρ fr s a w) (hL : ∀ i, i < ops.size → L i) :
    ∃ ρ' fr' s', FRel ρ' fr' a ∧ HRel ρ' s' w ∧ Ext ρ₀ s₀ w₀ ρ' s' w ∧ K fr' s' := by
  obtain ⟨ρ', fr', s', h1⟩ := Inv.advance ha hn rest [] pre ρ fr s (by simpa using h) (fun k _ hck => hL k (by
    unfold clsAt opAt at hck
    rcases Nat.lt_or_ge k ops.size with h3 | h3
    · exact h3
    · rw [Array.getElem?_eq_none h3] at hck; exact absurd rfl hck)) (fun k _ hc j hj => h.closed k j (hL k (conf_lt hc)) hj)
  refine ⟨ρ', fr', s', ⟨h1.fx.size, h1.fx.defers, fun k v hk => h1.fx.val k v hk ?_⟩, h1.hr, h1.ext, h1.vcs⟩
  rintro ⟨i, hi, hh⟩
  have hlt := lt_of_dst hi
  rcases hh with ⟨_, h2⟩ | ⟨_, h2⟩
  · exact h2 (hL i hlt)
  · exact h2 ((okRest_all h1.ok i hlt).resolve_right (by simp))

/-- How many have not come up. -/
def unl (n : Nat) (listed : Array Bool) : Nat := ((List.range n).filter fun i => !listed.getD i false).length

theorem filter_length_le {p q : Nat → Bool} (h : ∀ x, p x = true → q x = true) : ∀ l : List Nat, (l.filter p).length ≤ (l.filter q).length
  | [] => Nat.le_refl _
  | z :: l => by
    have ih := filter_length_le h l
    rw [List.filter_cons, List.filter_cons]
    by_cases hp : p z = true
    · rw [if_pos hp, if_pos (h z hp)]; simp only [List.length_cons]; omega
    · rw [if_neg hp]
      split
      · simp only [List.length_cons]; omega
      · exact ih

theorem filter_length_lt {p q : Nat → Bool} (h : ∀ x, p x = true → q x = true) {y : Nat} (h1 : q y = true) (h2 : p y = false) : ∀ {l : List Nat}, y ∈ l → (l.filter p).length < (l.filter q).length
  | [], hy => by cases hy
  | x :: l, hy => by
    have hle := filter_length_le h l
    rw [List.filter_cons, List.filter_cons]
    rcases List.mem_cons.1 hy with h3 | h3
    · subst h3
      rw [if_pos h1, if_neg (by rw [h2]; simp)]
      simp only [List.length_cons]; omega
    · have := filter_length_lt h h1 h2 h3
      by_cases hp : p x = true
      · rw [if_pos hp, if_pos (h x hp)]; simp only [List.length_cons]; omega
      · rw [if_neg hp]
        split
        · simp only [List.length_cons]; omega
        · exact this

theorem wpAny_of_inv (ha : okAnc ops anc = true) (hn : okNames ops anc = true) {c : List Ent} (hc : okRest ops anc c [] = true) {Q : SQ} : ∀ (fuel : Nat) (listed : Array Bool) (a : Act) (w : World), listed.size = ops.size → unl ops.size listed ≤ fuel →
    (∃ pre rest er ρ fr s, Inv P ops anc (Q .normal) ρ₀ s₀ w₀ pre rest (fun i => listed.getD i false = true) er ρ fr s a w) → wpAny P .any ops (lift ρ₀ s₀ w₀ Q) fuel listed a w := by
  have hready : ∀ {listed : Array Bool} {i : Nat}, listed.size = ops.size → (i ∈ Region.ready .any ops listed ↔ i < ops.size ∧ listed.getD i false = false ∧ ∀ e ∈ afterAt ops i, Region.binds .any e = true → listed.getD e.on false = true) := by
    intro listed i hsz
    unfold Region.ready
    rw [List.mem_filter, List.mem_range]
    constructor
    · rintro ⟨h1, h2⟩
      simp only [Bool.and_eq_true, Bool.not_eq_true'] at h2
      refine ⟨h1, ?_, ?_⟩
      · rw [Array.getD_eq_getD_getElem?] at h2 ⊢
        rw [Array.getElem?_eq_getElem (by omega)] at h2 ⊢
        exact h2.1
      · intro e he hb
        unfold afterAt opAt at he
        have h3 := h2.2
        rw [Array.getElem?_eq_getElem h1] at he h3
        simp only [Option.map_some, Option.getD_some] at he h3
        have := Array.all_eq_true_iff_forall_mem.1 h3 e (by simpa using he)
        simp only [Bool.or_eq_true, Bool.not_eq_true'] at this
        rcases this with h4 | h4
        · rw [hb] at h4; cases h4
        · exact h4
    · rintro ⟨h1, h2, h3⟩
      refine ⟨h1, ?_⟩
      simp only [Bool.and_eq_true, Bool.not_eq_true']
      refine ⟨?_, ?_⟩
      · rw [Array.getD_eq_getD_getElem?] at h2 ⊢
        rw [Array.getElem?_eq_getElem (by omega)] at h2 ⊢
        exact h2
      · rw [Array.getElem?_eq_getElem h1]
        simp only [Option.map_some, Option.getD_some]
        rw [Array.all_eq_true_iff_forall_mem]
        intro e he
        simp only [Bool.or_eq_true, Bool.not_eq_true']
        by_cases hb : Region.binds .any e = true
        · right
          refine h3 e ?_ hb
          unfold afterAt opAt
          rw [Array.getElem?_eq_getElem h1]
          simpa using he
        · left; simpa using hb
  -- what is ahead of one that may come up has come up
  have hancs : ∀ {listed : Array Bool} {i : Nat}, i < ops.size → (∀ e ∈ afterAt ops i, Region.binds .any e = true → listed.getD e.on false = true) → (∀ i j, listed.getD i false = true → ancB anc i j = true → listed.getD j false = true) →
      ∀ j, ancB anc i j = true → listed.getD j false = true := by
    intro listed i hi he hcl j hj
    have h1 := List.all_eq_true.1 ha i (List.mem_range.2 hi)
    simp only [Bool.and_eq_true] at h1
    have h2 := List.all_eq_true.1 h1.1.1 j (List.mem_range.2 (anc_lt ha hi hj))
    simp only [hj, Bool.not_true, Bool.false_or, List.any_eq_true, Bool.and_eq_true, Bool.or_eq_true, beq_iff_eq] at h2
    obtain ⟨e, he1, he2, he3⟩ := h2
    have h4 := he e he1 he2
    rcases he3 with rfl | he3
    · exact h4
    · exact hcl e.on j h4 he3
  have hdone : ∀ (listed : Array Bool) (a : Act) (w : World), listed.size = ops.size → (∃ pre rest er ρ fr s, Inv P ops anc (Q .normal) ρ₀ s₀ w₀ pre rest (fun i => listed.getD i false = true) er ρ fr s a w) →
      Region.ready .any ops listed = [] → lift ρ₀ s₀ w₀ Q .normal a w := by
    rintro listed a w hsz ⟨pre, rest, er, ρ, fr, s, h⟩ hr
    have hall : ∀ i, i < ops.size → listed.getD i false = true := by
      -- by the order of the entries
      have aux : ∀ (es ps : List Ent), okRest ops anc es ps = true → (∀ k, .run k ∈ ps → k < ops.size → listed.getD k false = true) → ∀ k, .run k ∈ es → k < ops.size → listed.getD k false = true := by
        intro es
        induction es with
        | nil => intro ps _ _ k hk; cases hk
        | cons e es ih =>
          intro ps hok hps k hk hlt
          cases e with
          | chk i =>
            rcases List.mem_cons.1 hk with h1 | h1
            · cases h1
            · exact ih _ (okRest_chk hok).2.2.2.2 (fun k hk hl => by
                rcases List.mem_cons.1 hk with h2 | h2
                · cases h2
                · exact hps k h2 hl) k h1 hlt
          | run i =>
            obtain ⟨g1, g2, g3, _, _, g6⟩ := okRest_run hok
            have hi : listed.getD i false = true := by
              cases hb : listed.getD i false with
              | true => rfl
              | false =>
                have : i ∈ Region.ready .any ops listed := by
                  refine (hready hsz).2 ⟨g1, hb, fun e he hbi => ?_⟩
                  have h1 := List.all_eq_true.1 ha i (List.mem_range.2 g1)
                  simp only [Bool.and_eq_true] at h1
                  have h2 := List.all_eq_true.1 h1.1.2 e he
                  simp only [hbi, Bool.not_true, Bool.false_or] at h2
                  exact hps e.on (g3 e.on h2 (anc_lt ha g1 h2)) (anc_lt ha g1 h2)
                rw [hr] at this; cases this
            rcases List.mem_cons.1 hk with h1 | h1
            · cases h1; exact hi
            · exact ih _ g6 (fun k hk hl => by
                rcases List.mem_cons.1 hk with h2 | h2
                · cases h2; exact hi
                · exact hps k h2 hl) k h1 hlt
      intro i hi
      exact aux c [] hc (fun k hk => by cases hk) i ((okRest_all hc i hi).resolve_left (by simp)) hi
    obtain ⟨ρ', fr', s', g1, g2, g3, g4⟩ := h.done ha hn hall
    exact ⟨rfl, ρ', fr', s', g1, g2, g3, g4⟩
  intro fuel
  induction fuel with
  | zero =>
    intro listed a w hsz hu h
    have hr : Region.ready .any ops listed = [] := by
      rw [List.eq_nil_iff_forall_not_mem]
      intro i hi
      obtain ⟨h1, h2, _⟩ := (hready hsz).1 hi
      have hu0 : ((List.range ops.size).filter fun i => !listed.getD i false) = [] := List.length_eq_zero_iff.1 (Nat.le_zero.1 hu)
      have : i ∈ ((List.range ops.size).filter fun i => !listed.getD i false) := List.mem_filter.2 ⟨List.mem_range.2 h1, by rw [h2]; rfl⟩
      rw [hu0] at this; cases this
    exact ⟨hr, hdone listed a w hsz h hr⟩
  | succ fuel ih =>
    intro listed a w hsz hu h
    refine ⟨fun hr => hdone listed a w hsz h hr, fun i hi => ?_⟩
    obtain ⟨h1, h2, h3⟩ := (hready hsz).1 hi
    obtain ⟨pre, rest, er, ρ, fr, s, hI⟩ := h
    refine Inv.step ha hn hI h1 (by rw [h2]; simp) (hancs h1 h3 hI.closed) ?_
    intro pre' rest' er' ρ' fr' s' a' w' hI'
    have hL : (fun j => listed.getD j false = true ∨ j = i) = (fun j => (listed.setIfInBounds i true).getD j false = true) := by
      funext j
      rw [Array.getD_eq_getD_getElem?, Array.getD_eq_getD_getElem?]
      by_cases hji : j = i
      · subst hji
        rw [Array.getElem?_setIfInBounds_self_of_lt (by omega)]
        simp
      · rw [Array.getElem?_setIfInBounds_ne (fun e => hji e.symm)]
        simp [hji]
    refine ih _ a' w' (by simpa using hsz) ?_ ⟨pre', rest', er', ρ', fr', s', hL ▸ hI'⟩
    have : unl ops.size (listed.setIfInBounds i true) < unl ops.size listed := by
      refine filter_length_lt (y := i) (fun x hx => ?_) (by rw [h2]; rfl) ?_ (List.mem_range.2 h1)
      · simp only [Bool.not_eq_true'] at hx ⊢
        rw [Array.getD_eq_getD_getElem?] at hx ⊢
        by_cases hxi : x = i
        · subst hxi; rw [Array.getElem?_setIfInBounds_self_of_lt (by omega)] at hx; simp at hx
        · rwa [Array.getElem?_setIfInBounds_ne (fun e => hxi e.symm)] at hx
      · rw [Array.getD_eq_getD_getElem?, Array.getElem?_setIfInBounds_self_of_lt (by omega)]; rfl
    omega

end

/-- The plan of a region: what is ahead of what, and in which order the shadow goes. -/
def planOk (ops : Array Oper) (anc : List Nat) (c : List Ent) : Bool := okAnc ops anc && okNames ops anc && okRest ops anc c []

/-- THE LAW of a region that draws its order. -/
theorem SWp.draw {P : Program} {id : Nat} {ops : Array Oper} {Q : SQ} {fr : List Value} {s : SW} (anc : List Nat) (c : List Ent) (hm : P.follows .mixedOrders = true) (hp : planOk ops anc c = true)
    (hd : ((List.range ops.size).all fun i => match dstAt ops i with | some d => decide (d < fr.length) | none => true) = true) (h : vcEnts P ops anc (Q .normal) c [] fr s) : SWp P (.region id ops true) Q fr s := by
  simp only [planOk, Bool.and_eq_true] at hp
  obtain ⟨⟨ha, hn⟩, hc⟩ := hp
  intro ρ a w hf hr
  refine wp_region_any hm ?_
  have hL : ∀ i, ¬ ((Array.replicate ops.size false).getD i false = true) := fun i => by
    rw [Array.getD_eq_getD_getElem?, Array.getElem?_replicate]
    split <;> simp
  refine wpAny_of_inv (w₀ := w) (ρ₀ := ρ) (s₀ := s) ha hn hc ops.size _ a _ (by simp) ?_ ⟨[], c, fun _ => 0, ρ, fr, s, ?_⟩
  · exact Nat.le_trans (List.length_filter_le _ _) (by simp)
  · refine ⟨hc, h, hr.congr rfl, Ext.congr rfl ⟨rfl, rfl, rfl⟩, ⟨hf.size, hf.defers, fun k v hk _ => hf.val k v hk⟩, ?_, fun i j hi _ => absurd hi (hL i), fun i hi _ => absurd hi (hL i), fun i hi _ => (by cases hi),
      fun i o _ hi _ _ => absurd hi (hL i), fun i o _ hi _ _ => (by cases hi), fun i j hi _ _ _ _ _ _ => absurd hi (hL i), fun i hi _ _ => absurd hi (hL i), fun i o _ hi _ _ => (by cases hi), fun i j hi _ => (by cases hi), fun i j hi _ => (by cases hi), fun i hi => (by cases hi)⟩
    intro i d hdd
    have := List.all_eq_true.1 hd i (List.mem_range.2 (lt_of_dst hdd))
    rw [hdd] at this
    simpa using this

end Go.Sh

/- The conditions of a piece of code, reckoned, with plans for the regions that draw their order. -/
namespace Go.Sh
open Go

abbrev Plans := Nat → Option (List Nat × List Ent)

def dstOk (ops : Array Oper) (n : Nat) : Bool := (List.range ops.size).all fun i => match dstAt ops i with | some d => decide (d < n) | none => true

def plansOk (D : Plans) (n : Nat) : Code → Bool
  | .seq a b => plansOk D n a && plansOk D n b
  | .cond _ a b => plansOk D n a && plansOk D n b
  | .block _ c => plansOk D n c
  | .region id ops true => match D id with
    | some (anc, c) => planOk ops anc c && dstOk ops n
    | none => true
  | _ => true

/-- A loop and a scope stay as they are. -/
def vcD (P : Program) (D : Plans) (n : Nat) : Code → SQ → List Value → SW → Prop
  | .skip, Q => Q .normal
  | .label _, Q => Q .normal
  | .exit i, Q => Q (.exit i)
  | .goto i, Q => Q (.goto i)
  | .ret, Q => Q .ret
  | .seq a b, Q => vcD P D n a (thenQ (vcD P D n b Q) Q)
  | .cond x c d, Q => fun fr s => match ev fr x with
    | .bool true => vcD P D n c Q fr s
    | .bool false => vcD P D n d Q fr s
    | _ => False
  | .block id c, Q => vcD P D n c (inBlockQ id Q)
  | .region _ ops false, Q => vcOps P ops (Q .normal) ops.toList
  | .region id ops true, Q => match D id with
    | some (anc, c) => fun fr s => fr.length = n ∧ vcEnts P ops anc (Q .normal) c [] fr s
    | none => SWp P (.region id ops true) Q
  | c, Q => SWp P c Q

theorem vcD_ok {P : Program} {D : Plans} {n : Nat} (hm : P.follows .mixedOrders = true) : ∀ {c : Code}, plansOk D n c = true → ∀ {Q : SQ} {fr : List Value} {s : SW}, vcD P D n c Q fr s → SWp P c Q fr s := by
  intro c
  induction c with
  | skip => intro _ Q fr s h; exact .skip h
  | label l => intro _ Q fr s h; exact .label h
  | exit i => intro _ Q fr s h; exact .exit h
  | goto i => intro _ Q fr s h; exact .goto h
  | ret => intro _ Q fr s h; exact .ret h
  | seq a b iha ihb =>
    intro hp Q fr s h
    simp only [plansOk, Bool.and_eq_true] at hp
    refine .seq ((iha hp.1 h).mono fun e fr s hq => ?_)
    cases e with
    | normal => exact ihb hp.2 hq
    | _ => exact hq
  | cond x c d ihc ihd =>
    intro hp Q fr s h
    simp only [plansOk, Bool.and_eq_true] at hp
    simp only [vcD] at h
    split at h
    · rename_i hx; exact .cond hx (ihc hp.1 h)
    · rename_i hx; exact .cond hx (ihd hp.2 h)
    · exact h.elim
  | block id c ih => intro hp Q fr s h; exact .block (ih hp h)
  | region id ops draw =>
    intro hp Q fr s h
    cases draw with
    | false => exact .region h
    | true =>
      simp only [vcD] at h
      simp only [plansOk] at hp
      cases hd : D id with
      | none => rw [hd] at h; exact h
      | some x =>
        obtain ⟨anc, c⟩ := x
        rw [hd] at h hp
        simp only [Bool.and_eq_true] at h hp
        refine .draw anc c hm hp.1 ?_ h.2
        rw [h.1]; exact hp.2
  | loop c _ => intro _ Q fr s h; exact h
  | rangeFunc f ps a b _ _ => intro _ Q fr s h; exact h
  | scope c _ => intro _ Q fr s h; exact h
  | refuse w => intro _ Q fr s h; exact h

/-- A condition that is a term of two. -/
theorem vc_bool {P : Program} {D : Plans} {n : Nat} {x : Operand} {c d : Code} {Q : SQ} {fr : List Value} {s : SW} {b : Bool} (h : ev fr x = .bool b) (ht : b = true → vcD P D n c Q fr s) (hf : b = false → vcD P D n d Q fr s) :
    vcD P D n (.cond x c d) Q fr s := by
  simp only [vcD, h]
  cases b
  · exact hf rfl
  · exact ht rfl

end Go.Sh

/- A new block somewhere behind; a call of the library's that leaves what was as it was; 'slices.Sorted(maps.Keys(m))'. -/
namespace Go.Sh
open Go Go.Proofs Go.RowKit Go.Maps Go.Sort Go.Shelf

theorem HRel.allocGe {ρ : Rho} {s : SW} {w w' : World} (h : HRel ρ s w) {o : SObj} {p : Pl} (hr : w.heap.size ≤ p.r)
    (hw : ∀ r, r < w.heap.size → w'.heap[r]? = w.heap[r]?) (ho : ORel (ρ.upd s.next p) p o (w'.heap[p.r]?)) :
    HRel (ρ.upd s.next p) (s.new o) w' := by
  have hn : ρ s.next = none := h.next _ (Nat.le_refl _)
  refine ⟨?_, ?_, ?_⟩
  · intro i hi
    simp only [SW.new] at hi
    simp only [Rho.upd, if_neg (show ¬ i = s.next by omega)]
    exact h.next i (by omega)
  · intro j u hj
    simp only [SW.new] at hj
    by_cases e : j = s.next
    · subst e
      simp only [if_true] at hj
      cases hj
      exact ⟨p, Rho.upd_same, ho⟩
    · simp only [e, if_false] at hj
      obtain ⟨q, hq, hu⟩ := h.live j u hj
      refine ⟨q, by simp [Rho.upd, e, hq], ?_⟩
      rw [hw q.r (h.lt_size hj hq)]
      exact hu.mono (Rho.le_upd hn)
  · intro j k u u' q q' hj hk hq hq' er
    simp only [SW.new] at hj hk
    simp only [Rho.upd] at hq hq'
    by_cases ej : j = s.next <;> by_cases ek : k = s.next
    · rw [ej, ek]
    · simp only [ek, if_false] at hk hq'
      simp only [ej, if_true] at hq
      cases hq
      have := h.lt_size hk hq'
      omega
    · simp only [ej, if_false] at hj hq
      simp only [ek, if_true] at hq'
      cases hq'
      have := h.lt_size hj hq
      omega
    · simp only [ej, if_false] at hj hq
      simp only [ek, if_false] at hk hq'
      exact h.inj _ _ _ _ _ _ hj hk hq hq' er

theorem Ext.allocGe {ρ : Rho} {s : SW} {w w' : World} (h : HRel ρ s w) {o : SObj} {p : Pl} (hr : w.heap.size ≤ p.r)
    (hw : ∀ r, r < w.heap.size → w'.heap[r]? = w.heap[r]?) (hsz : w.heap.size ≤ w'.heap.size) (hs : Same w w') :
    Ext ρ s w (ρ.upd s.next p) (s.new o) w' := by
  have hn : ρ s.next = none := h.next _ (Nat.le_refl _)
  refine ⟨Rho.le_upd hn, ?_, ?_, by simp [SW.new], hsz, fun r hlt _ => hw r hlt, hs.os, hs.tape, hs.output⟩
  · intro j q h1 h2
    simp only [Rho.upd] at h2
    by_cases e : j = s.next
    · simp only [e, if_true] at h2
      cases h2
      exact .inl (by omega)
    · simp only [e, if_false] at h2
      rw [h1] at h2; cases h2
  · intro j u q hj hq
    simp only [SW.new] at hj
    by_cases e : j = s.next
    · rw [e, hn] at hq; cases hq
    · simp only [e, if_false] at hj
      exact ⟨u, hj, id⟩

theorem HRel.below {ρ : Rho} {s : SW} {w w' : World} (h : HRel ρ s w) (hb : Below w.heap.size w w') : HRel ρ s w' :=
  ⟨h.next, fun i o hi => by
    obtain ⟨q, hq, hu⟩ := h.live i o hi
    refine ⟨q, hq, ?_⟩
    rw [hb.block q.r (h.lt_size hi hq)]
    exact hu, h.inj⟩

theorem Ext.below {ρ : Rho} {s : SW} {w w' : World} (hb : Below w.heap.size w w') : Ext ρ s w ρ s w' :=
  ⟨Rho.le_refl ρ, fun i p h h' => (by rw [h] at h'; cases h'), fun i o p h _ => ⟨o, h, id⟩, Nat.le_refl _, hb.size, fun r hr _ => hb.block r hr, hb.os, hb.tape, hb.output⟩

theorem F2.map_eq {α β γ : Type} {R : α → β → Prop} {f : α → γ} {g : β → γ} (hR : ∀ a b, R a b → f a = g b) {l : List α} {m : List β} (h : F2 R l m) : l.map f = m.map g := by
  induction h with
  | nil => rfl
  | cons h1 _ ih => simp [ih, hR _ _ h1]

/-- A shadow map as the kit sees it: its keys. -/
theorem HRel.ownsMap {ρ : Rho} {s : SW} {w : World} (h : HRel ρ s w) {P : Program} {k : TypeId} (hk : P.underlying k = some (.int .i64)) {i : Nat} {own : Bool} {m : List (Int × Value)} {p : Pl}
    (hi : s.heap i = some (.map .i64 own m)) (hp : ρ i = some p) (hm : m.length ≤ maxLen) (hr : ∀ kv ∈ m, (Lit.int .i64 kv.1).wf = true) :
    ∃ D : DataW Unit, w.ownsMap P k (fun _ => some (.nil, [])) p.r m.length D ∧ (intKeys D).Perm (m.map Prod.fst) ∧ Maps.size D = m.length := by
  obtain ⟨q, hq, hor⟩ := h.live i _ hi
  rw [hp] at hq; cases hq
  cases hb : w.heap[p.r]? with
  | none => rw [hb] at hor; exact hor.elim
  | some ob =>
    rw [hb] at hor
    cases ob with
    | map es clock =>
      obtain ⟨⟨l, hl, hF⟩, hnd, hborn, hclk⟩ := hor
      have hlen : es.toList.length = m.length := by rw [← hl.length_eq, hF.length]
      have hkeys : m.map (fun kv => Value.int .i64 kv.1) = l.map (·.key) := hF.map_eq fun a b hab => hab.1.symm
      have hin : ∀ x ∈ es.toList, ∃ n, x.key = .int .i64 n ∧ (Lit.int .i64 n).wf = true := by
        intro x hx
        have : x.key ∈ l.map (·.key) := List.mem_map_of_mem (hl.mem_iff.2 hx)
        rw [← hkeys, List.mem_map] at this
        obtain ⟨kv, h1, h2⟩ := this
        exact ⟨kv.1, h2.symm, hr kv h1⟩
      have hrd : ∀ x ∈ es.toList, ∀ n, x.key = .int .i64 n → WideElems.rd (H := Unit) P k (fun _ => some (.nil, [])) x = some (.int .i64 n, .nil) := by
        intro x hx n hn
        obtain ⟨n', h1, h2⟩ := hin x hx
        rw [hn] at h1; cases h1
        simp [WideElems.rd, hn, Maps.keyOf_int_mk hk h2]
      refine ⟨_, ⟨es, clock, hb, ⟨by rw [← Array.length_toList, hlen]; exact hm, ⟨hclk, hborn, ?_⟩, fun x hx => ?_⟩, by rw [← Array.length_toList, hlen]; exact Nat.le_refl _, rfl⟩, ?_, ?_⟩
      · refine ((hl.map (·.key)).nodup_iff).1 ?_
        rw [← hkeys]
        have : (m.map fun kv => Value.int .i64 kv.1) = (m.map Prod.fst).map (Value.int .i64) := by simp [Function.comp_def]
        rw [this]
        exact List.pairwise_map.2 (hnd.imp fun hne e => hne (by cases e; rfl))
      · obtain ⟨n, h1, _⟩ := hin x hx
        exact ⟨_, hrd x hx n h1⟩
      · show ((es.toList.map (WideElems.rg P k _)).foldr DataW.insert [] |>.map fun p => intOf p.1).Perm _
        refine ((WideShapes.sorted_perm _).map _).trans ?_
        rw [List.map_map]
        have h1 : m.map Prod.fst = l.map (fun x => intOf (WideElems.rg (H := Unit) P k (fun _ => some (.nil, [])) x).1) := by
          refine F2.map_eq (R := fun (kv : Int × Value) (e : MapEntry) => e ∈ es.toList ∧ e.key = .int .i64 kv.1) ?_ ?_
          · intro kv e ⟨he, hke⟩
            simp [WideElems.rg, hrd e he _ hke, intOf]
          · have : ∀ {m : List (Int × Value)} {l : List MapEntry}, F2 (fun kv e => e.key = Value.int .i64 kv.1 ∧ VRel ρ kv.2 e.val) m l → (∀ e ∈ l, e ∈ es.toList) →
                F2 (fun (kv : Int × Value) (e : MapEntry) => e ∈ es.toList ∧ e.key = .int .i64 kv.1) m l := by
              intro m l hF
              induction hF with
              | nil => intro _; exact .nil
              | cons h1 _ ih => intro hm; exact .cons ⟨hm _ (by simp), h1.1⟩ (ih fun e he => hm e (by simp [he]))
            exact this hF fun e he => hl.mem_iff.1 he
        rw [h1]
        exact (hl.map _).symm
      · show ((es.toList.map (WideElems.rg P k _)).foldr DataW.insert []).length = _
        rw [(WideShapes.sorted_perm _).length_eq, List.length_map, hlen]
    | _ => exact hor.elim

/-- The keys of a map, rising. -/
def risingKeys (m : List (Int × Value)) : List Int := (m.map Prod.fst).mergeSort fun x y => decide (x ≤ y)

theorem risingKeys_length (m : List (Int × Value)) : (risingKeys m).length = m.length := by simp [risingKeys]

end Go.Sh

/- 'slices.Sorted(maps.Keys(m))', called. -/
namespace Go.Sh
open Go Go.Proofs Go.RowKit Go.Maps Go.Sort Go.Shelf

theorem sortsIn_of {P : Program} {r r' : Ren} (L : SlLaysM.n5 P r') (e : r.f 9 = r'.f 5) (m : Nat) : AnyZI.SortsIn P r Fence.wide m := by
  refine ⟨?_, ?_⟩
  · intro blk off cap ss W hH hblk hsz
    rw [e]
    exact callsIn_wide.2 (AnyM.slices_Sort_int L blk off cap ss W hH hblk hsz)
  · intro p cap W
    rw [e]
    exact callsIn_wide.2 (AnyM.slices_Sort_int_none L p cap W)

theorem F2.one {α β : Type} {R : α → β → Prop} {a : α} {l : List β} (h : F2 R [a] l) : ∃ b, l = [b] ∧ R a b := by
  cases h with
  | cons h1 h2 => cases h2; exact ⟨_, rfl, h1⟩

theorem VRel.clos_inv {ρ : Rho} {fn : Fn} {v rv : Value} (h : VRel ρ (.func fn #[] #[v]) rv) : ∃ rv', VRel ρ v rv' ∧ rv = .func fn #[] #[rv'] := by
  cases h with
  | plain h => cases h
  | func h1 h2 h3 h4 =>
    rename_i f' c'
    have hf : f' = #[] := Array.eq_empty_of_size_eq_zero (by simpa using h1.symm)
    have hc : c'.size = 1 := by simpa using h2.symm
    obtain ⟨x, hx⟩ : ∃ x, c' = #[x] := by
      obtain ⟨l⟩ := c'
      match l, hc with
      | [x], _ => exact ⟨x, rfl⟩
    subst hf hx
    exact ⟨x, h4 0 v x rfl rfl, rfl⟩

/-- The one box of a map. -/
theorem HRel.box1 {ρ : Rho} {s : SW} {w : World} (h : HRel ρ s w) {b : Nat} {v : Value} {own : Bool} {p : Pl} (hb : s.heap b = some (.cells [v] own 0)) (hp : ρ b = some p) :
    p.b = 0 ∧ p.r < w.heap.size ∧ ∃ rv, w.cell? ⟨p.r, 0, none⟩ = some rv ∧ VRel ρ v rv := by
  obtain ⟨q, hq, hor⟩ := h.live b _ hb
  rw [hp] at hq; cases hq
  refine ⟨?_, h.lt_size hb hp, ?_⟩
  · cases hx : w.heap[p.r]? with
    | none => rw [hx] at hor; exact hor.elim
    | some ob => rw [hx] at hor; cases ob with
      | cells rc e fz => exact (hor.2.2.2.2.1 rfl).2
      | _ => exact hor.elim
  · cases hx : w.heap[p.r]? with
    | none => rw [hx] at hor; exact hor.elim
    | some ob => rw [hx] at hor; cases ob with
      | cells rc e fz =>
        obtain ⟨rv, h1, h2⟩ := hor.2.2.1 0 v rfl
        rw [(hor.2.2.2.2.1 rfl).2] at h1
        exact ⟨rv, by simp [World.cell?, hx, h1], h2⟩
      | _ => exact hor.elim

theorem sorted_call {P : Program} {rk rs rm : Ren} (LK : SlLaysZI.n7 P rk) (LS : SlLaysZI.n6 P rs) (LM : SlLaysM.n5 P rm) (e9 : rs.f 9 = rm.f 5) (e26 : rs.t 26 = rk.t 26)
    (hc : callable P (rs.f 6) = true) (hc9 : callable P (rs.f 9) = true) (hck : callable P (rk.f 10) = true)
    (s : SW) (b i : Nat) (own own' : Bool) (m : List (Int × Value)) (hb : s.heap b = some (.cells [.map (some i)] own 0)) (hi : s.heap i = some (.map .i64 own' m))
    (hm : m.length ≤ 1000000) (hr : ∀ kv ∈ m, (Lit.int .i64 kv.1).wf = true) :
    SCalls P (rs.f 6) [.func (.func (rk.f 10)) #[] #[.pointer (some ⟨b, 0, none⟩)]] s fun v s' =>
      (m = [] ∧ v = .slice none 0 0 ∧ s' = s) ∨
      (m ≠ [] ∧ v = .slice (some ⟨s.next, 0, none⟩) m.length m.length ∧ s' = s.new (.cells ((risingKeys m).map (Value.int .i64)) true 1)) := by
  refine ⟨hc, fun ρ rargs w ha hrel => ?_⟩
  obtain ⟨rv, rfl, hv⟩ := ha.one
  obtain ⟨rv', hv', rfl⟩ := hv.clos_inv
  obtain ⟨p, hp, rfl⟩ := hv'.ptr_inv
  obtain ⟨hpb, hlt, rm', hcell, hrm⟩ := hrel.box1 hb hp
  obtain ⟨q, hq, rfl⟩ := hrm.map_inv
  have hml : m.length ≤ maxLen := by unfold maxLen; omega
  obtain ⟨D, hown, hperm, hsize⟩ := hrel.ownsMap (P := P) (k := rk.t 26) LK.t26 hi hq hml hr
  rw [hpb, Nat.zero_add]
  have hseq := AnyZI.keys_gives (ρ := rk) { LK with } Fence.wide 2 trivial rfl (by omega) p.r q.r m.length D w hlt hcell hown
  have cS := AnyZI.sorted_in LS Fence.wide 5 trivial trivial trivial trivial rfl (by omega) (sortsIn_of LM e9 _) (fun args w => callable_run hc9 args w) (rk.f 10) #[.pointer (some ⟨p.r, 0, none⟩)] trivial
    (fun args w => callable_run hck args w) _ (Maps.size D) (by rw [hsize]; exact hml) (by rw [hsize]; omega) w hseq
  refine (callsIn_wide.1 cS).mono ?_
  rintro e w' ⟨v, ss, rfl, hS, hrow, hnil, hbel⟩
  have hss : ss.Perm (m.map Prod.fst) := hS.trans hperm
  have hlen : ss.length = m.length := by simpa using hss.length_eq
  rcases hrow.2 with ⟨rfl, hz⟩ | ⟨g, cap, cur, rfl, hbase, hgb, r1, r2, r3, r4⟩
  · have hm0 : m = [] := List.eq_nil_of_length_eq_zero (by omega)
    exact ⟨ρ, _, _, s, rfl, .plain rfl, hrel.below hbel, Ext.below hbel, .inl ⟨hm0, rfl, rfl⟩⟩
  · have hne : m ≠ [] := by
      intro hm0
      have : ss = [] := List.eq_nil_of_length_eq_zero (by rw [hlen, hm0]; rfl)
      have := hnil.2 this
      cases this
    have hrk : risingKeys m = ss.mergeSort fun x y => decide (x ≤ y) := (mergeSort_of_perm_i hss).symm
    have hcells : (risingKeys m).map (Value.int .i64) = cur.toList.take ss.length := by
      rw [hrk, Nat.mul_one] at *
      exact r4.symm
    have hk : ((risingKeys m).map (Value.int .i64)).length = m.length := by rw [List.length_map, risingKeys_length]
    refine ⟨ρ.upd s.next ⟨g, 0, m.length, cap - m.length, 1⟩, _, _, _, rfl, ?_, hrel.allocGe (p := ⟨g, 0, m.length, cap - m.length, 1⟩) hbase (fun r hr => hbel.block r hr) ?_,
      Ext.allocGe hrel (p := ⟨g, 0, m.length, cap - m.length, 1⟩) hbase (fun r hr => hbel.block r hr) hbel.size ⟨hbel.os, hbel.tape, hbel.output⟩, .inr ⟨hne, rfl, rfl⟩⟩
    · rw [hlen]
      exact .slice (p := ⟨g, 0, m.length, cap - m.length, 1⟩) Rho.upd_same (Nat.le_refl _) (.inr ⟨by show cap = m.length + (cap - m.length); omega, by show 0 + m.length * 1 = m.length; omega⟩)
    · show ORel _ _ _ (w'.heap[g]?)
      rw [hgb]
      refine ⟨hk, by show 0 + m.length + (cap - m.length) * 1 ≤ cur.size; omega, ?_, fun _ k _ hkk => absurd hkk.2 (by simp), fun h => absurd h (by decide), fun _ => rfl⟩
      intro k v hv
      refine ⟨v, ?_, ?_⟩
      · rw [hcells, List.getElem?_take] at hv
        split at hv
        · show cur[0 + k]? = _
          rw [Nat.zero_add]
          simpa using hv
        · cases hv
      · rw [List.getElem?_map] at hv
        simp only [Option.map_eq_some_iff] at hv
        obtain ⟨n, _, rfl⟩ := hv
        exact .plain rfl

theorem sorted_call_nil {P : Program} {rk rs rm : Ren} (LK : SlLaysZI.n7 P rk) (LS : SlLaysZI.n6 P rs) (LM : SlLaysM.n5 P rm) (e9 : rs.f 9 = rm.f 5)
    (hc : callable P (rs.f 6) = true) (hc9 : callable P (rs.f 9) = true) (hck : callable P (rk.f 10) = true)
    (s : SW) (b : Nat) (own : Bool) (hb : s.heap b = some (.cells [.map none] own 0)) :
    SCalls P (rs.f 6) [.func (.func (rk.f 10)) #[] #[.pointer (some ⟨b, 0, none⟩)]] s fun v s' => v = .slice none 0 0 ∧ s' = s := by
  refine ⟨hc, fun ρ rargs w ha hrel => ?_⟩
  obtain ⟨rv, rfl, hv⟩ := ha.one
  obtain ⟨rv', hv', rfl⟩ := hv.clos_inv
  obtain ⟨p, hp, rfl⟩ := hv'.ptr_inv
  obtain ⟨hpb, hlt, rm', hcell, hrm⟩ := hrel.box1 hb hp
  obtain rfl : rm' = .map none := by cases hrm; rfl
  rw [hpb, Nat.zero_add]
  have hseq := AnyZI.keys_gives_nil (ρ := rk) { LK with } Fence.wide 2 trivial rfl p.r w hlt hcell
  have cS := AnyZI.sorted_in LS Fence.wide 5 trivial trivial trivial trivial rfl (by omega) (sortsIn_of LM e9 _) (fun args w => callable_run hc9 args w) (rk.f 10) #[.pointer (some ⟨p.r, 0, none⟩)] trivial
    (fun args w => callable_run hck args w) _ 0 (Nat.zero_le _) (by omega) w hseq
  refine (callsIn_wide.1 cS).mono ?_
  rintro e w' ⟨v, ss, rfl, rfl, hrow, hnil, hbel⟩
  obtain rfl : v = .slice none 0 0 := hnil.2 rfl
  exact ⟨ρ, _, _, s, rfl, .plain rfl, hrel.below hbel, Ext.below hbel, rfl, rfl⟩

end Go.Sh

/- Rules for contracts: what may be assumed of a shadow, counting loops, ends. -/
namespace Go.Sh
open Go

def SW.wf (s : SW) : Prop := ∀ i, s.next ≤ i → s.heap i = none

theorem HRel.wf {ρ : Rho} {s : SW} {w : World} (h : HRel ρ s w) : s.wf := by
  intro i hi
  cases ho : s.heap i with
  | none => rfl
  | some o =>
    obtain ⟨p, hp, _⟩ := h.live i o ho
    rw [h.next i hi] at hp; cases hp

theorem SW.wf.lt {s : SW} (h : s.wf) {i : Nat} {o : SObj} (hi : s.heap i = some o) : i < s.next := by
  rcases Nat.lt_or_ge i s.next with h1 | h1
  · exact h1
  · rw [h i h1] at hi; cases hi

theorem SWp.wf {P : Program} {c : Code} {Q : SQ} {fr : List Value} {s : SW} (h : s.wf → SWp P c Q fr s) : SWp P c Q fr s :=
  fun ρ a w hf hr => h hr.wf ρ a w hf hr

theorem SCalls.wf {P : Program} {f : FuncId} {args : List Value} {s : SW} {R : Value → SW → Prop} (hc : callable P f = true) (h : s.wf → SCalls P f args s R) : SCalls P f args s R :=
  ⟨hc, fun ρ rargs w ha hr => (h hr.wf).2 ρ rargs w ha hr⟩

/-- simp looks at the frame and the shadow alone. -/
theorem SWp_congr {P : Program} {c : Code} {Q : SQ} {fr fr' : List Value} {s s' : SW} (h : fr = fr') (k : s = s') : SWp P c Q fr s = SWp P c Q fr' s' := by rw [h, k]

theorem SCalls_congr {P : Program} {f : FuncId} {args args' : List Value} {s s' : SW} {R : Value → SW → Prop} (h : args = args') (k : s = s') : SCalls P f args s R = SCalls P f args' s' R := by rw [h, k]

theorem SCalls.monoW {P : Program} {f : FuncId} {args : List Value} {s : SW} {R R' : Value → SW → Prop} (h : SCalls P f args s R) (hR : ∀ v s', s'.wf → R v s' → R' v s') : SCalls P f args s R' :=
  ⟨h.1, fun ρ rargs w h1 h2 => (h.2 ρ rargs w h1 h2).mono fun _ _ ⟨ρ', v, rv, s', a, b, c, d, e⟩ => ⟨ρ', v, rv, s', a, b, c, d, hR v s' c.wf e⟩⟩

/-! What is to come is opened when it is reached, not ahead. -/

def Kont (K : List Value → SW → Prop) (fr : List Value) (dst : Option Tmp) : Value → SW → Prop := fun v s' => K (put fr dst v) s'
theorem Kont_apply {K : List Value → SW → Prop} {fr : List Value} {dst : Option Tmp} {v : Value} {s : SW} : Kont K fr dst v s = K (put fr dst v) s := rfl
def entK (P : Program) (ops : Array Oper) (anc : List Nat) (K : List Value → SW → Prop) (rest : List Ent) (i : Nat) (pre : List Ent) : List Value → SW → Prop := fun fr' s' => stable P ops anc i pre fr' s' ∧ vcEnts P ops anc K rest (.run i :: pre) fr' s'
theorem entK_apply {P : Program} {ops : Array Oper} {anc : List Nat} {K : List Value → SW → Prop} {rest : List Ent} {i : Nat} {pre : List Ent} {fr : List Value} {s : SW} :
    entK P ops anc K rest i pre fr s = (stable P ops anc i pre fr s ∧ vcEnts P ops anc K rest (.run i :: pre) fr s) := rfl

section
variable {P : Program} {D : Plans} {n i : Nat} {Q : SQ} {fr : List Value} {s : SW} {a b c d : Code} {K : List Value → SW → Prop} {ops : Array Oper} {o : Oper} {os : List Oper} {anc : List Nat} {rest pre : List Ent}

theorem vcD_skip : vcD P D n .skip Q fr s = Q .normal fr s := rfl
theorem vcD_label : vcD P D n (.label i) Q fr s = Q .normal fr s := rfl
theorem vcD_exit : vcD P D n (.exit i) Q fr s = Q (.exit i) fr s := rfl
theorem vcD_goto : vcD P D n (.goto i) Q fr s = Q (.goto i) fr s := rfl
theorem vcD_ret : vcD P D n .ret Q fr s = Q .ret fr s := rfl
theorem vcD_seq : vcD P D n (.seq a b) Q fr s = vcD P D n a (thenQ (vcD P D n b Q) Q) fr s := rfl
theorem vcD_cond {x : Operand} : vcD P D n (.cond x c d) Q fr s = (match ev fr x with
    | .bool true => vcD P D n c Q fr s
    | .bool false => vcD P D n d Q fr s
    | _ => False) := rfl
theorem vcD_block : vcD P D n (.block i c) Q fr s = vcD P D n c (inBlockQ i Q) fr s := rfl
theorem vcD_region : vcD P D n (.region i ops false) Q fr s = vcOps P ops (Q .normal) ops.toList fr s := rfl
theorem vcD_draw : vcD P D n (.region i ops true) Q fr s = (match D i with
    | some (anc, c) => fr.length = n ∧ vcEnts P ops anc (Q .normal) c [] fr s
    | none => SWp P (.region i ops true) Q fr s) := by
  simp only [vcD]; cases D i <;> rfl
theorem vcD_loop : vcD P D n (.loop c) Q fr s = SWp P (.loop c) Q fr s := rfl
theorem vcD_scope : vcD P D n (.scope c) Q fr s = SWp P (.scope c) Q fr s := rfl

theorem vcOps_nil : vcOps P ops K [] fr s = K fr s := rfl
theorem vcOps_cons : vcOps P ops K (o :: os) fr s = vcOp P ops o (vcOps P ops K os) fr s := rfl
theorem vcOp_eq : vcOp P ops o K fr s = (match sWanted ops o fr with
  | none => False
  | some false => K (put fr o.dst Go.undef) s
  | some true =>
    match o.op with
    | .call ⟨.value f, args, _⟩ =>
      match ev fr f with
      | .func (.func g) first cap => SCalls P g (first.toList ++ args.toList.map (ev fr) ++ cap.toList) s (Kont K fr o.dst)
      | _ => False
    | _ =>
      match sOp P o fr s with
      | some (v, s') => K (put fr o.dst v) s'
      | none => False) := rfl

theorem vcEnts_nil : vcEnts P ops anc K [] pre fr s = K fr s := rfl
theorem vcEnts_chk : vcEnts P ops anc K (.chk i :: rest) pre fr s = (match opAt ops i with
    | none => False
    | some o =>
      match sWanted ops o fr with
      | none => False
      | some false => vcEnts P ops anc K rest (.chk i :: pre) fr s
      | some true => (sNew P o fr).isSome = true ∧ vcEnts P ops anc K rest (.chk i :: pre) fr s) := rfl
theorem vcEnts_run : vcEnts P ops anc K (.run i :: rest) pre fr s = (match opAt ops i with
    | none => False
    | some o =>
      match cls o with
      | 0 =>
        match sWanted ops o fr with
        | none => False
        | some false => vcEnts P ops anc K rest (.run i :: pre) (put fr o.dst Go.undef) s
        | some true =>
          match sOp P o fr s with
          | some (v, s') => s' = s ∧ o.dst ≠ none ∧ vcEnts P ops anc K rest (.run i :: pre) (put fr o.dst v) s
          | none => False
      | 1 => vcOp P ops o (entK P ops anc K rest i pre) fr s
      | _ =>
        match sWanted ops o fr with
        | none => False
        | some false => vcEnts P ops anc K rest (.run i :: pre) (put fr o.dst Go.undef) s
        | some true =>
          match sNew P o fr with
          | some (obj, val) => stable P ops anc i pre (put fr o.dst (val s.next)) (s.new obj) ∧ vcEnts P ops anc K rest (.run i :: pre) (put fr o.dst (val s.next)) (s.new obj)
          | none => False) := rfl

theorem thenQ_normal : thenQ K Q .normal fr s = K fr s := rfl
theorem thenQ_exit : thenQ K Q (.exit i) fr s = Q (.exit i) fr s := rfl
theorem thenQ_goto : thenQ K Q (.goto i) fr s = Q (.goto i) fr s := rfl
theorem thenQ_ret : thenQ K Q .ret fr s = Q .ret fr s := rfl
theorem inBlockQ_normal : inBlockQ n Q .normal fr s = Q .normal fr s := rfl
theorem inBlockQ_exit : inBlockQ n Q (.exit i) fr s = if i = n then Q .normal fr s else Q (.exit i) fr s := rfl
theorem inBlockQ_goto : inBlockQ n Q (.goto i) fr s = Q (.goto i) fr s := rfl
theorem inBlockQ_ret : inBlockQ n Q .ret fr s = Q .ret fr s := rfl
theorem bodyQ_normal {fn : Func} {R : Value → SW → Prop} : bodyQ P fn R .normal fr s = (match sResults P fn fr s with
    | some v => R v s
    | none => False) := rfl
theorem bodyQ_ret {fn : Func} {R : Value → SW → Prop} : bodyQ P fn R .ret fr s = (match sResults P fn fr s with
    | some v => R v s
    | none => False) := rfl
end

def frL : List Value → List Value → Prop
  | [], [] => True
  | a :: l, b :: m => (a = junk ∨ a = b) ∧ frL l m
  | _, _ => False

theorem frL.ok : ∀ {l m : List Value}, frL l m → frLess l m
  | [], [], _ => ⟨rfl, fun k v h => by simp at h⟩
  | a :: l, b :: m, h => by
    obtain ⟨h1, h2⟩ := h
    obtain ⟨h3, h4⟩ := frL.ok h2
    refine ⟨by simp [h3], fun k v hk => ?_⟩
    cases k with
    | zero =>
      simp only [List.getElem?_cons_zero] at hk ⊢
      cases hk
      rcases h1 with h1 | h1
      · exact .inl h1
      · exact .inr (by rw [h1])
    | succ k => simpa using h4 k v (by simpa using hk)
  | [], _ :: _, h => h.elim
  | _ :: _, [], h => h.elim

theorem frL.refl : ∀ (l : List Value), frL l l
  | [] => trivial
  | _ :: l => ⟨.inr rfl, frL.refl l⟩

/-- Blocks behind a bound are forgotten. -/
theorem SW.less_of {s₁ s : SW} (B : Nat) (h1 : ∀ j, B ≤ j → s₁.heap j = none) (h2 : ∀ j, j < B → s₁.heap j = s.heap j) (h3 : s.next ≤ s₁.next) : SW.less s₁ s :=
  by
  refine ⟨fun i o hi => ?_, h3⟩
  rcases Nat.lt_or_ge i B with h | h
  · rw [← h2 i h]; exact hi
  · rw [h1 i h] at hi; cases hi

theorem SW.less_refl (s : SW) : SW.less s s := ⟨fun _ _ h => h, Nat.le_refl _⟩
theorem SW.less_trans {a b c : SW} (h : SW.less a b) (k : SW.less b c) : SW.less a c := ⟨fun i o hi => k.heap i o (h.heap i o hi), Nat.le_trans k.next h.next⟩

/-- A loop that counts, with what else is known at each round's head. -/
theorem SWp.upto {P : Program} {c : Code} {Q : SQ} {fr : List Value} {s : SW} {X : Type} (K : Nat) (I : Nat → X → Prop) (F : Nat → X → List Value) (S : Nat → X → SW) (x₀ : X) (h₀ : I 0 x₀)
    (hf : frL (F 0 x₀) fr) (hs : SW.less (S 0 x₀) s)
    (step : ∀ k x, k < K → I k x → SWp P c (thenQ (fun fr' s' => ∃ x', I (k + 1) x' ∧ frL (F (k + 1) x') fr' ∧ SW.less (S (k + 1) x') s') Q) (F k x) (S k x))
    (last : ∀ x, I K x → SWp P c (thenQ (fun _ _ => False) Q) (F K x) (S K x)) : SWp P (.loop c) Q fr s := by
  refine SWp.loop (fun m fr s => ∃ k x, k + m = K ∧ I k x ∧ frL (F k x) fr ∧ SW.less (S k x) s) K ⟨0, x₀, by omega, h₀, hf, hs⟩ ?_
  rintro m fr s ⟨k, x, hk, hI, hF, hS⟩
  rcases Nat.lt_or_ge k K with h | h
  · refine SWp.less ((step k x h hI).mono ?_) hF.ok hS
    rintro e fr' s' hq
    cases e with
    | normal =>
      obtain ⟨x', h1, h2, h3⟩ := hq
      exact ⟨m - 1, by omega, k + 1, x', by omega, h1, h2, h3⟩
    | _ => exact hq
  · have : k = K := by omega
    subst this
    refine SWp.less ((last x hI).mono ?_) hF.ok hS
    rintro e fr' s' hq
    cases e with
    | normal => exact hq.elim
    | _ => exact hq

/-- .. where what is known of the shadow is told as a relation. -/
theorem SWp.uptoR {P : Program} {c : Code} {Q : SQ} {fr : List Value} {s : SW} {X : Type} (K : Nat) (I : Nat → X → SW → Prop) (F : Nat → X → List Value) (x₀ : X) (h₀ : I 0 x₀ s) (hf : frL (F 0 x₀) fr)
    (step : ∀ k x s, k < K → s.wf → I k x s → SWp P c (thenQ (fun fr' s' => ∃ x', I (k + 1) x' s' ∧ frL (F (k + 1) x') fr') Q) (F k x) s)
    (last : ∀ x s, s.wf → I K x s → SWp P c (thenQ (fun _ _ => False) Q) (F K x) s) : SWp P (.loop c) Q fr s := by
  refine SWp.loop (fun m fr s => ∃ k x, k + m = K ∧ I k x s ∧ frL (F k x) fr) K ⟨0, x₀, by omega, h₀, hf⟩ ?_
  rintro m fr s ⟨k, x, hk, hI, hF⟩
  refine SWp.wf fun hwf => ?_
  rcases Nat.lt_or_ge k K with h | h
  · refine SWp.less ((step k x s h hwf hI).mono ?_) hF.ok (SW.less_refl s)
    rintro e fr' s' hq
    cases e with
    | normal =>
      obtain ⟨x', h1, h2⟩ := hq
      exact ⟨m - 1, by omega, k + 1, x', by omega, h1, h2⟩
    | _ => exact hq
  · have : k = K := by omega
    subst this
    refine SWp.less ((last x s hwf hI).mono ?_) hF.ok (SW.less_refl s)
    rintro e fr' s' hq
    cases e with
    | normal => exact hq.elim
    | _ => exact hq

theorem SWp.upto0 {P : Program} {c : Code} {Q : SQ} {fr : List Value} {s : SW} (last : SWp P c (thenQ (fun _ _ => False) Q) fr s) : SWp P (.loop c) Q fr s :=
  SWp.upto 0 (fun _ (_ : Unit) => True) (fun _ _ => fr) (fun _ _ => s) () trivial (frL.refl _) (SW.less_refl _) (fun _ _ h => absurd h (Nat.not_lt_zero _)) fun _ _ => last

/-- The end of a body: what is left behind is forgotten. -/
def Post (R : Value → SW → Prop) (v : Value) (s' : SW) : Prop := ∃ s₁, SW.less s₁ s' ∧ R v s₁

theorem Post_congr {R : Value → SW → Prop} {v v' : Value} {s s' : SW} (h : v = v') (k : s = s') : Post R v s = Post R v' s' := by rw [h, k]

/-- A contract out of a body, what is left behind forgotten. -/
theorem SCalls.bodyL {P : Program} {f : FuncId} {fn : Func} {c : Code} {args : List Value} {s : SW} {R : Value → SW → Prop} (hf : P.funcs[f]? = some fn) (hb : fn.body = some c) (hc : fnCallable fn = true)
    (h : s.wf → SWp P c (bodyQ P fn (Post R)) (args ++ List.replicate (fn.ntmps - args.length) Go.undef) s) : SCalls P f args s R :=
  SCalls.less (s₀ := s) (SCalls.body hf hb hc (SWp.wf h)) (SW.less_refl s) fun _ _ h => h

/-- The same heap, numbers passed over. -/
def SW.at (s : SW) (n : Nat) : SW := ⟨s.heap, n⟩

theorem Post.at {R : Value → SW → Prop} {v : Value} {s t : SW} (hwf : s.wf) (hR : ∀ n, s.next ≤ n → R v (s.at n)) (h : ∀ j, j < s.next → s.heap j = t.heap j) (hn : s.next ≤ t.next) : Post R v t :=
  ⟨s.at t.next, SW.less_of s.next (fun j hj => hwf j hj) h (Nat.le_refl _), hR _ hn⟩

/-- The end: blocks below a bound are as told; what lies behind is forgotten. -/
theorem Post.of {R : Value → SW → Prop} {v : Value} {t : SW} (f : Nat → Option SObj) (B : Nat) (hB : ∀ j, B ≤ j → f j = none) (h : ∀ j, j < B → f j = t.heap j) (hR : R v ⟨f, t.next⟩) : Post R v t :=
  ⟨⟨f, t.next⟩, SW.less_of B hB h (Nat.le_refl _), hR⟩

theorem ite_lt {α : Type} {i n : Nat} {a b : α} (h : i < n) : (if i = n then a else b) = b := if_neg (Nat.ne_of_lt h)
theorem ite_gt {α : Type} {i n : Nat} {a b : α} (h : n < i) : (if i = n then a else b) = b := if_neg (Nat.ne_of_gt h)

def mkF (n : Nat) (l : List (Nat × Value)) : List Value := l.foldl (fun f p => f.set p.1 p.2) (List.replicate n junk)

end Go.Sh

/- Out of the shadow: a call at plain arguments, in whatever world. -/
namespace Go.Sh
open Go Go.RowKit

def SW.none : SW := ⟨fun _ => Option.none, 0⟩

theorem HRel.none (w : World) : HRel (fun _ => Option.none) SW.none w :=
  by
  refine ⟨fun _ _ => rfl, ?_, ?_⟩
  · intro i o h
    cases h
  · intro i j o o' p q h
    cases h

theorem Ext.below_of {ρ ρ' : Rho} {s s' : SW} {w w' : World} (h : Ext ρ s w ρ' s' w') (hno : ∀ i o, s.heap i = some o → o.own = true → False) : Below w.heap.size w w' :=
  ⟨h.os, h.tape, h.output, h.size, fun r hr => h.frame r hr fun i o _ hi ho _ => (hno i o hi ho).elim⟩

theorem SCalls.plain {P : Program} {f : FuncId} {args : List Value} {R : Value → SW → Prop} (h : SCalls P f args SW.none R) (ha : ∀ a ∈ args, pl0 a = true) (w : World) :
    Calls P f args.toArray w fun e w' => ∃ ρ v rv s', e = .returned rv ∧ VRel ρ v rv ∧ R v s' ∧ Below w.heap.size w w' := by
  have hF : F2 (VRel fun _ => Option.none) args args := by
    clear h
    induction args with
    | nil => exact .nil
    | cons a l ih => exact .cons (.plain (ha a (by simp))) (ih fun b hb => ha b (by simp [hb]))
  refine (h.2 _ args w hF (HRel.none w)).mono ?_
  rintro e w' ⟨ρ', v, rv, s', h1, h2, h3, h4, h5⟩
  exact ⟨ρ', v, rv, s', h1, h2, h5, h4.below_of fun i o hi => by cases hi⟩

end Go.Sh

/- Out of the shadow: a row's post-condition, where nothing that lay there was turned. -/
namespace Go.Sh
open Go Go.RowKit Go.ChangeShapes

theorem post_kept {H : Type} {enc : TypeId × Value → H} {P : Program} {f : Func} {s : ChangeSpec} {apart : Bool} {W W' : World} {args : Array Value} {v : Value} {ds gs : List (DataW H)} {before pa pv : List MemPlace}
    (hW : DataW.Whole enc P f.params.toList s.vars apart W args.toList ds gs before)
    (hres : ∀ (b : Nat) (sp : Nat → Bool), DataW.TrodAll enc P W' b sp false f.resultTypes.toList (v.resultList f.resultTypes.size) (s.fn H (ds ++ gs)).results [])
    (hargs : ∀ sp : Nat → Bool, (∀ p ∈ before, sp p.block = true) → DataW.TrodAll enc P W' 0 sp true f.params.toList args.toList (s.fn H (ds ++ gs)).args pa)
    (hvars : ∀ sp : Nat → Bool, (∀ p ∈ before, sp p.block = true) → DataW.TrodVars enc P W' sp s.vars (s.fn H (ds ++ gs)).vars pv)
    (hB : Below W.heap.size W W') :
    s.post enc P f apart true false false W args v W' := by
  have hold : ∀ p ∈ before, (fun b => decide (b < W.heap.size)) p.block = true := fun p hp => by simpa using hW.lt p hp
  exact ⟨ds, gs, before, [], pa, pv, hW, hres _ _, hargs _ hold, hvars _ hold, hB.frame _, nofun⟩

theorem wf_u8 {n : Int} (h : (Lit.int .u8 n).wf = true) : 0 ≤ n ∧ n ≤ 255 := by
  have e0 : IntKind.u8.min = 0 := by decide
  have e1 : IntKind.u8.max = 255 := by decide
  simpa [Lit.wf, e0, e1] using h

theorem wf_i64_iff {n : Int} : (Lit.int .i64 n).wf = true ↔ -9223372036854775808 ≤ n ∧ n ≤ 9223372036854775807 := by
  have e0 : IntKind.i64.min = -9223372036854775808 := by decide
  have e1 : IntKind.i64.max = 9223372036854775807 := by decide
  simp [Lit.wf, e0, e1]

theorem wf_u64_iff {n : Int} : (Lit.int .u64 n).wf = true ↔ 0 ≤ n ∧ n ≤ 18446744073709551615 := by
  have e0 : IntKind.u64.min = 0 := by decide
  have e1 : IntKind.u64.max = 18446744073709551615 := by decide
  simp [Lit.wf, e0, e1]

end Go.Sh

/- Into the shadow: a call at arguments that lead into the world; and out again. -/
namespace Go.Sh
open Go Go.RowKit Go.ChangeShapes Go.Deep

/-- Every block lies where it lies. -/
def idRho (W : World) : Rho := fun r => if r < W.heap.size then some ⟨r, 0, (match W.heap[r]? with | some (.cells rc _ _) => rc.size | _ => 0), 0, 0⟩ else none

open Classical in
/-- What the shadow has of a value. -/
noncomputable def shV (ρ : Rho) (v : Value) : Value := if VRel ρ v v then v else if ∃ a, v = .slice (some a) 0 0 then .slice (some ⟨0, 0, some 0⟩) 0 0 else junk

theorem shV_rel (ρ : Rho) (v : Value) : VRel ρ (shV ρ v) v := by
  unfold shV
  split
  · assumption
  · split
    · rename_i h
      obtain ⟨a, rfl⟩ := h
      exact .empty
    · exact .junk

noncomputable def idSW (W : World) : SW := ⟨fun r => match W.heap[r]? with
  | some (.cells rc _ _) => some (.cells (rc.toList.map (shV (idRho W))) false 0)
  | _ => none, W.heap.size⟩

theorem idSW_rel (W : World) : HRel (idRho W) (idSW W) W := by
  refine ⟨fun i hi => ?_, fun i o hi => ?_, fun i j o o' p q hi hj hp hq e => ?_⟩
  · have hi' : W.heap.size ≤ i := hi
    unfold idRho
    rw [if_neg (by omega)]
  · unfold idSW at hi
    simp only at hi
    split at hi
    · rename_i rc t fz hc
      have hlt : i < W.heap.size := by
        rcases Nat.lt_or_ge i W.heap.size with h | h
        · exact h
        · rw [Array.getElem?_eq_none h] at hc; cases hc
      cases hi
      refine ⟨⟨i, 0, rc.size, 0, 0⟩, by unfold idRho; rw [if_pos hlt, hc], ?_⟩
      rw [hc]
      refine ⟨by simp, by simp, fun k v hk => ?_, fun h => by simp at h, fun _ => ⟨rfl, rfl⟩, fun h => absurd rfl h⟩
      rw [List.getElem?_map] at hk
      simp only [Option.map_eq_some_iff] at hk
      obtain ⟨rv, h1, rfl⟩ := hk
      exact ⟨rv, by simpa using h1, shV_rel _ _⟩
    · cases hi
  · unfold idRho at hp hq
    split at hp
    · split at hq
      · cases hp; cases hq; exact e
      · cases hq
    · cases hp

theorem idSW_own (W : World) : ∀ i o, (idSW W).heap i = some o → o.own = true → False := by
  intro i o hi ho
  unfold idSW at hi
  simp only at hi
  split at hi
  · cases hi; simp [SObj.own] at ho
  · cases hi

/-- A call, at whatever arguments. -/
theorem SCalls.entered {P : Program} {f : FuncId} {args : List Value} {R : Value → SW → Prop} {W : World} (h : SCalls P f (args.map (shV (idRho W))) (idSW W) R) :
    Calls P f args.toArray W fun e w' => ∃ ρ v rv s', e = .returned rv ∧ VRel ρ v rv ∧ R v s' ∧ Below W.heap.size W w' := by
  have hF : F2 (VRel (idRho W)) (args.map (shV (idRho W))) args := by
    clear h
    induction args with
    | nil => exact .nil
    | cons a l ih => exact .cons (shV_rel _ _) ih
  refine (h.2 _ args W hF (idSW_rel W)).mono ?_
  rintro e w' ⟨ρ', v, rv, s', h1, h2, h3, h4, h5⟩
  exact ⟨ρ', v, rv, s', h1, h2, h5, h4.below_of (idSW_own W)⟩

theorem shV_plain {ρ : Rho} {v : Value} (h : pl0 v = true) : shV ρ v = v := by
  unfold shV
  rw [if_pos (.plain h)]

theorem shV_slice {W : World} {b o l c : Nat} (hb : b < W.heap.size) (hl : l ≤ c) : shV (idRho W) (.slice (some ⟨b, o, none⟩) l c) = .slice (some ⟨b, o, none⟩) l c := by
  unfold shV
  rw [if_pos]
  have h : VRel (idRho W) (.slice (some ⟨b, o, none⟩) l c) (.slice (some ⟨b, 0 + o, none⟩) l c) :=
    .slice (p := ⟨b, 0, (match W.heap[b]? with | some (.cells rc _ _) => rc.size | _ => 0), 0, 0⟩) (by unfold idRho; rw [if_pos hb]) hl (.inl rfl)
  simpa using h

theorem shV_empty {ρ : Rho} (a : Addr) : ∃ a', shV ρ (.slice (some a) 0 0) = .slice (some a') 0 0 := by
  unfold shV
  split
  · exact ⟨_, rfl⟩
  · rw [if_pos ⟨a, rfl⟩]; exact ⟨_, rfl⟩

theorem cell_lt {W : World} {a : Addr} {v : Value} (h : W.cell? a = some v) : a.block < W.heap.size ∧ a.spot = none := by
  unfold World.cell? at h
  split at h
  · rename_i c t fz hb
    refine ⟨?_, ?_⟩
    · rcases Nat.lt_or_ge a.block W.heap.size with h1 | h1
      · exact h1
      · rw [Array.getElem?_eq_none h1] at hb; cases hb
    · split at h
      · cases h
      · rename_i hs; simpa using hs
  · cases h

/-- A cell of the world, as the shadow has it. -/
theorem idSW_cell {W : World} {b o : Nat} {v : Value} (h : W.cell? ⟨b, o, none⟩ = some v) : ∃ cs, (idSW W).heap b = some (.cells cs false 0) ∧ cs[o]? = some (shV (idRho W) v) ∧ ∀ o' v', W.cell? ⟨b, o', none⟩ = some v' → cs[o']? = some (shV (idRho W) v') := by
  unfold World.cell? at h
  simp only at h
  split at h
  · rename_i c t fz hb
    refine ⟨c.toList.map (shV (idRho W)), ?_, ?_, ?_⟩
    · unfold idSW; simp only; rw [hb]
    · rw [List.getElem?_map]
      simp only [Option.isSome_none, Bool.false_eq_true, if_false] at h
      simp [h]
    · intro o' v' h'
      unfold World.cell? at h'
      simp only [hb, Option.isSome_none, Bool.false_eq_true, if_false] at h'
      rw [List.getElem?_map]
      simp [h']
  · cases h

/-- A slice that is read, as the shadow has it: 'V i' are its cells. -/
theorem slice_shown {W : World} {a : Addr} {len cap n : Nat} {V : Nat → Value} (hl : len ≤ cap) (hn : 1 ≤ n) (hV : ∀ i, i < cap * n → W.cell? (a.add i) = some (V i)) :
    (len = 0 ∧ ∃ a', shV (idRho W) (.slice (some a) len cap) = .slice (some a') 0 cap) ∨
    (∃ b o cs, shV (idRho W) (.slice (some a) len cap) = .slice (some ⟨b, o, none⟩) len cap ∧ b < W.heap.size ∧ (idSW W).heap b = some (.cells cs false 0) ∧ ∀ i, i < cap * n → cs[o + i]? = some (shV (idRho W) (V i))) := by
  rcases Nat.eq_zero_or_pos cap with h0 | h0
  · subst h0
    have : len = 0 := by omega
    subst this
    exact .inl ⟨rfl, shV_empty a⟩
  · right
    have hpos : 0 < cap * n := Nat.mul_pos h0 hn
    have h1 := hV 0 hpos
    have ha : a.add 0 = a := by simp [Addr.add]
    rw [ha] at h1
    obtain ⟨hb, hs⟩ := cell_lt h1
    obtain ⟨b, o, sp⟩ := a
    simp only at hb hs
    subst hs
    obtain ⟨cs, e1, e2, e3⟩ := idSW_cell h1
    refine ⟨b, o, cs, shV_slice hb hl, hb, e1, fun i hi => e3 _ _ ?_⟩
    rw [← Addr.add_none]
    exact hV i hi

end Go.Sh

/- A cut in a sequence. -/
namespace Go.Sh
open Go

/-- A cut: what is known between two pieces of code. -/
theorem SWp.cutR {P : Program} {a b : Code} {Q : SQ} {fr : List Value} {s : SW} {X : Type} (I : X → SW → Prop) (F : X → List Value)
    (h1 : SWp P a (thenQ (fun fr' s' => ∃ x, I x s' ∧ frL (F x) fr') Q) fr s) (h2 : ∀ x s', s'.wf → I x s' → SWp P b Q (F x) s') : SWp P (a.seq b) Q fr s := by
  refine SWp.seq (h1.mono ?_)
  rintro e fr' s' hq
  cases e with
  | normal =>
    obtain ⟨x, hI, hF⟩ := hq
    exact SWp.less (SWp.wf fun hwf => h2 x s' hwf hI) hF.ok (SW.less_refl s')
  | _ => exact hq

/-- A piece of code, by the way to it: 0, 1 of a sequence or a condition, 0 of what has one part. -/
def codeAt : List Nat → Code → Option Code
  | [], c => some c
  | 0 :: p, .seq a _ => codeAt p a
  | _ :: p, .seq _ b => codeAt p b
  | 0 :: p, .cond _ a _ => codeAt p a
  | _ :: p, .cond _ _ b => codeAt p b
  | _ :: p, .block _ c => codeAt p c
  | _ :: p, .loop c => codeAt p c
  | _ :: p, .scope c => codeAt p c
  | _, _ => none

def codeOf (fn : Func) (p : List Nat) : Option Code := fn.body.bind (codeAt p)

/-- What ends as it goes on. -/
def endsQ (K : List Value → SW → Prop) : SQ := fun e fr s => match e with
  | .normal => K fr s
  | _ => False

theorem SWp.ends {P : Program} {c : Code} {K : List Value → SW → Prop} {Q : SQ} {fr : List Value} {s : SW} (h : SWp P c (endsQ K) fr s) (hK : ∀ fr s, K fr s → Q .normal fr s) : SWp P c Q fr s := by
  refine h.mono ?_
  rintro e fr' s' hq
  cases e with
  | normal => exact hK _ _ hq
  | _ => exact hq.elim

theorem endsQ_normal {K : List Value → SW → Prop} {fr : List Value} {s : SW} : endsQ K .normal fr s = K fr s := rfl
theorem endsQ_exit {K : List Value → SW → Prop} {fr : List Value} {s : SW} {i : Nat} : endsQ K (.exit i) fr s = False := rfl
theorem endsQ_goto {K : List Value → SW → Prop} {fr : List Value} {s : SW} {i : Nat} : endsQ K (.goto i) fr s = False := rfl
theorem endsQ_ret {K : List Value → SW → Prop} {fr : List Value} {s : SW} : endsQ K .ret fr s = False := rfl

end Go.Sh
