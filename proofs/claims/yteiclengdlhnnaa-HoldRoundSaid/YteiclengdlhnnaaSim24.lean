/- The region that draws: the law. -/
import Derived.Test.YteiclengdlhnnaaSim23
namespace Go.Sh
open Go

theorem cls_le (o : Oper) : cls o = 0 ∨ cls o = 1 ∨ cls o = 2 := by
  unfold cls
  split <;> first | (simp; done) | (split <;> simp)

section
variable {P : Program} {ops : Array Oper} {anc : List Nat} {K : List Value → SW → Prop} {ρ₀ : Rho} {s₀ : SW} {w₀ : World}
variable {L : Nat → Prop} {er : Nat → Int} {a : Act} {w : World}

theorem clsAt_le (i : Nat) : clsAt ops i = 0 ∨ clsAt ops i = 1 ∨ clsAt ops i = 2 := by
  unfold clsAt
  cases opAt ops i with
  | none => exact .inl rfl
  | some o => exact cls_le o

theorem okRest_tail : ∀ {p1 p2 pre : List Ent}, okRest ops anc (p1 ++ p2) pre = true → okRest ops anc p2 (p1.reverse ++ pre) = true
  | [], _, _, h => h
  | .run i :: p1, p2, pre, h => by
    have := okRest_tail (okRest_run h).2.2.2.2.2
    simpa using this
  | .chk i :: p1, p2, pre, h => by
    have := okRest_tail (okRest_chk h).2.2.2.2
    simpa using this

theorem okRest_all : ∀ {rest pre : List Ent}, okRest ops anc rest pre = true → ∀ i, i < ops.size → .run i ∈ pre ∨ .run i ∈ rest
  | [], pre, h, i, hi => by
    simp only [okRest] at h
    exact .inl (List.contains_iff_mem.1 (List.all_eq_true.1 h i (List.mem_range.2 hi)))
  | .run k :: rest, pre, h, i, hi => by
    rcases okRest_all (okRest_run h).2.2.2.2.2 i hi with h1 | h1
    · rcases List.mem_cons.1 h1 with h2 | h2
      · cases h2; exact .inr List.mem_cons_self
      · exact .inl h2
    · exact .inr (List.mem_cons_of_mem _ h1)
  | .chk k :: rest, pre, h, i, hi => by
    rcases okRest_all (okRest_chk h).2.2.2.2 i hi with h1 | h1
    · rcases List.mem_cons.1 h1 with h2 | h2
      · cases h2
      · exact .inl h2
    · exact .inr (List.mem_cons_of_mem _ h1)

/-- The shadow goes on past what may be passed. -/
theorem Inv.advance (ha : okAnc ops anc = true) (hn : okNames ops anc = true) : ∀ (p1 p2 pre : List Ent) (ρ : Rho) (fr : List Value) (s : SW), Inv P ops anc K ρ₀ s₀ w₀ pre (p1 ++ p2) L er ρ fr s a w →
    (∀ k, .run k ∈ p1 → clsAt ops k ≠ 0 → L k) → ∃ ρ' fr' s', Inv P ops anc K ρ₀ s₀ w₀ (p1.reverse ++ pre) p2 L er ρ' fr' s' a w := by
  intro p1
  induction p1 with
  | nil => intro p2 pre ρ fr s h _; exact ⟨ρ, fr, s, h⟩
  | cons e p1 ih =>
    intro p2 pre ρ fr s h hp
    have hrest : ∀ k, .run k ∈ p1 → clsAt ops k ≠ 0 → L k := fun k hk => hp k (List.mem_cons_of_mem _ hk)
    have fin : ∀ ρ fr s, Inv P ops anc K ρ₀ s₀ w₀ (e :: pre) (p1 ++ p2) L er ρ fr s a w → ∃ ρ' fr' s', Inv P ops anc K ρ₀ s₀ w₀ ((e :: p1).reverse ++ pre) p2 L er ρ' fr' s' a w := by
      intro ρ fr s h1
      obtain ⟨ρ', fr', s', h2⟩ := ih p2 (e :: pre) ρ fr s h1 hrest
      exact ⟨ρ', fr', s', by simpa using h2⟩
    cases e with
    | chk i => exact fin ρ fr s (Inv.stepChk ha h)
    | run i =>
      rcases clsAt_le (ops := ops) i with h1 | h1 | h1
      · obtain ⟨fr', h2⟩ := Inv.stepRun0 ha hn h h1
        exact fin ρ fr' s h2
      · have hL := hp i List.mem_cons_self (by omega)
        exact absurd (h.i12 i hL (by omega)) (okRest_run h.ok).2.1
      · have hL := hp i List.mem_cons_self (by omega)
        obtain ⟨ρ', fr', s', h2⟩ := Inv.stepRun2 ha hn h h1 hL
        exact fin ρ' fr' s' h2

/-- Whatever may come up now, may. -/
theorem Inv.step (ha : okAnc ops anc = true) (hn : okNames ops anc = true) {pre rest : List Ent} {ρ : Rho} {fr : List Value} {s : SW} (h : Inv P ops anc K ρ₀ s₀ w₀ pre rest L er ρ fr s a w) {i : Nat} (hi : i < ops.size) (hLi : ¬ L i)
    (hanc : ∀ j, ancB anc i j = true → L j) {K' : Act → World → Prop} {Q' : Exit → Act → World → Prop}
    (hK : ∀ pre' rest' er' ρ' fr' s' a' w', Inv P ops anc K ρ₀ s₀ w₀ pre' rest' (fun j => L j ∨ j = i) er' ρ' fr' s' a' w' → K' a' w') : wpOp P ops Q' i K' a w := by
  obtain ⟨o, ho⟩ : ∃ o, opAt ops i = some o := ⟨ops[i], by unfold opAt; rw [Array.getElem?_eq_getElem hi]⟩
  -- entries ahead of an entry that asks for what is ahead of it
  have passed : ∀ p1 p2, rest = p1 ++ .run i :: p2 → clsAt ops i ≠ 2 → ∀ k, .run k ∈ p1 → clsAt ops k ≠ 0 → L k := by
    intro p1 p2 hsp hc k hk hck
    have h1 := okRest_tail (hsp ▸ h.ok)
    obtain ⟨_, _, _, h2, _⟩ := okRest_run h1
    have hkl : k < ops.size := by
      unfold clsAt opAt at hck
      rcases Nat.lt_or_ge k ops.size with h3 | h3
      · exact h3
      · rw [Array.getElem?_eq_none h3] at hck; exact absurd rfl hck
    exact hanc k (h2 hc k hkl (List.mem_append_left _ (List.mem_reverse.2 hk)) hck)
  rcases clsAt_le (ops := ops) i with hc | hc | hc
  · by_cases hr : .run i ∈ pre
    · exact Inv.stepR hn h ho hc hLi hr hanc fun ρ' fr' s' a' w' h' => hK _ _ _ _ _ _ _ _ h'
    · have hm := (okRest_all h.ok i hi).resolve_left hr
      obtain ⟨p1, p2, hsp⟩ := List.append_of_mem hm
      obtain ⟨ρ₁, fr₁, s₁, h1⟩ := Inv.advance ha hn p1 (.run i :: p2) pre ρ fr s (hsp ▸ h) (passed p1 p2 hsp (by omega))
      obtain ⟨fr₂, h2⟩ := Inv.stepRun0 ha hn h1 hc
      exact Inv.stepR hn h2 ho hc hLi List.mem_cons_self hanc fun ρ' fr' s' a' w' h' => hK _ _ _ _ _ _ _ _ h'
  · have hr : .run i ∉ pre := fun e => hLi (h.ifa i e (by omega))
    have hm := (okRest_all h.ok i hi).resolve_left hr
    obtain ⟨p1, p2, hsp⟩ := List.append_of_mem hm
    obtain ⟨ρ₁, fr₁, s₁, h1⟩ := Inv.advance ha hn p1 (.run i :: p2) pre ρ fr s (hsp ▸ h) (passed p1 p2 hsp (by omega))
    exact Inv.stepF ha hn h1 hc hLi hanc fun ρ' fr' s' a' w' h' => hK _ _ _ _ _ _ _ _ h'
  · by_cases hch : .chk i ∈ pre
    · exact Inv.stepA hn h ho hc hLi hch hanc fun er' ρ' fr' s' a' w' h' => hK _ _ _ _ _ _ _ _ h'
    · have hr : .run i ∉ pre := fun e => hLi (h.ifa i e (by omega))
      have hm := (okRest_all h.ok i hi).resolve_left hr
      obtain ⟨p1, p2, hsp⟩ := List.append_of_mem hm
      have h1 := okRest_tail (hsp ▸ h.ok)
      obtain ⟨_, _, _, _, h2, _⟩ := okRest_run h1
      have hm2 : .chk i ∈ p1 := by
        rcases List.mem_append.1 (h2 hc) with h3 | h3
        · exact List.mem_reverse.1 h3
        · exact absurd h3 hch
      obtain ⟨q1, q2, hsq⟩ := List.append_of_mem hm2
      have hsp2 : rest = q1 ++ .chk i :: (q2 ++ .run i :: p2) := by rw [hsp, hsq]; simp
      have h4 := okRest_tail (hsp2 ▸ h.ok)
      obtain ⟨_, _, _, h5, _⟩ := okRest_chk h4
      obtain ⟨ρ₁, fr₁, s₁, h6⟩ := Inv.advance ha hn q1 (.chk i :: (q2 ++ .run i :: p2)) pre ρ fr s (hsp2 ▸ h) (fun k hk hck => by
        have hkl : k < ops.size := by
          unfold clsAt opAt at hck
          rcases Nat.lt_or_ge k ops.size with h3 | h3
          · exact h3
          · rw [Array.getElem?_eq_none h3] at hck; exact absurd rfl hck
        exact hanc k (h5 k hkl (List.mem_append_left _ (List.mem_reverse.2 hk)) hck))
      have h7 := Inv.stepChk ha h6
      exact Inv.stepA hn h7 ho hc hLi List.mem_cons_self hanc fun er' ρ' fr' s' a' w' h' => hK _ _ _ _ _ _ _ _ h'

/-- All is done. -/
theorem Inv.done (ha : okAnc ops anc = true) (hn : okNames ops anc = true) {pre rest : List Ent} {ρ : Rho} {fr : List Value} {s : SW} (h : Inv P ops anc K ρ₀ s₀ w₀ pre rest L er ρ fr s a w) (hL : ∀ i, i < ops.size → L i) :
    ∃ ρ' fr' s', FRel ρ' fr' a ∧ HRel ρ' s' w ∧ Ext ρ₀ s₀ w₀ ρ' s' w ∧ K fr' s' := by
  obtain ⟨ρ', fr', s', h1⟩ := Inv.advance ha hn rest [] pre ρ fr s (by simpa using h) (fun k _ hck => hL k (by
    unfold clsAt opAt at hck
    rcases Nat.lt_or_ge k ops.size with h3 | h3
    · exact h3
    · rw [Array.getElem?_eq_none h3] at hck; exact absurd rfl hck))
  refine ⟨ρ', fr', s', ⟨h1.fx.size, h1.fx.defers, fun k v hk => h1.fx.val k v hk ?_⟩, h1.hr, h1.ext, h1.vcs⟩
  rintro ⟨i, hi, hh⟩
  have hlt := lt_of_dst hi
  rcases hh with ⟨_, h2⟩ | ⟨_, h2⟩
  · exact h2 (hL i hlt)
  · exact h2 ((okRest_all h1.ok i hlt).resolve_right (by simp))

/-- How many have not come up. -/
def unl (n : Nat) (listed : Array Bool) : Nat := ((List.range n).filter fun i => !listed.getD i false).length

theorem filter_length_le {p q : Nat → Bool} (h : ∀ x, p x = true → q x = true) : ∀ l : List Nat, (l.filter p).length ≤ (l.filter q).length
  | [] => Nat.le_refl _
  | z :: l => by
    have ih := filter_length_le h l
    rw [List.filter_cons, List.filter_cons]
    by_cases hp : p z = true
    · rw [if_pos hp, if_pos (h z hp)]; simp only [List.length_cons]; omega
    · rw [if_neg hp]
      split
      · simp only [List.length_cons]; omega
      · exact ih

theorem filter_length_lt {p q : Nat → Bool} (h : ∀ x, p x = true → q x = true) {y : Nat} (h1 : q y = true) (h2 : p y = false) : ∀ {l : List Nat}, y ∈ l → (l.filter p).length < (l.filter q).length
  | [], hy => by cases hy
  | x :: l, hy => by
    have hle := filter_length_le h l
    rw [List.filter_cons, List.filter_cons]
    rcases List.mem_cons.1 hy with h3 | h3
    · subst h3
      rw [if_pos h1, if_neg (by rw [h2]; simp)]
      simp only [List.length_cons]; omega
    · have := filter_length_lt h h1 h2 h3
      by_cases hp : p x = true
      · rw [if_pos hp, if_pos (h x hp)]; simp only [List.length_cons]; omega
      · rw [if_neg hp]
        split
        · simp only [List.length_cons]; omega
        · exact this

theorem wpAny_of_inv (ha : okAnc ops anc = true) (hn : okNames ops anc = true) {c : List Ent} (hc : okRest ops anc c [] = true) {Q : SQ} : ∀ (fuel : Nat) (listed : Array Bool) (a : Act) (w : World), listed.size = ops.size → unl ops.size listed ≤ fuel →
    (∃ pre rest er ρ fr s, Inv P ops anc (Q .normal) ρ₀ s₀ w₀ pre rest (fun i => listed.getD i false = true) er ρ fr s a w) → wpAny P .any ops (lift ρ₀ s₀ w₀ Q) fuel listed a w := by
  have hready : ∀ {listed : Array Bool} {i : Nat}, listed.size = ops.size → (i ∈ Region.ready .any ops listed ↔ i < ops.size ∧ listed.getD i false = false ∧ ∀ e ∈ afterAt ops i, Region.binds .any e = true → listed.getD e.on false = true) := by
    intro listed i hsz
    unfold Region.ready
    rw [List.mem_filter, List.mem_range]
    constructor
    · rintro ⟨h1, h2⟩
      simp only [Bool.and_eq_true, Bool.not_eq_true'] at h2
      refine ⟨h1, ?_, ?_⟩
      · rw [Array.getD_eq_getD_getElem?] at h2 ⊢
        rw [Array.getElem?_eq_getElem (by omega)] at h2 ⊢
        exact h2.1
      · intro e he hb
        unfold afterAt opAt at he
        have h3 := h2.2
        rw [Array.getElem?_eq_getElem h1] at he h3
        simp only [Option.map_some, Option.getD_some] at he h3
        have := Array.all_eq_true_iff_forall_mem.1 h3 e (by simpa using he)
        simp only [Bool.or_eq_true, Bool.not_eq_true'] at this
        rcases this with h4 | h4
        · rw [hb] at h4; cases h4
        · exact h4
    · rintro ⟨h1, h2, h3⟩
      refine ⟨h1, ?_⟩
      simp only [Bool.and_eq_true, Bool.not_eq_true']
      refine ⟨?_, ?_⟩
      · rw [Array.getD_eq_getD_getElem?] at h2 ⊢
        rw [Array.getElem?_eq_getElem (by omega)] at h2 ⊢
        exact h2
      · rw [Array.getElem?_eq_getElem h1]
        simp only [Option.map_some, Option.getD_some]
        rw [Array.all_eq_true_iff_forall_mem]
        intro e he
        simp only [Bool.or_eq_true, Bool.not_eq_true']
        by_cases hb : Region.binds .any e = true
        · right
          refine h3 e ?_ hb
          unfold afterAt opAt
          rw [Array.getElem?_eq_getElem h1]
          simpa using he
        · left; simpa using hb
  -- what is ahead of one that may come up has come up
  have hancs : ∀ {listed : Array Bool} {i : Nat}, i < ops.size → (∀ e ∈ afterAt ops i, Region.binds .any e = true → listed.getD e.on false = true) → (∀ i j, listed.getD i false = true → ancB anc i j = true → listed.getD j false = true) →
      ∀ j, ancB anc i j = true → listed.getD j false = true := by
    intro listed i hi he hcl j hj
    have h1 := List.all_eq_true.1 ha i (List.mem_range.2 hi)
    simp only [Bool.and_eq_true] at h1
    have h2 := List.all_eq_true.1 h1.1.1 j (List.mem_range.2 (anc_lt ha hi hj))
    simp only [hj, Bool.not_true, Bool.false_or, List.any_eq_true, Bool.and_eq_true, Bool.or_eq_true, beq_iff_eq] at h2
    obtain ⟨e, he1, he2, he3⟩ := h2
    have h4 := he e he1 he2
    rcases he3 with rfl | he3
    · exact h4
    · exact hcl e.on j h4 he3
  have hdone : ∀ (listed : Array Bool) (a : Act) (w : World), listed.size = ops.size → (∃ pre rest er ρ fr s, Inv P ops anc (Q .normal) ρ₀ s₀ w₀ pre rest (fun i => listed.getD i false = true) er ρ fr s a w) →
      Region.ready .any ops listed = [] → lift ρ₀ s₀ w₀ Q .normal a w := by
    rintro listed a w hsz ⟨pre, rest, er, ρ, fr, s, h⟩ hr
    have hall : ∀ i, i < ops.size → listed.getD i false = true := by
      -- by the order of the entries
      have aux : ∀ (es ps : List Ent), okRest ops anc es ps = true → (∀ k, .run k ∈ ps → k < ops.size → listed.getD k false = true) → ∀ k, .run k ∈ es → k < ops.size → listed.getD k false = true := by
        intro es
        induction es with
        | nil => intro ps _ _ k hk; cases hk
        | cons e es ih =>
          intro ps hok hps k hk hlt
          cases e with
          | chk i =>
            rcases List.mem_cons.1 hk with h1 | h1
            · cases h1
            · exact ih _ (okRest_chk hok).2.2.2.2 (fun k hk hl => by
                rcases List.mem_cons.1 hk with h2 | h2
                · cases h2
                · exact hps k h2 hl) k h1 hlt
          | run i =>
            obtain ⟨g1, g2, g3, _, _, g6⟩ := okRest_run hok
            have hi : listed.getD i false = true := by
              cases hb : listed.getD i false with
              | true => rfl
              | false =>
                have : i ∈ Region.ready .any ops listed := by
                  refine (hready hsz).2 ⟨g1, hb, fun e he hbi => ?_⟩
                  have h1 := List.all_eq_true.1 ha i (List.mem_range.2 g1)
                  simp only [Bool.and_eq_true] at h1
                  have h2 := List.all_eq_true.1 h1.1.2 e he
                  simp only [hbi, Bool.not_true, Bool.false_or] at h2
                  exact hps e.on (g3 e.on h2 (anc_lt ha g1 h2)) (anc_lt ha g1 h2)
                rw [hr] at this; cases this
            rcases List.mem_cons.1 hk with h1 | h1
            · cases h1; exact hi
            · exact ih _ g6 (fun k hk hl => by
                rcases List.mem_cons.1 hk with h2 | h2
                · cases h2; exact hi
                · exact hps k h2 hl) k h1 hlt
      intro i hi
      exact aux c [] hc (fun k hk => by cases hk) i ((okRest_all hc i hi).resolve_left (by simp)) hi
    obtain ⟨ρ', fr', s', g1, g2, g3, g4⟩ := h.done ha hn hall
    exact ⟨rfl, ρ', fr', s', g1, g2, g3, g4⟩
  intro fuel
  induction fuel with
  | zero =>
    intro listed a w hsz hu h
    have hr : Region.ready .any ops listed = [] := by
      rw [List.eq_nil_iff_forall_not_mem]
      intro i hi
      obtain ⟨h1, h2, _⟩ := (hready hsz).1 hi
      have hu0 : ((List.range ops.size).filter fun i => !listed.getD i false) = [] := List.length_eq_zero_iff.1 (Nat.le_zero.1 hu)
      have : i ∈ ((List.range ops.size).filter fun i => !listed.getD i false) := List.mem_filter.2 ⟨List.mem_range.2 h1, by rw [h2]; rfl⟩
      rw [hu0] at this; cases this
    exact ⟨hr, hdone listed a w hsz h hr⟩
  | succ fuel ih =>
    intro listed a w hsz hu h
    refine ⟨fun hr => hdone listed a w hsz h hr, fun i hi => ?_⟩
    obtain ⟨h1, h2, h3⟩ := (hready hsz).1 hi
    obtain ⟨pre, rest, er, ρ, fr, s, hI⟩ := h
    refine Inv.step ha hn hI h1 (by rw [h2]; simp) (hancs h1 h3 hI.closed) ?_
    intro pre' rest' er' ρ' fr' s' a' w' hI'
    have hL : (fun j => listed.getD j false = true ∨ j = i) = (fun j => (listed.setIfInBounds i true).getD j false = true) := by
      funext j
      rw [Array.getD_eq_getD_getElem?, Array.getD_eq_getD_getElem?]
      by_cases hji : j = i
      · subst hji
        rw [Array.getElem?_setIfInBounds_self_of_lt (by omega)]
        simp
      · rw [Array.getElem?_setIfInBounds_ne (fun e => hji e.symm)]
        simp [hji]
    refine ih _ a' w' (by simpa using hsz) ?_ ⟨pre', rest', er', ρ', fr', s', hL ▸ hI'⟩
    have : unl ops.size (listed.setIfInBounds i true) < unl ops.size listed := by
      refine filter_length_lt (y := i) (fun x hx => ?_) (by rw [h2]; rfl) ?_ (List.mem_range.2 h1)
      · simp only [Bool.not_eq_true'] at hx ⊢
        rw [Array.getD_eq_getD_getElem?] at hx ⊢
        by_cases hxi : x = i
        · subst hxi; rw [Array.getElem?_setIfInBounds_self_of_lt (by omega)] at hx; simp at hx
        · rwa [Array.getElem?_setIfInBounds_ne (fun e => hxi e.symm)] at hx
      · rw [Array.getD_eq_getD_getElem?, Array.getElem?_setIfInBounds_self_of_lt (by omega)]; rfl
    omega

end

/-- The plan of a region: what is ahead of what, and in which order the shadow goes. -/
def planOk (ops : Array Oper) (anc : List Nat) (c : List Ent) : Bool := okAnc ops anc && okNames ops anc && okRest ops anc c []

/-- THE LAW of a region that draws its order. -/
theorem SWp.draw {P : Program} {id : Nat} {ops : Array Oper} {Q : SQ} {fr : List Value} {s : SW} (anc : List Nat) (c : List Ent) (hm : P.follows .mixedOrders = true) (hp : planOk ops anc c = true)
    (hd : ((List.range ops.size).all fun i => match dstAt ops i with | some d => decide (d < fr.length) | none => true) = true) (h : vcEnts P ops anc (Q .normal) c [] fr s) : SWp P (.region id ops true) Q fr s := by
  simp only [planOk, Bool.and_eq_true] at hp
  obtain ⟨⟨ha, hn⟩, hc⟩ := hp
  intro ρ a w hf hr
  refine wp_region_any hm ?_
  have hL : ∀ i, ¬ ((Array.replicate ops.size false).getD i false = true) := fun i => by
    rw [Array.getD_eq_getD_getElem?, Array.getElem?_replicate]
    split <;> simp
  refine wpAny_of_inv (w₀ := w) (ρ₀ := ρ) (s₀ := s) ha hn hc ops.size _ a _ (by simp) ?_ ⟨[], c, fun _ => 0, ρ, fr, s, ?_⟩
  · exact Nat.le_trans (List.length_filter_le _ _) (by simp)
  · refine ⟨hc, h, hr.congr rfl, Ext.congr rfl ⟨rfl, rfl, rfl⟩, ⟨hf.size, hf.defers, fun k v hk _ => hf.val k v hk⟩, ?_, fun i j hi _ => absurd hi (hL i), fun i hi _ => absurd hi (hL i), fun i hi _ => (by cases hi),
      fun i o _ hi _ _ => absurd hi (hL i), fun i o _ hi _ _ => (by cases hi), fun i j hi _ _ _ _ _ _ => absurd hi (hL i), fun i hi _ _ => absurd hi (hL i), fun i o _ hi _ _ => (by cases hi), fun i j hi _ => (by cases hi), fun i j hi _ => (by cases hi)⟩
    intro i d hdd
    have := List.all_eq_true.1 hd i (List.mem_range.2 (lt_of_dst hdd))
    rw [hdd] at this
    simpa using this

end Go.Sh
