/- The operations upon maps. -/
import Derived.Test.YteiclengdlhnnaaSim10
namespace Go.Sh
open Go

theorem MRel.nil (ρ : Rho) (k : IntKind) : MRel ρ k [] [] 0 := ⟨⟨[], .nil, .nil⟩, .nil, .nil, fun e he => by cases he⟩

theorem born_eq : ∀ {xs : List MapEntry}, (xs.map (·.born)).Nodup → ∀ {e e₀ : MapEntry}, e ∈ xs → e₀ ∈ xs → e.born = e₀.born → e = e₀
  | [], _, _, _, he, _, _ => by cases he
  | x :: xs, hn, e, e₀, he, hmem, hb => by
    simp only [List.map_cons, List.nodup_cons, List.mem_map, not_exists, not_and] at hn
    rcases List.mem_cons.1 he with h3 | h3 <;> rcases List.mem_cons.1 hmem with h4 | h4
    · rw [h3, h4]
    · subst h3; exact absurd hb.symm (hn.1 e₀ h4)
    · subst h4; exact absurd hb (hn.1 e h3)
    · exact born_eq hn.2 h3 h4 hb

/-- What is put at a number. -/
theorem MRel.put {ρ : Rho} {k : IntKind} {m : List (Int × Value)} {es : Array MapEntry} {clock i : Nat} {e₀ : MapEntry} (h : MRel ρ k m es.toList clock) (n : Int) {v rv : Value} (hv : VRel ρ v rv)
    (hi : es[i]? = some e₀) (hk : e₀.key = .int k n) : MRel ρ k (mput m n v) (es.modify i fun e => { e with key := .int k n, val := rv }).toList clock := by
  obtain ⟨l, h1, h2⟩ := h.perm
  obtain ⟨a1, a2⟩ := h.entries
  let f : MapEntry → MapEntry := fun e => if e.born = e₀.born then { e with key := .int k n, val := rv } else e
  have hmem : e₀ ∈ es.toList := List.mem_of_getElem? (by simpa using hi)
  have hborn : ∀ e ∈ es.toList, e.born = e₀.born → e = e₀ := fun e he hb => born_eq h.born he hmem hb
  have hmod : (es.modify i fun e => { e with key := .int k n, val := rv }).toList = es.toList.map f := by
    apply List.ext_getElem?
    intro j
    rw [List.getElem?_map, Array.getElem?_toList, Array.getElem?_modify, Array.getElem?_toList]
    by_cases hij : i = j
    · subst hij
      simp [hi, f]
    · simp only [hij, if_false]
      cases hj : es[j]? with
      | none => rfl
      | some e =>
        simp only [Option.map_some]
        congr 1
        have he : e ∈ es.toList := List.mem_of_getElem? (by simpa using hj)
        have : e.born ≠ e₀.born := by
          intro hb
          have hee := hborn e he hb
          subst hee
          have hn := h.born
          have h5 : (es.toList.map (·.born))[i]? = some e.born := by simp [hi]
          have h6 : (es.toList.map (·.born))[j]? = some e.born := by simp [hj]
          have hli : i < (es.toList.map (·.born)).length := (List.getElem?_eq_some_iff.1 h5).1
          exact hij ((List.getElem?_inj hli hn).1 (h5.trans h6.symm))
        simp [f, this]
  have hany : (m.any fun kv => kv.1 == n) = true := by
    have : ∃ e ∈ l, e.key = .int k n := ⟨e₀, h1.mem_iff.2 (List.mem_of_getElem? (by simpa using hi)), hk⟩
    clear hmod hborn h1 h hmem
    induction h2 with
    | nil => obtain ⟨e, he, _⟩ := this; cases he
    | cons hh _ ih =>
      obtain ⟨e, he, hek⟩ := this
      rcases List.mem_cons.1 he with h3 | h3
      · subst h3
        rw [hh.1] at hek
        injection hek with _ hek
        simp [hek]
      · simp [ih ⟨e, h3, hek⟩]
  have hF : F2 (fun kv e => e.key = .int k kv.1 ∧ VRel ρ kv.2 e.val) (mput m n v) (l.map f) := by
    unfold mput
    rw [if_pos hany]
    have hb2 : ∀ e ∈ l, (e.born = e₀.born ↔ e.key = .int k n) := by
      intro e he
      have he' := h1.mem_iff.1 he
      constructor
      · intro hb; rw [hborn e he' hb]; exact hk
      · intro hke; rw [pairwise_key_eq a2 he' (List.mem_of_getElem? (by simpa using hi)) (hke.trans hk.symm)]
    clear hmod hborn h1 hany h hmem
    induction h2 with
    | nil => exact .nil
    | @cons kv e m' l' hh _ ih =>
      simp only [List.map_cons]
      refine .cons ?_ (ih fun e he => hb2 e (List.mem_cons_of_mem _ he))
      have h3 := hb2 e List.mem_cons_self
      rw [hh.1] at h3
      by_cases hkn : kv.1 = n
      · have : e.born = e₀.born := h3.2 (by rw [hkn])
        simp [hkn, f, this, hv]
      · have : ¬ e.born = e₀.born := fun hb => hkn (by have := h3.1 hb; injection this)
        simp only [f, this, if_false]
        have : (kv.1 == n) = false := by simpa using hkn
        simp only [this]
        exact hh
  rw [hmod]
  refine ⟨⟨l.map f, h1.map f, hF⟩, ?_, ?_, ?_⟩
  · have : (mput m n v).map Prod.fst = m.map Prod.fst := by
      unfold mput
      rw [if_pos hany, List.map_map]
      apply List.map_congr_left
      intro kv _
      simp only [Function.comp]
      split
      · rename_i h3; simpa using (beq_iff_eq.1 h3).symm
      · rfl
    rw [this]; exact h.keys
  · have : (es.toList.map f).map (·.born) = es.toList.map (·.born) := by
      rw [List.map_map]
      apply List.map_congr_left
      intro e _
      simp only [Function.comp, f]
      split <;> rfl
    rw [this]; exact h.born
  · intro e he
    simp only [List.mem_map] at he
    obtain ⟨e', he', rfl⟩ := he
    have := h.clock e' he'
    simp only [f]
    split <;> exact this

theorem mget_none_any {m : List (Int × Value)} {n : Int} (h : mget m n = none) : (m.any fun kv => kv.1 == n) = false := by
  induction m with
  | nil => rfl
  | cons kv m ih =>
    by_cases hkv : kv.1 = n
    · simp [mget, hkv] at h
    · have hb : (kv.1 == n) = false := by simpa using hkv
      simp only [List.any_cons, hb, Bool.false_or]
      exact ih (by simpa [mget, hb] using h)

theorem MRel.push {ρ : Rho} {k : IntKind} {m : List (Int × Value)} {es : Array MapEntry} {clock : Nat} (h : MRel ρ k m es.toList clock) (n : Int) {v rv : Value} (hv : VRel ρ v rv)
    (hn : mget m n = none) : MRel ρ k (mput m n v) (es.push { key := .int k n, val := rv, born := clock }).toList (clock + 1) := by
  obtain ⟨l, h1, h2⟩ := h.perm
  have hany := mget_none_any hn
  have hm : mput m n v = m ++ [(n, v)] := by unfold mput; rw [hany]; rfl
  rw [hm, Array.toList_push]
  refine ⟨⟨l ++ [_], h1.append_right _, h2.append (.cons ⟨rfl, hv⟩ .nil)⟩, ?_, ?_, ?_⟩
  · rw [List.map_append, List.nodup_append]
    refine ⟨h.keys, by simp, ?_⟩
    intro a ha b hb hab
    simp only [List.map_cons, List.map_nil, List.mem_singleton] at hb
    simp only [List.mem_map] at ha
    obtain ⟨kv, hkv, rfl⟩ := ha
    have := List.any_eq_false.1 hany kv hkv
    simp at this
    exact this (hab.trans hb)
  · rw [List.map_append, List.nodup_append]
    refine ⟨h.born, by simp, ?_⟩
    intro a ha b hb hab
    simp only [List.map_cons, List.map_nil, List.mem_singleton] at hb
    simp only [List.mem_map] at ha
    obtain ⟨e, he, rfl⟩ := ha
    have := h.clock e he
    omega
  · intro e he
    rcases List.mem_append.1 he with h3 | h3
    · have := h.clock e h3; omega
    · simp only [List.mem_singleton] at h3
      subst h3
      simp

theorem F2.filter {α β : Type} {R : α → β → Prop} {p : α → Bool} {q : β → Bool} {l : List α} {m : List β} (h : F2 R l m) (hpq : ∀ b ∈ m, ∀ a, R a b → p a = q b) : F2 R (l.filter p) (m.filter q) := by
  induction h with
  | nil => exact .nil
  | @cons a b l' m' h1 _ ih =>
    have := hpq b List.mem_cons_self a h1
    have ih' := ih fun b hb => hpq b (List.mem_cons_of_mem _ hb)
    simp only [List.filter_cons, this]
    split
    · exact .cons h1 ih'
    · exact ih'

theorem MRel.del {ρ : Rho} {k : IntKind} {m : List (Int × Value)} {es : Array MapEntry} {clock i : Nat} {e₀ : MapEntry} (h : MRel ρ k m es.toList clock) (n : Int)
    (hi : es[i]? = some e₀) (hk : e₀.key = .int k n) : MRel ρ k (mdel m n) (es.eraseIdxIfInBounds i).toList clock := by
  obtain ⟨l, h1, h2⟩ := h.perm
  obtain ⟨a1, a2⟩ := h.entries
  have hlt : i < es.size := (Array.getElem?_eq_some_iff.1 hi).1
  let q : MapEntry → Bool := fun e => !(e.born == e₀.born)
  have hmem : e₀ ∈ es.toList := List.mem_of_getElem? (by simpa using hi)
  have hborn : ∀ e ∈ es.toList, e.born = e₀.born → e = e₀ := fun e he hb => born_eq h.born he hmem hb
  have herase : (es.eraseIdxIfInBounds i).toList = es.toList.filter q := by
    have e1 : (es.eraseIdxIfInBounds i).toList = es.toList.eraseIdx i := by
      unfold Array.eraseIdxIfInBounds
      rw [dif_pos hlt, Array.toList_eraseIdx]
    rw [e1]
    have hn := h.born
    have hi' : es.toList[i]? = some e₀ := by simpa using hi
    clear hborn h1 h2 a1 a2 h hmem hlt e1 hi
    generalize es.toList = xs at hn hi' ⊢
    induction xs generalizing i with
    | nil => simp at hi'
    | cons x xs ih =>
      simp only [List.map_cons, List.nodup_cons, List.mem_map, not_exists, not_and] at hn
      cases i with
      | zero =>
        simp only [List.getElem?_cons_zero, Option.some.injEq] at hi'
        subst hi'
        simp only [List.eraseIdx_cons_zero, List.filter_cons, q, beq_self_eq_true, Bool.not_true, Bool.false_eq_true, if_false]
        symm
        rw [List.filter_eq_self]
        intro e he
        have := hn.1 e he
        simpa using this
      | succ i =>
        simp only [List.getElem?_cons_succ] at hi'
        have hx : x.born ≠ e₀.born := fun hb => hn.1 e₀ (List.mem_of_getElem? hi') hb.symm
        have hq : q x = true := by simp [q, hx]
        simp only [List.eraseIdx_cons_succ, List.filter_cons, hq, if_true]
        rw [ih hn.2 hi']
  rw [herase]
  refine ⟨⟨l.filter q, h1.filter q, ?_⟩, ?_, ?_, ?_⟩
  · unfold mdel
    refine h2.filter ?_
    intro e he kv hR
    have he' := h1.mem_iff.1 he
    simp only [q]
    congr 1
    by_cases hkn : kv.1 = n
    · have : e = e₀ := pairwise_key_eq a2 he' hmem (by rw [hR.1, hk, hkn])
      simp [hkn, this]
    · have : e.born ≠ e₀.born := fun hb => hkn (by
        have := hborn e he' hb
        rw [this, hk] at hR
        have := hR.1
        injection this with _ this
        exact this.symm)
      rw [beq_eq_false_iff_ne.2 hkn, beq_eq_false_iff_ne.2 this]
  · unfold mdel
    exact h.keys.sublist (List.Sublist.map _ List.filter_sublist)
  · exact h.born.sublist (List.Sublist.map _ List.filter_sublist)
  · intro e he; exact h.clock e (List.mem_filter.1 he).1

theorem MRel.del_none {ρ : Rho} {k : IntKind} {m : List (Int × Value)} {es : Array MapEntry} {clock : Nat} (h : MRel ρ k m es.toList clock) (n : Int) (hn : mget m n = none) : MRel ρ k (mdel m n) es.toList clock := by
  have : mdel m n = m := by
    unfold mdel
    rw [List.filter_eq_self]
    intro kv hkv
    have := List.any_eq_false.1 (mget_none_any hn) kv hkv
    simpa using this
  rw [this]; exact h

end Go.Sh
