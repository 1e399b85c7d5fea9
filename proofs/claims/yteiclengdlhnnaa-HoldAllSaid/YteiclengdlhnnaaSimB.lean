/- copy, clear, len; texts and bytes; maps by numbers. -/
import Derived.Test.YteiclengdlhnnaaSimA
import Derived.Scope
namespace Go.Sh
open Go

/-! ### len -/

def sLen (P : Program) (argTypes : Array TypeId) (args : Array Value) (s : SW) : Option Value :=
  match (argTypes[0]? : Option TypeId), (args[0]? : Option Value) with
  | some t, some x =>
    match P.underlying t, x with
    | some .string, .string b => some (.int .i64 b.size)
    | some (.array n _), _ => some (.int .i64 n)
    | some (.slice _), .slice _ n _ => some (.int .i64 n)
    | some (.map _ _), .map none => some (.int .i64 0)
    | some (.map _ _), .map (some i) =>
      match s.heap i with
      | some (.map _ _ m) => some (.int .i64 m.length)
      | _ => none
    | _, _ => none
  | _, _ => none

theorem VRel.map_inv {ρ : Rho} {i : Nat} {rv : Value} (h : VRel ρ (.map (some i)) rv) : ∃ p, ρ i = some p ∧ rv = .map (some p.r) := by
  cases h with
  | plain h0 => simp [pl0] at h0
  | map hp => exact ⟨_, hp, rfl⟩

theorem HRel.mapAt {ρ : Rho} {s : SW} {w : World} (h : HRel ρ s w) {i : Nat} {k : IntKind} {own : Bool} {m : List (Int × Value)} {p : Pl} (hi : s.heap i = some (.map k own m)) (hp : ρ i = some p) :
    ∃ es clock, w.heap[p.r]? = some (.map es clock) ∧ MRel ρ k m es.toList clock := by
  obtain ⟨q, hq, ho⟩ := h.place hi
  rw [hp] at hq; cases hq
  cases hb : w.heap[p.r]? with
  | none => rw [hb] at ho; exact ho.elim
  | some ob =>
    rw [hb] at ho
    cases ob with
    | map es clock => exact ⟨es, clock, rfl, ho⟩
    | _ => exact ho.elim

theorem run_getObj_map {P : Program} {w : World} {r : Nat} {es : Array MapEntry} {clock : Nat} (h : w.heap[r]? = some (.map es clock)) : (getObj r).run P w = .ok (.map es clock) w := by
  simp [getObj, Sem.run, h]

theorem MRel.length {ρ : Rho} {k : IntKind} {m : List (Int × Value)} {es : List MapEntry} {clock : Nat} (h : MRel ρ k m es clock) : m.length = es.length := by
  obtain ⟨l, h1, h2⟩ := h.perm
  rw [h2.length, h1.length_eq]

theorem sLen_ok {P : Program} {ρ : Rho} {s : SW} {w : World} {argTypes : Array TypeId} {args rargs : Array Value} {v : Value} (hr : HRel ρ s w) (h : sLen P argTypes args s = some v)
    (ha : F2 (VRel ρ) args.toList rargs.toList) (t : TypeId) : pl0 v = true ∧ (Builtin.len_ argTypes t rargs).run P w = .ok v w := by
  unfold sLen at h
  split at h
  · rename_i tT x hT hA
    obtain ⟨rx, hB, hx⟩ := getD_args ha hA
    unfold Builtin.len_
    rw [hT, hB]
    split at h
    · rename_i ht
      obtain rfl := hx.string
      cases h
      exact ⟨rfl, by simp [run_underlying' w ht, goInt]⟩
    · rename_i ht
      cases h
      refine ⟨rfl, ?_⟩
      simp only [Sem.run_bind, run_underlying' w ht, Result.andThen_ok]
      cases rx <;> simp [goInt]
    · rename_i ht
      cases h
      refine ⟨rfl, ?_⟩
      simp only [Sem.run_bind, run_underlying' w ht, Result.andThen_ok]
      cases hx <;> simp [goInt]
    · rename_i ht
      cases h
      refine ⟨rfl, ?_⟩
      simp only [Sem.run_bind, run_underlying' w ht, Result.andThen_ok]
      cases hx <;> simp [goInt]
    · rename_i i ht
      split at h
      · rename_i k own m hi
        cases h
        obtain ⟨p, hp, rfl⟩ := hx.map_inv
        obtain ⟨es, clock, h1, h2⟩ := hr.mapAt hi hp
        refine ⟨rfl, ?_⟩
        simp only [Sem.run_bind, run_underlying' w ht, Result.andThen_ok, run_getObj_map h1]
        simp [goInt, h2.length]
      · cases h
    · cases h
  · cases h

/-! ### maps -/

def mget (m : List (Int × Value)) (n : Int) : Option Value := (m.find? fun kv => kv.1 == n).map (·.2)
def mput (m : List (Int × Value)) (n : Int) (v : Value) : List (Int × Value) :=
  if (m.any fun kv => kv.1 == n) then m.map fun kv => if kv.1 == n then (n, v) else kv else m ++ [(n, v)]
def mdel (m : List (Int × Value)) (n : Int) : List (Int × Value) := m.filter fun kv => !(kv.1 == n)

/-- The keys of the model's entries are such numbers, no one twice. -/
theorem MRel.entries {ρ : Rho} {k : IntKind} {m : List (Int × Value)} {es : List MapEntry} {clock : Nat} (h : MRel ρ k m es clock) :
    (∀ e ∈ es, ∃ n, e.key = .int k n) ∧ es.Pairwise (fun a b => a.key ≠ b.key) := by
  obtain ⟨l, h1, h2⟩ := h.perm
  have hk := h.keys
  have a1 : ∀ e ∈ l, ∃ kv ∈ m, e.key = .int k kv.1 := by
    clear hk h1 h
    induction h2 with
    | nil => intro e he; cases he
    | cons hh _ ih =>
      intro e he
      rcases List.mem_cons.1 he with rfl | he
      · exact ⟨_, List.mem_cons_self, hh.1⟩
      · obtain ⟨kv, h3, h4⟩ := ih e he
        exact ⟨kv, List.mem_cons_of_mem _ h3, h4⟩
  have a2 : l.Pairwise (fun a b => a.key ≠ b.key) := by
    clear a1 h1 h
    induction h2 with
    | nil => exact .nil
    | @cons kv e m' l' hh hrest ih =>
      simp only [List.map_cons, List.nodup_cons] at hk
      refine List.Pairwise.cons ?_ (ih hk.2)
      intro e' he' heq
      have : ∃ kv' ∈ m', e'.key = .int k kv'.1 := by
        clear ih hk heq
        induction hrest with
        | nil => cases he'
        | cons hh' _ ih' =>
          rcases List.mem_cons.1 he' with rfl | he'
          · exact ⟨_, List.mem_cons_self, hh'.1⟩
          · obtain ⟨kv', h3, h4⟩ := ih' he'
            exact ⟨kv', List.mem_cons_of_mem _ h3, h4⟩
      obtain ⟨kv', h3, h4⟩ := this
      rw [hh.1, h4] at heq
      have e1 : kv.1 = kv'.1 := by injection heq
      exact hk.1 (by rw [e1]; exact List.mem_map_of_mem h3)
  refine ⟨fun e he => ?_, ?_⟩
  · obtain ⟨kv, _, h4⟩ := a1 e (h1.mem_iff.2 he)
    exact ⟨_, h4⟩
  · exact (h1.pairwise_iff (fun h5 h6 => h5 h6.symm)).1 a2

/-- The entry of a number. -/
theorem findNow_int {k : IntKind} {kk : IntKind} (n : Int) : ∀ (es : List MapEntry) (j : Nat), (∀ e ∈ es, ∃ n, e.key = .int k n) →
    ∃ r, Instr.findNow (.int kk) (.int k n) es j = some r ∧
      ((r = none ∧ ∀ e ∈ es, e.key ≠ .int k n) ∨ (∃ i e, r = some (j + i, e.val) ∧ es[i]? = some e ∧ e.key = .int k n)) := by
  intro es
  induction es with
  | nil => intro j _; exact ⟨none, rfl, .inl ⟨rfl, fun e he => (by cases he)⟩⟩
  | cons e es ih =>
    intro j h
    obtain ⟨n', hn'⟩ := h e List.mem_cons_self
    simp only [Instr.findNow, hn', Instr.sameNow, if_true]
    by_cases hnn : n = n'
    · subst hnn
      simp only [beq_self_eq_true]
      exact ⟨_, rfl, .inr ⟨0, e, by simp, rfl, hn'⟩⟩
    · have : (n == n') = false := by simpa using hnn
      simp only [this]
      obtain ⟨r, h1, h2⟩ := ih (j + 1) (fun e he => h e (List.mem_cons_of_mem _ he))
      refine ⟨r, h1, ?_⟩
      rcases h2 with ⟨h3, h4⟩ | ⟨i, e', h3, h4, h5⟩
      · refine .inl ⟨h3, fun e' he' => ?_⟩
        rcases List.mem_cons.1 he' with rfl | he'
        · rw [hn']; intro heq; injection heq with _ heq; exact hnn heq.symm
        · exact h4 e' he'
      · exact .inr ⟨i + 1, e', by rw [h3]; congr 2; omega, by simpa using h4, h5⟩

theorem MRel.get {ρ : Rho} {k : IntKind} {m : List (Int × Value)} {es : List MapEntry} {clock : Nat} (h : MRel ρ k m es clock) (n : Int) :
    (mget m n = none → ∀ e ∈ es, e.key ≠ .int k n) ∧ (∀ v, mget m n = some v → ∃ e ∈ es, e.key = .int k n ∧ VRel ρ v e.val) := by
  obtain ⟨l, h1, h2⟩ := h.perm
  have : (mget m n = none → ∀ e ∈ l, e.key ≠ .int k n) ∧ (∀ v, mget m n = some v → ∃ e ∈ l, e.key = .int k n ∧ VRel ρ v e.val) := by
    clear h1 h
    induction h2 with
    | nil => exact ⟨fun _ e he => (by cases he), fun v hv => (by simp [mget] at hv)⟩
    | @cons kv e m' l' hh _ ih =>
      by_cases hkv : kv.1 = n
      · have hg : mget (kv :: m') n = some kv.2 := by simp [mget, hkv]
        rw [hg]
        refine ⟨fun h => (by cases h), fun v hv => ?_⟩
        cases hv
        exact ⟨e, List.mem_cons_self, by rw [hh.1, hkv], hh.2⟩
      · have hg : mget (kv :: m') n = mget m' n := by simp [mget, hkv]
        rw [hg]
        refine ⟨fun h e' he' => ?_, fun v hv => ?_⟩
        · rcases List.mem_cons.1 he' with rfl | he'
          · rw [hh.1]; intro heq; injection heq with _ heq; exact hkv heq
          · exact ih.1 h e' he'
        · obtain ⟨e', a, b⟩ := ih.2 v hv
          exact ⟨e', List.mem_cons_of_mem _ a, b⟩
  exact ⟨fun h e he => this.1 h e (h1.mem_iff.2 he), fun v hv => let ⟨e, a, b⟩ := this.2 v hv; ⟨e, h1.mem_iff.1 a, b⟩⟩

theorem pairwise_key_eq {es : List MapEntry} (h : es.Pairwise (fun a b => a.key ≠ b.key)) {e e' : MapEntry} (he : e ∈ es) (he' : e' ∈ es) (hk : e.key = e'.key) : e = e' := by
  induction h generalizing e e' with
  | nil => cases he
  | cons h1 _ ih =>
    rcases List.mem_cons.1 he with h2 | h2
    · rcases List.mem_cons.1 he' with h3 | h3
      · rw [h2, h3]
      · exact absurd (h2 ▸ hk) (h1 _ h3)
    · rcases List.mem_cons.1 he' with h3 | h3
      · exact absurd (h3 ▸ hk.symm) (h1 _ h2)
      · exact ih h2 h3 hk

/-- The law of a look-up. -/
theorem run_findKey_int {P : Program} {ρ : Rho} {k : IntKind} {m : List (Int × Value)} {es : Array MapEntry} {clock : Nat} (h : MRel ρ k m es.toList clock) {kt : TypeId} {kk : IntKind} (hk : P.underlying kt = some (.int kk)) (n : Int) (w : World) :
    (mget m n = none ∧ (Instr.findKey kt (.int k n) es.toList).run P w = .ok none w ∧ ∀ e ∈ es.toList, e.key ≠ .int k n) ∨
    (∃ v i e, mget m n = some v ∧ es[i]? = some e ∧ e.key = .int k n ∧ VRel ρ v e.val ∧ (Instr.findKey kt (.int k n) es.toList).run P w = .ok (some (i, e.val)) w) := by
  obtain ⟨g1, g2⟩ := h.get n
  obtain ⟨a1, a2⟩ := h.entries
  obtain ⟨r, h1, h2⟩ := findNow_int (k := k) (kk := kk) n es.toList 0 a1
  have hrun : (Instr.findKey kt (.int k n) es.toList).run P w = .ok r w := by
    simp only [Instr.findKey, Sem.run_bind, run_underlying' w hk, Result.andThen_ok, h1, Sem.run_pure]
  cases hg : mget m n with
  | none =>
    left
    refine ⟨rfl, ?_, g1 hg⟩
    rcases h2 with ⟨h3, _⟩ | ⟨i, e, h3, h4, h5⟩
    · rw [hrun, h3]
    · exact absurd h5 (g1 hg e (List.mem_of_getElem? h4))
  | some v =>
    right
    obtain ⟨e, b1, b2, b3⟩ := g2 v hg
    rcases h2 with ⟨_, h4⟩ | ⟨i, e', h3, h4, h5⟩
    · exact absurd b2 (h4 e b1)
    · have : e' = e := pairwise_key_eq a2 (List.mem_of_getElem? h4) b1 (h5.trans b2.symm)
      subst this
      exact ⟨v, i, e', rfl, by simpa using h4, h5, b3, by rw [hrun, h3]; simp⟩

end Go.Sh

/- The operations upon maps. -/
namespace Go.Sh
open Go

theorem MRel.nil (ρ : Rho) (k : IntKind) : MRel ρ k [] [] 0 := ⟨⟨[], .nil, .nil⟩, .nil, .nil, fun e he => by cases he⟩

theorem born_eq : ∀ {xs : List MapEntry}, (xs.map (·.born)).Nodup → ∀ {e e₀ : MapEntry}, e ∈ xs → e₀ ∈ xs → e.born = e₀.born → e = e₀
  | [], _, _, _, he, _, _ => by cases he
  | x :: xs, hn, e, e₀, he, hmem, hb => by
    simp only [List.map_cons, List.nodup_cons, List.mem_map, not_exists, not_and] at hn
    rcases List.mem_cons.1 he with h3 | h3 <;> rcases List.mem_cons.1 hmem with h4 | h4
    · rw [h3, h4]
    · subst h3; exact absurd hb.symm (hn.1 e₀ h4)
    · subst h4; exact absurd hb (hn.1 e h3)
    · exact born_eq hn.2 h3 h4 hb

/-- What is put at a number. -/
theorem MRel.put {ρ : Rho} {k : IntKind} {m : List (Int × Value)} {es : Array MapEntry} {clock i : Nat} {e₀ : MapEntry} (h : MRel ρ k m es.toList clock) (n : Int) {v rv : Value} (hv : VRel ρ v rv)
    (hi : es[i]? = some e₀) (hk : e₀.key = .int k n) : MRel ρ k (mput m n v) (es.modify i fun e => { e with key := .int k n, val := rv }).toList clock := by
  obtain ⟨l, h1, h2⟩ := h.perm
  obtain ⟨a1, a2⟩ := h.entries
  let f : MapEntry → MapEntry := fun e => if e.born = e₀.born then { e with key := .int k n, val := rv } else e
  have hmem : e₀ ∈ es.toList := List.mem_of_getElem? (by simpa using hi)
  have hborn : ∀ e ∈ es.toList, e.born = e₀.born → e = e₀ := fun e he hb => born_eq h.born he hmem hb
  have hmod : (es.modify i fun e => { e with key := .int k n, val := rv }).toList = es.toList.map f := by
    apply List.ext_getElem?
    intro j
    rw [List.getElem?_map, Array.getElem?_toList, Array.getElem?_modify, Array.getElem?_toList]
    by_cases hij : i = j
    · subst hij
      simp [hi, f]
    · simp only [hij, if_false]
      cases hj : es[j]? with
      | none => rfl
      | some e =>
        simp only [Option.map_some]
        congr 1
        have he : e ∈ es.toList := List.mem_of_getElem? (by simpa using hj)
        have : e.born ≠ e₀.born := by
          intro hb
          have hee := hborn e he hb
          subst hee
          have hn := h.born
          have h5 : (es.toList.map (·.born))[i]? = some e.born := by simp [hi]
          have h6 : (es.toList.map (·.born))[j]? = some e.born := by simp [hj]
          have hli : i < (es.toList.map (·.born)).length := (List.getElem?_eq_some_iff.1 h5).1
          exact hij ((List.getElem?_inj hli hn).1 (h5.trans h6.symm))
        simp [f, this]
  have hany : (m.any fun kv => kv.1 == n) = true := by
    have : ∃ e ∈ l, e.key = .int k n := ⟨e₀, h1.mem_iff.2 (List.mem_of_getElem? (by simpa using hi)), hk⟩
    clear hmod hborn h1 h hmem
    induction h2 with
    | nil => obtain ⟨e, he, _⟩ := this; cases he
    | cons hh _ ih =>
      obtain ⟨e, he, hek⟩ := this
      rcases List.mem_cons.1 he with h3 | h3
      · subst h3
        rw [hh.1] at hek
        injection hek with _ hek
        simp [hek]
      · simp [ih ⟨e, h3, hek⟩]
  have hF : F2 (fun kv e => e.key = .int k kv.1 ∧ VRel ρ kv.2 e.val) (mput m n v) (l.map f) := by
    unfold mput
    rw [if_pos hany]
    have hb2 : ∀ e ∈ l, (e.born = e₀.born ↔ e.key = .int k n) := by
      intro e he
      have he' := h1.mem_iff.1 he
      constructor
      · intro hb; rw [hborn e he' hb]; exact hk
      · intro hke; rw [pairwise_key_eq a2 he' (List.mem_of_getElem? (by simpa using hi)) (hke.trans hk.symm)]
    clear hmod hborn h1 hany h hmem
    induction h2 with
    | nil => exact .nil
    | @cons kv e m' l' hh _ ih =>
      simp only [List.map_cons]
      refine .cons ?_ (ih fun e he => hb2 e (List.mem_cons_of_mem _ he))
      have h3 := hb2 e List.mem_cons_self
      rw [hh.1] at h3
      by_cases hkn : kv.1 = n
      · have : e.born = e₀.born := h3.2 (by rw [hkn])
        simp [hkn, f, this, hv]
      · have : ¬ e.born = e₀.born := fun hb => hkn (by have := h3.1 hb; injection this)
        simp only [f, this, if_false]
        have : (kv.1 == n) = false := by simpa using hkn
        simp only [this]
        exact hh
  rw [hmod]
  refine ⟨⟨l.map f, h1.map f, hF⟩, ?_, ?_, ?_⟩
  · have : (mput m n v).map Prod.fst = m.map Prod.fst := by
      unfold mput
      rw [if_pos hany, List.map_map]
      apply List.map_congr_left
      intro kv _
      simp only [Function.comp]
      split
      · rename_i h3; simpa using (beq_iff_eq.1 h3).symm
      · rfl
    rw [this]; exact h.keys
  · have : (es.toList.map f).map (·.born) = es.toList.map (·.born) := by
      rw [List.map_map]
      apply List.map_congr_left
      intro e _
      simp only [Function.comp, f]
      split <;> rfl
    rw [this]; exact h.born
  · intro e he
    simp only [List.mem_map] at he
    obtain ⟨e', he', rfl⟩ := he
    have := h.clock e' he'
    simp only [f]
    split <;> exact this

theorem mget_none_any {m : List (Int × Value)} {n : Int} (h : mget m n = none) : (m.any fun kv => kv.1 == n) = false := by
  induction m with
  | nil => rfl
  | cons kv m ih =>
    by_cases hkv : kv.1 = n
    · simp [mget, hkv] at h
    · have hb : (kv.1 == n) = false := by simpa using hkv
      simp only [List.any_cons, hb, Bool.false_or]
      exact ih (by simpa [mget, hb] using h)

theorem MRel.push {ρ : Rho} {k : IntKind} {m : List (Int × Value)} {es : Array MapEntry} {clock : Nat} (h : MRel ρ k m es.toList clock) (n : Int) {v rv : Value} (hv : VRel ρ v rv)
    (hn : mget m n = none) : MRel ρ k (mput m n v) (es.push { key := .int k n, val := rv, born := clock }).toList (clock + 1) := by
  obtain ⟨l, h1, h2⟩ := h.perm
  have hany := mget_none_any hn
  have hm : mput m n v = m ++ [(n, v)] := by unfold mput; rw [hany]; rfl
  rw [hm, Array.toList_push]
  refine ⟨⟨l ++ [_], h1.append_right _, h2.append (.cons ⟨rfl, hv⟩ .nil)⟩, ?_, ?_, ?_⟩
  · rw [List.map_append, List.nodup_append]
    refine ⟨h.keys, by simp, ?_⟩
    intro a ha b hb hab
    simp only [List.map_cons, List.map_nil, List.mem_singleton] at hb
    simp only [List.mem_map] at ha
    obtain ⟨kv, hkv, rfl⟩ := ha
    have := List.any_eq_false.1 hany kv hkv
    simp at this
    exact this (hab.trans hb)
  · rw [List.map_append, List.nodup_append]
    refine ⟨h.born, by simp, ?_⟩
    intro a ha b hb hab
    simp only [List.map_cons, List.map_nil, List.mem_singleton] at hb
    simp only [List.mem_map] at ha
    obtain ⟨e, he, rfl⟩ := ha
    have := h.clock e he
    omega
  · intro e he
    rcases List.mem_append.1 he with h3 | h3
    · have := h.clock e h3; omega
    · simp only [List.mem_singleton] at h3
      subst h3
      simp

theorem F2.filter {α β : Type} {R : α → β → Prop} {p : α → Bool} {q : β → Bool} {l : List α} {m : List β} (h : F2 R l m) (hpq : ∀ b ∈ m, ∀ a, R a b → p a = q b) : F2 R (l.filter p) (m.filter q) := by
  induction h with
  | nil => exact .nil
  | @cons a b l' m' h1 _ ih =>
    have := hpq b List.mem_cons_self a h1
    have ih' := ih fun b hb => hpq b (List.mem_cons_of_mem _ hb)
    simp only [List.filter_cons, this]
    split
    · exact .cons h1 ih'
    · exact ih'

theorem MRel.del {ρ : Rho} {k : IntKind} {m : List (Int × Value)} {es : Array MapEntry} {clock i : Nat} {e₀ : MapEntry} (h : MRel ρ k m es.toList clock) (n : Int)
    (hi : es[i]? = some e₀) (hk : e₀.key = .int k n) : MRel ρ k (mdel m n) (es.eraseIdxIfInBounds i).toList clock := by
  obtain ⟨l, h1, h2⟩ := h.perm
  obtain ⟨a1, a2⟩ := h.entries
  have hlt : i < es.size := (Array.getElem?_eq_some_iff.1 hi).1
  let q : MapEntry → Bool := fun e => !(e.born == e₀.born)
  have hmem : e₀ ∈ es.toList := List.mem_of_getElem? (by simpa using hi)
  have hborn : ∀ e ∈ es.toList, e.born = e₀.born → e = e₀ := fun e he hb => born_eq h.born he hmem hb
  have herase : (es.eraseIdxIfInBounds i).toList = es.toList.filter q := by
    have e1 : (es.eraseIdxIfInBounds i).toList = es.toList.eraseIdx i := by
      unfold Array.eraseIdxIfInBounds
      rw [dif_pos hlt, Array.toList_eraseIdx]
    rw [e1]
    have hn := h.born
    have hi' : es.toList[i]? = some e₀ := by simpa using hi
    clear hborn h1 h2 a1 a2 h hmem hlt e1 hi
    generalize es.toList = xs at hn hi' ⊢
    induction xs generalizing i with
    | nil => simp at hi'
    | cons x xs ih =>
      simp only [List.map_cons, List.nodup_cons, List.mem_map, not_exists, not_and] at hn
      cases i with
      | zero =>
        simp only [List.getElem?_cons_zero, Option.some.injEq] at hi'
        subst hi'
        simp only [List.eraseIdx_cons_zero, List.filter_cons, q, beq_self_eq_true, Bool.not_true, Bool.false_eq_true, if_false]
        symm
        rw [List.filter_eq_self]
        intro e he
        have := hn.1 e he
        simpa using this
      | succ i =>
        simp only [List.getElem?_cons_succ] at hi'
        have hx : x.born ≠ e₀.born := fun hb => hn.1 e₀ (List.mem_of_getElem? hi') hb.symm
        have hq : q x = true := by simp [q, hx]
        simp only [List.eraseIdx_cons_succ, List.filter_cons, hq, if_true]
        rw [ih hn.2 hi']
  rw [herase]
  refine ⟨⟨l.filter q, h1.filter q, ?_⟩, ?_, ?_, ?_⟩
  · unfold mdel
    refine h2.filter ?_
    intro e he kv hR
    have he' := h1.mem_iff.1 he
    simp only [q]
    congr 1
    by_cases hkn : kv.1 = n
    · have : e = e₀ := pairwise_key_eq a2 he' hmem (by rw [hR.1, hk, hkn])
      simp [hkn, this]
    · have : e.born ≠ e₀.born := fun hb => hkn (by
        have := hborn e he' hb
        rw [this, hk] at hR
        have := hR.1
        injection this with _ this
        exact this.symm)
      rw [beq_eq_false_iff_ne.2 hkn, beq_eq_false_iff_ne.2 this]
  · unfold mdel
    exact h.keys.sublist (List.Sublist.map _ List.filter_sublist)
  · exact h.born.sublist (List.Sublist.map _ List.filter_sublist)
  · intro e he; exact h.clock e (List.mem_filter.1 he).1

theorem MRel.del_none {ρ : Rho} {k : IntKind} {m : List (Int × Value)} {es : Array MapEntry} {clock : Nat} (h : MRel ρ k m es.toList clock) (n : Int) (hn : mget m n = none) : MRel ρ k (mdel m n) es.toList clock := by
  have : mdel m n = m := by
    unfold mdel
    rw [List.filter_eq_self]
    intro kv hkv
    have := List.any_eq_false.1 (mget_none_any hn) kv hkv
    simpa using this
  rw [this]; exact h

end Go.Sh

/- The operations upon maps, as they run; copy, clear, texts and bytes. -/
namespace Go.Sh
open Go

def sMakeMap (P : Program) (k : TypeId) (s : SW) : Option (Value × SW) :=
  match P.underlying k with
  | some (.map kt _) =>
    match P.underlying kt with
    | some (.int kk) => some (.map (some s.next), s.new (.map kk true []))
    | _ => none
  | _ => none

theorem sMakeMap_ok {P : Program} {ρ : Rho} {s s' : SW} {w : World} {t : TypeId} {v : Value} (hr : HRel ρ s w) (h : sMakeMap P t s = some (v, s')) (res : Option Value) (hres : ∀ x, res = some x → ∃ k n, x = .int k n) :
    Good P (Instr.makeMap t res) ρ s w v s' := by
  unfold sMakeMap at h
  split at h
  · rename_i kt et ht
    split at h
    · rename_i kk hk
      cases h
      have hold : ∀ r, r < w.heap.size → (w.alloc (.map #[] 0)).heap[r]? = w.heap[r]? := fun r hr => RowKit.Below.heap_alloc _ _ _ hr
      have hnew : (w.alloc (.map #[] 0)).heap[w.heap.size]? = some (.map #[] 0) := by show (w.heap.push _)[w.heap.size]? = _; simp
      have h1 := hr.alloc (o := .map kk true []) (p := ⟨w.heap.size, 0, 0, 0, 0⟩) (w' := w.alloc (.map #[] 0)) rfl hold (by
        simp only [hnew]; exact MRel.nil _ _)
      have h2 := Ext.alloc hr (o := .map kk true []) (p := ⟨w.heap.size, 0, 0, 0, 0⟩) (w' := w.alloc (.map #[] 0)) rfl hold (by simp) ⟨rfl, rfl, rfl⟩
      refine ⟨_, _, .map (some w.heap.size), ?_, .map Rho.upd_same, h1, h2⟩
      cases res with
      | none => simp [Instr.makeMap]
      | some x =>
        obtain ⟨k, n, rfl⟩ := hres x rfl
        simp [Instr.makeMap, run_underlying' w ht, asInt, asIntOf]
    · cases h
  · cases h

def sLookup (P : Program) (t : TypeId) (x ix : Value) (ok : Bool) (s : SW) : Option Value :=
  match ix with
  | .int k n =>
    match P.underlying t with
    | some (.map kt et) =>
      match P.underlying kt, zeroV P et with
      | some (.int _), some z =>
        if pl1 z = true then
          match x with
          | .map none => some (if ok then .tuple #[z, .bool false] else z)
          | .map (some i) =>
            match s.heap i with
            | some (.map kk _ m) =>
              if kk = k then
                some (if ok then .tuple #[(mget m n).getD z, .bool (mget m n).isSome] else (mget m n).getD z)
              else none
            | _ => none
          | _ => none
        else none
      | _, _ => none
    | _ => none
  | _ => none

theorem run_checkKey_int' {P : Program} {kt : TypeId} {kk : IntKind} (h : P.underlying kt = some (.int kk)) (b : Bool) (d : Nat) (k : IntKind) (n : Int) (w : World) : (Instr.checkKey b (d + 1) kt (.int k n)).run P w = .ok () w := by
  simp only [Instr.checkKey, Sem.run_bind, run_underlying' w h, Result.andThen_ok, Sem.run_pure]

theorem run_checkKey_int {P : Program} {kt : TypeId} {kk : IntKind} (h : P.underlying kt = some (.int kk)) (b : Bool) (k : IntKind) (n : Int) (w : World) : (Instr.checkKey b 10000 kt (.int k n)).run P w = .ok () w :=
  run_checkKey_int' h b 9999 k n w

theorem VRel.pair {ρ : Rho} {a b ra rb : Value} (h : VRel ρ a ra) (k : VRel ρ b rb) : VRel ρ (.tuple #[a, b]) (.tuple #[ra, rb]) := by
  refine .tuple rfl fun i v v' h1 h2 => ?_
  match i with
  | 0 => simp at h1 h2; subst h1 h2; exact h
  | 1 => simp at h1 h2; subst h1 h2; exact k
  | i + 2 => simp at h1

theorem sLookup_ok {P : Program} {ρ : Rho} {s : SW} {w : World} {t : TypeId} {x ix v rx rix : Value} {ok : Bool} (hr : HRel ρ s w) (h : sLookup P t x ix ok s = some v) (hx : VRel ρ x rx) (hi : VRel ρ ix rix) :
    ∃ rv, VRel ρ v rv ∧ (Instr.lookup t rx rix ok).run P w = .ok rv w := by
  unfold sLookup at h
  split at h
  · rename_i k n
    obtain rfl := hi.int
    split at h
    · rename_i kt et ht
      split at h
      · rename_i kk z hk hz
        split at h
        · rename_i hz1
          split at h
          · cases h
            obtain rfl : rx = .map none := by cases hx; rfl
            refine ⟨if ok then .tuple #[z, .bool false] else z, ?_, ?_⟩
            rotate_left
            · simp only [Instr.lookup, Sem.run_bind, run_underlying' w ht, Result.andThen_ok, Sem.run_pure, run_checkKey_int hk, Instr.findKey, run_underlying' w hk, run_zeroValue' w hz]
              simp only [Instr.findNow, Sem.run_pure, Result.andThen_ok, Sem.run_bind, run_zeroValue' w hz]
            · cases ok
              · exact VRel.of_pl1 hz1
              · exact (VRel.of_pl1 hz1).pair (.plain rfl)
          · rename_i i
            split at h
            · rename_i kk' own m him
              split at h
              · rename_i hkk
                subst hkk
                obtain ⟨p, hp, rfl⟩ := hx.map_inv
                obtain ⟨es, clock, h1, h2⟩ := hr.mapAt him hp
                rcases run_findKey_int (P := P) h2 hk n w with ⟨g1, g2, _⟩ | ⟨v', i', e, g1, g2, g3, g4, g5⟩
                · rw [g1] at h
                  simp only [Option.getD_none, Option.isSome_none] at h
                  cases h
                  refine ⟨if ok then .tuple #[z, .bool false] else z, ?_, ?_⟩
                  rotate_left
                  · simp only [Instr.lookup, Sem.run_bind, run_underlying' w ht, Result.andThen_ok, run_getObj_map h1, Sem.run_pure, run_checkKey_int hk, g2, run_zeroValue' w hz]
                  · cases ok
                    · exact VRel.of_pl1 hz1
                    · exact (VRel.of_pl1 hz1).pair (.plain rfl)
                · rw [g1] at h
                  simp only [Option.getD_some, Option.isSome_some] at h
                  cases h
                  refine ⟨if ok then .tuple #[e.val, .bool true] else e.val, ?_, ?_⟩
                  rotate_left
                  · simp only [Instr.lookup, Sem.run_bind, run_underlying' w ht, Result.andThen_ok, run_getObj_map h1, Sem.run_pure, run_checkKey_int hk, g5]
                  · cases ok
                    · exact g4
                    · exact g4.pair (.plain rfl)
              · cases h
            · cases h
          · cases h
        · cases h
      · cases h
    · cases h
  · cases h

def sMapUpdate (P : Program) (t : TypeId) (x ix v : Value) (s : SW) : Option SW :=
  match ix, x with
  | .int k n, .map (some i) =>
    match P.underlying t with
    | some (.map kt _) =>
      match P.underlying kt, s.heap i with
      | some (.int _), some (.map kk true m) => if kk = k then some (s.set i (.map kk true (mput m n v))) else none
      | _, _ => none
    | _ => none
  | _, _ => none

theorem setObj_map {P : Program} {w : World} {r : Nat} {es : Array MapEntry} {clock : Nat} (h : w.heap[r]? = some (.map es clock)) (o : Obj) :
    (setObj r o).run P w = .ok () { w with heap := w.heap.setIfInBounds r o } := by
  simp [setObj, Sem.run, h]

theorem setHeap_other {w : World} {r r' : Nat} {o : Obj} (h : r' ≠ r) : ({ w with heap := w.heap.setIfInBounds r o } : World).heap[r']? = w.heap[r']? := by
  show (w.heap.setIfInBounds r o)[r']? = _
  rw [Array.getElem?_setIfInBounds_ne (Ne.symm h)]

theorem setHeap_same {w : World} {r : Nat} {o : Obj} (h : r < w.heap.size) : ({ w with heap := w.heap.setIfInBounds r o } : World).heap[r]? = some o := by
  show (w.heap.setIfInBounds r o)[r]? = _
  rw [Array.getElem?_setIfInBounds_self_of_lt h]

theorem HRel.setMap {ρ : Rho} {s : SW} {w : World} (hr : HRel ρ s w) {i : Nat} {k : IntKind} {m m' : List (Int × Value)} {p : Pl} (hi : s.heap i = some (.map k true m)) (hp : ρ i = some p)
    {es : Array MapEntry} {clock : Nat} (h : MRel ρ k m' es.toList clock) :
    HRel ρ (s.set i (.map k true m')) { w with heap := w.heap.setIfInBounds p.r (.map es clock) } ∧ Ext ρ s w ρ (s.set i (.map k true m')) { w with heap := w.heap.setIfInBounds p.r (.map es clock) } := by
  have hlt := hr.lt_size hi hp
  exact ⟨hr.upd hi hp (fun r h => setHeap_other h) (by rw [setHeap_same hlt]; exact h), Ext.upd hi hp rfl (fun r h => setHeap_other h) (by simp) ⟨rfl, rfl, rfl⟩⟩

theorem run_keyThatStays_int {P : Program} (k : IntKind) (n : Int) (w : World) : (Instr.keyThatStays (.int k n) (.int k n)).run P w = .ok (.int k n) w := by
  simp [Instr.keyThatStays, Instr.sameBits]

theorem sMapUpdate_ok {P : Program} {ρ : Rho} {s s' : SW} {w : World} {t : TypeId} {x ix v rx rix rv : Value} (hr : HRel ρ s w) (h : sMapUpdate P t x ix v s = some s') (hx : VRel ρ x rx) (hi : VRel ρ ix rix) (hv : VRel ρ v rv) :
    ∃ w', (Instr.mapUpdate t rx rix rv).run P w = .ok () w' ∧ HRel ρ s' w' ∧ Ext ρ s w ρ s' w' := by
  unfold sMapUpdate at h
  split at h
  · rename_i k n i
    obtain rfl := hi.int
    split at h
    · rename_i kt et ht
      split at h
      · rename_i k0 kk m hk him
        split at h
        · rename_i hkk
          subst hkk
          cases h
          obtain ⟨p, hp, rfl⟩ := hx.map_inv
          obtain ⟨es, clock, h1, h2⟩ := hr.mapAt him hp
          rcases run_findKey_int (P := P) h2 hk n w with ⟨g1, g2, _⟩ | ⟨v', i', e, g1, g2, g3, g4, g5⟩
          · obtain ⟨k1, k2⟩ := hr.setMap him hp (h2.push n hv g1)
            refine ⟨_, ?_, k1, k2⟩
            simp only [Instr.mapUpdate, Sem.run_bind, run_underlying' w ht, Result.andThen_ok, run_getObj_map h1, run_checkKey_int hk, g2]
            rw [setObj_map h1]
          · obtain ⟨k1, k2⟩ := hr.setMap him hp (h2.put n hv g2 g3)
            refine ⟨_, ?_, k1, k2⟩
            simp only [Instr.mapUpdate, Sem.run_bind, run_underlying' w ht, Result.andThen_ok, run_getObj_map h1, run_checkKey_int hk, g5, g2, Option.map_some, Option.getD_some, g3, run_keyThatStays_int]
            rw [setObj_map h1]
        · cases h
      · cases h
    · cases h
  · cases h

def sDelete (P : Program) (argTypes : Array TypeId) (args : Array Value) (s : SW) : Option SW :=
  match (argTypes[0]? : Option TypeId), (args[0]? : Option Value), (args[1]? : Option Value) with
  | some t, some x, some ix =>
    match ix, P.underlying t with
    | .int k n, some (.map kt _) =>
      match P.underlying kt, x with
      | some (.int _), .map none => some s
      | some (.int _), .map (some i) =>
        match s.heap i with
        | some (.map kk true m) => if kk = k then some (s.set i (.map kk true (mdel m n))) else none
        | _ => none
      | _, _ => none
    | _, _ => none
  | _, _, _ => none

theorem sDelete_ok {P : Program} {ρ : Rho} {s s' : SW} {w : World} {argTypes : Array TypeId} {args rargs : Array Value} (hr : HRel ρ s w) (h : sDelete P argTypes args s = some s') (ha : F2 (VRel ρ) args.toList rargs.toList) (t : TypeId) :
    ∃ w', (Builtin.delete_ argTypes t rargs).run P w = .ok (.tuple #[]) w' ∧ HRel ρ s' w' ∧ Ext ρ s w ρ s' w' := by
  unfold sDelete at h
  split at h
  · rename_i tt x ix hT hA0 hA1
    obtain ⟨rx, hB0, hx⟩ := getD_args ha hA0
    obtain ⟨rix, hB1, hi⟩ := getD_args ha hA1
    unfold Builtin.delete_
    rw [hT, hB0, hB1]
    split at h
    · rename_i k n kt et ht
      obtain rfl := hi.int
      split at h
      · rename_i kk hk
        cases h
        obtain rfl : rx = .map none := by cases hx; rfl
        exact ⟨w, by simp [run_underlying' w ht, run_checkKey_int hk], hr, Ext.refl _ _ _⟩
      · rename_i kk i hk
        split at h
        · rename_i k' m him
          split at h
          · rename_i hkk
            subst hkk
            cases h
            obtain ⟨p, hp, rfl⟩ := hx.map_inv
            obtain ⟨es, clock, h1, h2⟩ := hr.mapAt him hp
            rcases run_findKey_int (P := P) h2 hk n w with ⟨g1, g2, _⟩ | ⟨v', i', e, g1, g2, g3, g4, g5⟩
            · obtain ⟨k1, k2⟩ := hr.setMap him hp (h2.del_none n g1)
              refine ⟨_, ?_, k1, k2⟩
              simp only [Sem.run_bind, run_underlying' w ht, Result.andThen_ok, run_getObj_map h1, run_checkKey_int hk, g2]
              rw [setObj_map h1]
              rfl
            · obtain ⟨k1, k2⟩ := hr.setMap him hp (h2.del n g2 g3)
              refine ⟨_, ?_, k1, k2⟩
              simp only [Sem.run_bind, run_underlying' w ht, Result.andThen_ok, run_getObj_map h1, run_checkKey_int hk, g5]
              rw [setObj_map h1]
              rfl
          · cases h
        · cases h
      · cases h
    · cases h
  · cases h

end Go.Sh

/- copy, clear, the greater and the lesser of two; texts and bytes. -/
namespace Go.Sh
open Go

def sCopy (P : Program) (argTypes : Array TypeId) (args : Array Value) (s : SW) : Option (Value × SW) :=
  match (argTypes[0]? : Option TypeId), (args[0]? : Option Value), (args[1]? : Option Value) with
  | some t, some (.slice base dl _), some x =>
    match P.underlying t, sLenOf x with
    | some (.slice e), some m =>
      match sz P e with
      | some size =>
        match sFirst size (Nat.min m dl) x s with
        | some xs =>
          match base with
          | none => if dl = 0 then some (.int .i64 (Nat.min m dl), s) else none
          | some ⟨i, o, none⟩ =>
            match s.heap i with
            | some (.cells cs true g) =>
              if xs.all (·.oneCell') = true ∧ o + Nat.min m dl * size ≤ cs.length then some (.int .i64 (Nat.min m dl), s.set i (.cells (setL cs o xs) true g)) else none
            | _ => none
          | _ => none
        | none => none
      | none => none
    | _, _ => none
  | _, _, _ => none

theorem sCopy_ok {P : Program} {ρ : Rho} {s s' : SW} {w : World} {argTypes : Array TypeId} {args rargs : Array Value} {v : Value} (hr : HRel ρ s w) (h : sCopy P argTypes args s = some (v, s'))
    (ha : F2 (VRel ρ) args.toList rargs.toList) (t : TypeId) : Good P (Builtin.copy_ argTypes t rargs) ρ s w v s' := by
  unfold sCopy at h
  split at h
  · rename_i tt base dl c x hT hA0 hA1
    obtain ⟨rd, hB0, hd⟩ := getD_args ha hA0
    obtain ⟨rx, hB1, hx⟩ := getD_args ha hA1
    split at h
    · rename_i e m ht hm
      split at h
      · rename_i size hsz
        split at h
        · rename_i xs hxs
          obtain ⟨rxs, hF, hlen, hrun⟩ := sFirst_ok (P := P) hr hxs hx
          have hl := sLenOf_ok (P := P) hm hx w
          split at h
          · split at h
            · rename_i h0
              cases h
              obtain rfl : rd = .slice none dl c := by cases hd; rfl
              refine Good.still hr ?_ (.plain rfl)
              unfold Builtin.copy_
              rw [hT, hB0, hB1]
              simp only [Sem.run_bind, run_underlying' w ht, Result.andThen_ok, hl, run_sizeOf' w hsz, hrun]
              rfl
            · cases h
          · rename_i i o
            split at h
            · rename_i cs g hi
              split at h
              · rename_i hc
                cases h
                obtain ⟨p, c', hp, h1, h2, rfl⟩ := hd.slice_inv
                obtain ⟨w', e1, e2, e3⟩ := hr.storeCells (P := P) hi hp (o := o) (by omega) hF (List.all_eq_true.1 hc.1)
                refine ⟨ρ, w', .int .i64 (Nat.min m dl), ?_, .plain rfl, e2, e3⟩
                unfold Builtin.copy_
                rw [hT, hB0, hB1]
                simp only [Sem.run_bind, run_underlying' w ht, Result.andThen_ok, hl, run_sizeOf' w hsz, hrun]
                rw [e1]
                rfl
              · cases h
            · cases h
          · cases h
        · cases h
      · cases h
    · cases h
  · cases h

def sClear (P : Program) (argTypes : Array TypeId) (args : Array Value) (s : SW) : Option SW :=
  match (argTypes[0]? : Option TypeId), (args[0]? : Option Value) with
  | some t, some (.slice (some ⟨i, o, none⟩) (n + 1) _) =>
    match P.underlying t with
    | some (.slice e) =>
      match zeroV P e, s.heap i with
      | some z, some (.cells cs true g) =>
        if z.cells.toList.all pl0 = true ∧ o + (n + 1) * z.cells.size ≤ cs.length then some (s.set i (.cells (setL cs o (sZeros z.cells.toList (n + 1))) true g)) else none
      | _, _ => none
    | _ => none
  | _, _ => none

theorem sZeros_length (zero : List Value) (n : Nat) : (sZeros zero n).length = n * zero.length := by
  simp [sZeros]

theorem zeroCells_list (zero : Array Value) (n : Nat) : (Builtin.zeroCells zero n).toList = sZeros zero.toList n := sZeros_eq zero n

theorem sClear_ok {P : Program} {ρ : Rho} {s s' : SW} {w : World} {argTypes : Array TypeId} {args rargs : Array Value} (hr : HRel ρ s w) (h : sClear P argTypes args s = some s')
    (ha : F2 (VRel ρ) args.toList rargs.toList) (t : TypeId) : ∃ w', (Builtin.clear_ argTypes t rargs).run P w = .ok (.tuple #[]) w' ∧ HRel ρ s' w' ∧ Ext ρ s w ρ s' w' := by
  unfold sClear at h
  split at h
  · rename_i tt i o n c hT hA0
    obtain ⟨rd, hB0, hd⟩ := getD_args ha hA0
    split at h
    · rename_i e ht
      split at h
      · rename_i z cs g hz hi
        split at h
        · rename_i hc
          cases h
          obtain ⟨p, c', hp, h1, h2, rfl⟩ := hd.slice_inv
          have hall := sZeros_all hc.1 (n + 1)
          obtain ⟨w', e1, e2, e3⟩ := hr.storeCells (P := P) hi hp (o := o) (vs := sZeros z.cells.toList (n + 1)) (by rw [sZeros_length]; simpa using hc.2) (F2.zero hall)
            (fun v hv => pl0_oneCell (List.all_eq_true.1 hall v hv))
          refine ⟨w', ?_, e2, e3⟩
          unfold Builtin.clear_
          rw [hT, hB0]
          simp only [Sem.run_bind, run_underlying' w ht, Result.andThen_ok, run_zeroValue' w hz, zeroCells_list, e1, Sem.run_pure]
        · cases h
      · cases h
    · cases h
  · cases h

def sMinMax (mx : Bool) (args : Array Value) : Option Value :=
  match args.toList with
  | [.int k a, .int k' b] => if k = k' then some (.int k (if mx then (if b > a then b else a) else (if b < a then b else a))) else none
  | _ => none

theorem sMinMax_ok {P : Program} {ρ : Rho} {mx : Bool} {args rargs : Array Value} {v : Value} (h : sMinMax mx args = some v) (ha : F2 (VRel ρ) args.toList rargs.toList) (tys : Array TypeId) (t : TypeId) :
    pl0 v = true ∧ ∀ w, (if mx then Builtin.max_ tys t rargs else Builtin.min_ tys t rargs).run P w = .ok v w := by
  unfold sMinMax at h
  split at h
  · rename_i k a k' b hl
    split at h
    · rename_i hk
      subst hk
      cases h
      rw [hl] at ha
      generalize hrl : rargs.toList = rl at ha
      cases ha with
      | cons h1 h2 =>
        cases h2 with
        | cons h3 h4 =>
          cases h4
          obtain rfl := h1.int
          obtain rfl := h3.int
          refine ⟨rfl, fun w => ?_⟩
          cases mx
          · simp [Builtin.min_, hrl, Builtin.min2]
          · simp [Builtin.max_, hrl, Builtin.max2]
    · cases h
  · cases h

def byteOfV : Value → Option UInt8
  | .int .u8 n => some (UInt8.ofNat n.toNat)
  | _ => none

def bytesOfL : List Value → Option (List UInt8)
  | [] => some []
  | v :: vs => match byteOfV v, bytesOfL vs with
    | some b, some bs => some (b :: bs)
    | _, _ => none

/-- string(bytes) -/
def sBytesStr (P : Program) (src dst : TypeId) (x : Value) (s : SW) : Option Value :=
  match P.underlying src, P.underlying dst with
  | some (.slice e), some .string =>
    match P.underlying e, x with
    | some (.int .u8), .slice none _ _ => some (.string .empty)
    | some (.int .u8), .slice (some ⟨i, o, none⟩) n _ =>
      match s.heap i with
      | some (.cells cs _ _) =>
        if o + n ≤ cs.length then (bytesOfL ((cs.drop o).take n)).map fun bs => .string ⟨bs.toArray⟩ else none
      | _ => none
    | _, _ => none
  | _, _ => none

theorem run_pushBytes {P : Program} {ρ : Rho} : ∀ (vs rvs : List Value), F2 (VRel ρ) vs rvs → ∀ (bs : List UInt8), bytesOfL vs = some bs → ∀ (acc : ByteArray) (w : World),
    ((forIn rvs acc fun c (s : ByteArray) => match c with
      | .int .u8 n => pure (.yield (s.push (UInt8.ofNat n.toNat)))
      | _ => do
        stuck "bytesToString: byte expected"
        pure (.yield s)) : Sem ByteArray).run P w = .ok ⟨acc.data ++ bs.toArray⟩ w := by
  intro vs rvs h
  induction h with
  | nil => intro bs hb acc w; cases hb; simp
  | @cons v rv vs' rvs' h1 _ ih =>
    intro bs hb acc w
    simp only [bytesOfL] at hb
    split at hb
    · rename_i b bs' hb1 hb2
      cases hb
      cases v with
      | int k n =>
        obtain rfl := h1.int
        cases k <;> simp only [byteOfV] at hb1 <;> first | (cases hb1; done) | skip
        cases hb1
        simp only [List.forIn_cons, Sem.run_bind, Sem.run_pure, Result.andThen_ok]
        rw [ih bs' hb2]
        congr 2
        simp [ByteArray.push]
      | _ => cases hb1
    · cases hb

theorem sBytesStr_ok {P : Program} {ρ : Rho} {s : SW} {w : World} {src dst : TypeId} {x v rx : Value} (hr : HRel ρ s w) (h : sBytesStr P src dst x s = some v) (hx : VRel ρ x rx) :
    pl0 v = true ∧ (convert src dst rx).run P w = .ok v w := by
  unfold sBytesStr at h
  split at h
  · rename_i e hs hd
    split at h
    · rename_i l c he
      cases h
      obtain rfl : rx = .slice none l c := by cases hx; rfl
      refine ⟨rfl, ?_⟩
      simp only [convert, Sem.run_bind, run_underlying' w hs, run_underlying' w hd, Result.andThen_ok, run_underlying' w he, Conv.bytesToString, Sem.run_pure]
    · rename_i i o n c he
      split at h
      · rename_i cs own g hi
        split at h
        · rename_i hl
          cases hb : bytesOfL ((cs.drop o).take n) with
          | none => rw [hb] at h; cases h
          | some bs =>
            rw [hb] at h
            cases h
            obtain ⟨p, c', hp, h1, h2, rfl⟩ := hx.slice_inv
            obtain ⟨rvs, h3, h4⟩ := hr.loadCells (P := P) hi hp hl
            refine ⟨rfl, ?_⟩
            simp only [convert, Sem.run_bind, run_underlying' w hs, run_underlying' w hd, Result.andThen_ok, run_underlying' w he, Conv.bytesToString, h4]
            have := run_pushBytes (P := P) _ _ h3 bs hb ByteArray.empty w
            rw [← Array.forIn_toList]
            rw [show rvs.toArray.toList = rvs by simp]
            refine Eq.trans (congrArg (fun r => Result.andThen r fun (a : ByteArray) w' => Sem.run P (pure (Value.string a)) w') this) ?_
            simp
        · cases h
      · cases h
    · cases h
  · cases h

/-- []byte(s) -/
def sStrBytes (P : Program) (src dst : TypeId) (x : Value) (s : SW) : Option (Value × SW) :=
  match P.underlying src, P.underlying dst, x with
  | some .string, some (.slice e), .string b =>
    match P.underlying e with
    | some (.int .u8) => some (.slice (some ⟨s.next, 0, none⟩) b.size b.size, s.new (.cells (b.data.toList.map byteV) true 1))
    | _ => none
  | _, _, _ => none

theorem sStrBytes_ok {P : Program} {ρ : Rho} {s s' : SW} {w : World} {src dst : TypeId} {x v rx : Value} (hr : HRel ρ s w) (h : sStrBytes P src dst x s = some (v, s')) (hx : VRel ρ x rx) :
    Good P (convert src dst rx) ρ s w v s' := by
  unfold sStrBytes at h
  split at h
  · rename_i e b hs hd
    obtain rfl := hx.string
    split at h
    · rename_i he
      cases h
      have hcap : b.size ≤ (Question.appendCap b.size 0 e).cut (w.tape w.drawn (Question.appendCap b.size 0 e)) := by simp only [Question.cut]; omega
      generalize hc : (Question.appendCap b.size 0 e).cut (w.tape w.drawn (Question.appendCap b.size 0 e)) = cap at hcap
      let rc : Array Value := (b.data.map fun b => Value.int .u8 b.toNat) ++ Array.replicate (cap - b.size) (.int .u8 0)
      have hrc : rc.size = cap := by
        have : b.data.size = b.size := rfl
        simp only [rc, Array.size_append, Array.size_map, Array.size_replicate]
        omega
      have hn : ρ s.next = none := hr.next _ (Nat.le_refl _)
      let w₁ : World := (w.drew.alloc (.cells rc e))
      let w₂ : World := w₁.freeze ⟨w.heap.size, rc.size, none⟩ 1
      have hw2 : w₂.heap[w.heap.size]? = some (.cells rc e (rc.size, rc.size + 1)) := by
        simp only [w₂, World.freeze]
        rw [if_neg (by omega)]
        simp only [Array.getElem?_modify, if_true]
        have : w₁.heap[w.heap.size]? = some (.cells rc e) := by show (w.heap.push _)[w.heap.size]? = _; simp
        rw [this]
        rfl
      have hold : ∀ r, r < w.heap.size → w₂.heap[r]? = w.heap[r]? := fun r hlt => by
        simp only [w₂, World.freeze]
        rw [if_neg (by omega)]
        simp only [Array.getElem?_modify]
        rw [if_neg (by omega)]
        exact RowKit.Below.heap_alloc w.drew _ r hlt
      have hsz : w.heap.size ≤ w₂.heap.size := by
        simp only [w₂, World.freeze]
        rw [if_neg (by omega)]
        simp [w₁]
      have hsame : Same w w₂ := by
        simp only [w₂, World.freeze]
        rw [if_neg (by omega)]
        exact ⟨rfl, rfl, rfl⟩
      have hlen : (b.data.toList.map byteV).length = b.size := by rw [List.length_map]; rfl
      have ho : ORel (ρ.upd s.next ⟨w.heap.size, 0, b.size, cap - b.size, 1⟩) ⟨w.heap.size, 0, b.size, cap - b.size, 1⟩ (.cells (b.data.toList.map byteV) true 1) (w₂.heap[w.heap.size]?) := by
        rw [hw2]
        refine ⟨hlen, by rw [hrc]; simp; omega, ?_, ?_, fun h => by omega, fun _ => rfl⟩
        · intro k v hk
          refine ⟨v, ?_, ?_⟩
          · have hlt : k < b.data.size := by
              rcases Nat.lt_or_ge k (b.data.toList.map byteV).length with h | h
              · simpa using h
              · rw [List.getElem?_eq_none h] at hk; cases hk
            simp only [rc, Nat.zero_add]
            rw [Array.getElem?_append_left (by simpa using hlt)]
            simpa [byteV] using hk
          · simp only [List.getElem?_map, Option.map_eq_some_iff] at hk
            obtain ⟨_, _, rfl⟩ := hk
            exact .plain rfl
        · intro _ k hk h; simp only at h; omega
      have h1 := hr.alloc (o := .cells (b.data.toList.map byteV) true 1) (p := ⟨w.heap.size, 0, b.size, cap - b.size, 1⟩) (w' := w₂) rfl hold ho
      have h2 := Ext.alloc hr (o := .cells (b.data.toList.map byteV) true 1) (p := ⟨w.heap.size, 0, b.size, cap - b.size, 1⟩) (w' := w₂) rfl hold hsz hsame
      refine ⟨_, w₂, .slice (some ⟨w.heap.size, 0 + 0, none⟩) b.size cap, ?_, .slice Rho.upd_same (Nat.le_refl _) (.inr ⟨by simp only; omega, by simp⟩), h1, h2⟩
      simp only [convert, Sem.run_bind, run_underlying' w hs, run_underlying' w hd, Result.andThen_ok, run_underlying' w he, Conv.stringToBytes, run_choose, Question.forced, Bool.false_eq_true, if_false, hc, newRow, run_newObj, Sem.run_pure, markStringish, run_shape]
      have hshape : (w₁.shape? w.heap.size) = some (e, rc.size) := by
        have : w₁.heap[w.heap.size]? = some (.cells rc e) := by show (w.heap.push _)[w.heap.size]? = _; simp
        simp [World.shape?, this]
      show ((Sem.run P (match w₁.shape? w.heap.size with | some (_, n) => freeze { block := w.heap.size, off := n } 1 | _ => pure ()) w₁).andThen _) = _
      rw [hshape]
      simp only [run_freeze, Result.andThen_ok]
      rfl
    · cases h
  · cases h

end Go.Sh

/- One operation. -/
namespace Go.Sh
open Go

def sFieldV (P : Program) (t : TypeId) (x : Value) (f : Nat) : Option Value :=
  match P.underlying t, x with
  | some (.struct fs), .agg cs => match (fs[f]? : Option Field) with
    | some fd => sPart P fd.type cs fd.offset
    | none => none
  | _, _ => none

def sIndexV (P : Program) (t : TypeId) (x ix : Value) : Option Value :=
  match ix with
  | .int _ j =>
    match P.underlying t, x with
    | some (.array len e), .agg cs =>
      match sz P e with
      | some n => if 0 ≤ j ∧ j < (len : Int) then sPart P e cs (j.toNat * n) else none
      | none => none
    | some .string, .string b => if 0 ≤ j then (b[j.toNat]?).map byteV else none
    | _, _ => none
  | _ => none

theorem sFieldV_ok {P : Program} {ρ : Rho} {t : TypeId} {x v rx : Value} {f : Nat} (h : sFieldV P t x f = some v) (hx : VRel ρ x rx) : ∃ rv, VRel ρ v rv ∧ ∀ w, (Instr.field t rx f).run P w = .ok rv w := by
  unfold sFieldV at h
  split at h
  · rename_i fs cs ht
    obtain ⟨rcs, rfl, h1, h2⟩ := hx.agg_inv
    split at h
    · rename_i fd hf
      obtain ⟨rv, h3, h4⟩ := sPart_rel h1 h2 h
      refine ⟨rv, h4, fun w => ?_⟩
      simp only [Instr.field, Sem.run_bind, run_underlying' w ht, Result.andThen_ok, hf, asAgg, Sem.run_pure, run_part' h3 w]
    · cases h
  · cases h

theorem sIndexV_ok {P : Program} {ρ : Rho} {t : TypeId} {x ix v rx rix : Value} (h : sIndexV P t x ix = some v) (hx : VRel ρ x rx) (hi : VRel ρ ix rix) : ∃ rv, VRel ρ v rv ∧ ∀ w, (Instr.index t rx rix).run P w = .ok rv w := by
  unfold sIndexV at h
  split at h
  · rename_i k j
    obtain rfl := hi.int
    split at h
    · rename_i len e cs ht
      obtain ⟨rcs, rfl, h1, h2⟩ := hx.agg_inv
      split at h
      · rename_i n hn
        split at h
        · rename_i hj
          obtain ⟨rv, h3, h4⟩ := sPart_rel h1 h2 h
          refine ⟨rv, h4, fun w => ?_⟩
          simp only [Instr.index, asIntOf, Sem.run_bind, Sem.run_pure, run_underlying' w ht, Result.andThen_ok]
          rw [if_pos hj]
          simp only [Sem.run_bind, run_sizeOf' w hn, Result.andThen_ok, run_part' h3 w]
        · cases h
      · cases h
    · rename_i b ht
      obtain rfl := hx.string
      split at h
      · rename_i hj
        cases hb : b[j.toNat]? with
        | none => rw [hb] at h; cases h
        | some u =>
          rw [hb] at h; cases h
          refine ⟨byteV u, .plain rfl, fun w => ?_⟩
          simp only [Instr.index, asIntOf, Sem.run_bind, Sem.run_pure, run_underlying' w ht, Result.andThen_ok]
          rw [if_pos hj, hb]
          rfl
      · cases h
    · cases h
  · cases h

def sBuiltin (P : Program) (b : Builtin) (tys : Array TypeId) (args : Array Value) (s : SW) : Option (Value × SW) :=
  match b with
  | .append => sAppend P tys args s
  | .len => (sLen P tys args s).map (·, s)
  | .copy => sCopy P tys args s
  | .clear => (sClear P tys args s).map (Go.noResult, ·)
  | .delete => (sDelete P tys args s).map (Go.noResult, ·)
  | .max => (sMinMax true args).map (·, s)
  | .min => (sMinMax false args).map (·, s)
  | _ => none

/-- An operation that calls no function. -/
def sOp (P : Program) (o : Oper) (fr : List Value) (s : SW) : Option (Value × SW) :=
  match o.op with
  | .move x | .assign x => some (ev fr x, s)
  | .pick c a b => match ev fr c with | .bool t => some (if t then ev fr a else ev fr b, s) | _ => none
  | .alloc t => sAlloc P t s
  | .box _ v => sBox (ev fr v) s
  | .build t ps => (sBuild P t (ps.toList.map fun p => (p.1, ev fr p.2))).map (·, s)
  | .buildSlice t n ps => sBuildSlice P t n (ps.toList.map fun p => (p.1, ev fr p.2)) s
  | .insert t m k v | .mapUpdate t m k v => (sMapUpdate P t (ev fr m) (ev fr k) (ev fr v) s).map (Go.undef, ·)
  | .load t a => (sLoad P t (ev fr a) s).map (·, s)
  | .store t a v => (sStore P t (ev fr a) (ev fr v) s).map (Go.undef, ·)
  | .nilCheck x => (sNil (ev fr x)).map (·, s)
  | .binOp op t x y _ => (sBin P op t (ev fr x) (ev fr y)).map (·, s)
  | .unOp op _ x => (sUn op (ev fr x)).map (·, s)
  | .convert a b x =>
    match sConvNum P a b (ev fr x) with
    | some v => some (v, s)
    | none => match sBytesStr P a b (ev fr x) s with
      | some v => some (v, s)
      | none => sStrBytes P a b (ev fr x) s
  | .makeFunc fn f c => some (.func fn (f.map (ev fr)) (c.map (ev fr)), s)
  | .makeMap t none => sMakeMap P t s
  | .makeMap t (some x) => match ev fr x with | .int _ _ => sMakeMap P t s | _ => none
  | .makeSlice t l c => sMakeSlice P t (ev fr l) (ev fr c) s
  | .slice t x l h m => (sSlice P t (ev fr x) (l.map (ev fr)) (h.map (ev fr)) (m.map (ev fr)) s).map (·, s)
  | .fieldAddr t x f => (sField P t (ev fr x) f).map (·, s)
  | .field t x f => (sFieldV P t (ev fr x) f).map (·, s)
  | .indexAddr t x i => (sIndex P t (ev fr x) (ev fr i)).map (·, s)
  | .index t x i => (sIndexV P t (ev fr x) (ev fr i)).map (·, s)
  | .lookup t x i ok => (sLookup P t (ev fr x) (ev fr i) ok s).map (·, s)
  | .extract t i => (match ev fr t with | .tuple vs => if vs.size = 1 then none else vs[i]? | _ => none).map (·, s)
  | .call ⟨.builtin b, args, tys⟩ => sBuiltin P b tys (args.map (ev fr)) s
  | _ => none

/-- What the model does then. -/
def OpGood (P : Program) (o : Oper) (a : Act) (ρ : Rho) (s : SW) (w : World) (v : Value) (s' : SW) : Prop :=
  ∃ ρ' w' rv n, (execOp a.eval o).run P w = .ok n w' ∧ (n = .value rv ∨ (n = .skip ∧ rv = Go.undef)) ∧ VRel ρ' v rv ∧ HRel ρ' s' w' ∧ Ext ρ s w ρ' s' w'

theorem F2.map_ev {ρ : Rho} {fr : List Value} {a : Act} (hf : FRel ρ fr a) (l : List Operand) : F2 (VRel ρ) (l.map (ev fr)) (l.map a.eval) := by
  induction l with
  | nil => exact .nil
  | cons x l ih => exact .cons (hf.ev x) ih

theorem F2.map_parts {ρ : Rho} {fr : List Value} {a : Act} (hf : FRel ρ fr a) (l : List (Nat × Operand)) : F2 (PRel ρ) (l.map fun p => (p.1, ev fr p.2)) (l.map fun p => (p.1, a.eval p.2)) := by
  induction l with
  | nil => exact .nil
  | cons x l ih => exact .cons ⟨rfl, hf.ev x.2⟩ ih

theorem oRel_map {ρ : Rho} {fr : List Value} {a : Act} (hf : FRel ρ fr a) (x : Option Operand) : oRel ρ (x.map (ev fr)) (x.map a.eval) := by
  cases x with
  | none => trivial
  | some x => exact hf.ev x

theorem OpGood.value {P : Program} {o : Oper} {a : Act} {ρ : Rho} {s s' : SW} {w : World} {v : Value} {m : Sem Value} (he : execOp a.eval o = (do pure (.value (← m)))) (h : Good P m ρ s w v s') : OpGood P o a ρ s w v s' := by
  obtain ⟨ρ', w', rv, h1, h2, h3, h4⟩ := h
  exact ⟨ρ', w', rv, .value rv, by rw [he]; simp [h1], .inl rfl, h2, h3, h4⟩

theorem OpGood.unit {P : Program} {o : Oper} {a : Act} {ρ : Rho} {s s' : SW} {w : World} {m : Sem Unit} (he : execOp a.eval o = (do m; pure .skip)) (h : ∃ w', m.run P w = .ok () w' ∧ HRel ρ s' w' ∧ Ext ρ s w ρ s' w') : OpGood P o a ρ s w Go.undef s' := by
  obtain ⟨w', h1, h2, h3⟩ := h
  exact ⟨ρ, w', Go.undef, .skip, by rw [he]; simp [h1], .inr ⟨rfl, rfl⟩, .undef, h2, h3⟩

theorem sOp_ok {P : Program} {o : Oper} {fr : List Value} {a : Act} {ρ : Rho} {s s' : SW} {w : World} {v : Value} (hf : FRel ρ fr a) (hr : HRel ρ s w) (h : sOp P o fr s = some (v, s')) : OpGood P o a ρ s w v s' := by
  have hop : ∀ x, o.op = x → execOp a.eval o = execOp a.eval { o with op := x } := fun x hx => by cases o; cases hx; rfl
  unfold sOp at h
  split at h
  case h_1 x hx => cases h; exact ⟨ρ, w, a.eval x, .value (a.eval x), by rw [hop _ hx]; simp [execOp], .inl rfl, hf.ev x, hr, Ext.refl _ _ _⟩
  case h_2 x hx => cases h; exact ⟨ρ, w, a.eval x, .value (a.eval x), by rw [hop _ hx]; simp [execOp], .inl rfl, hf.ev x, hr, Ext.refl _ _ _⟩
  case h_3 c x y hx =>
    split at h
    · rename_i t hc
      cases h
      have h1 := hf.ev c
      rw [hc] at h1
      refine ⟨ρ, w, if t then a.eval x else a.eval y, .value (if t then a.eval x else a.eval y), ?_, .inl rfl, ?_, hr, Ext.refl _ _ _⟩
      · rw [hop _ hx]; simp [execOp, h1.bool, asBool]
      · cases t
        · exact hf.ev y
        · exact hf.ev x
    · cases h
  case h_4 t hx => exact .value (m := Instr.alloc t true (.tuple #[])) (by rw [hop _ hx]; rfl) (sAlloc_ok hr h)
  case h_5 t x hx => exact .value (m := Instr.box t (a.eval x)) (by rw [hop _ hx]; rfl) (sBox_ok hr h (hf.ev x) t)
  case h_6 t ps hx =>
    simp only [Option.map_eq_some_iff, Prod.mk.injEq] at h
    obtain ⟨v', h1, rfl, rfl⟩ := h
    obtain ⟨rv, h2, h3⟩ := sBuild_ok (ρ := ρ) (rparts := ps.map fun p => (p.1, a.eval p.2)) h1 (by simpa using F2.map_parts hf ps.toList)
    exact .value (m := Instr.build t (ps.map fun p => (p.1, a.eval p.2))) (by rw [hop _ hx]; rfl) (.still hr (h3 w) h2)
  case h_7 t n ps hx =>
    exact .value (m := Instr.buildSlice t n (ps.map fun p => (p.1, a.eval p.2))) (by rw [hop _ hx]; rfl) (sBuildSlice_ok hr h (by simpa using F2.map_parts hf ps.toList))
  case h_8 t m k x hx =>
    simp only [Option.map_eq_some_iff, Prod.mk.injEq] at h
    obtain ⟨s₁, h1, rfl, rfl⟩ := h
    exact .unit (m := Instr.mapUpdate t (a.eval m) (a.eval k) (a.eval x)) (by rw [hop _ hx]; rfl) (sMapUpdate_ok hr h1 (hf.ev m) (hf.ev k) (hf.ev x))
  case h_9 t m k x hx =>
    simp only [Option.map_eq_some_iff, Prod.mk.injEq] at h
    obtain ⟨s₁, h1, rfl, rfl⟩ := h
    exact .unit (m := Instr.mapUpdate t (a.eval m) (a.eval k) (a.eval x)) (by rw [hop _ hx]; rfl) (sMapUpdate_ok hr h1 (hf.ev m) (hf.ev k) (hf.ev x))
  case h_10 t x hx =>
    simp only [Option.map_eq_some_iff, Prod.mk.injEq] at h
    obtain ⟨v', h1, rfl, rfl⟩ := h
    obtain ⟨rv, h2, h3⟩ := sLoad_ok hr h1 (hf.ev x)
    exact .value (m := Instr.loadAt t (a.eval x)) (by rw [hop _ hx]; rfl) (.still hr h3 h2)
  case h_11 t x y hx =>
    simp only [Option.map_eq_some_iff, Prod.mk.injEq] at h
    obtain ⟨s₁, h1, rfl, rfl⟩ := h
    exact .unit (m := Instr.storeAt t (a.eval x) (a.eval y)) (by rw [hop _ hx]; rfl) (sStore_ok hr h1 (hf.ev x) (hf.ev y))
  case h_12 x hx =>
    simp only [Option.map_eq_some_iff, Prod.mk.injEq] at h
    obtain ⟨v', h1, rfl, rfl⟩ := h
    have hv := hf.ev x
    unfold sNil at h1
    split at h1
    · rename_i b he
      cases h1
      rw [he] at hv
      have : ∃ b', a.eval x = .pointer (some b') := by
        cases b with | mk i o sp => cases sp with
          | none => obtain ⟨p, _, h2⟩ := hv.ptr_inv; exact ⟨_, h2⟩
          | some k =>
            generalize a.eval x = r at hv
            cases hv with
            | plain h0 => simp [pl0] at h0
      obtain ⟨b', hb'⟩ := this
      refine ⟨ρ, w, a.eval x, .value (a.eval x), ?_, .inl rfl, hv, hr, Ext.refl _ _ _⟩
      rw [hop _ hx]; simp [execOp, hb']
    · rename_i fn f c he
      cases h1
      rw [he] at hv
      have : ∃ f' c', a.eval x = .func (.func fn) f' c' := by
        generalize a.eval x = r at hv
        cases hv with
        | plain h0 => simp [pl0] at h0
        | func _ _ _ _ => exact ⟨_, _, rfl⟩
      obtain ⟨f', c', hb'⟩ := this
      refine ⟨ρ, w, a.eval x, .value (a.eval x), ?_, .inl rfl, hv, hr, Ext.refl _ _ _⟩
      rw [hop _ hx]; simp [execOp, hb']
    · cases h1
  case h_13 op t x y ty hx =>
    simp only [Option.map_eq_some_iff, Prod.mk.injEq] at h
    obtain ⟨v', h1, rfl, rfl⟩ := h
    obtain ⟨h2, h3⟩ := sBin_rel h1 (hf.ev x) (hf.ev y) x y
    exact .value (m := (do eqGuard op t x y (a.eval x) (a.eval y); Go.binOp op t (a.eval x) (a.eval y) : Sem Value)) (by rw [hop _ hx]; rfl) (.still hr (h3 w) (.plain h2))
  case h_14 op t x hx =>
    simp only [Option.map_eq_some_iff, Prod.mk.injEq] at h
    obtain ⟨v', h1, rfl, rfl⟩ := h
    obtain ⟨h2, h3⟩ := sUn_ok (P := P) h1 (hf.ev x)
    exact .value (m := Op.unary op (a.eval x)) (by rw [hop _ hx]; rfl) (.still hr (h3 w) (.plain h2))
  case h_15 src dst x hx =>
    refine .value (m := convert src dst (a.eval x)) (by rw [hop _ hx]; rfl) ?_
    split at h
    · rename_i v' h1
      cases h
      obtain ⟨h2, h3⟩ := sConvNum_ok h1 (hf.ev x)
      exact .still hr (h3 w) (.plain h2)
    · split at h
      · rename_i v' h1
        cases h
        obtain ⟨h2, h3⟩ := sBytesStr_ok hr h1 (hf.ev x)
        exact .still hr h3 (.plain h2)
      · exact sStrBytes_ok hr h (hf.ev x)
  case h_16 fn f c hx =>
    cases h
    have h1 := F2.map_ev hf f.toList
    have h2 := F2.map_ev hf c.toList
    refine .value (m := Instr.makeFunc fn (f.map a.eval) (c.map a.eval)) (by rw [hop _ hx]; rfl) (.still hr rfl (.func (by simp) (by simp) ?_ ?_))
    · intro k u u' e1 e2; exact h1.get k u u' (by simpa using e1) (by simpa using e2)
    · intro k u u' e1 e2; exact h2.get k u u' (by simpa using e1) (by simpa using e2)
  case h_17 t hx => exact .value (m := Instr.makeMap t none) (by rw [hop _ hx]; rfl) (sMakeMap_ok hr h none fun x hx => by cases hx)
  case h_18 t x hx =>
    split at h
    · rename_i k n he
      have hv := hf.ev x
      rw [he] at hv
      exact .value (m := Instr.makeMap t (some (a.eval x))) (by rw [hop _ hx]; rfl) (sMakeMap_ok hr h _ fun y hy => by cases hy; exact ⟨k, n, hv.int⟩)
    · cases h
  case h_19 t l c hx => exact .value (m := Instr.makeSlice t (a.eval l) (a.eval c)) (by rw [hop _ hx]; rfl) (sMakeSlice_ok hr h (hf.ev l) (hf.ev c))
  case h_20 t x l hi m hx =>
    simp only [Option.map_eq_some_iff, Prod.mk.injEq] at h
    obtain ⟨v', h1, rfl, rfl⟩ := h
    obtain ⟨rv, h2, h3⟩ := sSlice_ok hr h1 (hf.ev x) (oRel_map hf l) (oRel_map hf hi) (oRel_map hf m)
    exact .value (m := Instr.sliceAt t (a.eval x) (l.map a.eval) (hi.map a.eval) (m.map a.eval)) (by rw [hop _ hx]; rfl) (.still hr (h3 w) h2)
  case h_21 t x f hx =>
    simp only [Option.map_eq_some_iff, Prod.mk.injEq] at h
    obtain ⟨v', h1, rfl, rfl⟩ := h
    obtain ⟨rv, h2, h3⟩ := sField_ok h1 (hf.ev x)
    exact .value (m := Instr.fieldAt t (a.eval x) f) (by rw [hop _ hx]; rfl) (.still hr (h3 w) h2)
  case h_22 t x f hx =>
    simp only [Option.map_eq_some_iff, Prod.mk.injEq] at h
    obtain ⟨v', h1, rfl, rfl⟩ := h
    obtain ⟨rv, h2, h3⟩ := sFieldV_ok h1 (hf.ev x)
    exact .value (m := Instr.field t (a.eval x) f) (by rw [hop _ hx]; rfl) (.still hr (h3 w) h2)
  case h_23 t x i hx =>
    simp only [Option.map_eq_some_iff, Prod.mk.injEq] at h
    obtain ⟨v', h1, rfl, rfl⟩ := h
    obtain ⟨rv, h2, h3⟩ := sIndex_ok h1 (hf.ev x) (hf.ev i)
    exact .value (m := Instr.indexAt t (a.eval x) (a.eval i)) (by rw [hop _ hx]; rfl) (.still hr (h3 w) h2)
  case h_24 t x i hx =>
    simp only [Option.map_eq_some_iff, Prod.mk.injEq] at h
    obtain ⟨v', h1, rfl, rfl⟩ := h
    obtain ⟨rv, h2, h3⟩ := sIndexV_ok h1 (hf.ev x) (hf.ev i)
    exact .value (m := Instr.index t (a.eval x) (a.eval i)) (by rw [hop _ hx]; rfl) (.still hr (h3 w) h2)
  case h_25 t x i ok hx =>
    simp only [Option.map_eq_some_iff, Prod.mk.injEq] at h
    obtain ⟨v', h1, rfl, rfl⟩ := h
    obtain ⟨rv, h2, h3⟩ := sLookup_ok hr h1 (hf.ev x) (hf.ev i)
    exact .value (m := Instr.lookup t (a.eval x) (a.eval i) ok) (by rw [hop _ hx]; rfl) (.still hr h3 h2)
  case h_26 x i hx =>
    simp only [Option.map_eq_some_iff, Prod.mk.injEq] at h
    obtain ⟨v', h1, rfl, rfl⟩ := h
    split at h1
    · rename_i vs he
      have hv := hf.ev x
      rw [he] at hv
      split at h1
      · cases h1
      · rename_i hsz
        have : ∃ rvs rv, a.eval x = .tuple rvs ∧ rvs[i]? = some rv ∧ VRel ρ v' rv := by
          generalize a.eval x = r at hv
          generalize hT : Value.tuple vs = T at hv
          cases hv with
          | plain h0 => subst hT; simp [pl0] at h0
          | junk =>
            simp only [junk, Value.tuple.injEq] at hT
            subst hT
            exact absurd rfl hsz
          | tuple h2 h3 =>
            cases hT
            have hlt : i < vs.size := (Array.getElem?_eq_some_iff.1 h1).1
            exact ⟨_, _, rfl, Array.getElem?_eq_getElem (by omega), h3 i _ _ h1 (Array.getElem?_eq_getElem (by omega))⟩
          | _ => cases hT
        obtain ⟨rvs, rv, h2, h3, h4⟩ := this
        exact .value (m := Instr.extract (a.eval x) i) (by rw [hop _ hx]; rfl) (.still hr (by rw [h2]; simp [Instr.extract, h3]) h4)
    · cases h1
  case h_27 b args tys hx =>
    have hargs : F2 (VRel ρ) (args.map (ev fr)).toList (args.map a.eval).toList := by simpa using F2.map_ev hf args.toList
    have he : execOp a.eval o = builtin b tys o.type ((args.map fun | .const _ => true | _ => false)) (args.map a.eval) := by
      rw [hop _ hx]
      simp only [execOp, resolve, invoke]
      rfl
    unfold sBuiltin at h
    split at h
    · exact .value (m := Builtin.append_ tys o.type (args.map a.eval)) (by rw [he]; rfl) (sAppend_ok hr h hargs _)
    · simp only [Option.map_eq_some_iff, Prod.mk.injEq] at h
      obtain ⟨v', h1, rfl, rfl⟩ := h
      obtain ⟨h2, h3⟩ := sLen_ok hr h1 hargs o.type
      exact .value (m := Builtin.len_ tys o.type (args.map a.eval)) (by rw [he]; rfl) (.still hr h3 (.plain h2))
    · exact .value (m := Builtin.copy_ tys o.type (args.map a.eval)) (by rw [he]; rfl) (sCopy_ok hr h hargs _)
    · simp only [Option.map_eq_some_iff, Prod.mk.injEq] at h
      obtain ⟨s₁, h1, rfl, rfl⟩ := h
      obtain ⟨w', h2, h3, h4⟩ := sClear_ok hr h1 hargs o.type
      exact .value (m := Builtin.clear_ tys o.type (args.map a.eval)) (by rw [he]; rfl) ⟨ρ, w', _, h2, .undef, h3, h4⟩
    · simp only [Option.map_eq_some_iff, Prod.mk.injEq] at h
      obtain ⟨s₁, h1, rfl, rfl⟩ := h
      obtain ⟨w', h2, h3, h4⟩ := sDelete_ok hr h1 hargs o.type
      exact .value (m := Builtin.delete_ tys o.type (args.map a.eval)) (by rw [he]; rfl) ⟨ρ, w', _, h2, .undef, h3, h4⟩
    · simp only [Option.map_eq_some_iff, Prod.mk.injEq] at h
      obtain ⟨v', h1, rfl, rfl⟩ := h
      obtain ⟨h2, h3⟩ := sMinMax_ok (P := P) h1 hargs tys o.type
      exact .value (m := Builtin.max_ tys o.type (args.map a.eval)) (by rw [he]; rfl) (.still hr (by simpa using h3 w) (.plain h2))
    · simp only [Option.map_eq_some_iff, Prod.mk.injEq] at h
      obtain ⟨v', h1, rfl, rfl⟩ := h
      obtain ⟨h2, h3⟩ := sMinMax_ok (P := P) h1 hargs tys o.type
      exact .value (m := Builtin.min_ tys o.type (args.map a.eval)) (by rw [he]; rfl) (.still hr (by simpa using h3 w) (.plain h2))
    · cases h
  case h_28 => cases h

end Go.Sh

/- Code: what must hold ahead of it, that it ends well. -/
namespace Go.Sh
open Go
set_option linter.unusedVariables false

abbrev SQ := Exit → List Value → SW → Prop

/-- The ways out that are counted on. -/
def fine : Exit → Bool
  | .panic _ | .outgrown => false
  | _ => true

/-- What holds of the shadow holds of the model's run. -/
def lift (ρ : Rho) (s : SW) (w : World) (Q : SQ) : Exit → Act → World → Prop := fun e a' w' =>
  fine e = true ∧ ∃ ρ' fr' s', FRel ρ' fr' a' ∧ HRel ρ' s' w' ∧ Ext ρ s w ρ' s' w' ∧ Q e fr' s'

def SWp (P : Program) (c : Code) (Q : SQ) (fr : List Value) (s : SW) : Prop :=
  ∀ ρ a w, FRel ρ fr a → HRel ρ s w → c.wp P (lift ρ s w Q) a w

/-- A function with a body of its own. -/
def callable (P : Program) (f : FuncId) : Bool :=
  match P.funcs[f]? with
  | some fn => !(fn.name == "runtime.NumGoroutine") && fn.body.isSome
  | none => false

theorem callable_run {P : Program} {f : FuncId} (h : callable P f = true) (args : Array Value) (w : World) : (callFunc f args).run P w = .ok (.enter f args) w := by
  unfold callable at h
  split at h
  · rename_i fn hf
    simp only [Bool.and_eq_true, Bool.not_eq_true'] at h
    have hn : fn.body.isNone = false := by cases hb : fn.body <;> simp_all
    simp only [callFunc, Sem.run_bind, run_program, Result.andThen_ok, hf, h.1, hn]
    rfl
  · cases h

/-- What a call comes to. -/
def CallPost (ρ : Rho) (s : SW) (w : World) (R : Value → SW → Prop) : Ending → World → Prop := fun e w' =>
  ∃ ρ' v rv s', e = .returned rv ∧ VRel ρ' v rv ∧ HRel ρ' s' w' ∧ Ext ρ s w ρ' s' w' ∧ R v s'

def SCalls (P : Program) (f : FuncId) (args : List Value) (s : SW) (R : Value → SW → Prop) : Prop :=
  callable P f = true ∧ ∀ ρ rargs w, F2 (VRel ρ) args rargs → HRel ρ s w → Calls P f rargs.toArray w (CallPost ρ s w R)

theorem SCalls.mono {P : Program} {f : FuncId} {args : List Value} {s : SW} {R R' : Value → SW → Prop} (h : SCalls P f args s R) (hR : ∀ v s', R v s' → R' v s') : SCalls P f args s R' :=
  ⟨h.1, fun ρ rargs w h1 h2 => (h.2 ρ rargs w h1 h2).mono fun _ _ ⟨ρ', v, rv, s', a, b, c, d, e⟩ => ⟨ρ', v, rv, s', a, b, c, d, hR v s' e⟩⟩

/-- Blocks may be forgotten ahead of a call, and behind it. -/
theorem SCalls.less {P : Program} {f : FuncId} {args : List Value} {s₀ s : SW} {R R' : Value → SW → Prop} (h : SCalls P f args s₀ R) (hl : SW.less s₀ s) (hR : ∀ v s', R v s' → ∃ s₁, SW.less s₁ s' ∧ R' v s₁) :
    SCalls P f args s R' :=
  ⟨h.1, fun ρ rargs w h1 h2 => (h.2 ρ rargs w h1 (h2.less hl)).mono fun _ _ ⟨ρ', v, rv, s', a, b, c, d, e⟩ => by
    obtain ⟨s₁, h3, h4⟩ := hR v s' e
    exact ⟨ρ', v, rv, s₁, a, b, c.less h3, (Ext.less hl d).less' h3, h4⟩⟩

theorem SWp.mono {P : Program} {c : Code} {Q Q' : SQ} {fr : List Value} {s : SW} (h : SWp P c Q fr s) (hq : ∀ e fr s, Q e fr s → Q' e fr s) : SWp P c Q' fr s :=
  fun ρ a w hf hr => wp_mono (h ρ a w hf hr) fun e a w ⟨h0, ρ', fr', s', h1, h2, h3, h4⟩ => ⟨h0, ρ', fr', s', h1, h2, h3, hq _ _ _ h4⟩

/-- A frame of which less is known. -/
def frLess (fr₀ fr : List Value) : Prop := fr₀.length = fr.length ∧ ∀ (k : Nat) (v : Value), fr₀[k]? = some v → v = junk ∨ fr[k]? = some v

theorem FRel.less {ρ : Rho} {fr₀ fr : List Value} {a : Act} (h : FRel ρ fr a) (hl : frLess fr₀ fr) : FRel ρ fr₀ a := by
  refine ⟨hl.1.trans h.size, h.defers, fun k v hk => ?_⟩
  rcases hl.2 k v hk with rfl | h1
  · have hlt : k < a.tmps.size := by
      rw [← h.size, ← hl.1]
      rcases Nat.lt_or_ge k fr₀.length with h2 | h2
      · exact h2
      · rw [List.getElem?_eq_none h2] at hk; cases hk
    exact ⟨a.tmps[k], Array.getElem?_eq_getElem hlt, .junk⟩
  · exact h.val k v h1

theorem SWp.less {P : Program} {c : Code} {Q : SQ} {fr₀ fr : List Value} {s₀ s : SW} (h : SWp P c Q fr₀ s₀) (hf : frLess fr₀ fr) (hs : SW.less s₀ s) : SWp P c Q fr s :=
  fun ρ a w h1 h2 => wp_mono (h ρ a w (h1.less hf) (h2.less hs)) fun _ _ _ ⟨h0, ρ', fr', s', g1, g2, g3, g4⟩ => ⟨h0, ρ', fr', s', g1, g2, Ext.less hs g3, g4⟩

theorem SWp.skip {P : Program} {Q : SQ} {fr : List Value} {s : SW} (h : Q .normal fr s) : SWp P .skip Q fr s :=
  fun ρ _ w hf hr => wp_skip ⟨rfl, ρ, fr, s, hf, hr, Ext.refl _ _ w, h⟩
theorem SWp.label {P : Program} {Q : SQ} {fr : List Value} {s : SW} {l : Nat} (h : Q .normal fr s) : SWp P (.label l) Q fr s :=
  fun ρ _ w hf hr => wp_label ⟨rfl, ρ, fr, s, hf, hr, Ext.refl _ _ w, h⟩
theorem SWp.exit {P : Program} {Q : SQ} {fr : List Value} {s : SW} {i : Nat} (h : Q (.exit i) fr s) : SWp P (.exit i) Q fr s :=
  fun ρ _ w hf hr => wp_exit ⟨rfl, ρ, fr, s, hf, hr, Ext.refl _ _ w, h⟩
theorem SWp.goto {P : Program} {Q : SQ} {fr : List Value} {s : SW} {i : Nat} (h : Q (.goto i) fr s) : SWp P (.goto i) Q fr s :=
  fun ρ _ w hf hr => wp_goto ⟨rfl, ρ, fr, s, hf, hr, Ext.refl _ _ w, h⟩
theorem SWp.ret {P : Program} {Q : SQ} {fr : List Value} {s : SW} (h : Q .ret fr s) : SWp P .ret Q fr s :=
  fun ρ _ w hf hr => wp_ret ⟨rfl, ρ, fr, s, hf, hr, Ext.refl _ _ w, h⟩

def thenQ (K : List Value → SW → Prop) (Q : SQ) : SQ
  | .normal, fr, s => K fr s
  | e, fr, s => Q e fr s

theorem SWp.seq {P : Program} {x y : Code} {Q : SQ} {fr : List Value} {s : SW} (h : SWp P x (thenQ (SWp P y Q) Q) fr s) : SWp P (.seq x y) Q fr s := by
  intro ρ a w hf hr
  refine wp_seq (wp_mono (h ρ a w hf hr) ?_)
  rintro e a' w' ⟨h0, ρ', fr', s', h1, h2, h3, h4⟩
  cases e with
  | normal =>
    refine wp_mono (h4 ρ' a' w' h1 h2) ?_
    rintro e a'' w'' ⟨g0, ρ'', fr'', s'', g1, g2, g3, g4⟩
    exact ⟨g0, ρ'', fr'', s'', g1, g2, h3.trans g3, g4⟩
  | _ => exact ⟨h0, ρ', fr', s', h1, h2, h3, h4⟩

theorem SWp.cond {P : Program} {x : Operand} {c d : Code} {Q : SQ} {fr : List Value} {s : SW} {t : Bool} (ht : ev fr x = .bool t) (h : SWp P (if t then c else d) Q fr s) : SWp P (.cond x c d) Q fr s := by
  intro ρ a w hf hr
  have h1 := hf.ev x
  rw [ht] at h1
  exact wp_cond h1.bool (h ρ a w hf hr)

def inBlockQ (id : Nat) (Q : SQ) : SQ
  | .exit id', fr, s => if id' = id then Q .normal fr s else Q (.exit id') fr s
  | e, fr, s => Q e fr s

theorem SWp.block {P : Program} {id : Nat} {c : Code} {Q : SQ} {fr : List Value} {s : SW} (h : SWp P c (inBlockQ id Q) fr s) : SWp P (.block id c) Q fr s := by
  intro ρ a w hf hr
  refine wp_block (wp_mono (h ρ a w hf hr) ?_)
  rintro e a' w' ⟨h0, ρ', fr', s', h1, h2, h3, h4⟩
  cases e with
  | exit id' =>
    simp only [inBlockQ] at h4
    simp only [Exit.inBlock]
    split at h4
    · rename_i he
      rw [if_pos he]
      exact ⟨rfl, ρ', fr', s', h1, h2, h3, h4⟩
    · rename_i he
      rw [if_neg he]
      exact ⟨rfl, ρ', fr', s', h1, h2, h3, h4⟩
  | _ => exact ⟨h0, ρ', fr', s', h1, h2, h3, h4⟩

/-- A loop: what holds at every round's head, and a measure. -/
theorem SWp.loop {P : Program} {c : Code} {Q : SQ} {fr : List Value} {s : SW} (I : Nat → List Value → SW → Prop) (n : Nat) (h₀ : I n fr s)
    (round : ∀ n fr s, I n fr s → SWp P c (thenQ (fun fr' s' => ∃ m, m < n ∧ I m fr' s') Q) fr s) : SWp P (.loop c) Q fr s := by
  intro ρ a w hf hr
  have key : ∀ (N : Nat) (b : Frame) (k : List Item) (cs : List Frame) (fr₁ : List Value) (s₁ : SW) (ρ₁ : Rho) (a₁ : Act) (w₁ : World) (n : Nat), n = N → I n fr₁ s₁ → FRel ρ₁ fr₁ a₁ → HRel ρ₁ s₁ w₁ → Ext ρ s w ρ₁ s₁ w₁ →
      ∃ e a' w', lift ρ s w Q e a' w' ∧ Arrives P (lone (b.at a₁ (.code c :: .inLoop c :: k)) cs w₁) b k cs e a' w' := by
    intro N
    induction N using Nat.strongRecOn with
    | _ N ih =>
      intro b k cs fr₁ s₁ ρ₁ a₁ w₁ n hn hI h1 h2 h3
      obtain ⟨e, a₂, w₂, hq, harr⟩ := round n fr₁ s₁ hI ρ₁ a₁ w₁ h1 h2 b (.inLoop c :: k) cs
      obtain ⟨g0, ρ₂, fr₂, s₂, g1, g2, g3, g4⟩ := hq
      cases e with
      | normal =>
        obtain ⟨m, hm, hI'⟩ := g4
        obtain ⟨e₂, a₃, w₃, hq₂, harr₂⟩ := ih m (hn ▸ hm) b k cs fr₂ s₂ ρ₂ a₂ w₂ m rfl hI' g1 g2 (h3.trans g3)
        exact ⟨e₂, a₃, w₃, hq₂, .of_steps (Steps.trans harr (.one step_inLoop)) harr₂⟩
      | exit id => exact ⟨_, a₂, w₂, ⟨g0, ρ₂, fr₂, s₂, g1, g2, h3.trans g3, g4⟩, .pass (x := .inLoop c) rfl (fun _ _ => .inl (by simp)) harr⟩
      | goto l => exact ⟨_, a₂, w₂, ⟨g0, ρ₂, fr₂, s₂, g1, g2, h3.trans g3, g4⟩, .pass (x := .inLoop c) rfl (fun _ _ => .inl (by simp)) harr⟩
      | ret => exact ⟨_, a₂, w₂, ⟨g0, ρ₂, fr₂, s₂, g1, g2, h3.trans g3, g4⟩, .pass (x := .inLoop c) rfl (fun _ _ => .inl (by simp)) harr⟩
      | panic ch => cases g0
      | outgrown => cases g0
  intro b k cs
  obtain ⟨e, a', w', hq, harr⟩ := key n b k cs fr s ρ a w n rfl h₀ hf hr (Ext.refl _ _ _)
  exact ⟨e, a', w', hq, .of_steps (.one step_loop) harr⟩

/-- Jumps within a scope, at most so many. -/
def hopQ (P : Program) (c : Code) (Q : SQ) : Nat → SQ
  | 0, .goto _, _, _ => False
  | n + 1, .goto l, fr, s => ∃ rest, findLabel c l = some rest ∧ SWp P rest (hopQ P c Q n) fr s
  | _, e, fr, s => Q e fr s

theorem SWp.scope {P : Program} {c : Code} {Q : SQ} {fr : List Value} {s : SW} (n : Nat) (h : SWp P c (hopQ P c Q n) fr s) : SWp P (.scope c) Q fr s := by
  intro ρ a w hf hr
  have key : ∀ (n : Nat) (x : Code) (b : Frame) (k : List Item) (cs : List Frame) (fr₁ : List Value) (s₁ : SW) (ρ₁ : Rho) (a₁ : Act) (w₁ : World), SWp P x (hopQ P c Q n) fr₁ s₁ → FRel ρ₁ fr₁ a₁ → HRel ρ₁ s₁ w₁ → Ext ρ s w ρ₁ s₁ w₁ →
      ∃ e a' w', lift ρ s w Q e a' w' ∧ Arrives P (lone (b.at a₁ (.code x :: .inScope c :: k)) cs w₁) b k cs e a' w' := by
    intro n
    induction n with
    | zero =>
      intro x b k cs fr₁ s₁ ρ₁ a₁ w₁ hx h1 h2 h3
      obtain ⟨e, a₂, w₂, ⟨g0, ρ₂, fr₂, s₂, g1, g2, g3, g4⟩, harr⟩ := hx ρ₁ a₁ w₁ h1 h2 b (.inScope c :: k) cs
      cases e with
      | normal => exact ⟨.normal, a₂, w₂, ⟨g0, ρ₂, fr₂, s₂, g1, g2, h3.trans g3, g4⟩, Steps.trans harr (.one step_inScope)⟩
      | exit id => exact ⟨.exit id, a₂, w₂, ⟨g0, ρ₂, fr₂, s₂, g1, g2, h3.trans g3, g4⟩, fun k' hk => harr k' (by simp [exitTo, hk])⟩
      | goto l => exact g4.elim
      | ret => exact ⟨_, a₂, w₂, ⟨g0, ρ₂, fr₂, s₂, g1, g2, h3.trans g3, g4⟩, harr⟩
      | panic ch => cases g0
      | outgrown => cases g0
    | succ n ih =>
      intro x b k cs fr₁ s₁ ρ₁ a₁ w₁ hx h1 h2 h3
      obtain ⟨e, a₂, w₂, ⟨g0, ρ₂, fr₂, s₂, g1, g2, g3, g4⟩, harr⟩ := hx ρ₁ a₁ w₁ h1 h2 b (.inScope c :: k) cs
      cases e with
      | normal => exact ⟨.normal, a₂, w₂, ⟨g0, ρ₂, fr₂, s₂, g1, g2, h3.trans g3, g4⟩, Steps.trans harr (.one step_inScope)⟩
      | exit id => exact ⟨.exit id, a₂, w₂, ⟨g0, ρ₂, fr₂, s₂, g1, g2, h3.trans g3, g4⟩, fun k' hk => harr k' (by simp [exitTo, hk])⟩
      | goto l =>
        obtain ⟨rest, hl, hw⟩ := g4
        obtain ⟨e₂, a₃, w₃, hq₂, harr₂⟩ := ih rest b k cs fr₂ s₂ ρ₂ a₂ w₂ hw g1 g2 (h3.trans g3)
        exact ⟨e₂, a₃, w₃, hq₂, .of_steps (harr _ (by simp [gotoIn, hl])) harr₂⟩
      | ret => exact ⟨_, a₂, w₂, ⟨g0, ρ₂, fr₂, s₂, g1, g2, h3.trans g3, g4⟩, harr⟩
      | panic ch => cases g0
      | outgrown => cases g0
  intro b k cs
  obtain ⟨e, a', w', hq, harr⟩ := key n c b k cs fr s ρ a w h hf hr (Ext.refl _ _ _)
  exact ⟨e, a', w', hq, .of_steps (.one step_scope) harr⟩

/-! ### the operations of a region, in their order -/

def sYield (ops : Array Oper) (fr : List Value) (j : Nat) : Option Bool :=
  match (((ops[j]? : Option Oper).bind (·.dst)).bind fun t => fr[t]?) with
  | some (.bool b) => some b
  | _ => none

theorem wanted_none {o : Oper} (h : o.guard = none) (f : Nat → Option Bool) : Region.wanted o f = true := by simp [Region.wanted, h]

/-- The guard of an operation, as the shadow tells it: none: it can't tell. -/
def sWanted (ops : Array Oper) (o : Oper) (fr : List Value) : Option Bool :=
  match o.guard with
  | none => some true
  | some (j, want) => match (((ops[j]? : Option Oper).bind (·.dst)).bind fun t => fr[t]?) with
    | some (.bool b) => some (b == want)
    | some (.tuple vs) => if vs.isEmpty then some false else none
    | _ => none

theorem VRel.emptyT {ρ : Rho} {vs : Array Value} {rv : Value} (h : VRel ρ (.tuple vs) rv) (hv : vs.isEmpty = true) : rv = .tuple #[] := by
  have hv' : vs = #[] := by simpa using hv
  subst hv'
  have key : ∀ x : Value, x = .tuple #[] → VRel ρ x rv → rv = .tuple #[] := by
    intro x hx h
    cases h with
    | plain h0 => subst hx; simp [pl0] at h0
    | junk => exact absurd hx (by intro e; injection e with e; simp at e)
    | @tuple cs cs' h1 _ =>
      injection hx with e
      subst e
      have : cs' = #[] := Array.eq_empty_of_size_eq_zero (by rw [← h1]; rfl)
      rw [this]
    | _ => cases hx
  exact key _ rfl h

theorem sWanted_ok {ρ : Rho} {ops : Array Oper} {o : Oper} {fr : List Value} {a : Act} {b : Bool} (hf : FRel ρ fr a) (h : sWanted ops o fr = some b) : Region.wanted o (yielded ops a.tmps) = b := by
  unfold sWanted at h
  unfold Region.wanted
  split at h
  · rename_i hg
    cases h
    simp [hg]
  · rename_i j want hg
    simp only [hg]
    split at h
    · rename_i b' hb
      cases h
      cases hd : (ops[j]? : Option Oper).bind (·.dst) with
      | none => rw [hd] at hb; cases hb
      | some t =>
        rw [hd] at hb
        simp only [Option.bind_some] at hb
        obtain ⟨rv, h1, h2⟩ := hf.val t _ hb
        obtain rfl := h2.bool
        simp [yielded, hd, h1]
    · rename_i vs hb
      split at h
      · rename_i hv
        cases h
        cases hd : (ops[j]? : Option Oper).bind (·.dst) with
        | none => rw [hd] at hb; cases hb
        | some t =>
          rw [hd] at hb
          simp only [Option.bind_some] at hb
          obtain ⟨rv, h1, h2⟩ := hf.val t _ hb
          obtain rfl := h2.emptyT hv
          simp [yielded, hd, h1]
      · cases h
    · cases h

/-- One operation; behind it K. -/
def vcOp (P : Program) (ops : Array Oper) (o : Oper) (K : List Value → SW → Prop) (fr : List Value) (s : SW) : Prop :=
  match sWanted ops o fr with
  | none => False
  | some false => K (put fr o.dst Go.undef) s
  | some true =>
    match o.op with
    | .call ⟨.value f, args, _⟩ =>
      match ev fr f with
      | .func (.func g) first cap => SCalls P g (first.toList ++ args.toList.map (ev fr) ++ cap.toList) s fun v s' => K (put fr o.dst v) s'
      | _ => False
    | _ =>
      match sOp P o fr s with
      | some (v, s') => K (put fr o.dst v) s'
      | none => False

theorem F2.of_sizes {ρ : Rho} {f f' : Array Value} (h : f.size = f'.size) (k : ∀ (k : Nat) (v v' : Value), f[k]? = some v → f'[k]? = some v' → VRel ρ v v') : F2 (VRel ρ) f.toList f'.toList :=
  F2.of_get (by simpa using h) (by simpa using k)

theorem VRel.func_inv {ρ : Rho} {g : FuncId} {f c : Array Value} {rv : Value} (h : VRel ρ (.func (.func g) f c) rv) : ∃ f' c', rv = .func (.func g) f' c' ∧ F2 (VRel ρ) f.toList f'.toList ∧ F2 (VRel ρ) c.toList c'.toList := by
  cases h with
  | plain h0 => simp [pl0] at h0
  | func h1 h2 h3 h4 => exact ⟨_, _, rfl, F2.of_sizes h1 h3, F2.of_sizes h2 h4⟩

theorem vcOp_ok {P : Program} {ops : Array Oper} {o : Oper} {K : List Value → SW → Prop} {fr : List Value} {s : SW} {ρ : Rho} {a : Act} {w : World} {K' : Act → World → Prop} {Q' : Exit → Act → World → Prop}
    (hf : FRel ρ fr a) (hr : HRel ρ s w) (h : vcOp P ops o K fr s)
    (hK : ∀ ρ' fr' s' a' w', (∃ rv, a' = a.put o.dst rv) → FRel ρ' fr' a' → HRel ρ' s' w' → Ext ρ s w ρ' s' w' → K fr' s' → K' a' w') :
    if Region.wanted o (yielded ops a.tmps) then o.wp P a w K' Q' ∨ (o.asks P a w ∧ LetsOut Q') else K' (a.put o.dst Go.undef) w := by
  unfold vcOp at h
  split at h
  · exact h.elim
  · rename_i hw
    rw [sWanted_ok hf hw]
    simp only [Bool.false_eq_true, if_false]
    exact hK ρ _ s _ w ⟨_, rfl⟩ (hf.put o.dst .undef) hr (Ext.refl _ _ _) h
  · rename_i hw
    rw [sWanted_ok hf hw]
    simp only [if_true]
    left
    split at h
    · rename_i f args tys hop
      split at h
      · rename_i g first cap hg
        have hfv := hf.ev f
        rw [hg] at hfv
        obtain ⟨first', cap', he, h1, h2⟩ := hfv.func_inv
        have hargs := F2.map_ev hf args.toList
        obtain ⟨hc, hcalls⟩ := h
        have hexec : (execOp a.eval o).run P w = .ok (.enter g (first' ++ args.map a.eval ++ cap')) w := by
          have : execOp a.eval o = (do let d ← resolve a.eval ⟨.value f, args, tys⟩ o.type; invoke d.target d.args) := by
            cases o; cases hop; rfl
          rw [this]
          simp only [resolve, Deferred.ofValue, he, Sem.run_bind, Sem.run_pure, Result.andThen_ok, invoke]
          exact callable_run hc _ w
        have hF := (h1.append hargs).append h2
        have := hcalls ρ _ w hF hr
        unfold Oper.wp Oper.upon
        rw [hexec]
        simp only
        have e1 : (first'.toList ++ args.toList.map a.eval ++ cap'.toList).toArray = first' ++ args.map a.eval ++ cap' := by
          apply Array.toList_inj.1; simp
        rw [e1] at this
        refine this.mono ?_
        rintro e w' ⟨ρ', v, rv, s', rfl, g1, g2, g3, g4⟩
        exact hK ρ' _ s' _ w' ⟨_, rfl⟩ ((hf.mono g3.le).put o.dst g1) g2 g3 g4
      · exact h.elim
    · split at h
      · rename_i v s' hop
        obtain ⟨ρ', w', rv, n, g1, g2, g3, g4, g5⟩ := sOp_ok hf hr hop
        unfold Oper.wp Oper.upon
        rw [g1]
        rcases g2 with rfl | ⟨rfl, rfl⟩
        · exact hK ρ' _ s' _ w' ⟨_, rfl⟩ ((hf.mono g5.le).put o.dst g3) g4 g5 h
        · exact hK ρ' _ s' _ w' ⟨_, rfl⟩ ((hf.mono g5.le).put o.dst g3) g4 g5 h
      · exact h.elim

def vcOps (P : Program) (ops : Array Oper) (K : List Value → SW → Prop) : List Oper → List Value → SW → Prop
  | [] => K
  | o :: rest => vcOp P ops o (vcOps P ops K rest)

theorem vcOps_ok {P : Program} {ops : Array Oper} {Q : SQ} {ρ₀ : Rho} {s₀ : SW} {w₀ : World} : ∀ (l : List Nat) (os : List Oper), l.map (fun i => ops[i]?) = os.map some → ∀ (ρ : Rho) (fr : List Value) (s : SW) (a : Act) (w : World),
    FRel ρ fr a → HRel ρ s w → Ext ρ₀ s₀ w₀ ρ s w → vcOps P ops (Q .normal) os fr s → wpOps P ops (lift ρ₀ s₀ w₀ Q) l a w := by
  intro l
  induction l with
  | nil =>
    intro os hos ρ fr s a w hf hr he h
    cases os with
    | nil => exact ⟨rfl, ρ, fr, s, hf, hr, he, h⟩
    | cons _ _ => cases hos
  | cons i l ih =>
    intro os hos ρ fr s a w hf hr he h
    cases os with
    | nil => cases hos
    | cons o os =>
      simp only [List.map_cons, List.cons.injEq] at hos
      simp only [wpOps, hos.1]
      exact vcOp_ok hf hr h fun ρ' fr' s' a' w' _ g1 g2 g3 g4 => ih os hos.2 ρ' fr' s' a' w' g1 g2 (he.trans g3) g4

theorem SWp.region {P : Program} {id : Nat} {ops : Array Oper} {Q : SQ} {fr : List Value} {s : SW} (h : vcOps P ops (Q .normal) ops.toList fr s) : SWp P (.region id ops false) Q fr s := by
  intro ρ a w hf hr
  refine wp_region (vcOps_ok (List.range ops.size) ops.toList ?_ ρ fr s a w hf hr (Ext.refl _ _ _) h)
  apply List.ext_getElem?
  intro k
  simp only [List.getElem?_map]
  by_cases hk : k < ops.size
  · rw [List.getElem?_range hk]
    simp [hk]
  · rw [List.getElem?_eq_none (by simpa using Nat.le_of_not_lt hk), List.getElem?_eq_none (by simpa using Nat.le_of_not_lt hk)]
    rfl

end Go.Sh

/- A function's contract, out of its body. -/
namespace Go.Sh
open Go

def sResL (P : Program) (fr : List Value) (s : SW) : List ResultVar → Option (List Value)
  | [] => some []
  | .tmp t :: rs => (sResL P fr s rs).map (fr.getD t Go.undef :: ·)
  | .cell a t :: rs =>
    match sLoad P t (fr.getD a Go.undef) s, sResL P fr s rs with
    | some v, some vs => some (v :: vs)
    | _, _ => none

def oneOf : List Value → Value
  | [v] => v
  | vs => .tuple vs.toArray

def sResults (P : Program) (fn : Func) (fr : List Value) (s : SW) : Option Value := (sResL P fr s fn.results.toList).map oneOf

theorem sResL_ok {P : Program} {ρ : Rho} {fr : List Value} {a : Act} {s : SW} {w : World} (hf : FRel ρ fr a) (hr : HRel ρ s w) : ∀ (rs : List ResultVar) (vs : List Value), sResL P fr s rs = some vs →
    ∃ rvs, F2 (VRel ρ) vs rvs ∧ (rs.mapM fun
      | .tmp t => pure (a.tmps.getD t Go.undef)
      | .cell x t => do loadVar t (← asAddr (a.tmps.getD x Go.undef)) : Sem (List Value)).run P w = .ok rvs w := by
  intro rs
  induction rs with
  | nil => intro vs h; cases h; exact ⟨[], .nil, rfl⟩
  | cons r rs ih =>
    intro vs h
    cases r with
    | tmp t =>
      simp only [sResL, Option.map_eq_some_iff] at h
      obtain ⟨vs', h1, rfl⟩ := h
      obtain ⟨rvs, h2, h3⟩ := ih vs' h1
      have h4 := hf.ev (.tmp t)
      simp only [ev, Act.eval] at h4
      refine ⟨_, .cons h4 h2, ?_⟩
      simp only [List.mapM_cons, Sem.run_bind, Sem.run_pure, Result.andThen_ok]
      rw [h3]
      rfl
    | cell x t =>
      simp only [sResL] at h
      split at h
      · rename_i v vs' h1 h2
        cases h
        obtain ⟨rvs, h3, h4⟩ := ih vs' h2
        have h5 := hf.ev (.tmp x)
        simp only [ev, Act.eval] at h5
        obtain ⟨rv, h6, h7⟩ := sLoad_ok hr h1 h5
        have h8 : (do loadVar t (← asAddr (a.tmps.getD x Go.undef)) : Sem Value).run P w = .ok rv w := by
          have h9 := h1
          unfold sLoad at h9
          split at h9
          · rename_i i o he
            rw [he] at h5
            obtain ⟨p, hp, h10⟩ := h5.ptr_inv
            rw [h10] at h7 ⊢
            simpa [Instr.loadAt, Instr.sureAddr, asAddr] using h7
          · cases h9
        refine ⟨_, .cons h6 h3, ?_⟩
        simp only [List.mapM_cons, Sem.run_bind] at h8 ⊢
        rw [h8]
        simp only [Result.andThen_ok]
        rw [h4]
        rfl
      · cases h

theorem sResults_ok {P : Program} {ρ : Rho} {fn : Func} {fr : List Value} {a : Act} {s : SW} {w : World} {v : Value} (hf : FRel ρ fr a) (hr : HRel ρ s w) (h : sResults P fn fr s = some v) :
    ∃ rv, VRel ρ v rv ∧ (results fn a.tmps).run P w = .ok rv w := by
  unfold sResults at h
  simp only [Option.map_eq_some_iff] at h
  obtain ⟨vs, h1, rfl⟩ := h
  obtain ⟨rvs, h2, h3⟩ := sResL_ok hf hr fn.results.toList vs h1
  refine ⟨oneOf rvs, ?_, ?_⟩
  · cases h2 with
    | nil => exact .tuple rfl fun k v v' h _ => by simp at h
    | cons h4 h5 =>
      cases h5 with
      | nil => exact h4
      | cons h6 h7 =>
        refine .tuple (by simp [h7.length]) fun k u u' e1 e2 => ?_
        exact (F2.cons h4 (.cons h6 h7)).get k u u' (by simpa using e1) (by simpa using e2)
  · unfold results
    rw [Array.mapM_eq_mapM_toList]
    simp only [Sem.run_bind, Sem.run_map]
    refine (congrArg (fun r => ((Result.andThen r fun (l : List Value) w' => Result.ok l.toArray w').andThen fun (vs : Array Value) w' => Sem.run P (pure (if h : vs.size = 1 then vs[0] else .tuple vs)) w')) h3).trans ?_
    simp only [Result.andThen_ok, Sem.run_pure]
    congr 1
    cases h2 with
    | nil => rfl
    | cons h4 h5 =>
      cases h5 with
      | nil => rfl
      | cons h6 h7 => simp [oneOf]

/-- At the end of a body. -/
def bodyQ (P : Program) (fn : Func) (R : Value → SW → Prop) : SQ
  | .normal, fr, s | .ret, fr, s => match sResults P fn fr s with
    | some v => R v s
    | none => False
  | _, _, _ => False

def fnCallable (fn : Func) : Bool := !(fn.name == "runtime.NumGoroutine") && fn.body.isSome

theorem SCalls.body {P : Program} {f : FuncId} {fn : Func} {c : Code} {args : List Value} {s : SW} {R : Value → SW → Prop} (hf : P.funcs[f]? = some fn) (hb : fn.body = some c) (hc : fnCallable fn = true)
    (h : SWp P c (bodyQ P fn R) (args ++ List.replicate (fn.ntmps - args.length) Go.undef) s) : SCalls P f args s R := by
  refine ⟨by unfold callable; rw [hf]; exact hc, fun ρ rargs w ha hr => ?_⟩
  refine calls_of_wp hf hb ?_
  have hF : FRel ρ (args ++ List.replicate (fn.ntmps - args.length) Go.undef) { tmps := rargs.toArray ++ Array.replicate (fn.ntmps - rargs.toArray.size) Go.undef, defers := [] } := by
    have hl := ha.length
    refine ⟨by simp [hl], rfl, fun k v hk => ?_⟩
    rw [List.getElem?_append] at hk
    by_cases hk2 : k < args.length
    · rw [if_pos hk2] at hk
      have : k < rargs.length := by omega
      refine ⟨rargs[k], ?_, ha.get k v _ hk (List.getElem?_eq_getElem this)⟩
      rw [Array.getElem?_append_left (by simpa using this)]
      simp [this]
    · rw [if_neg hk2] at hk
      have h1 : v = Go.undef := by
        have := List.mem_of_getElem? hk
        exact List.eq_of_mem_replicate this
      subst h1
      refine ⟨Go.undef, ?_, .undef⟩
      have hlt : k - args.length < fn.ntmps - args.length := by
        rcases Nat.lt_or_ge (k - args.length) (fn.ntmps - args.length) with h | h
        · exact h
        · rw [List.getElem?_eq_none (by simpa using h)] at hk; cases hk
      rw [Array.getElem?_append_right (by simp; omega)]
      rw [Array.getElem?_replicate, if_pos]
      simp only [List.size_toArray]
      omega
  refine wp_mono (h ρ _ w hF hr) ?_
  rintro e a' w' ⟨h0, ρ', fr', s', h1, h2, h3, h4⟩
  have fin : ∀ v, sResults P fn fr' s' = some v → R v s' → a'.defers = [] ∧ ∃ v, (results fn a'.tmps).run P w' = .ok v w' ∧ CallPost ρ s w R (.returned v) w' := by
    intro v hv hR
    obtain ⟨rv, g1, g2⟩ := sResults_ok h1 h2 hv
    exact ⟨h1.defers, rv, g2, ρ', v, rv, s', rfl, g1, h2, h3, hR⟩
  cases e with
  | normal =>
    simp only [bodyQ] at h4
    split at h4
    · rename_i v hv; exact fin v hv h4
    · exact h4.elim
  | ret =>
    simp only [bodyQ] at h4
    split at h4
    · rename_i v hv; exact fin v hv h4
    · exact h4.elim
  | exit _ => exact h4.elim
  | goto _ => exact h4.elim
  | panic _ => cases h0
  | outgrown => cases h0

end Go.Sh

/- The conditions of a piece of code, reckoned. -/
namespace Go.Sh
open Go

/-- A loop, a scope and a region that draws its order stay as they are. -/
def vc (P : Program) : Code → SQ → List Value → SW → Prop
  | .skip, Q => Q .normal
  | .label _, Q => Q .normal
  | .exit i, Q => Q (.exit i)
  | .goto i, Q => Q (.goto i)
  | .ret, Q => Q .ret
  | .seq a b, Q => vc P a (thenQ (vc P b Q) Q)
  | .cond x c d, Q => fun fr s => match ev fr x with
    | .bool true => vc P c Q fr s
    | .bool false => vc P d Q fr s
    | _ => False
  | .block id c, Q => vc P c (inBlockQ id Q)
  | .region id ops draw, Q => match draw with
    | false => vcOps P ops (Q .normal) ops.toList
    | true => SWp P (.region id ops true) Q
  | c, Q => SWp P c Q

theorem vc_ok {P : Program} : ∀ (c : Code) (Q : SQ) (fr : List Value) (s : SW), vc P c Q fr s → SWp P c Q fr s := by
  intro c
  induction c with
  | skip => intro Q fr s h; exact .skip h
  | label l => intro Q fr s h; exact .label h
  | exit i => intro Q fr s h; exact .exit h
  | goto i => intro Q fr s h; exact .goto h
  | ret => intro Q fr s h; exact .ret h
  | seq a b iha ihb =>
    intro Q fr s h
    refine .seq ((iha _ fr s h).mono fun e fr s hq => ?_)
    cases e with
    | normal => exact ihb Q fr s hq
    | _ => exact hq
  | cond x c d ihc ihd =>
    intro Q fr s h
    simp only [vc] at h
    split at h
    · rename_i hx; exact .cond hx (ihc Q fr s h)
    · rename_i hx; exact .cond hx (ihd Q fr s h)
    · exact h.elim
  | block id c ih => intro Q fr s h; exact .block (ih _ fr s h)
  | region id ops draw =>
    intro Q fr s h
    cases draw with
    | false => exact .region h
    | true => exact h
  | loop c _ => intro Q fr s h; exact h
  | rangeFunc f ps a b _ _ => intro Q fr s h; exact h
  | scope c _ => intro Q fr s h; exact h
  | refuse w => intro Q fr s h; exact h

end Go.Sh

/- A region that draws its order: what its operations ask of each other. -/
namespace Go.Sh
open Go

/-- 0: it reads or reckons; 1: it turns something, or calls; 2: it makes a block. -/
def cls (o : Oper) : Nat :=
  match o.op with
  | .store _ _ _ | .mapUpdate _ _ _ _ | .insert _ _ _ _ => 1
  | .call ⟨.builtin b, _, _⟩ => match b with
    | .len | .max | .min => 0
    | _ => 1
  | .call _ => 1
  | .alloc _ | .box _ _ | .buildSlice _ _ _ | .makeMap _ _ | .makeSlice _ _ _ => 2
  | _ => 0

def readsHeap (o : Oper) : Bool :=
  match o.op with
  | .load _ _ | .lookup _ _ _ _ | .slice _ _ _ _ _ | .convert _ _ _ => true
  | .call ⟨.builtin b, _, _⟩ => match b with
    | .len => true
    | _ => false
  | _ => false

theorem sOp_pure {P : Program} {o : Oper} {fr : List Value} {s s' : SW} {v : Value} (hc : cls o = 0) (hh : readsHeap o = false) (h : sOp P o fr s = some (v, s')) (s₁ : SW) : sOp P o fr s₁ = some (v, s₁) := by
  unfold sOp at h ⊢
  unfold cls at hc
  unfold readsHeap at hh
  cases hop : o.op with
  | move x => simp only [hop] at h ⊢; cases h; rfl
  | assign x => simp only [hop] at h ⊢; cases h; rfl
  | pick c a b =>
    simp only [hop] at h ⊢
    split at h
    · cases h; rfl
    · cases h
  | build t ps => simp only [hop, Option.map_eq_some_iff, Prod.mk.injEq] at h ⊢; obtain ⟨v', h1, rfl, rfl⟩ := h; exact ⟨v', h1, rfl, by trivial⟩
  | nilCheck x => simp only [hop, Option.map_eq_some_iff, Prod.mk.injEq] at h ⊢; obtain ⟨v', h1, rfl, rfl⟩ := h; exact ⟨v', h1, rfl, by trivial⟩
  | binOp op t x y u => simp only [hop, Option.map_eq_some_iff, Prod.mk.injEq] at h ⊢; obtain ⟨v', h1, rfl, rfl⟩ := h; exact ⟨v', h1, rfl, by trivial⟩
  | unOp op t x => simp only [hop, Option.map_eq_some_iff, Prod.mk.injEq] at h ⊢; obtain ⟨v', h1, rfl, rfl⟩ := h; exact ⟨v', h1, rfl, by trivial⟩
  | makeFunc fn f c => simp only [hop] at h ⊢; cases h; rfl
  | fieldAddr t x f => simp only [hop, Option.map_eq_some_iff, Prod.mk.injEq] at h ⊢; obtain ⟨v', h1, rfl, rfl⟩ := h; exact ⟨v', h1, rfl, by trivial⟩
  | field t x f => simp only [hop, Option.map_eq_some_iff, Prod.mk.injEq] at h ⊢; obtain ⟨v', h1, rfl, rfl⟩ := h; exact ⟨v', h1, rfl, by trivial⟩
  | indexAddr t x i => simp only [hop, Option.map_eq_some_iff, Prod.mk.injEq] at h ⊢; obtain ⟨v', h1, rfl, rfl⟩ := h; exact ⟨v', h1, rfl, by trivial⟩
  | index t x i => simp only [hop, Option.map_eq_some_iff, Prod.mk.injEq] at h ⊢; obtain ⟨v', h1, rfl, rfl⟩ := h; exact ⟨v', h1, rfl, by trivial⟩
  | extract t i => simp only [hop, Option.map_eq_some_iff, Prod.mk.injEq] at h ⊢; obtain ⟨v', h1, rfl, rfl⟩ := h; exact ⟨v', h1, rfl, by trivial⟩
  | call c =>
    obtain ⟨callee, args, tys⟩ := c
    cases callee with
    | builtin b =>
      simp only [hop] at h hc hh ⊢
      cases b <;> simp only [sBuiltin] at h hc hh ⊢ <;> first
        | (cases hc; done)
        | (cases hh; done)
        | (simp only [Option.map_eq_some_iff, Prod.mk.injEq] at h ⊢; obtain ⟨v', h1, rfl, rfl⟩ := h; exact ⟨v', h1, rfl, by trivial⟩)
        | (cases h; done)
    | _ => simp only [hop] at h; cases h
  | _ => simp only [hop] at h hc hh <;> first | (cases h; done) | (cases hc; done) | (cases hh; done)

theorem sOp_same {P : Program} {o : Oper} {fr : List Value} {s s' : SW} {v : Value} (h : sOp P o fr s = some (v, s')) (hs : s' = s) : sOp P o fr s = some (v, s) := by rw [h, hs]

/-- What an operation looks at decides what it comes to. -/
theorem sOp_congr {P : Program} {o : Oper} {fr fr' : List Value} (s : SW) (h : ∀ x ∈ o.op.operands.toList, ev fr x = ev fr' x) : sOp P o fr s = sOp P o fr' s := by
  unfold sOp
  have hp : ∀ (ps : Array (Nat × Operand)), (∀ x ∈ (ps.toList.map (·.2)).toArray.toList, ev fr x = ev fr' x) → (ps.toList.map fun p => (p.1, ev fr p.2)) = (ps.toList.map fun p => (p.1, ev fr' p.2)) := by
    intro ps hps
    apply List.map_congr_left
    intro p hp
    rw [hps p.2 (by simpa using ⟨p.1, by simpa using hp⟩)]
  have ha : ∀ (xs : Array Operand), (∀ x ∈ xs.toList, ev fr x = ev fr' x) → xs.map (ev fr) = xs.map (ev fr') := by
    intro xs hxs
    apply Array.map_congr_left
    intro x hx
    exact hxs x (by simpa using hx)
  cases hop : o.op with
  | call c =>
    obtain ⟨callee, args, tys⟩ := c
    rw [hop] at h
    cases callee with
    | builtin b =>
      simp only
      rw [ha args fun x hx => h x (by simpa [Op.operands, Call.operands] using hx)]
    | _ => rfl
  | build t ps => rw [hop] at h; simp only; rw [hp ps h]
  | buildSlice t n ps => rw [hop] at h; simp only; rw [hp ps h]
  | makeFunc fn f c =>
    rw [hop] at h
    simp only
    rw [ha f fun x hx => h x (by simp [Op.operands]; exact .inl (by simpa using hx)), ha c fun x hx => h x (by simp [Op.operands]; exact .inr (by simpa using hx))]
  | makeMap t r =>
    rw [hop] at h
    cases r with
    | none => rfl
    | some x => simp only; rw [h x (by simp [Op.operands])]
  | slice t x l hi m =>
    rw [hop] at h
    have hl : l.map (ev fr) = l.map (ev fr') := by cases l with | none => rfl | some y => simp only [Option.map_some]; rw [h y (by simp [Op.operands])]
    have hh : hi.map (ev fr) = hi.map (ev fr') := by cases hi with | none => rfl | some y => simp only [Option.map_some]; rw [h y (by simp [Op.operands])]
    have hm : m.map (ev fr) = m.map (ev fr') := by cases m with | none => rfl | some y => simp only [Option.map_some]; rw [h y (by simp [Op.operands])]
    simp only
    rw [h x (by simp [Op.operands]), hl, hh, hm]
  | move x => rw [hop] at h; simp only; rw [h x (by simp [Op.operands])]
  | assign x => rw [hop] at h; simp only; rw [h x (by simp [Op.operands])]
  | box t x => rw [hop] at h; simp only; rw [h x (by simp [Op.operands])]
  | load t x => rw [hop] at h; simp only; rw [h x (by simp [Op.operands])]
  | nilCheck x => rw [hop] at h; simp only; rw [h x (by simp [Op.operands])]
  | unOp op t x => rw [hop] at h; simp only; rw [h x (by simp [Op.operands])]
  | convert t u x => rw [hop] at h; simp only; rw [h x (by simp [Op.operands])]
  | fieldAddr t x f => rw [hop] at h; simp only; rw [h x (by simp [Op.operands])]
  | field t x f => rw [hop] at h; simp only; rw [h x (by simp [Op.operands])]
  | extract x i => rw [hop] at h; simp only; rw [h x (by simp [Op.operands])]
  | pick c a b => rw [hop] at h; simp only; rw [h c (by simp [Op.operands]), h a (by simp [Op.operands]), h b (by simp [Op.operands])]
  | store t x y => rw [hop] at h; simp only; rw [h x (by simp [Op.operands]), h y (by simp [Op.operands])]
  | binOp op t x y u => rw [hop] at h; simp only; rw [h x (by simp [Op.operands]), h y (by simp [Op.operands])]
  | makeSlice t x y => rw [hop] at h; simp only; rw [h x (by simp [Op.operands]), h y (by simp [Op.operands])]
  | indexAddr t x y => rw [hop] at h; simp only; rw [h x (by simp [Op.operands]), h y (by simp [Op.operands])]
  | index t x y => rw [hop] at h; simp only; rw [h x (by simp [Op.operands]), h y (by simp [Op.operands])]
  | lookup t x y b => rw [hop] at h; simp only; rw [h x (by simp [Op.operands]), h y (by simp [Op.operands])]
  | mapUpdate t x y z => rw [hop] at h; simp only; rw [h x (by simp [Op.operands]), h y (by simp [Op.operands]), h z (by simp [Op.operands])]
  | insert t x y z => rw [hop] at h; simp only; rw [h x (by simp [Op.operands]), h y (by simp [Op.operands]), h z (by simp [Op.operands])]
  | _ => rfl

/-- A new block, whatever the heap: what it holds, and what leads to it. -/
def sNew (P : Program) (o : Oper) (fr : List Value) : Option (SObj × (Nat → Value)) :=
  match o.op with
  | .alloc t =>
    match zeroV P t with
    | some z => if z.cells.toList.all pl0 then some (.cells z.cells.toList true 0, fun i => .pointer (some ⟨i, 0, none⟩)) else none
    | none => none
  | .box _ v => if (ev fr v).cells.toList.all (·.oneCell') = true then some (.cells (ev fr v).cells.toList true 0, fun i => .pointer (some ⟨i, 0, none⟩)) else none
  | .buildSlice t len ps =>
    match P.underlying t with
    | some (.slice e) =>
      match sz P e, zeroV P e with
      | some n, some z =>
        if len * n ≤ 16777216 ∧ z.cells.size = n ∧ z.cells.toList.all pl0 = true ∧ (ps.toList.map fun p => (p.1, ev fr p.2)).all partOk = true then
          match Instr.fill (fun i => some (i * n, n)) (sZeros z.cells.toList len).toArray (ps.toList.map fun p => (p.1, ev fr p.2)) with
          | some out => some (.cells out.toList true 0, fun i => .slice (some ⟨i, 0, none⟩) len len)
          | none => none
        else none
      | _, _ => none
    | _ => none
  | .makeMap t none =>
    match P.underlying t with
    | some (.map kt _) => match P.underlying kt with
      | some (.int kk) => some (.map kk true [], fun i => .map (some i))
      | _ => none
    | _ => none
  | .makeSlice t l c =>
    match P.underlying t, ev fr l, ev fr c with
    | some (.slice e), .int _ l, .int _ c =>
      match sz P e, zeroV P e, bytesV P e with
      | some n, some z, some b =>
        if 0 ≤ l ∧ l ≤ c ∧ c ≤ 1073741824 ∧ b ≤ 1024 ∧ z.cells.size = n ∧ z.cells.toList.all pl0 = true then
          some (.cells (sZeros z.cells.toList c.toNat) true 0, fun i => .slice (some ⟨i, 0, none⟩) l.toNat c.toNat)
        else none
      | _, _, _ => none
    | _, _, _ => none
  | _ => none

theorem sNew_sOp {P : Program} {o : Oper} {fr : List Value} {obj : SObj} {val : Nat → Value} (h : sNew P o fr = some (obj, val)) (s : SW) : sOp P o fr s = some (val s.next, s.new obj) := by
  unfold sNew at h
  unfold sOp
  split at h
  · rename_i t hop
    simp only [hop, sAlloc]
    split at h
    · rename_i z hz
      simp only [hz]
      split at h
      · rename_i hall
        rw [if_pos hall]; cases h; rfl
      · cases h
    · cases h
  · rename_i t x hop
    simp only [hop, sBox]
    split at h
    · rename_i hall
      rw [if_pos hall]; cases h; rfl
    · cases h
  · rename_i t len ps hop
    simp only [hop, sBuildSlice]
    split at h
    · rename_i e ht
      simp only [ht]
      split at h
      · rename_i n z hn hz
        simp only [hn, hz]
        split at h
        · rename_i hc
          rw [if_pos hc]
          split at h
          · rename_i out ho
            simp only [ho]
            cases h; rfl
          · cases h
        · cases h
      · cases h
    · cases h
  · rename_i t hop
    simp only [hop, sMakeMap]
    split at h
    · rename_i kt et ht
      try simp only [ht]
      split at h
      · rename_i kk hk
        try simp only [hk]
        cases h
        first | rfl | (split <;> simp_all)
      · cases h
    · cases h
  · rename_i t l c hop
    simp only [hop, sMakeSlice]
    split at h
    · rename_i e k l' k' c' ht hl hc
      simp only [ht, hl, hc]
      split at h
      · rename_i n z b hn hz hb
        simp only [hn, hz, hb]
        split at h
        · rename_i hcc
          rw [if_pos hcc]
          cases h; rfl
        · cases h
      · cases h
    · cases h
  · cases h

theorem sNew_congr {P : Program} {o : Oper} {fr fr' : List Value} (h : ∀ x ∈ o.op.operands.toList, ev fr x = ev fr' x) : sNew P o fr = sNew P o fr' := by
  unfold sNew
  cases hop : o.op with
  | box t x => rw [hop] at h; simp only; rw [h x (by simp [Op.operands])]
  | makeSlice t x y => rw [hop] at h; simp only; rw [h x (by simp [Op.operands]), h y (by simp [Op.operands])]
  | buildSlice t n ps =>
    rw [hop] at h
    have : (ps.toList.map fun p => (p.1, ev fr p.2)) = (ps.toList.map fun p => (p.1, ev fr' p.2)) := by
      apply List.map_congr_left
      intro p hp
      rw [h p.2 (by simp [Op.operands]; exact ⟨p.1, by simpa using hp⟩)]
    simp only
    rw [this]
  | makeMap t r => cases r <;> rfl
  | _ => rfl

end Go.Sh

/- A new block, as the model makes it. -/
namespace Go.Sh
open Go

/-- What a new block and what leads to it are to be. -/
def NewOk (P : Program) (m : Sem Value) (ρ : Rho) (w : World) (obj : SObj) (val : Nat → Value) : Prop :=
  ∃ ob rv p, p.r = w.heap.size ∧ m.run P w = .ok rv (w.alloc ob) ∧ ORel ρ p obj (some ob) ∧ ∀ (ρ' : Rho) (id : Nat), ρ' id = some p → VRel ρ' (val id) rv

theorem NewOk.row {P : Program} {ρ : Rho} {w : World} {cs rcs : List Value} (e : TypeId) (hF : F2 (VRel ρ) cs rcs) (f : Nat → Value) {m : Sem Value} (g : Nat → Value)
    (hm : m.run P w = .ok (g w.heap.size) (w.alloc (.cells rcs.toArray e))) (hv : ∀ (ρ' : Rho) (id : Nat), ρ' id = some ⟨w.heap.size, 0, cs.length, 0, 1⟩ → VRel ρ' (f id) (g w.heap.size)) :
    NewOk P m ρ w (.cells cs true 0) f := by
  refine ⟨_, _, ⟨w.heap.size, 0, cs.length, 0, 1⟩, rfl, hm, ⟨rfl, by simp [hF.length], fun k v hk => ?_, fun _ k _ hk => absurd hk.2 (by simp), fun _ => ⟨rfl, rfl⟩, fun h => absurd rfl h⟩, hv⟩
  have hlt : k < rcs.length := by
    rw [← hF.length]
    rcases Nat.lt_or_ge k cs.length with h | h
    · exact h
    · rw [List.getElem?_eq_none h] at hk; cases hk
  exact ⟨rcs[k], by simp [hlt], hF.get k v _ hk (List.getElem?_eq_getElem hlt)⟩

theorem sZeros_nil {z : Value} {len n : Nat} (h2 : z.cells.size = n) (h0 : len * n = 0) : sZeros z.cells.toList len = [] := by
  have hlen : (sZeros z.cells.toList len).length = 0 := by rw [sZeros_length]; simpa [h2] using h0
  exact List.length_eq_zero_iff.1 hlen

theorem sNew_run {P : Program} {o : Oper} {fr : List Value} {a : Act} {ρ : Rho} {w : World} {obj : SObj} {val : Nat → Value} (h : sNew P o fr = some (obj, val)) (hf : FRel ρ fr a) :
    ∃ ob rv p, p.r = w.heap.size ∧ (execOp a.eval o).run P w = .ok (.value rv) (w.alloc ob) ∧ ORel ρ p obj (some ob) ∧ ∀ (ρ' : Rho) (id : Nat), ρ' id = some p → VRel ρ' (val id) rv := by
  have hop : ∀ x, o.op = x → execOp a.eval o = execOp a.eval { o with op := x } := fun x hx => by cases o; cases hx; rfl
  have fin : ∀ (m : Sem Value), execOp a.eval o = (do pure (.value (← m))) → NewOk P m ρ w obj val →
      ∃ ob rv p, p.r = w.heap.size ∧ (execOp a.eval o).run P w = .ok (.value rv) (w.alloc ob) ∧ ORel ρ p obj (some ob) ∧ ∀ (ρ' : Rho) (id : Nat), ρ' id = some p → VRel ρ' (val id) rv := by
    intro m hm ⟨ob, rv, p, h1, h2, h3, h4⟩
    exact ⟨ob, rv, p, h1, by rw [hm]; simp [h2], h3, h4⟩
  unfold sNew at h
  split at h
  · rename_i t hx
    split at h
    · rename_i z hz
      split at h
      · rename_i hall
        cases h
        refine fin (Instr.alloc t true (.tuple #[])) (by rw [hop _ hx]; rfl) (.row t (F2.zero hall) _ (fun r => .pointer (some ⟨r, 0, none⟩)) ?_ fun ρ' id hid => .ptr hid)
        simp only [Instr.alloc, Sem.run_bind, run_zeroValue' w hz, Result.andThen_ok, newVar, newRow, run_newObj, Sem.run_pure, Array.toArray_toList]
        rfl
      · cases h
    · cases h
  · rename_i t x hx
    split at h
    · rename_i hall
      cases h
      have hF := (hf.ev x).cells (List.all_eq_true.1 hall)
      refine fin (Instr.box t (a.eval x)) (by rw [hop _ hx]; rfl) (.row t hF _ (fun r => .pointer (some ⟨r, 0, none⟩)) ?_ fun ρ' id hid => .ptr hid)
      simp only [Instr.box, Sem.run_bind, Result.andThen_ok, newVar, newRow, run_newObj, Sem.run_pure, Array.toArray_toList]
      rfl
    · cases h
  · rename_i t len ps hx
    split at h
    · rename_i e ht
      split at h
      · rename_i n z hn hz
        split at h
        · rename_i hc
          obtain ⟨h1, h2, h3, h4⟩ := hc
          split at h
          · rename_i out ho
            cases h
            have hp : F2 (PRel ρ) (ps.toList.map fun p => (p.1, ev fr p.2)) (ps.map fun p => (p.1, a.eval p.2)).toList := by simpa using F2.map_parts hf ps.toList
            obtain ⟨rout, g1, g2, g3⟩ := fill_rel _ _ hp h4 (sZeros z.cells.toList len).toArray (sZeros z.cells.toList len).toArray out rfl (rel_zero (by simpa using sZeros_all h3 len)) ho
            refine fin (Instr.buildSlice t len (ps.map fun p => (p.1, a.eval p.2))) (by rw [hop _ hx]; rfl) (.row e (rcs := rout.toList) (F2.of_get (by simpa using g2) (by simpa using g3)) _ (fun r => .slice (some ⟨r, 0, none⟩) len len) ?_
              fun ρ' id hid => .slice hid (Nat.le_refl _) (.inl rfl))
            simp only [Instr.buildSlice, Sem.run_bind, run_underlying' w ht, Result.andThen_ok, run_sizeOf' w hn]
            rw [if_neg (by omega)]
            by_cases h0 : len * n = 0
            · rw [sZeros_nil h2 h0] at g1
              simp only [h0, if_true, Sem.run_bind, Sem.run_pure, Result.andThen_ok]
              have : (Array.map (fun (i : Nat) => (#[] : Array Value)[i % (#[] : Array Value).size]!) (Array.range 0)) = #[] := by simp
              rw [this, g1]
              simp only [Sem.run_bind, newRow, run_newObj, Sem.run_pure, Result.andThen_ok, Array.toArray_toList]
              rfl
            · have hb1 : ((Array.range (len * n)).map fun i => z.cells[i % z.cells.size]!) = (sZeros z.cells.toList len).toArray := by
                apply Array.toList_inj.1
                rw [← h2, sZeros_eq]
              simp only [h0, if_false, Sem.run_bind, Sem.run_pure, Result.andThen_ok, run_zeroValue' w hz]
              rw [hb1, g1]
              simp only [Sem.run_bind, newRow, run_newObj, Sem.run_pure, Result.andThen_ok, Array.toArray_toList]
              rfl
          · cases h
        · cases h
      · cases h
    · cases h
  · rename_i t hx
    split at h
    · rename_i kt et ht
      split at h
      · rename_i kk hk
        cases h
        refine fin (Instr.makeMap t none) (by rw [hop _ hx]; rfl) ⟨.map #[] 0, .map (some w.heap.size), ⟨w.heap.size, 0, 0, 0, 0⟩, rfl, ?_, MRel.nil _ _, fun ρ' id hid => .map hid⟩
        simp [Instr.makeMap]
      · cases h
    · cases h
  · rename_i t l c hx
    split at h
    · rename_i e k l' k' c' ht hl hc
      have hlv := hf.ev l
      have hcv := hf.ev c
      rw [hl] at hlv
      rw [hc] at hcv
      split at h
      · rename_i n z b hn hz hb
        split at h
        · rename_i hcond
          obtain ⟨a1, a2, a3, a4, a5, a6⟩ := hcond
          cases h
          refine fin (Instr.makeSlice t (a.eval l) (a.eval c)) (by rw [hop _ hx]; rfl) (.row e (F2.zero (ρ := ρ) (sZeros_all a6 c'.toNat)) _ (fun r => .slice (some ⟨r, 0, none⟩) l'.toNat c'.toNat) ?_
            fun ρ' id hid => .slice hid (by omega) (.inl rfl))
          rw [hlv.int, hcv.int]
          obtain ⟨i, hi, hib⟩ := run_bytes (P := P) hb w
          have hbig : ¬ ((b : Int) * c' > 2 ^ 48) := by
            have h1 : (b : Int) * c' ≤ 1024 * 1073741824 := Int.mul_le_mul (by omega) a3 (by omega) (by omega)
            omega
          simp only [Instr.makeSlice, Sem.run_bind, run_underlying' w ht, Result.andThen_ok, asInt, asIntOf, Sem.run_pure, hi, hib, wrap_small a1 (by omega : l' ≤ 1073741824), wrap_small (by omega : 0 ≤ c') a3]
          rw [if_neg (by simp; omega)]
          simp only [Sem.run_bind, run_askRoom, Result.andThen_ok, run_sizeOf' w hn]
          by_cases h0 : c'.toNat * n = 0
          · simp only [h0, if_true, Sem.run_bind, Sem.run_pure, Result.andThen_ok]
            have : (Array.map (fun (i : Nat) => (#[] : Array Value)[i % (#[] : Array Value).size]!) (Array.range 0)) = #[] := by simp
            rw [this, sZeros_nil a5 h0]
            simp only [newRow, Sem.run_bind, run_newObj, Sem.run_pure, Result.andThen_ok]
            rfl
          · have hb1 : ((Array.range (c'.toNat * n)).map fun i => z.cells[i % z.cells.size]!) = (sZeros z.cells.toList c'.toNat).toArray := by
              apply Array.toList_inj.1
              rw [← a5, sZeros_eq]
            simp only [h0, if_false, Sem.run_bind, Sem.run_pure, Result.andThen_ok, run_zeroValue' w hz]
            rw [hb1]
            simp only [newRow, Sem.run_bind, run_newObj, Sem.run_pure, Result.andThen_ok]
            rfl
        · cases h
      · cases h
    · cases h
  · cases h

end Go.Sh

/- A region that draws its order: one order of the shadow's serves all of the model's. -/
namespace Go.Sh
open Go

/-- run: the operation itself; chk: that a new block could be made. -/
inductive Ent where
  | run (i : Nat)
  | chk (i : Nat)
  deriving DecidableEq

/-- j is to come ahead of i. -/
def ancB (anc : List Nat) (i j : Nat) : Bool := (anc.getD i 0).testBit j

def opAt (ops : Array Oper) (i : Nat) : Option Oper := ops[i]?
def clsAt (ops : Array Oper) (i : Nat) : Nat := ((opAt ops i).map cls).getD 0
def dstAt (ops : Array Oper) (i : Nat) : Option Tmp := (opAt ops i).bind (·.dst)
def looksAt (ops : Array Oper) (i : Nat) : List Tmp := ((opAt ops i).map (Oper.looksAt ops)).getD []
def afterAt (ops : Array Oper) (i : Nat) : List Edge := ((opAt ops i).map (·.after.toList)).getD []

def okAnc (ops : Array Oper) (anc : List Nat) : Bool :=
  (List.range ops.size).all fun i =>
    ((List.range ops.size).all fun j => !ancB anc i j || (afterAt ops i).any fun e => Region.binds .any e && (e.on == j || ancB anc e.on j)) &&
    (afterAt ops i).all (fun e => !Region.binds .any e || ancB anc i e.on) && decide (anc.getD i 0 < 2 ^ ops.size)

/-- A temporary is looked at ahead of the operation that writes it. -/
def conf (ops : Array Oper) (anc : List Nat) (i : Nat) : Bool :=
  match dstAt ops i with
  | none => false
  | some d => (List.range ops.size).any fun j => j != i && ((looksAt ops j).contains d && !ancB anc j i)

def okNames (ops : Array Oper) (anc : List Nat) : Bool :=
  (List.range ops.size).all fun i =>
    match dstAt ops i with
    | none => true
    | some d => !((looksAt ops i).contains d) && (List.range ops.size).all fun j => j == i || ((dstAt ops j != some d) && (!((looksAt ops j).contains d) || (ancB anc j i || (ancB anc i j && clsAt ops i == 0))))

def lateOk (ops : Array Oper) (anc : List Nat) (i : Nat) (rest : List Ent) : Bool := !conf ops anc i || rest.all fun e => match e with
  | .run k => ancB anc k i
  | .chk k => ancB anc k i

def okRest (ops : Array Oper) (anc : List Nat) : List Ent → List Ent → Bool
  | [], pre => (List.range ops.size).all fun i => pre.contains (.run i)
  | .chk i :: rest, pre =>
    decide (i < ops.size) && clsAt ops i == 2 && ((List.range ops.size).all fun k => (!ancB anc i k || pre.contains (.run k)) && (!(pre.contains (.run k)) || clsAt ops k == 0 || ancB anc i k)) &&
      okRest ops anc rest (.chk i :: pre)
  | .run i :: rest, pre =>
    decide (i < ops.size) && !(pre.contains (.run i)) && ((List.range ops.size).all fun k => (!ancB anc i k || pre.contains (.run k)) && (clsAt ops i == 2 || !(pre.contains (.run k)) || clsAt ops k == 0 || ancB anc i k)) &&
      (clsAt ops i != 2 || pre.contains (.chk i)) && lateOk ops anc i rest && okRest ops anc rest (.run i :: pre)

/-- What the runs that have been read may go on to be. -/
def stable (P : Program) (ops : Array Oper) (anc : List Nat) (i : Nat) : List Ent → List Value → SW → Prop
  | [], _, _ => True
  | .chk _ :: pre, fr, s => stable P ops anc i pre fr s
  | .run j :: pre, fr, s =>
    (match opAt ops j with
     | none => True
     | some o => if cls o = 0 ∧ readsHeap o = true ∧ ancB anc i j = false then
         (match sWanted ops o fr with
          | some true => (match o.dst with | some d => sOp P o fr s = some (fr.getD d Go.undef, s) | none => False)
          | some false => True
          | none => False)
       else True) ∧ stable P ops anc i pre fr s

def vcEnts (P : Program) (ops : Array Oper) (anc : List Nat) (K : List Value → SW → Prop) : List Ent → List Ent → List Value → SW → Prop
  | [], _, fr, s => K fr s
  | .chk i :: rest, pre, fr, s =>
    match opAt ops i with
    | none => False
    | some o =>
      match sWanted ops o fr with
      | none => False
      | some false => vcEnts P ops anc K rest (.chk i :: pre) fr s
      | some true => (sNew P o fr).isSome = true ∧ vcEnts P ops anc K rest (.chk i :: pre) fr s
  | .run i :: rest, pre, fr, s =>
    match opAt ops i with
    | none => False
    | some o =>
      match cls o with
      | 0 =>
        match sWanted ops o fr with
        | none => False
        | some false => vcEnts P ops anc K rest (.run i :: pre) (put fr o.dst Go.undef) s
        | some true =>
          match sOp P o fr s with
          | some (v, s') => s' = s ∧ o.dst ≠ none ∧ vcEnts P ops anc K rest (.run i :: pre) (put fr o.dst v) s
          | none => False
      | 1 => vcOp P ops o (fun fr' s' => stable P ops anc i pre fr' s' ∧ vcEnts P ops anc K rest (.run i :: pre) fr' s') fr s
      | _ =>
        match sWanted ops o fr with
        | none => False
        | some false => vcEnts P ops anc K rest (.run i :: pre) (put fr o.dst Go.undef) s
        | some true =>
          match sNew P o fr with
          | some (obj, val) => stable P ops anc i pre (put fr o.dst (val s.next)) (s.new obj) ∧ vcEnts P ops anc K rest (.run i :: pre) (put fr o.dst (val s.next)) (s.new obj)
          | none => False

/-- The frame, but for some temporaries. -/
structure FX (ρ : Rho) (fr : List Value) (a : Act) (X : Nat → Prop) : Prop where
  size : fr.length = a.tmps.size
  defers : a.defers = []
  val : ∀ (k : Nat) (v : Value), fr[k]? = some v → ¬ X k → ∃ rv, a.tmps[k]? = some rv ∧ VRel ρ v rv

theorem FX.frame {ρ : Rho} {fr : List Value} {a : Act} {X : Nat → Prop} (h : FX ρ fr a X) : ∃ fr₀ : List Value, FRel ρ fr₀ a ∧ fr₀.length = fr.length ∧ ∀ k, ¬ X k → fr₀[k]? = fr[k]? := by
  have : ∀ k, ∃ b : Bool, (b = true ↔ X k) := fun k => by
    by_cases hx : X k
    · exact ⟨true, by simp [hx]⟩
    · exact ⟨false, by simp [hx]⟩
  refine ⟨fr.mapIdx fun k v => if Classical.choose (this k) then junk else v, ⟨by simpa using h.size, h.defers, fun k v hk => ?_⟩, by simp, fun k hx => ?_⟩
  · rw [List.getElem?_mapIdx] at hk
    cases hf : fr[k]? with
    | none => rw [hf] at hk; cases hk
    | some u =>
      rw [hf] at hk
      simp only [Option.map_some, Option.some.injEq] at hk
      have hlt : k < a.tmps.size := by rw [← h.size]; exact (List.getElem?_eq_some_iff.1 hf).1
      by_cases hx : X k
      · have hc := (Classical.choose_spec (this k)).2 hx
        rw [if_pos hc] at hk
        subst hk
        exact ⟨a.tmps[k], Array.getElem?_eq_getElem hlt, .junk⟩
      · have hc : ¬ Classical.choose (this k) = true := fun hc => hx ((Classical.choose_spec (this k)).1 hc)
        rw [if_neg hc] at hk
        subst hk
        exact h.val k u hf hx
  · rw [List.getElem?_mapIdx]
    have hc : ¬ Classical.choose (this k) = true := fun hc => hx ((Classical.choose_spec (this k)).1 hc)
    simp only [hc]
    cases fr[k]? <;> rfl

theorem ev_congr {fr fr' : List Value} {x : Operand} (h : ∀ t, x = .tmp t → fr[t]? = fr'[t]?) : ev fr x = ev fr' x := by
  cases x with
  | tmp t => simp only [ev, List.getD, h t rfl]
  | _ => rfl

theorem sWanted_congr {ops : Array Oper} {o : Oper} {fr fr' : List Value} (h : ∀ t ∈ o.looksAt ops, fr[t]? = fr'[t]?) : sWanted ops o fr = sWanted ops o fr' := by
  unfold sWanted
  split
  · rfl
  · rename_i j want hg
    cases hd : (ops[j]? : Option Oper).bind (·.dst) with
    | none => rfl
    | some t =>
      simp only [Option.bind_some]
      rw [h t]
      unfold Oper.looksAt
      rw [List.mem_append]
      right
      simp only [hg, hd]
      simp

theorem looks_ev {ops : Array Oper} {o : Oper} {fr fr' : List Value} (h : ∀ t ∈ o.looksAt ops, fr[t]? = fr'[t]?) : ∀ x ∈ o.op.operands.toList, ev fr x = ev fr' x := by
  intro x hx
  refine ev_congr fun t ht => h t ?_
  unfold Oper.looksAt
  rw [List.mem_append]
  left
  rw [List.mem_filterMap]
  exact ⟨x, hx, by rw [ht]⟩

theorem put_get_ne {fr : List Value} {dst : Option Tmp} {v : Value} {t : Nat} (h : dst ≠ some t) : (put fr dst v)[t]? = fr[t]? := by
  cases dst with
  | none => rfl
  | some d => simp only [put]; rw [List.getElem?_set_ne (fun e => h (by rw [e]))]

theorem put_length (fr : List Value) (dst : Option Tmp) (v : Value) : (put fr dst v).length = fr.length := by
  cases dst <;> simp [put]

theorem aput_get_ne {a : Act} {dst : Option Tmp} {v : Value} {t : Nat} (h : dst ≠ some t) : (a.put dst v).tmps[t]? = a.tmps[t]? := by
  cases dst with
  | none => rfl
  | some d => simp only [Act.put]; rw [Array.getElem?_setIfInBounds_ne (fun e => h (by rw [e]))]

theorem aput_size (a : Act) (dst : Option Tmp) (v : Value) : (a.put dst v).tmps.size = a.tmps.size := by
  cases dst <;> simp [Act.put]

theorem aput_defers (a : Act) (dst : Option Tmp) (v : Value) : (a.put dst v).defers = a.defers := by
  cases dst <;> rfl

theorem put_get_self {fr : List Value} {d : Tmp} {v : Value} (h : d < fr.length) : (put fr (some d) v)[d]? = some v := by
  simp [put, h]

theorem aput_get_self {a : Act} {d : Tmp} {v : Value} (h : d < a.tmps.size) : (a.put (some d) v).tmps[d]? = some v := by
  simp [Act.put, h]

end Go.Sh

/- The region that draws: the steps. -/
namespace Go.Sh
open Go

theorem HRel.adopt {ρ : Rho} {s : SW} {w : World} (h : HRel ρ s w) {o : SObj} {p : Pl} (hfree : ∀ j o' q, s.heap j = some o' → ρ j = some q → q.r ≠ p.r) (ho : ORel ρ p o (w.heap[p.r]?)) :
    HRel (ρ.upd s.next p) (s.new o) w := by
  have hn : ρ s.next = none := h.next _ (Nat.le_refl _)
  refine ⟨?_, ?_, ?_⟩
  · intro i hi
    simp only [SW.new] at hi
    simp only [Rho.upd, if_neg (show ¬ i = s.next by omega)]
    exact h.next i (by omega)
  · intro j u hj
    simp only [SW.new] at hj
    by_cases e : j = s.next
    · subst e
      simp only [if_true] at hj
      cases hj
      exact ⟨p, Rho.upd_same, ho.mono (Rho.le_upd hn)⟩
    · simp only [e, if_false] at hj
      obtain ⟨q, hq, hu⟩ := h.live j u hj
      exact ⟨q, by simp [Rho.upd, e, hq], hu.mono (Rho.le_upd hn)⟩
  · intro j k u u' q q' hj hk hq hq' er
    simp only [SW.new] at hj hk
    simp only [Rho.upd] at hq hq'
    by_cases ej : j = s.next <;> by_cases ek : k = s.next
    · rw [ej, ek]
    · simp only [ek, if_false] at hk hq'
      simp only [ej, if_true] at hq
      cases hq
      exact absurd er.symm (hfree _ _ _ hk hq')
    · simp only [ej, if_false] at hj hq
      simp only [ek, if_true] at hq'
      cases hq'
      exact absurd er (hfree _ _ _ hj hq)
    · simp only [ej, if_false] at hj hq
      simp only [ek, if_false] at hk hq'
      exact h.inj _ _ _ _ _ _ hj hk hq hq' er

theorem Ext.adopt {ρ₀ ρ : Rho} {s₀ s : SW} {w₀ w : World} (h : HRel ρ s w) (he : Ext ρ₀ s₀ w₀ ρ s w) {o : SObj} {p : Pl} (hp : w₀.heap.size ≤ p.r) : Ext ρ₀ s₀ w₀ (ρ.upd s.next p) (s.new o) w := by
  have hn : ρ s.next = none := h.next _ (Nat.le_refl _)
  have hn0 : ρ₀ s.next = none := by
    cases h1 : ρ₀ s.next with
    | none => rfl
    | some q => have := he.le _ _ h1; rw [hn] at this; cases this
  refine ⟨Rho.le_trans he.le (Rho.le_upd hn), ?_, ?_, Nat.le_trans he.next (by simp [SW.new]), he.size, he.frame, he.os, he.tape, he.output⟩
  · intro j q h1 h2
    simp only [Rho.upd] at h2
    by_cases e : j = s.next
    · simp only [e, if_true] at h2
      cases h2
      exact .inl hp
    · simp only [e, if_false] at h2
      exact he.fresh j q h1 h2
  · intro j u q hj hq
    simp only [SW.new] at hj
    by_cases e : j = s.next
    · rw [e, hn0] at hq; cases hq
    · simp only [e, if_false] at hj
      exact he.back j u q hj hq

theorem HRel.grow {ρ : Rho} {s : SW} {w w' : World} (h : HRel ρ s w) (hw : ∀ r, r < w.heap.size → w'.heap[r]? = w.heap[r]?) : HRel ρ s w' :=
  ⟨h.next, fun i o hi => let ⟨p, hp, ho⟩ := h.live i o hi; ⟨p, hp, by rw [hw p.r (h.lt_size hi hp)]; exact ho⟩, h.inj⟩

theorem Ext.grow {ρ₀ ρ : Rho} {s₀ s : SW} {w₀ w w' : World} (he : Ext ρ₀ s₀ w₀ ρ s w) (hw : ∀ r, r < w.heap.size → w'.heap[r]? = w.heap[r]?) (hsz : w.heap.size ≤ w'.heap.size) (hs : Same w w') : Ext ρ₀ s₀ w₀ ρ s w' :=
  ⟨he.le, he.fresh, he.back, he.next, Nat.le_trans he.size hsz, fun r hr hno => by rw [hw r (Nat.lt_of_lt_of_le hr he.size)]; exact he.frame r hr hno, hs.os.trans he.os, hs.tape.trans he.tape, hs.output.trans he.output⟩

section
variable (P : Program) (ops : Array Oper) (anc : List Nat) (K : List Value → SW → Prop) (ρ₀ : Rho) (s₀ : SW) (w₀ : World)

/-- A block that the model has made and the shadow has not. -/
def Early (ρ : Rho) (fr : List Value) (s : SW) (a : Act) (w : World) (r : Int) (o : Oper) : Prop :=
  (sWanted ops o fr = some false ∧ ∀ d, o.dst = some d → d < a.tmps.size → a.tmps[d]? = some Go.undef) ∨
  (sWanted ops o fr = some true ∧ ∃ obj val p rv, sNew P o fr = some (obj, val) ∧ (p.r : Int) = r ∧ p.r < w.heap.size ∧ w₀.heap.size ≤ p.r ∧ (∀ j o' q, s.heap j = some o' → ρ j = some q → q.r ≠ p.r) ∧ ORel ρ p obj (w.heap[p.r]?) ∧
    (∀ (ρ' : Rho) (id : Nat), ρ' id = some p → VRel ρ' (val id) rv) ∧ ∀ d, o.dst = some d → d < a.tmps.size → a.tmps[d]? = some rv)

/-- What the shadow has reckoned and the model has not. -/
def Pend (fr : List Value) (s : SW) (o : Oper) : Prop :=
  (sWanted ops o fr = some false ∧ ∀ d, o.dst = some d → ∀ v, fr[d]? = some v → v = Go.undef) ∨
  (sWanted ops o fr = some true ∧ ∃ d, o.dst = some d ∧ sOp P o fr s = some (fr.getD d Go.undef, s))

def Chk (fr : List Value) (o : Oper) : Prop := sWanted ops o fr = some false ∨ (sWanted ops o fr = some true ∧ (sNew P o fr).isSome = true)

def hole (pre : List Ent) (L : Nat → Prop) (d : Nat) : Prop := ∃ i, dstAt ops i = some d ∧ ((.run i ∈ pre ∧ ¬ L i) ∨ (L i ∧ .run i ∉ pre))

structure Inv (pre rest : List Ent) (L : Nat → Prop) (er : Nat → Int) (ρ : Rho) (fr : List Value) (s : SW) (a : Act) (w : World) : Prop where
  ok : okRest ops anc rest pre = true
  vcs : vcEnts P ops anc K rest pre fr s
  hr : HRel ρ s w
  ext : Ext ρ₀ s₀ w₀ ρ s w
  fx : FX ρ fr a (hole ops pre L)
  dlt : ∀ i d, dstAt ops i = some d → d < fr.length
  closed : ∀ i j, L i → ancB anc i j = true → L j
  i12 : ∀ i, L i → clsAt ops i ≠ 2 → .run i ∈ pre
  ifa : ∀ i, .run i ∈ pre → clsAt ops i ≠ 0 → L i
  early : ∀ i o, opAt ops i = some o → L i → cls o = 2 → .run i ∉ pre → .chk i ∈ pre ∧ Early P ops w₀ ρ fr s a w (er i) o
  pend : ∀ i o, opAt ops i = some o → .run i ∈ pre → ¬ L i → cls o = 0 → Pend P ops fr s o
  inj : ∀ i j, L i → L j → clsAt ops i = 2 → clsAt ops j = 2 → .run i ∉ pre → .run j ∉ pre → er i = er j → i = j
  erlt : ∀ i, L i → clsAt ops i = 2 → .run i ∉ pre → er i < w.heap.size
  chks : ∀ i o, opAt ops i = some o → .chk i ∈ pre → .run i ∉ pre → ¬ L i → Chk P ops fr o
  preAnc : ∀ i j, .run i ∈ pre → ancB anc i j = true → .run j ∈ pre
  chkAnc : ∀ i j, .chk i ∈ pre → ancB anc i j = true → .run j ∈ pre
  cf : ∀ i, .run i ∈ pre → conf ops anc i = true → ∀ j, ancB anc i j = true → L j

end

section
variable {P : Program} {ops : Array Oper} {anc : List Nat} {K : List Value → SW → Prop} {ρ₀ : Rho} {s₀ : SW} {w₀ : World}

theorem lt_of_dst {i : Nat} {d : Tmp} (h : dstAt ops i = some d) : i < ops.size := by
  unfold dstAt opAt at h
  rcases Nat.lt_or_ge i ops.size with h1 | h1
  · exact h1
  · rw [Array.getElem?_eq_none h1] at h; cases h

theorem lt_of_looks {i : Nat} {d : Tmp} (h : d ∈ looksAt ops i) : i < ops.size := by
  unfold looksAt opAt at h
  rcases Nat.lt_or_ge i ops.size with h1 | h1
  · exact h1
  · rw [Array.getElem?_eq_none h1] at h; cases h

theorem names1 (hn : okNames ops anc = true) {i : Nat} {d : Tmp} (hd : dstAt ops i = some d) : d ∉ looksAt ops i := by
  have h := List.all_eq_true.1 hn i (List.mem_range.2 (lt_of_dst hd))
  simp only [hd, Bool.and_eq_true, Bool.not_eq_true'] at h
  intro hm
  have := h.1
  rw [List.contains_iff_mem.2 hm] at this
  cases this

theorem names2 (hn : okNames ops anc = true) {i j : Nat} {d : Tmp} (hd : dstAt ops i = some d) (hj : dstAt ops j = some d) : j = i := by
  have h := List.all_eq_true.1 hn i (List.mem_range.2 (lt_of_dst hd))
  simp only [hd, Bool.and_eq_true] at h
  have h2 := List.all_eq_true.1 h.2 j (List.mem_range.2 (lt_of_dst hj))
  simp only [Bool.or_eq_true, beq_iff_eq, Bool.and_eq_true, bne_iff_ne] at h2
  rcases h2 with h2 | h2
  · exact h2
  · exact absurd hj h2.1

theorem names3 (hn : okNames ops anc = true) {i j : Nat} {d : Tmp} (hd : dstAt ops i = some d) (hj : d ∈ looksAt ops j) (hne : j ≠ i) : ancB anc j i = true ∨ (conf ops anc i = true ∧ ancB anc i j = true ∧ clsAt ops i = 0) := by
  have h := List.all_eq_true.1 hn i (List.mem_range.2 (lt_of_dst hd))
  simp only [hd, Bool.and_eq_true] at h
  have h2 := List.all_eq_true.1 h.2 j (List.mem_range.2 (lt_of_looks hj))
  simp only [Bool.or_eq_true, beq_iff_eq, Bool.and_eq_true, bne_iff_ne, Bool.not_eq_true'] at h2
  by_cases ha : ancB anc j i = true
  · exact .inl ha
  have hcon := List.contains_iff_mem.2 hj
  rcases h2 with h2 | ⟨_, h2⟩
  · exact absurd h2 hne
  · rcases h2 with h2 | h2 | h2
    · rw [hcon] at h2; cases h2
    · exact .inl h2
    · refine .inr ⟨?_, h2⟩
      unfold conf
      rw [hd]
      simp only [List.any_eq_true, List.mem_range, Bool.and_eq_true, bne_iff_ne, Bool.not_eq_true']
      exact ⟨j, lt_of_looks hj, hne, hcon, by simpa using ha⟩

theorem conf_cls (hn : okNames ops anc = true) {i : Nat} (h : conf ops anc i = true) : clsAt ops i = 0 := by
  unfold conf at h
  cases hd : dstAt ops i with
  | none => rw [hd] at h; cases h
  | some d =>
    rw [hd] at h
    simp only [List.any_eq_true, List.mem_range, Bool.and_eq_true, bne_iff_ne, Bool.not_eq_true'] at h
    obtain ⟨j, _, hne, hc, ha⟩ := h
    rcases names3 hn hd (List.contains_iff_mem.1 hc) hne with h1 | h1
    · rw [h1] at ha; cases ha
    · exact h1.2.2

theorem conf_lt {i : Nat} (h : conf ops anc i = true) : i < ops.size := by
  unfold conf at h
  cases hd : dstAt ops i with
  | none => rw [hd] at h; cases h
  | some d => exact lt_of_dst hd

theorem looksAt_eq {i : Nat} {o : Oper} (h : opAt ops i = some o) : looksAt ops i = o.looksAt ops := by unfold looksAt; rw [h]; rfl
theorem dstAt_eq {i : Nat} {o : Oper} (h : opAt ops i = some o) : dstAt ops i = o.dst := by unfold dstAt; rw [h]; rfl
theorem clsAt_eq {i : Nat} {o : Oper} (h : opAt ops i = some o) : clsAt ops i = cls o := by unfold clsAt; rw [h]; rfl

/-- What comes to be in a temporary that an operation does not look at does not touch it. -/
theorem put_looks {fr : List Value} {i j : Nat} {oj : Oper} {v : Value} (hj : opAt ops j = some oj) (h : ∀ d, dstAt ops i = some d → d ∉ looksAt ops j) : ∀ t ∈ oj.looksAt ops, (put fr (dstAt ops i) v)[t]? = fr[t]? := by
  intro t ht
  refine put_get_ne fun e => h t e ?_
  rw [looksAt_eq hj]; exact ht

theorem Chk.congr {fr fr' : List Value} {o : Oper} (h : ∀ t ∈ o.looksAt ops, fr'[t]? = fr[t]?) (hc : Chk P ops fr o) : Chk P ops fr' o := by
  unfold Chk at *
  rw [sWanted_congr h, sNew_congr (looks_ev h)]
  exact hc

theorem Pend.congr {fr fr' : List Value} {s : SW} {o : Oper} (h : ∀ t ∈ o.looksAt ops, fr'[t]? = fr[t]?) (hd : ∀ d, o.dst = some d → fr'[d]? = fr[d]?) (hp : Pend P ops fr s o) : Pend P ops fr' s o := by
  unfold Pend at *
  rw [sWanted_congr h, sOp_congr s (looks_ev h)]
  rcases hp with ⟨h1, h2⟩ | ⟨h1, d, h2, h3⟩
  · exact .inl ⟨h1, fun d hdd v hv => h2 d hdd v (by rw [← hd d hdd]; exact hv)⟩
  · refine .inr ⟨h1, d, h2, ?_⟩
    rw [h3]
    simp only [List.getD, hd d h2]

theorem Early.congr {ρ : Rho} {fr fr' : List Value} {s : SW} {a a' : Act} {w : World} {r : Int} {o : Oper} (h : ∀ t ∈ o.looksAt ops, fr'[t]? = fr[t]?) (hsz : a'.tmps.size = a.tmps.size)
    (ha : ∀ d, o.dst = some d → a'.tmps[d]? = a.tmps[d]?) (he : Early P ops w₀ ρ fr s a w r o) : Early P ops w₀ ρ fr' s a' w r o := by
  unfold Early at *
  rw [sWanted_congr h, sNew_congr (looks_ev h)]
  rcases he with ⟨h1, h2⟩ | ⟨h1, obj, val, p, rv, g1, g2, g3, g4, g5, g6, g7, g8⟩
  · exact .inl ⟨h1, fun d hd hlt => by rw [ha d hd]; exact h2 d hd (by rw [← hsz]; exact hlt)⟩
  · exact .inr ⟨h1, obj, val, p, rv, g1, g2, g3, g4, g5, g6, g7, fun d hd hlt => by rw [ha d hd]; exact g8 d hd (by rw [← hsz]; exact hlt)⟩

theorem okRest_late {i : Nat} {rest pre : List Ent} (h : okRest ops anc (.run i :: rest) pre = true) (hc : conf ops anc i = true) {k : Nat} (hk : .run k ∈ rest ∨ .chk k ∈ rest) : ancB anc k i = true := by
  simp only [okRest, Bool.and_eq_true] at h
  have h1 := h.1.2
  simp only [lateOk, hc, Bool.not_true, Bool.false_or, List.all_eq_true] at h1
  rcases hk with hk | hk
  · exact h1 _ hk
  · exact h1 _ hk

/-- The run of the head, as checked. -/
theorem okRest_run {i : Nat} {rest pre : List Ent} (h : okRest ops anc (.run i :: rest) pre = true) : i < ops.size ∧ .run i ∉ pre ∧ (∀ k, ancB anc i k = true → k < ops.size → .run k ∈ pre) ∧
    (clsAt ops i ≠ 2 → ∀ k, k < ops.size → .run k ∈ pre → clsAt ops k ≠ 0 → ancB anc i k = true) ∧ (clsAt ops i = 2 → .chk i ∈ pre) ∧ okRest ops anc rest (.run i :: pre) = true := by
  simp only [okRest, Bool.and_eq_true, decide_eq_true_eq, Bool.not_eq_true', Bool.or_eq_true, bne_iff_ne, beq_iff_eq] at h
  obtain ⟨⟨⟨⟨⟨h1, h2⟩, h3⟩, h4⟩, _⟩, h5⟩ := h
  refine ⟨h1, fun hm => ?_, fun k hk hlt => ?_, fun hc k hlt hm hk => ?_, fun hc => ?_, h5⟩
  · rw [List.contains_iff_mem.2 hm] at h2; cases h2
  · have := List.all_eq_true.1 h3 k (List.mem_range.2 hlt)
    simp only [Bool.and_eq_true, Bool.or_eq_true, Bool.not_eq_true', beq_iff_eq] at this
    rcases this.1 with h6 | h6
    · rw [hk] at h6; cases h6
    · exact List.contains_iff_mem.1 h6
  · have := List.all_eq_true.1 h3 k (List.mem_range.2 hlt)
    simp only [Bool.and_eq_true, Bool.or_eq_true, Bool.not_eq_true', beq_iff_eq] at this
    rcases this.2 with ((h6 | h6) | h6) | h6
    · exact absurd h6 hc
    · rw [List.contains_iff_mem.2 hm] at h6; cases h6
    · exact absurd h6 hk
    · exact h6
  · rcases h4 with h6 | h6
    · exact absurd hc h6
    · exact List.contains_iff_mem.1 h6

theorem okRest_chk {i : Nat} {rest pre : List Ent} (h : okRest ops anc (.chk i :: rest) pre = true) : i < ops.size ∧ clsAt ops i = 2 ∧ (∀ k, ancB anc i k = true → k < ops.size → .run k ∈ pre) ∧
    (∀ k, k < ops.size → .run k ∈ pre → clsAt ops k ≠ 0 → ancB anc i k = true) ∧ okRest ops anc rest (.chk i :: pre) = true := by
  simp only [okRest, Bool.and_eq_true, decide_eq_true_eq, beq_iff_eq] at h
  obtain ⟨⟨⟨h1, h2⟩, h3⟩, h5⟩ := h
  refine ⟨h1, h2, fun k hk hlt => ?_, fun k hlt hm hk => ?_, h5⟩
  · have := List.all_eq_true.1 h3 k (List.mem_range.2 hlt)
    simp only [Bool.and_eq_true, Bool.or_eq_true, Bool.not_eq_true', beq_iff_eq] at this
    rcases this.1 with h6 | h6
    · rw [hk] at h6; cases h6
    · exact List.contains_iff_mem.1 h6
  · have := List.all_eq_true.1 h3 k (List.mem_range.2 hlt)
    simp only [Bool.and_eq_true, Bool.or_eq_true, Bool.not_eq_true', beq_iff_eq] at this
    rcases this.2 with (h6 | h6) | h6
    · rw [List.contains_iff_mem.2 hm] at h6; cases h6
    · exact absurd h6 hk
    · exact h6

theorem anc_lt (ha : okAnc ops anc = true) {i j : Nat} (hi : i < ops.size) (h : ancB anc i j = true) : j < ops.size := by
  have h1 := List.all_eq_true.1 ha i (List.mem_range.2 hi)
  simp only [Bool.and_eq_true, decide_eq_true_eq] at h1
  have h2 := h1.2
  unfold ancB at h
  rcases Nat.lt_or_ge j ops.size with h3 | h3
  · exact h3
  · have : anc.getD i 0 < 2 ^ j := Nat.lt_of_lt_of_le h2 (Nat.pow_le_pow_right (by omega) h3)
    rw [Nat.testBit_lt_two_pow this] at h
    cases h

theorem hole_run {pre : List Ent} {L : Nat → Prop} {i d : Nat} (hd : dstAt ops i ≠ some d) : hole ops (.run i :: pre) L d ↔ hole ops pre L d := by
  unfold hole
  constructor
  · rintro ⟨k, h1, h2⟩
    have hki : k ≠ i := fun e => hd (e ▸ h1)
    refine ⟨k, h1, ?_⟩
    rcases h2 with ⟨h3, h4⟩ | ⟨h3, h4⟩
    · rcases List.mem_cons.1 h3 with h5 | h5
      · cases h5; exact absurd rfl hki
      · exact .inl ⟨h5, h4⟩
    · exact .inr ⟨h3, fun h5 => h4 (List.mem_cons_of_mem _ h5)⟩
  · rintro ⟨k, h1, h2⟩
    have hki : k ≠ i := fun e => hd (e ▸ h1)
    refine ⟨k, h1, ?_⟩
    rcases h2 with ⟨h3, h4⟩ | ⟨h3, h4⟩
    · exact .inl ⟨List.mem_cons_of_mem _ h3, h4⟩
    · refine .inr ⟨h3, fun h5 => ?_⟩
      rcases List.mem_cons.1 h5 with h6 | h6
      · cases h6; exact hki rfl
      · exact h4 h6

/-- A check. -/
theorem Inv.stepChk {i : Nat} {pre rest : List Ent} {L : Nat → Prop} {er : Nat → Int} {ρ : Rho} {fr : List Value} {s : SW} {a : Act} {w : World} (ha : okAnc ops anc = true)
    (h : Inv P ops anc K ρ₀ s₀ w₀ pre (.chk i :: rest) L er ρ fr s a w) : Inv P ops anc K ρ₀ s₀ w₀ (.chk i :: pre) rest L er ρ fr s a w := by
  obtain ⟨h1, h2, h3, h4, h5⟩ := okRest_chk h.ok
  have hv := h.vcs
  simp only [vcEnts] at hv
  split at hv
  · exact hv.elim
  · rename_i o ho
    have hmem : ∀ k : Nat, Ent.run k ∈ (Ent.chk i :: pre) ↔ Ent.run k ∈ pre := fun k => by simp
    have hcv : Chk P ops fr o ∧ vcEnts P ops anc K rest (.chk i :: pre) fr s := by
      split at hv
      · exact hv.elim
      · rename_i hw; exact ⟨.inl hw, hv⟩
      · rename_i hw; exact ⟨.inr ⟨hw, hv.1⟩, hv.2⟩
    have hhole : ∀ d, hole ops (.chk i :: pre) L d ↔ hole ops pre L d := fun d => by unfold hole; simp only [hmem]
    refine ⟨h5, hcv.2, h.hr, h.ext, ⟨h.fx.size, h.fx.defers, fun k v hk hx => h.fx.val k v hk fun hx' => hx ((hhole k).2 hx')⟩, h.dlt, h.closed, fun j hj hc => (hmem j).2 (h.i12 j hj hc), fun j hj hc => h.ifa j ((hmem j).1 hj) hc,
      fun j o' hj hL hc hr => ⟨List.mem_cons_of_mem _ (h.early j o' hj hL hc (fun e => hr ((hmem j).2 e))).1, (h.early j o' hj hL hc (fun e => hr ((hmem j).2 e))).2⟩,
      fun j o' hj hr hL hc => h.pend j o' hj ((hmem j).1 hr) hL hc, fun j k h6 h7 h8 h9 h10 h11 => h.inj j k h6 h7 h8 h9 (fun e => h10 ((hmem j).2 e)) (fun e => h11 ((hmem k).2 e)), fun j h6 h7 h8 => h.erlt j h6 h7 (fun e => h8 ((hmem j).2 e)), ?_, fun j k hj hk => (hmem k).2 (h.preAnc j k ((hmem j).1 hj) hk), ?_, fun j hj => h.cf j ((hmem j).1 hj)⟩
    · intro j o' hj hm hr hL
      rcases List.mem_cons.1 hm with h6 | h6
      · cases h6
        rw [ho] at hj; cases hj
        exact hcv.1
      · exact h.chks j o' hj h6 (fun e => hr ((hmem j).2 e)) hL
    · intro j k hj hk
      rcases List.mem_cons.1 hj with h6 | h6
      · cases h6
        exact (hmem k).2 (h3 k hk (anc_lt ha h1 hk))
      · exact (hmem k).2 (h.chkAnc j k h6 hk)

end

end Go.Sh

/- The region that draws: the steps, further. -/
namespace Go.Sh
open Go

section
variable {P : Program} {ops : Array Oper} {anc : List Nat} {K : List Value → SW → Prop} {ρ₀ : Rho} {s₀ : SW} {w₀ : World}
variable {i : Nat} {pre rest : List Ent} {L : Nat → Prop} {er : Nat → Int} {ρ : Rho} {fr : List Value} {s : SW} {a : Act} {w : World}

theorem stable_get {j : Nat} {oj : Oper} : ∀ {pre : List Ent} {fr : List Value} {s : SW}, stable P ops anc i pre fr s → .run j ∈ pre → opAt ops j = some oj → cls oj = 0 → readsHeap oj = true → ancB anc i j = false →
    (match sWanted ops oj fr with
      | some true => (match oj.dst with | some d => sOp P oj fr s = some (fr.getD d Go.undef, s) | none => False)
      | some false => True
      | none => False)
  | [], _, _, _, hm, _, _, _, _ => by cases hm
  | .chk _ :: pre, fr, s, h, hm, ho, hc, hh, ha => by
    simp only [stable] at h
    rcases List.mem_cons.1 hm with h1 | h1
    · cases h1
    · exact stable_get h h1 ho hc hh ha
  | .run k :: pre, fr, s, h, hm, ho, hc, hh, ha => by
    simp only [stable] at h
    rcases List.mem_cons.1 hm with h1 | h1
    · cases h1
      have h2 := h.1
      rw [ho] at h2
      simp only at h2
      rw [if_pos ⟨hc, hh, ha⟩] at h2
      exact h2
    · exact stable_get h.2 h1 ho hc hh ha

/-- A reading or a reckoning of the shadow's. -/
theorem Inv.stepRun0 (ha : okAnc ops anc = true) (hn : okNames ops anc = true) (h : Inv P ops anc K ρ₀ s₀ w₀ pre (.run i :: rest) L er ρ fr s a w) (hc : clsAt ops i = 0)
    (hcf : conf ops anc i = true → ∀ j, ancB anc i j = true → L j) : ∃ fr', Inv P ops anc K ρ₀ s₀ w₀ (.run i :: pre) rest L er ρ fr' s a w := by
  obtain ⟨h1, h2, h3, h4, h5, h6⟩ := okRest_run h.ok
  have hLi : ¬ L i := fun hL => h2 (h.i12 i hL (by omega))
  have hv := h.vcs
  simp only [vcEnts] at hv
  split at hv
  · exact hv.elim
  · rename_i o ho
    have hco : cls o = 0 := by rw [← clsAt_eq ho]; exact hc
    have hdst := dstAt_eq ho
    simp only [hco] at hv
    have key : ∀ v, vcEnts P ops anc K rest (.run i :: pre) (put fr o.dst v) s → Pend P ops (put fr o.dst v) s o → Inv P ops anc K ρ₀ s₀ w₀ (.run i :: pre) rest L er ρ (put fr o.dst v) s a w := by
      intro v hvc hpend
      rw [← hdst] at hvc hpend ⊢
      have hlook : ∀ (j : Nat) (oj : Oper), opAt ops j = some oj → (ancB anc j i = true → False) → (conf ops anc i = true → ancB anc i j = true → False) → j ≠ i → ∀ t ∈ oj.looksAt ops, (put fr (dstAt ops i) v)[t]? = fr[t]? :=
        fun j oj hj hno hno2 hne => put_looks hj fun d hd hl => (names3 hn hd hl hne).elim hno fun q => hno2 q.1 q.2.1
      refine ⟨h6, hvc, h.hr, h.ext, ⟨by rw [put_length]; exact h.fx.size, h.fx.defers, ?_⟩, fun j d hd => by rw [put_length]; exact h.dlt j d hd, h.closed, fun j hj hcj => List.mem_cons_of_mem _ (h.i12 j hj hcj), ?_, ?_, ?_, ?_, fun j q1 q2 q3 => h.erlt j q1 q2 (fun e => q3 (List.mem_cons_of_mem _ e)), ?_, ?_, ?_, ?_⟩
      · intro k u hk hx
        by_cases hki : dstAt ops i = some k
        · exact absurd ⟨i, hki, .inl ⟨List.mem_cons_self, hLi⟩⟩ hx
        · rw [put_get_ne hki] at hk
          exact h.fx.val k u hk fun hx' => hx ((hole_run hki).2 hx')
      · intro j hj hcj
        rcases List.mem_cons.1 hj with h7 | h7
        · cases h7; exact absurd hc hcj
        · exact h.ifa j h7 hcj
      · intro j oj hj hL hcj hr
        have hji : j ≠ i := fun e => hLi (e ▸ hL)
        have := h.early j oj hj hL hcj (fun e => hr (List.mem_cons_of_mem _ e))
        exact ⟨List.mem_cons_of_mem _ this.1, Early.congr (hlook j oj hj (fun e => hLi (h.closed j i hL e)) (fun _ e => hr (List.mem_cons_of_mem _ (h3 j e (anc_lt ha h1 e)))) hji) rfl (fun _ _ => rfl) this.2⟩
      · intro j oj hj hr hL hcj
        rcases List.mem_cons.1 hr with h7 | h7
        · cases h7
          rw [ho] at hj; cases hj
          exact hpend
        · have hji : j ≠ i := fun e => h2 (e ▸ h7)
          refine Pend.congr (hlook j oj hj (fun e => h2 (h.preAnc j i h7 e)) (fun c e => hL (hcf c j e)) hji) (fun d hd => put_get_ne fun e => hji (names2 hn e (by rw [dstAt_eq hj]; exact hd))) (h.pend j oj hj h7 hL hcj)
      · intro j k h7 h8 h9 h10 h11 h12
        exact h.inj j k h7 h8 h9 h10 (fun e => h11 (List.mem_cons_of_mem _ e)) (fun e => h12 (List.mem_cons_of_mem _ e))
      · intro j oj hj hm hr hL
        have hji : j ≠ i := fun e => hr (e ▸ List.mem_cons_self)
        rcases List.mem_cons.1 hm with h7 | h7
        · cases h7
        · exact Chk.congr (hlook j oj hj (fun e => h2 (h.chkAnc j i h7 e)) (fun _ e => hr (List.mem_cons_of_mem _ (h3 j e (anc_lt ha h1 e)))) hji) (h.chks j oj hj h7 (fun e => hr (List.mem_cons_of_mem _ e)) hL)
      · intro j k hj hk
        rcases List.mem_cons.1 hj with h7 | h7
        · cases h7
          exact List.mem_cons_of_mem _ (h3 k hk (anc_lt ha h1 hk))
        · exact List.mem_cons_of_mem _ (h.preAnc j k h7 hk)
      · intro j k hj hk
        rcases List.mem_cons.1 hj with h7 | h7
        · cases h7
        · exact List.mem_cons_of_mem _ (h.chkAnc j k h7 hk)
      · intro j hj c k hk
        rcases List.mem_cons.1 hj with h7 | h7
        · cases h7
          exact hcf c k hk
        · exact h.cf j h7 c k hk
    have hself : ∀ v, ∀ t ∈ o.looksAt ops, (put fr o.dst v)[t]? = fr[t]? := fun v t ht => by
      rw [← hdst]
      exact put_looks ho (fun d hd => names1 hn hd) t ht
    split at hv
    · exact hv.elim
    · rename_i hw
      refine ⟨_, key _ hv (.inl ⟨by rw [sWanted_congr (hself _)]; exact hw, ?_⟩)⟩
      intro d hd u hu
      rw [hd, put_get_self (h.dlt i d (by rw [hdst]; exact hd))] at hu
      cases hu; rfl
    · rename_i hw
      split at hv
      · rename_i v s' hop
        obtain ⟨hs', hdn, hv⟩ := hv
        rw [hs'] at hop
        cases hd : o.dst with
        | none => exact absurd hd hdn
        | some d =>
          rw [hd] at hv
          have := key v (by rw [hd]; exact hv) (.inr ⟨by rw [sWanted_congr (hself _)]; exact hw, d, hd, ?_⟩)
          · exact ⟨_, this⟩
          · rw [sOp_congr s (looks_ev (hself v)), hop]
            rw [hd]
            simp only [List.getD, put_get_self (h.dlt i d (by rw [hdst]; exact hd)), Option.getD_some]
      · exact hv.elim

/-- A block that the model has made comes to be the shadow's. -/
theorem Inv.stepRun2 (ha : okAnc ops anc = true) (hn : okNames ops anc = true) (h : Inv P ops anc K ρ₀ s₀ w₀ pre (.run i :: rest) L er ρ fr s a w) (hc : clsAt ops i = 2) (hL : L i) :
    ∃ ρ' fr' s', Inv P ops anc K ρ₀ s₀ w₀ (.run i :: pre) rest L er ρ' fr' s' a w := by
  obtain ⟨h1, h2, h3, h4, h5, h6⟩ := okRest_run h.ok
  have hv := h.vcs
  simp only [vcEnts] at hv
  split at hv
  · exact hv.elim
  · rename_i o ho
    have hco : cls o = 2 := by rw [← clsAt_eq ho]; exact hc
    have hdst := dstAt_eq ho
    simp only [hco] at hv
    have hearly := (h.early i o ho hL hco h2).2
    have key : ∀ (ρ' : Rho) (s' : SW) (v rv : Value), Rho.le ρ ρ' → HRel ρ' s' w → Ext ρ₀ s₀ w₀ ρ' s' w → VRel ρ' v rv → (∀ d, o.dst = some d → d < a.tmps.size → a.tmps[d]? = some rv) →
        vcEnts P ops anc K rest (.run i :: pre) (put fr o.dst v) s' →
        (∀ j oj, opAt ops j = some oj → .run j ∈ pre → ¬ L j → cls oj = 0 → Pend P ops (put fr o.dst v) s' oj) →
        (∀ j oj, opAt ops j = some oj → L j → cls oj = 2 → .run j ∉ pre → j ≠ i → Early P ops w₀ ρ' fr s' a w (er j) oj) →
        Inv P ops anc K ρ₀ s₀ w₀ (.run i :: pre) rest L er ρ' (put fr o.dst v) s' a w := by
      intro ρ' s' v rv hle hr' hext' hvr hav hvc hpend hearl
      rw [← hdst] at hvc hpend hav ⊢
      have hlook : ∀ (j : Nat) (oj : Oper), opAt ops j = some oj → (ancB anc j i = true → False) → j ≠ i → ∀ t ∈ oj.looksAt ops, (put fr (dstAt ops i) v)[t]? = fr[t]? :=
        fun j oj hj hno hne => put_looks hj fun d hd hl => (names3 hn hd hl hne).elim hno fun q => by have := q.2.2; omega
      refine ⟨h6, hvc, hr', hext', ⟨by rw [put_length]; exact h.fx.size, h.fx.defers, ?_⟩, fun j d hd => by rw [put_length]; exact h.dlt j d hd, h.closed, fun j hj hcj => List.mem_cons_of_mem _ (h.i12 j hj hcj), ?_, ?_, ?_, ?_, fun j q1 q2 q3 => h.erlt j q1 q2 (fun e => q3 (List.mem_cons_of_mem _ e)), ?_, ?_, ?_, ?_⟩
      · intro k u hk hx
        by_cases hki : dstAt ops i = some k
        · have hlt := h.dlt i k hki
          rw [hki, put_get_self hlt] at hk
          cases hk
          exact ⟨rv, hav k hki (by rw [← h.fx.size]; exact hlt), hvr⟩
        · rw [put_get_ne hki] at hk
          obtain ⟨ru, g1, g2⟩ := h.fx.val k u hk fun hx' => hx ((hole_run hki).2 hx')
          exact ⟨ru, g1, g2.mono hle⟩
      · intro j hj hcj
        rcases List.mem_cons.1 hj with h7 | h7
        · cases h7; exact hL
        · exact h.ifa j h7 hcj
      · intro j oj hj hLj hcj hr
        have hji : j ≠ i := fun e => hr (e ▸ List.mem_cons_self)
        have hrp : .run j ∉ pre := fun e => hr (List.mem_cons_of_mem _ e)
        have := h.early j oj hj hLj hcj hrp
        exact ⟨List.mem_cons_of_mem _ this.1, Early.congr (hlook j oj hj (fun e => h2 (h.chkAnc j i this.1 e)) hji) rfl (fun _ _ => rfl) (hearl j oj hj hLj hcj hrp hji)⟩
      · intro j oj hj hr hLj hcj
        rcases List.mem_cons.1 hr with h7 | h7
        · cases h7; exact absurd hL hLj
        · exact hpend j oj hj h7 hLj hcj
      · intro j k h7 h8 h9 h10 h11 h12
        exact h.inj j k h7 h8 h9 h10 (fun e => h11 (List.mem_cons_of_mem _ e)) (fun e => h12 (List.mem_cons_of_mem _ e))
      · intro j oj hj hm hr hLj
        have hji : j ≠ i := fun e => hr (e ▸ List.mem_cons_self)
        rcases List.mem_cons.1 hm with h7 | h7
        · cases h7
        · exact Chk.congr (hlook j oj hj (fun e => h2 (h.chkAnc j i h7 e)) hji) (h.chks j oj hj h7 (fun e => hr (List.mem_cons_of_mem _ e)) hLj)
      · intro j k hj hk
        rcases List.mem_cons.1 hj with h7 | h7
        · cases h7
          exact List.mem_cons_of_mem _ (h3 k hk (anc_lt ha h1 hk))
        · exact List.mem_cons_of_mem _ (h.preAnc j k h7 hk)
      · intro j k hj hk
        rcases List.mem_cons.1 hj with h7 | h7
        · cases h7
        · exact List.mem_cons_of_mem _ (h.chkAnc j k h7 hk)
      · intro j hj c k hk
        rcases List.mem_cons.1 hj with h7 | h7
        · cases h7
          have := conf_cls hn c
          omega
        · exact h.cf j h7 c k hk
    have hlookP : ∀ v, ∀ (j : Nat) (oj : Oper), opAt ops j = some oj → .run j ∈ pre → (∀ t ∈ oj.looksAt ops, (put fr o.dst v)[t]? = fr[t]?) ∧ (∀ d, oj.dst = some d → (put fr o.dst v)[d]? = fr[d]?) := by
      intro v j oj hj hr
      have hji : j ≠ i := fun e => h2 (e ▸ hr)
      rw [← hdst]
      exact ⟨put_looks hj fun d hd hl => (names3 hn hd hl hji).elim (fun e => h2 (h.preAnc j i hr e)) (fun q => by have := q.2.2; omega), fun d hd => put_get_ne fun e => hji (names2 hn e (by rw [dstAt_eq hj]; exact hd))⟩
    split at hv
    · exact hv.elim
    · rename_i hw
      rcases hearly with ⟨_, g2⟩ | ⟨g1, _⟩
      · refine ⟨ρ, _, s, key ρ s Go.undef Go.undef (Rho.le_refl _) h.hr h.ext .undef g2 hv ?_ ?_⟩
        · intro j oj hj hr hLj hcj
          obtain ⟨e1, e2⟩ := hlookP Go.undef j oj hj hr
          exact Pend.congr e1 e2 (h.pend j oj hj hr hLj hcj)
        · intro j oj hj hLj hcj hr _
          exact (h.early j oj hj hLj hcj hr).2
      · rw [hw] at g1; cases g1
    · rename_i hw
      rcases hearly with ⟨g1, _⟩ | ⟨_, obj, val, p, rv, g1, g2, g3, g3', g4, g5, g6, g7⟩
      · rw [hw] at g1; cases g1
      · rw [g1] at hv
        simp only at hv
        have hn0 : ρ s.next = none := h.hr.next _ (Nat.le_refl _)
        refine ⟨ρ.upd s.next p, _, s.new obj, key _ _ (val s.next) rv (Rho.le_upd hn0) (h.hr.adopt g4 g5) (Ext.adopt h.hr h.ext g3') (g6 _ _ Rho.upd_same) g7 hv.2 ?_ ?_⟩
        · intro j oj hj hr hLj hcj
          obtain ⟨e1, e2⟩ := hlookP (val s.next) j oj hj hr
          have hanc : ancB anc i j = false := by
            cases hb : ancB anc i j with
            | false => rfl
            | true => exact absurd (h.closed i j hL hb) hLj
          have hp0 := Pend.congr e1 e2 (h.pend j oj hj hr hLj hcj)
          cases hh : readsHeap oj with
          | true =>
            have := stable_get hv.1 hr hj hcj hh hanc
            rcases hp0 with ⟨q1, q2⟩ | ⟨q1, d, q2, q3⟩
            · exact .inl ⟨q1, q2⟩
            · rw [q1] at this
              simp only [q2] at this
              exact .inr ⟨q1, d, q2, this⟩
          | false =>
            rcases hp0 with ⟨q1, q2⟩ | ⟨q1, d, q2, q3⟩
            · exact .inl ⟨q1, q2⟩
            · exact .inr ⟨q1, d, q2, sOp_pure hcj hh q3 _⟩
        · intro j oj hj hLj hcj hr hji
          rcases (h.early j oj hj hLj hcj hr).2 with q1 | ⟨q0, obj', val', p', rv', q1, q2, q3, q3', q4, q5, q6, q7⟩
          · exact .inl q1
          · refine .inr ⟨q0, obj', val', p', rv', q1, q2, q3, q3', ?_, q5.mono (Rho.le_upd hn0), q6, q7⟩
            intro k u q hk hq
            simp only [SW.new] at hk
            simp only [Rho.upd] at hq
            by_cases e : k = s.next
            · simp only [e, if_true] at hq
              cases hq
              intro e2
              exact hji (h.inj i j hL hLj hc (by rw [clsAt_eq hj]; exact hcj) h2 hr (by rw [← g2, ← q2, e2])).symm
            · simp only [e, if_false] at hk hq
              exact q4 k u q hk hq

end

end Go.Sh
