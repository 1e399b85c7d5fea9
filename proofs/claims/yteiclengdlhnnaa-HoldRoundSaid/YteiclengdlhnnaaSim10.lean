/- copy, clear, len; texts and bytes; maps by numbers. -/
import Derived.Test.YteiclengdlhnnaaSim9
namespace Go.Sh
open Go

/-! ### len -/

def sLen (P : Program) (argTypes : Array TypeId) (args : Array Value) (s : SW) : Option Value :=
  match (argTypes[0]? : Option TypeId), (args[0]? : Option Value) with
  | some t, some x =>
    match P.underlying t, x with
    | some .string, .string b => some (.int .i64 b.size)
    | some (.array n _), _ => some (.int .i64 n)
    | some (.slice _), .slice _ n _ => some (.int .i64 n)
    | some (.map _ _), .map none => some (.int .i64 0)
    | some (.map _ _), .map (some i) =>
      match s.heap i with
      | some (.map _ _ m) => some (.int .i64 m.length)
      | _ => none
    | _, _ => none
  | _, _ => none

theorem VRel.map_inv {ρ : Rho} {i : Nat} {rv : Value} (h : VRel ρ (.map (some i)) rv) : ∃ p, ρ i = some p ∧ rv = .map (some p.r) := by
  cases h with
  | plain h0 => simp [pl0] at h0
  | map hp => exact ⟨_, hp, rfl⟩

theorem HRel.mapAt {ρ : Rho} {s : SW} {w : World} (h : HRel ρ s w) {i : Nat} {k : IntKind} {own : Bool} {m : List (Int × Value)} {p : Pl} (hi : s.heap i = some (.map k own m)) (hp : ρ i = some p) :
    ∃ es clock, w.heap[p.r]? = some (.map es clock) ∧ MRel ρ k m es.toList clock := by
  obtain ⟨q, hq, ho⟩ := h.place hi
  rw [hp] at hq; cases hq
  cases hb : w.heap[p.r]? with
  | none => rw [hb] at ho; exact ho.elim
  | some ob =>
    rw [hb] at ho
    cases ob with
    | map es clock => exact ⟨es, clock, rfl, ho⟩
    | _ => exact ho.elim

theorem run_getObj_map {P : Program} {w : World} {r : Nat} {es : Array MapEntry} {clock : Nat} (h : w.heap[r]? = some (.map es clock)) : (getObj r).run P w = .ok (.map es clock) w := by
  simp [getObj, Sem.run, h]

theorem MRel.length {ρ : Rho} {k : IntKind} {m : List (Int × Value)} {es : List MapEntry} {clock : Nat} (h : MRel ρ k m es clock) : m.length = es.length := by
  obtain ⟨l, h1, h2⟩ := h.perm
  rw [h2.length, h1.length_eq]

theorem sLen_ok {P : Program} {ρ : Rho} {s : SW} {w : World} {argTypes : Array TypeId} {args rargs : Array Value} {v : Value} (hr : HRel ρ s w) (h : sLen P argTypes args s = some v)
    (ha : F2 (VRel ρ) args.toList rargs.toList) (t : TypeId) : pl0 v = true ∧ (Builtin.len_ argTypes t rargs).run P w = .ok v w := by
  unfold sLen at h
  split at h
  · rename_i tT x hT hA
    obtain ⟨rx, hB, hx⟩ := getD_args ha hA
    unfold Builtin.len_
    rw [hT, hB]
    split at h
    · rename_i ht
      obtain rfl := hx.string
      cases h
      exact ⟨rfl, by simp [run_underlying' w ht, goInt]⟩
    · rename_i ht
      cases h
      refine ⟨rfl, ?_⟩
      simp only [Sem.run_bind, run_underlying' w ht, Result.andThen_ok]
      cases rx <;> simp [goInt]
    · rename_i ht
      cases h
      refine ⟨rfl, ?_⟩
      simp only [Sem.run_bind, run_underlying' w ht, Result.andThen_ok]
      cases hx <;> simp [goInt]
    · rename_i ht
      cases h
      refine ⟨rfl, ?_⟩
      simp only [Sem.run_bind, run_underlying' w ht, Result.andThen_ok]
      cases hx <;> simp [goInt]
    · rename_i i ht
      split at h
      · rename_i k own m hi
        cases h
        obtain ⟨p, hp, rfl⟩ := hx.map_inv
        obtain ⟨es, clock, h1, h2⟩ := hr.mapAt hi hp
        refine ⟨rfl, ?_⟩
        simp only [Sem.run_bind, run_underlying' w ht, Result.andThen_ok, run_getObj_map h1]
        simp [goInt, h2.length]
      · cases h
    · cases h
  · cases h

/-! ### maps -/

def mget (m : List (Int × Value)) (n : Int) : Option Value := (m.find? fun kv => kv.1 == n).map (·.2)
def mput (m : List (Int × Value)) (n : Int) (v : Value) : List (Int × Value) :=
  if (m.any fun kv => kv.1 == n) then m.map fun kv => if kv.1 == n then (n, v) else kv else m ++ [(n, v)]
def mdel (m : List (Int × Value)) (n : Int) : List (Int × Value) := m.filter fun kv => !(kv.1 == n)

/-- The keys of the model's entries are such numbers, no one twice. -/
theorem MRel.entries {ρ : Rho} {k : IntKind} {m : List (Int × Value)} {es : List MapEntry} {clock : Nat} (h : MRel ρ k m es clock) :
    (∀ e ∈ es, ∃ n, e.key = .int k n) ∧ es.Pairwise (fun a b => a.key ≠ b.key) := by
  obtain ⟨l, h1, h2⟩ := h.perm
  have hk := h.keys
  have a1 : ∀ e ∈ l, ∃ kv ∈ m, e.key = .int k kv.1 := by
    clear hk h1 h
    induction h2 with
    | nil => intro e he; cases he
    | cons hh _ ih =>
      intro e he
      rcases List.mem_cons.1 he with rfl | he
      · exact ⟨_, List.mem_cons_self, hh.1⟩
      · obtain ⟨kv, h3, h4⟩ := ih e he
        exact ⟨kv, List.mem_cons_of_mem _ h3, h4⟩
  have a2 : l.Pairwise (fun a b => a.key ≠ b.key) := by
    clear a1 h1 h
    induction h2 with
    | nil => exact .nil
    | @cons kv e m' l' hh hrest ih =>
      simp only [List.map_cons, List.nodup_cons] at hk
      refine List.Pairwise.cons ?_ (ih hk.2)
      intro e' he' heq
      have : ∃ kv' ∈ m', e'.key = .int k kv'.1 := by
        clear ih hk heq
        induction hrest with
        | nil => cases he'
        | cons hh' _ ih' =>
          rcases List.mem_cons.1 he' with rfl | he'
          · exact ⟨_, List.mem_cons_self, hh'.1⟩
          · obtain ⟨kv', h3, h4⟩ := ih' he'
            exact ⟨kv', List.mem_cons_of_mem _ h3, h4⟩
      obtain ⟨kv', h3, h4⟩ := this
      rw [hh.1, h4] at heq
      have e1 : kv.1 = kv'.1 := by injection heq
      exact hk.1 (by rw [e1]; exact List.mem_map_of_mem h3)
  refine ⟨fun e he => ?_, ?_⟩
  · obtain ⟨kv, _, h4⟩ := a1 e (h1.mem_iff.2 he)
    exact ⟨_, h4⟩
  · exact (h1.pairwise_iff (fun h5 h6 => h5 h6.symm)).1 a2

/-- The entry of a number. -/
theorem findNow_int {k : IntKind} {kk : IntKind} (n : Int) : ∀ (es : List MapEntry) (j : Nat), (∀ e ∈ es, ∃ n, e.key = .int k n) →
    ∃ r, Instr.findNow (.int kk) (.int k n) es j = some r ∧
      ((r = none ∧ ∀ e ∈ es, e.key ≠ .int k n) ∨ (∃ i e, r = some (j + i, e.val) ∧ es[i]? = some e ∧ e.key = .int k n)) := by
  intro es
  induction es with
  | nil => intro j _; exact ⟨none, rfl, .inl ⟨rfl, fun e he => (by cases he)⟩⟩
  | cons e es ih =>
    intro j h
    obtain ⟨n', hn'⟩ := h e List.mem_cons_self
    simp only [Instr.findNow, hn', Instr.sameNow, if_true]
    by_cases hnn : n = n'
    · subst hnn
      simp only [beq_self_eq_true]
      exact ⟨_, rfl, .inr ⟨0, e, by simp, rfl, hn'⟩⟩
    · have : (n == n') = false := by simpa using hnn
      simp only [this]
      obtain ⟨r, h1, h2⟩ := ih (j + 1) (fun e he => h e (List.mem_cons_of_mem _ he))
      refine ⟨r, h1, ?_⟩
      rcases h2 with ⟨h3, h4⟩ | ⟨i, e', h3, h4, h5⟩
      · refine .inl ⟨h3, fun e' he' => ?_⟩
        rcases List.mem_cons.1 he' with rfl | he'
        · rw [hn']; intro heq; injection heq with _ heq; exact hnn heq.symm
        · exact h4 e' he'
      · exact .inr ⟨i + 1, e', by rw [h3]; congr 2; omega, by simpa using h4, h5⟩

theorem MRel.get {ρ : Rho} {k : IntKind} {m : List (Int × Value)} {es : List MapEntry} {clock : Nat} (h : MRel ρ k m es clock) (n : Int) :
    (mget m n = none → ∀ e ∈ es, e.key ≠ .int k n) ∧ (∀ v, mget m n = some v → ∃ e ∈ es, e.key = .int k n ∧ VRel ρ v e.val) := by
  obtain ⟨l, h1, h2⟩ := h.perm
  have : (mget m n = none → ∀ e ∈ l, e.key ≠ .int k n) ∧ (∀ v, mget m n = some v → ∃ e ∈ l, e.key = .int k n ∧ VRel ρ v e.val) := by
    clear h1 h
    induction h2 with
    | nil => exact ⟨fun _ e he => (by cases he), fun v hv => (by simp [mget] at hv)⟩
    | @cons kv e m' l' hh _ ih =>
      by_cases hkv : kv.1 = n
      · have hg : mget (kv :: m') n = some kv.2 := by simp [mget, hkv]
        rw [hg]
        refine ⟨fun h => (by cases h), fun v hv => ?_⟩
        cases hv
        exact ⟨e, List.mem_cons_self, by rw [hh.1, hkv], hh.2⟩
      · have hg : mget (kv :: m') n = mget m' n := by simp [mget, hkv]
        rw [hg]
        refine ⟨fun h e' he' => ?_, fun v hv => ?_⟩
        · rcases List.mem_cons.1 he' with rfl | he'
          · rw [hh.1]; intro heq; injection heq with _ heq; exact hkv heq
          · exact ih.1 h e' he'
        · obtain ⟨e', a, b⟩ := ih.2 v hv
          exact ⟨e', List.mem_cons_of_mem _ a, b⟩
  exact ⟨fun h e he => this.1 h e (h1.mem_iff.2 he), fun v hv => let ⟨e, a, b⟩ := this.2 v hv; ⟨e, h1.mem_iff.1 a, b⟩⟩

theorem pairwise_key_eq {es : List MapEntry} (h : es.Pairwise (fun a b => a.key ≠ b.key)) {e e' : MapEntry} (he : e ∈ es) (he' : e' ∈ es) (hk : e.key = e'.key) : e = e' := by
  induction h generalizing e e' with
  | nil => cases he
  | cons h1 _ ih =>
    rcases List.mem_cons.1 he with h2 | h2
    · rcases List.mem_cons.1 he' with h3 | h3
      · rw [h2, h3]
      · exact absurd (h2 ▸ hk) (h1 _ h3)
    · rcases List.mem_cons.1 he' with h3 | h3
      · exact absurd (h3 ▸ hk.symm) (h1 _ h2)
      · exact ih h2 h3 hk

/-- The law of a look-up. -/
theorem run_findKey_int {P : Program} {ρ : Rho} {k : IntKind} {m : List (Int × Value)} {es : Array MapEntry} {clock : Nat} (h : MRel ρ k m es.toList clock) {kt : TypeId} {kk : IntKind} (hk : P.underlying kt = some (.int kk)) (n : Int) (w : World) :
    (mget m n = none ∧ (Instr.findKey kt (.int k n) es.toList).run P w = .ok none w ∧ ∀ e ∈ es.toList, e.key ≠ .int k n) ∨
    (∃ v i e, mget m n = some v ∧ es[i]? = some e ∧ e.key = .int k n ∧ VRel ρ v e.val ∧ (Instr.findKey kt (.int k n) es.toList).run P w = .ok (some (i, e.val)) w) := by
  obtain ⟨g1, g2⟩ := h.get n
  obtain ⟨a1, a2⟩ := h.entries
  obtain ⟨r, h1, h2⟩ := findNow_int (k := k) (kk := kk) n es.toList 0 a1
  have hrun : (Instr.findKey kt (.int k n) es.toList).run P w = .ok r w := by
    simp only [Instr.findKey, Sem.run_bind, run_underlying' w hk, Result.andThen_ok, h1, Sem.run_pure]
  cases hg : mget m n with
  | none =>
    left
    refine ⟨rfl, ?_, g1 hg⟩
    rcases h2 with ⟨h3, _⟩ | ⟨i, e, h3, h4, h5⟩
    · rw [hrun, h3]
    · exact absurd h5 (g1 hg e (List.mem_of_getElem? h4))
  | some v =>
    right
    obtain ⟨e, b1, b2, b3⟩ := g2 v hg
    rcases h2 with ⟨_, h4⟩ | ⟨i, e', h3, h4, h5⟩
    · exact absurd b2 (h4 e b1)
    · have : e' = e := pairwise_key_eq a2 (List.mem_of_getElem? h4) b1 (h5.trans b2.symm)
      subst this
      exact ⟨v, i, e', rfl, by simpa using h4, h5, b3, by rw [hrun, h3]; simp⟩

end Go.Sh
