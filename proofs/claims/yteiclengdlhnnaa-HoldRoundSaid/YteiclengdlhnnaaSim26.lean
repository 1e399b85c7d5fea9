/- A new block somewhere behind; a call of the library's that leaves what was as it was; 'slices.Sorted(maps.Keys(m))'. -/
import Derived.Test.YteiclengdlhnnaaSim25
import Derived.Shelf.SlIterI.Nil
import Derived.Shelf.SlIterI.Sorted
import Derived.Shelf.SortM.Plain
import Derived.Shelf.SortM.SortNone
namespace Go.Sh
open Go Go.Proofs Go.RowKit Go.Maps Go.Sort Go.Shelf

theorem HRel.allocGe {ρ : Rho} {s : SW} {w w' : World} (h : HRel ρ s w) {o : SObj} {p : Pl} (hr : w.heap.size ≤ p.r)
    (hw : ∀ r, r < w.heap.size → w'.heap[r]? = w.heap[r]?) (ho : ORel (ρ.upd s.next p) p o (w'.heap[p.r]?)) :
    HRel (ρ.upd s.next p) (s.new o) w' := by
  have hn : ρ s.next = none := h.next _ (Nat.le_refl _)
  refine ⟨?_, ?_, ?_⟩
  · intro i hi
    simp only [SW.new] at hi
    simp only [Rho.upd, if_neg (show ¬ i = s.next by omega)]
    exact h.next i (by omega)
  · intro j u hj
    simp only [SW.new] at hj
    by_cases e : j = s.next
    · subst e
      simp only [if_true] at hj
      cases hj
      exact ⟨p, Rho.upd_same, ho⟩
    · simp only [e, if_false] at hj
      obtain ⟨q, hq, hu⟩ := h.live j u hj
      refine ⟨q, by simp [Rho.upd, e, hq], ?_⟩
      rw [hw q.r (h.lt_size hj hq)]
      exact hu.mono (Rho.le_upd hn)
  · intro j k u u' q q' hj hk hq hq' er
    simp only [SW.new] at hj hk
    simp only [Rho.upd] at hq hq'
    by_cases ej : j = s.next <;> by_cases ek : k = s.next
    · rw [ej, ek]
    · simp only [ek, if_false] at hk hq'
      simp only [ej, if_true] at hq
      cases hq
      have := h.lt_size hk hq'
      omega
    · simp only [ej, if_false] at hj hq
      simp only [ek, if_true] at hq'
      cases hq'
      have := h.lt_size hj hq
      omega
    · simp only [ej, if_false] at hj hq
      simp only [ek, if_false] at hk hq'
      exact h.inj _ _ _ _ _ _ hj hk hq hq' er

theorem Ext.allocGe {ρ : Rho} {s : SW} {w w' : World} (h : HRel ρ s w) {o : SObj} {p : Pl} (hr : w.heap.size ≤ p.r)
    (hw : ∀ r, r < w.heap.size → w'.heap[r]? = w.heap[r]?) (hsz : w.heap.size ≤ w'.heap.size) (hs : Same w w') :
    Ext ρ s w (ρ.upd s.next p) (s.new o) w' := by
  have hn : ρ s.next = none := h.next _ (Nat.le_refl _)
  refine ⟨Rho.le_upd hn, ?_, ?_, by simp [SW.new], hsz, fun r hlt _ => hw r hlt, hs.os, hs.tape, hs.output⟩
  · intro j q h1 h2
    simp only [Rho.upd] at h2
    by_cases e : j = s.next
    · simp only [e, if_true] at h2
      cases h2
      exact .inl (by omega)
    · simp only [e, if_false] at h2
      rw [h1] at h2; cases h2
  · intro j u q hj hq
    simp only [SW.new] at hj
    by_cases e : j = s.next
    · rw [e, hn] at hq; cases hq
    · simp only [e, if_false] at hj
      exact ⟨u, hj, id⟩

theorem HRel.below {ρ : Rho} {s : SW} {w w' : World} (h : HRel ρ s w) (hb : Below w.heap.size w w') : HRel ρ s w' :=
  ⟨h.next, fun i o hi => by
    obtain ⟨q, hq, hu⟩ := h.live i o hi
    refine ⟨q, hq, ?_⟩
    rw [hb.block q.r (h.lt_size hi hq)]
    exact hu, h.inj⟩

theorem Ext.below {ρ : Rho} {s : SW} {w w' : World} (hb : Below w.heap.size w w') : Ext ρ s w ρ s w' :=
  ⟨Rho.le_refl ρ, fun i p h h' => (by rw [h] at h'; cases h'), fun i o p h _ => ⟨o, h, id⟩, Nat.le_refl _, hb.size, fun r hr _ => hb.block r hr, hb.os, hb.tape, hb.output⟩

theorem F2.map_eq {α β γ : Type} {R : α → β → Prop} {f : α → γ} {g : β → γ} (hR : ∀ a b, R a b → f a = g b) {l : List α} {m : List β} (h : F2 R l m) : l.map f = m.map g := by
  induction h with
  | nil => rfl
  | cons h1 _ ih => simp [ih, hR _ _ h1]

/-- A shadow map as the kit sees it: its keys. -/
theorem HRel.ownsMap {ρ : Rho} {s : SW} {w : World} (h : HRel ρ s w) {P : Program} {k : TypeId} (hk : P.underlying k = some (.int .i64)) {i : Nat} {own : Bool} {m : List (Int × Value)} {p : Pl}
    (hi : s.heap i = some (.map .i64 own m)) (hp : ρ i = some p) (hm : m.length ≤ maxLen) (hr : ∀ kv ∈ m, (Lit.int .i64 kv.1).wf = true) :
    ∃ D : DataW Unit, w.ownsMap P k (fun _ => some (.nil, [])) p.r m.length D ∧ (intKeys D).Perm (m.map Prod.fst) ∧ Maps.size D = m.length := by
  obtain ⟨q, hq, hor⟩ := h.live i _ hi
  rw [hp] at hq; cases hq
  cases hb : w.heap[p.r]? with
  | none => rw [hb] at hor; exact hor.elim
  | some ob =>
    rw [hb] at hor
    cases ob with
    | map es clock =>
      obtain ⟨⟨l, hl, hF⟩, hnd, hborn, hclk⟩ := hor
      have hlen : es.toList.length = m.length := by rw [← hl.length_eq, hF.length]
      have hkeys : m.map (fun kv => Value.int .i64 kv.1) = l.map (·.key) := hF.map_eq fun a b hab => hab.1.symm
      have hin : ∀ x ∈ es.toList, ∃ n, x.key = .int .i64 n ∧ (Lit.int .i64 n).wf = true := by
        intro x hx
        have : x.key ∈ l.map (·.key) := List.mem_map_of_mem (hl.mem_iff.2 hx)
        rw [← hkeys, List.mem_map] at this
        obtain ⟨kv, h1, h2⟩ := this
        exact ⟨kv.1, h2.symm, hr kv h1⟩
      have hrd : ∀ x ∈ es.toList, ∀ n, x.key = .int .i64 n → WideElems.rd (H := Unit) P k (fun _ => some (.nil, [])) x = some (.int .i64 n, .nil) := by
        intro x hx n hn
        obtain ⟨n', h1, h2⟩ := hin x hx
        rw [hn] at h1; cases h1
        simp [WideElems.rd, hn, Maps.keyOf_int_mk hk h2]
      refine ⟨_, ⟨es, clock, hb, ⟨by rw [← Array.length_toList, hlen]; exact hm, ⟨hclk, hborn, ?_⟩, fun x hx => ?_⟩, by rw [← Array.length_toList, hlen]; exact Nat.le_refl _, rfl⟩, ?_, ?_⟩
      · refine ((hl.map (·.key)).nodup_iff).1 ?_
        rw [← hkeys]
        have : (m.map fun kv => Value.int .i64 kv.1) = (m.map Prod.fst).map (Value.int .i64) := by simp [Function.comp_def]
        rw [this]
        exact List.pairwise_map.2 (hnd.imp fun hne e => hne (by cases e; rfl))
      · obtain ⟨n, h1, _⟩ := hin x hx
        exact ⟨_, hrd x hx n h1⟩
      · show ((es.toList.map (WideElems.rg P k _)).foldr DataW.insert [] |>.map fun p => intOf p.1).Perm _
        refine ((WideShapes.sorted_perm _).map _).trans ?_
        rw [List.map_map]
        have h1 : m.map Prod.fst = l.map (fun x => intOf (WideElems.rg (H := Unit) P k (fun _ => some (.nil, [])) x).1) := by
          refine F2.map_eq (R := fun (kv : Int × Value) (e : MapEntry) => e ∈ es.toList ∧ e.key = .int .i64 kv.1) ?_ ?_
          · intro kv e ⟨he, hke⟩
            simp [WideElems.rg, hrd e he _ hke, intOf]
          · have : ∀ {m : List (Int × Value)} {l : List MapEntry}, F2 (fun kv e => e.key = Value.int .i64 kv.1 ∧ VRel ρ kv.2 e.val) m l → (∀ e ∈ l, e ∈ es.toList) →
                F2 (fun (kv : Int × Value) (e : MapEntry) => e ∈ es.toList ∧ e.key = .int .i64 kv.1) m l := by
              intro m l hF
              induction hF with
              | nil => intro _; exact .nil
              | cons h1 _ ih => intro hm; exact .cons ⟨hm _ (by simp), h1.1⟩ (ih fun e he => hm e (by simp [he]))
            exact this hF fun e he => hl.mem_iff.1 he
        rw [h1]
        exact (hl.map _).symm
      · show ((es.toList.map (WideElems.rg P k _)).foldr DataW.insert []).length = _
        rw [(WideShapes.sorted_perm _).length_eq, List.length_map, hlen]
    | _ => exact hor.elim

/-- The keys of a map, rising. -/
def risingKeys (m : List (Int × Value)) : List Int := (m.map Prod.fst).mergeSort fun x y => decide (x ≤ y)

theorem risingKeys_length (m : List (Int × Value)) : (risingKeys m).length = m.length := by simp [risingKeys]

end Go.Sh
