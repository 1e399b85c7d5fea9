/- 'slices.Sorted(maps.Keys(m))', called. -/
import Derived.Test.YteiclengdlhnnaaSim26
namespace Go.Sh
open Go Go.Proofs Go.RowKit Go.Maps Go.Sort Go.Shelf

theorem sortsIn_of {P : Program} {r r' : Ren} (L : SlLaysM.n5 P r') (e : r.f 9 = r'.f 5) (m : Nat) : AnyZI.SortsIn P r Fence.wide m := by
  refine ⟨?_, ?_⟩
  · intro blk off cap ss W hH hblk hsz
    rw [e]
    exact callsIn_wide.2 (AnyM.slices_Sort_int L blk off cap ss W hH hblk hsz)
  · intro p cap W
    rw [e]
    exact callsIn_wide.2 (AnyM.slices_Sort_int_none L p cap W)

theorem F2.one {α β : Type} {R : α → β → Prop} {a : α} {l : List β} (h : F2 R [a] l) : ∃ b, l = [b] ∧ R a b := by
  cases h with
  | cons h1 h2 => cases h2; exact ⟨_, rfl, h1⟩

theorem VRel.clos_inv {ρ : Rho} {fn : Fn} {v rv : Value} (h : VRel ρ (.func fn #[] #[v]) rv) : ∃ rv', VRel ρ v rv' ∧ rv = .func fn #[] #[rv'] := by
  cases h with
  | plain h => cases h
  | func h1 h2 h3 h4 =>
    rename_i f' c'
    have hf : f' = #[] := Array.eq_empty_of_size_eq_zero (by simpa using h1.symm)
    have hc : c'.size = 1 := by simpa using h2.symm
    obtain ⟨x, hx⟩ : ∃ x, c' = #[x] := by
      obtain ⟨l⟩ := c'
      match l, hc with
      | [x], _ => exact ⟨x, rfl⟩
    subst hf hx
    exact ⟨x, h4 0 v x rfl rfl, rfl⟩

/-- The one box of a map. -/
theorem HRel.box1 {ρ : Rho} {s : SW} {w : World} (h : HRel ρ s w) {b : Nat} {v : Value} {own : Bool} {p : Pl} (hb : s.heap b = some (.cells [v] own 0)) (hp : ρ b = some p) :
    p.b = 0 ∧ p.r < w.heap.size ∧ ∃ rv, w.cell? ⟨p.r, 0, none⟩ = some rv ∧ VRel ρ v rv := by
  obtain ⟨q, hq, hor⟩ := h.live b _ hb
  rw [hp] at hq; cases hq
  refine ⟨?_, h.lt_size hb hp, ?_⟩
  · cases hx : w.heap[p.r]? with
    | none => rw [hx] at hor; exact hor.elim
    | some ob => rw [hx] at hor; cases ob with
      | cells rc e fz => exact (hor.2.2.2.2.1 rfl).2
      | _ => exact hor.elim
  · cases hx : w.heap[p.r]? with
    | none => rw [hx] at hor; exact hor.elim
    | some ob => rw [hx] at hor; cases ob with
      | cells rc e fz =>
        obtain ⟨rv, h1, h2⟩ := hor.2.2.1 0 v rfl
        rw [(hor.2.2.2.2.1 rfl).2] at h1
        exact ⟨rv, by simp [World.cell?, hx, h1], h2⟩
      | _ => exact hor.elim

theorem sorted_call {P : Program} {rk rs rm : Ren} (LK : SlLaysZI.n7 P rk) (LS : SlLaysZI.n6 P rs) (LM : SlLaysM.n5 P rm) (e9 : rs.f 9 = rm.f 5) (e26 : rs.t 26 = rk.t 26)
    (hc : callable P (rs.f 6) = true) (hc9 : callable P (rs.f 9) = true) (hck : callable P (rk.f 10) = true)
    (s : SW) (b i : Nat) (own own' : Bool) (m : List (Int × Value)) (hb : s.heap b = some (.cells [.map (some i)] own 0)) (hi : s.heap i = some (.map .i64 own' m))
    (hm : m.length ≤ 1000000) (hr : ∀ kv ∈ m, (Lit.int .i64 kv.1).wf = true) :
    SCalls P (rs.f 6) [.func (.func (rk.f 10)) #[] #[.pointer (some ⟨b, 0, none⟩)]] s fun v s' =>
      (m = [] ∧ v = .slice none 0 0 ∧ s' = s) ∨
      (m ≠ [] ∧ v = .slice (some ⟨s.next, 0, none⟩) m.length m.length ∧ s' = s.new (.cells ((risingKeys m).map (Value.int .i64)) true 1)) := by
  refine ⟨hc, fun ρ rargs w ha hrel => ?_⟩
  obtain ⟨rv, rfl, hv⟩ := ha.one
  obtain ⟨rv', hv', rfl⟩ := hv.clos_inv
  obtain ⟨p, hp, rfl⟩ := hv'.ptr_inv
  obtain ⟨hpb, hlt, rm', hcell, hrm⟩ := hrel.box1 hb hp
  obtain ⟨q, hq, rfl⟩ := hrm.map_inv
  have hml : m.length ≤ maxLen := by unfold maxLen; omega
  obtain ⟨D, hown, hperm, hsize⟩ := hrel.ownsMap (P := P) (k := rk.t 26) LK.t26 hi hq hml hr
  rw [hpb, Nat.zero_add]
  have hseq := AnyZI.keys_gives (ρ := rk) { LK with } Fence.wide 2 trivial rfl (by omega) p.r q.r m.length D w hlt hcell hown
  have cS := AnyZI.sorted_in LS Fence.wide 5 trivial trivial trivial trivial rfl (by omega) (sortsIn_of LM e9 _) (fun args w => callable_run hc9 args w) (rk.f 10) #[.pointer (some ⟨p.r, 0, none⟩)] trivial
    (fun args w => callable_run hck args w) _ (Maps.size D) (by rw [hsize]; exact hml) (by rw [hsize]; omega) w hseq
  refine (callsIn_wide.1 cS).mono ?_
  rintro e w' ⟨v, ss, rfl, hS, hrow, hnil, hbel⟩
  have hss : ss.Perm (m.map Prod.fst) := hS.trans hperm
  have hlen : ss.length = m.length := by simpa using hss.length_eq
  rcases hrow.2 with ⟨rfl, hz⟩ | ⟨g, cap, cur, rfl, hbase, hgb, r1, r2, r3, r4⟩
  · have hm0 : m = [] := List.eq_nil_of_length_eq_zero (by omega)
    exact ⟨ρ, _, _, s, rfl, .plain rfl, hrel.below hbel, Ext.below hbel, .inl ⟨hm0, rfl, rfl⟩⟩
  · have hne : m ≠ [] := by
      intro hm0
      have : ss = [] := List.eq_nil_of_length_eq_zero (by rw [hlen, hm0]; rfl)
      have := hnil.2 this
      cases this
    have hrk : risingKeys m = ss.mergeSort fun x y => decide (x ≤ y) := (mergeSort_of_perm_i hss).symm
    have hcells : (risingKeys m).map (Value.int .i64) = cur.toList.take ss.length := by
      rw [hrk, Nat.mul_one] at *
      exact r4.symm
    have hk : ((risingKeys m).map (Value.int .i64)).length = m.length := by rw [List.length_map, risingKeys_length]
    refine ⟨ρ.upd s.next ⟨g, 0, m.length, cap - m.length, 1⟩, _, _, _, rfl, ?_, hrel.allocGe (p := ⟨g, 0, m.length, cap - m.length, 1⟩) hbase (fun r hr => hbel.block r hr) ?_,
      Ext.allocGe hrel (p := ⟨g, 0, m.length, cap - m.length, 1⟩) hbase (fun r hr => hbel.block r hr) hbel.size ⟨hbel.os, hbel.tape, hbel.output⟩, .inr ⟨hne, rfl, rfl⟩⟩
    · rw [hlen]
      exact .slice (p := ⟨g, 0, m.length, cap - m.length, 1⟩) Rho.upd_same (Nat.le_refl _) (.inr ⟨by show cap = m.length + (cap - m.length); omega, by show 0 + m.length * 1 = m.length; omega⟩)
    · show ORel _ _ _ (w'.heap[g]?)
      rw [hgb]
      refine ⟨hk, by show 0 + m.length + (cap - m.length) * 1 ≤ cur.size; omega, ?_, fun _ k _ hkk => absurd hkk.2 (by simp), fun h => absurd h (by decide), fun _ => rfl⟩
      intro k v hv
      refine ⟨v, ?_, ?_⟩
      · rw [hcells, List.getElem?_take] at hv
        split at hv
        · show cur[0 + k]? = _
          rw [Nat.zero_add]
          simpa using hv
        · cases hv
      · rw [List.getElem?_map] at hv
        simp only [Option.map_eq_some_iff] at hv
        obtain ⟨n, _, rfl⟩ := hv
        exact .plain rfl

theorem sorted_call_nil {P : Program} {rk rs rm : Ren} (LK : SlLaysZI.n7 P rk) (LS : SlLaysZI.n6 P rs) (LM : SlLaysM.n5 P rm) (e9 : rs.f 9 = rm.f 5)
    (hc : callable P (rs.f 6) = true) (hc9 : callable P (rs.f 9) = true) (hck : callable P (rk.f 10) = true)
    (s : SW) (b : Nat) (own : Bool) (hb : s.heap b = some (.cells [.map none] own 0)) :
    SCalls P (rs.f 6) [.func (.func (rk.f 10)) #[] #[.pointer (some ⟨b, 0, none⟩)]] s fun v s' => v = .slice none 0 0 ∧ s' = s := by
  refine ⟨hc, fun ρ rargs w ha hrel => ?_⟩
  obtain ⟨rv, rfl, hv⟩ := ha.one
  obtain ⟨rv', hv', rfl⟩ := hv.clos_inv
  obtain ⟨p, hp, rfl⟩ := hv'.ptr_inv
  obtain ⟨hpb, hlt, rm', hcell, hrm⟩ := hrel.box1 hb hp
  obtain rfl : rm' = .map none := by cases hrm; rfl
  rw [hpb, Nat.zero_add]
  have hseq := AnyZI.keys_gives_nil (ρ := rk) { LK with } Fence.wide 2 trivial rfl p.r w hlt hcell
  have cS := AnyZI.sorted_in LS Fence.wide 5 trivial trivial trivial trivial rfl (by omega) (sortsIn_of LM e9 _) (fun args w => callable_run hc9 args w) (rk.f 10) #[.pointer (some ⟨p.r, 0, none⟩)] trivial
    (fun args w => callable_run hck args w) _ 0 (Nat.zero_le _) (by omega) w hseq
  refine (callsIn_wide.1 cS).mono ?_
  rintro e w' ⟨v, ss, rfl, rfl, hrow, hnil, hbel⟩
  obtain rfl : v = .slice none 0 0 := hnil.2 rfl
  exact ⟨ρ, _, _, s, rfl, .plain rfl, hrel.below hbel, Ext.below hbel, rfl, rfl⟩

end Go.Sh
