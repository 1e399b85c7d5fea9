/- append, copy, clear, len; texts and bytes. -/
import Derived.Test.YteiclengdlhnnaaSim8
namespace Go.Sh
open Go

def byteV (b : UInt8) : Value := .int .u8 b.toNat

/-- The first n elements of what is appended or copied. -/
def sFirst (size n : Nat) (x : Value) (s : SW) : Option (List Value) :=
  match x with
  | .slice (some ⟨i, o, none⟩) l _ =>
    match s.heap i with
    | some (.cells cs _ _) => if n ≤ l ∧ o + n * size ≤ cs.length then some ((cs.drop o).take (n * size)) else none
    | _ => none
  | .slice none _ _ => if n = 0 then some [] else none
  | .string b => if size = 1 ∧ n ≤ b.size then some ((b.extract 0 n).data.toList.map byteV) else none
  | _ => none

def sLenOf : Value → Option Nat
  | .slice _ n _ => some n
  | .string s => some s.size
  | _ => none

theorem sLenOf_ok {P : Program} {ρ : Rho} {x rx : Value} {n : Nat} (h : sLenOf x = some n) (hx : VRel ρ x rx) (w : World) : (Builtin.lenOf rx).run P w = .ok n w := by
  cases hx with
  | plain h0 => cases x <;> first | (simp [sLenOf] at h; subst h; rfl) | (simp [sLenOf] at h)
  | junk => simp [sLenOf, junk] at h
  | slice hp h1 h2 => simp [sLenOf] at h; subst h; rfl
  | _ => simp [sLenOf] at h

theorem F2.refl_plain {ρ : Rho} {cs : List Value} (h : ∀ c ∈ cs, pl0 c = true) : F2 (VRel ρ) cs cs := F2.zero (List.all_eq_true.2 h)

theorem sFirst_ok {P : Program} {ρ : Rho} {s : SW} {w : World} {size n : Nat} {x rx : Value} {xs : List Value} (hr : HRel ρ s w) (h : sFirst size n x s = some xs) (hx : VRel ρ x rx) :
    ∃ rxs : List Value, F2 (VRel ρ) xs rxs ∧ xs.length = n * size ∧ (Builtin.firstCells size n rx).run P w = .ok rxs.toArray w := by
  unfold sFirst at h
  split at h
  · rename_i i o l c
    split at h
    · rename_i cs own g hi
      split at h
      · rename_i hc
        cases h
        obtain ⟨p, c', hp, h1, h2, rfl⟩ := hx.slice_inv
        obtain ⟨rvs, h3, h4⟩ := hr.loadCells (P := P) hi hp hc.2
        exact ⟨rvs, h3, by simp; omega, by simpa [Builtin.firstCells] using h4⟩
      · cases h
    · cases h
  · split at h
    · rename_i hn
      cases h
      cases hx with
      | plain _ => exact ⟨[], .nil, by simp [hn], rfl⟩
    · cases h
  · rename_i b
    obtain rfl := hx.string
    split at h
    · rename_i hc
      cases h
      refine ⟨(b.extract 0 n).data.toList.map byteV, F2.refl_plain ?_, ?_, ?_⟩
      · intro c hc; simp only [List.mem_map] at hc; obtain ⟨_, _, rfl⟩ := hc; rfl
      · rw [List.length_map, Array.length_toList, hc.1]
        show (b.extract 0 n).size = n * 1
        rw [ByteArray.size_extract]; omega
      · simp only [Builtin.firstCells, Sem.run_pure]
        congr 1
        apply Array.toList_inj.1
        simp; rfl
    · cases h
  · cases h

theorem growBy_le (need : Nat) : ∀ (r c : Nat), c ≤ 2 * need + 192 → Builtin.growBy need r c ≤ 2 * need + 192
  | 0, c, h => h
  | r + 1, c, h => by
    simp only [Builtin.growBy]
    split
    · exact h
    · exact growBy_le need r _ (by omega)

theorem nextslicecap_le {need cap : Nat} (h : cap < need) : Builtin.nextslicecap need cap ≤ 2 * need + 192 := by
  unfold Builtin.nextslicecap
  split
  · omega
  · split
    · omega
    · exact growBy_le need 4 cap (by omega)

def intD : TypeDesc → Bool
  | .int _ => true
  | _ => false

/-- What an append comes to. -/
def sAppend (P : Program) (argTypes : Array TypeId) (args : Array Value) (s : SW) : Option (Value × SW) :=
  match (argTypes[0]? : Option TypeId), (argTypes[1]? : Option TypeId), (args[0]? : Option Value), (args[1]? : Option Value) with
  | some tS, some tX, some (.slice base l c), some x =>
    match P.underlying tS, P.underlying tX, sLenOf x with
    | some (.slice e), some dX, some n =>
      match sz P e, bytesV P e, zeroV P e with
      | some size, some bt, some z =>
        match sFirst size n x s with
        | none => none
        | some xs =>
          if ¬ (intD dX = false ∧ l + n ≤ 1073741824 ∧ bt ≤ 1024 ∧ z.cells.size = size ∧ 1 ≤ size) then none else
          if l + n ≤ c then
            match base with
            | none => if n = 0 then some (.slice none l c, s) else none
            | some ⟨i, o, none⟩ =>
              match s.heap i with
              | some (.cells cs true g) =>
                if xs.all (·.oneCell') = true ∧ o + l * size + n * size ≤ cs.length then some (.slice (some ⟨i, o, none⟩) (l + n) c, s.set i (.cells (setL cs (o + l * size) xs) true g)) else none
              | _ => none
            | _ => none
          else
            match base with
            | none => if l = 0 ∧ c = 0 then some (.slice (some ⟨s.next, 0, none⟩) n n, s.new (.cells xs true size)) else none
            | some ⟨i, o, none⟩ =>
              match s.heap i with
              | some (.cells cs own g) =>
                if o + l * size ≤ cs.length then
                  if g = 0 ∨ o + c * size ≠ cs.length then
                    if g = 0 ∨ g = size then some (.slice (some ⟨s.next, 0, none⟩) (l + n) (l + n), s.new (.cells ((cs.drop o).take (l * size) ++ xs) true size)) else none
                  else if g = size ∧ l = c ∧ own = true ∧ xs.all (·.oneCell') = true then
                    some (.slice (some ⟨s.next, 0, none⟩) (l + n) (l + n), (s.kill i).new (.cells ((cs.drop o).take (l * size) ++ xs) true size))
                  else none
                else none
              | _ => none
            | _ => none
      | _, _, _ => none
    | _, _, _ => none
  | _, _, _, _ => none

theorem run_zeroCells_size (zero : Array Value) (n : Nat) : (Builtin.zeroCells zero n).size = n * zero.size := by simp [Builtin.zeroCells]

theorem getD_args {ρ : Rho} {args : Array Value} {rargs : Array Value} (h : F2 (VRel ρ) args.toList rargs.toList) {k : Nat} {v : Value} (hk : args[k]? = some v) : ∃ rv, rargs[k]? = some rv ∧ VRel ρ v rv := by
  have hlt : k < args.size := by
    rcases Nat.lt_or_ge k args.size with h1 | h1
    · exact h1
    · rw [Array.getElem?_eq_none h1] at hk; cases hk
  have hl := h.length
  simp only [Array.length_toList] at hl
  exact ⟨rargs[k], Array.getElem?_eq_getElem (by omega), h.get k v _ (by simpa using hk) (by simp)⟩

section
variable {P : Program} {argTypes : Array TypeId} {rargs : Array Value} {tS tX e : TypeId} {dX : TypeDesc} {rbase : Option Addr} {l rc n size bt : Nat} {rx z : Value} {w : World} {t : TypeId} {rxs : List Value}

theorem run_append_room (hT0 : argTypes[0]? = some tS) (hT1 : argTypes[1]? = some tX) (hB0 : rargs[0]? = some (.slice rbase l rc)) (hB1 : rargs[1]? = some rx)
    (htS : P.underlying tS = some (.slice e)) (htX : P.underlying tX = some dX) (hdX : intD dX = false) (hsz : sz P e = some size) (hn : (Builtin.lenOf rx).run P w = .ok n w)
    (hx : (Builtin.firstCells size n rx).run P w = .ok rxs.toArray w) (hle : l + n ≤ rc) :
    (Builtin.append_ argTypes t rargs).run P w =
      ((match rbase with | some a => storeCells (a.add (l * size)) rxs | none => pure () : Sem Unit).run P w).andThen fun _ w' => .ok (.slice rbase (l + n) rc) w' := by
  unfold Builtin.append_
  rw [hT0, hB0, hB1]
  simp only [Sem.run_bind, run_underlying' w htS, Result.andThen_ok, run_sizeOf' w hsz]
  rw [hT1]
  simp only [Sem.run_bind, run_underlying' w htX, Result.andThen_ok, Sem.run_pure]
  cases dX <;> first
    | (simp [intD] at hdX; done)
    | (simp only [Bool.false_eq_true, if_false, Sem.run_bind, hn, Result.andThen_ok, Bool.not_false, if_true, if_pos hle, hx]
       cases rbase <;> simp)

theorem run_append_new (hT0 : argTypes[0]? = some tS) (hT1 : argTypes[1]? = some tX) (hB0 : rargs[0]? = some (.slice rbase l rc)) (hB1 : rargs[1]? = some rx)
    (htS : P.underlying tS = some (.slice e)) (htX : P.underlying tX = some dX) (hdX : intD dX = false) (hsz : sz P e = some size) (hbt : bytesV P e = some bt) (hz : zeroV P e = some z)
    (hn : ∀ w, (Builtin.lenOf rx).run P w = .ok n w) {old : List Value} (hold : (Builtin.firstCells size l (.slice rbase l rc)).run P w.drew = .ok old.toArray w.drew)
    (hx : (Builtin.firstCells size n rx).run P w.drew = .ok rxs.toArray w.drew) (hgt : ¬ l + n ≤ rc) (hln : l + n ≤ 1073741824) (hbt1 : bt ≤ 1024) :
    ∃ (newCap : Nat) (w₁ : World), l + n ≤ newCap ∧ w₁.heap = w.heap ∧ Same w w₁ ∧ (Builtin.append_ argTypes t rargs).run P w =
      .ok (.slice (some ⟨w.heap.size, 0, none⟩) (l + n) newCap) (w₁.alloc (.cells (old.toArray ++ rxs.toArray ++ Builtin.zeroCells z.cells (newCap - (l + n))) e)) := by
  obtain ⟨ib, hib, hibb⟩ := run_bytes (P := P) hbt w
  have hcap := nextslicecap_le (Nat.lt_of_not_le hgt)
  have hbig : ¬ (Builtin.nextslicecap (l + n) rc * bt > 2 ^ 48) := by
    have : Builtin.nextslicecap (l + n) rc * bt ≤ (2 * 1073741824 + 192) * 1024 := Nat.mul_le_mul (by omega) hbt1
    omega
  have hmax : ¬ (((l + n : Nat) : Int) > IntKind.i64.max ∧ ((false = true) ∨ ib.bytes = 0)) := by
    have e : IntKind.i64.max = 9223372036854775807 := by decide
    rw [e]; omega
  have hb1 : ∀ w, (typeInfo e).run P w = .ok ib w := by
    intro w'
    cases hi : P.info? e with
    | none => simp [typeInfo, hi] at hib
    | some i =>
      rw [run_typeInfo w hi] at hib
      cases hib
      exact run_typeInfo w' hi
  refine ⟨(Question.appendCap (l + n) rc e).cut (w.tape w.drawn (Question.appendCap (l + n) rc e)), w.drew, ?_, rfl, ⟨rfl, rfl, rfl⟩, ?_⟩
  · simp only [Question.cut]; omega
  · unfold Builtin.append_
    rw [hT0, hB0, hB1]
    simp only [Sem.run_bind, run_underlying' w htS, Result.andThen_ok, run_sizeOf' w hsz]
    rw [hT1]
    simp only [Sem.run_bind, run_underlying' w htX, Result.andThen_ok, Sem.run_pure]
    cases dX <;> first
      | (simp [intD] at hdX; done)
      | (simp only [Bool.false_eq_true, if_false, Sem.run_bind, hn, Result.andThen_ok, Bool.not_false, if_true, if_neg hgt, hb1]
         rw [if_neg (by simpa using hmax)]
         simp only [Sem.run_bind, hb1, Result.andThen_ok]
         rw [hibb, if_neg hbig]
         simp only [Sem.run_bind, run_choose, Question.forced, Bool.false_eq_true, if_false, Result.andThen_ok, hb1, run_askRoom]
         rw [World.drew_eq, hold]
         simp only [Result.andThen_ok]
         rw [hx]
         simp only [Result.andThen_ok, run_zeroValue' _ hz, newRow, Sem.run_bind, run_newObj, Sem.run_pure]
         rfl)
end

theorem F2.take {α β : Type} {R : α → β → Prop} {l : List α} {m : List β} (h : F2 R l m) (n : Nat) : F2 R (l.take n) (m.take n) := by
  induction h generalizing n with
  | nil => simpa using F2.nil
  | cons h1 _ ih =>
    cases n with
    | zero => exact .nil
    | succ n => exact .cons h1 (ih n)

theorem newCells_list {ρ : Rho} {s : SW} {w w₁ : World} (h : HRel ρ s w) {cs rcs : List Value} {rest : Array Value} {e : TypeId} (x z : Nat) (hw : w₁.heap = w.heap) (hs : Same w w₁)
    (hF : F2 (VRel ρ) cs rcs) (hx : x * z ≤ rest.size) (hz : z = 0 → x = 0) :
    HRel (ρ.upd s.next ⟨w.heap.size, 0, cs.length, x, z⟩) (s.new (.cells cs true z)) (w₁.alloc (.cells (rcs.toArray ++ rest) e)) ∧
      Ext ρ s w (ρ.upd s.next ⟨w.heap.size, 0, cs.length, x, z⟩) (s.new (.cells cs true z)) (w₁.alloc (.cells (rcs.toArray ++ rest) e)) := by
  refine h.newCells x z z hw hs (by simp [hF.length]; omega) hz (fun _ => rfl) (fun k v hk => ?_)
  have hlt : k < rcs.length := by
    rw [← hF.length]
    rcases Nat.lt_or_ge k cs.length with h | h
    · exact h
    · rw [List.getElem?_eq_none h] at hk; cases hk
  refine ⟨rcs[k], ?_, hF.get k v _ hk (List.getElem?_eq_getElem hlt)⟩
  rw [Array.getElem?_append_left (by simpa using hlt)]
  simp [hlt]

theorem sAppend_ok {P : Program} {ρ : Rho} {s s' : SW} {w : World} {argTypes : Array TypeId} {args rargs : Array Value} {v : Value} (hr : HRel ρ s w) (h : sAppend P argTypes args s = some (v, s'))
    (ha : F2 (VRel ρ) args.toList rargs.toList) (t : TypeId) : Good P (Builtin.append_ argTypes t rargs) ρ s w v s' := by
  unfold sAppend at h
  split at h
  · rename_i tS tX base l c x hT0 hT1 hA0 hA1
    obtain ⟨rb, hB0, hbV⟩ := getD_args ha hA0
    obtain ⟨rx, hB1, hxV⟩ := getD_args ha hA1
    split at h
    · rename_i e dX n htS htX hn
      split at h
      · rename_i size bt z hsz hbt hzv
        split at h
        · cases h
        · rename_i xs hxs
          split at h
          · cases h
          · rename_i hg
            obtain ⟨hdX, hln, hbt1, hzs, hsz1⟩ := Decidable.not_not.1 hg
            have hnn := fun w => sLenOf_ok (P := P) hn hxV w
            have hr' : HRel ρ s w.drew := hr.congr rfl
            obtain ⟨rxs, hF, hlen, hrunx⟩ := sFirst_ok (P := P) hr hxs hxV
            obtain ⟨rxs', hF', hlen', hrunx'⟩ := sFirst_ok (P := P) hr' hxs hxV
            split at h
            · -- in place
              rename_i hle
              split at h
              · -- the nil slice
                split at h
                · rename_i hn0
                  cases h
                  cases hbV with
                  | plain h0 =>
                    have hrun := run_append_room (P := P) (t := t) hT0 hT1 hB0 hB1 htS htX hdX hsz (hnn w) hrunx hle
                    refine Good.still hr ?_ (.plain rfl)
                    rw [hrun]
                    simp [hn0]
                · cases h
              · rename_i i o
                split at h
                · rename_i cs g hi
                  split at h
                  · rename_i hc
                    cases h
                    obtain ⟨p, c', hp, h1, h2, rfl⟩ := hbV.slice_inv
                    have hle' : l + n ≤ c' := by rcases h2 with h2 | h2 <;> omega
                    have hrun := run_append_room (P := P) (t := t) hT0 hT1 hB0 hB1 htS htX hdX hsz (hnn w) hrunx hle'
                    obtain ⟨w', e1, e2, e3⟩ := hr.storeCells (P := P) hi hp (o := o + l * size) (by omega) hF (List.all_eq_true.1 hc.1)
                    refine ⟨ρ, w', .slice (some ⟨p.r, p.b + o, none⟩) (l + n) c', ?_, .slice hp hle h2, e2, e3⟩
                    rw [hrun]
                    simp only [Addr.add_none]
                    rw [show p.b + o + l * size = p.b + (o + l * size) by omega, e1]
                    rfl
                  · cases h
                · cases h
              · cases h
            · -- no room known
              rename_i hgt
              split at h
              · split at h
                · rename_i h00
                  obtain ⟨rfl, rfl⟩ := h00
                  cases h
                  cases hbV with
                  | plain h0 =>
                    obtain ⟨newCap, w₁, f1, f2, f3, f4⟩ := run_append_new (P := P) (t := t) hT0 hT1 hB0 hB1 htS htX hdX hsz hbt hzv hnn (old := []) rfl hrunx' hgt hln hbt1
                    obtain ⟨k1, k2⟩ := newCells_list hr (rest := Builtin.zeroCells z.cells (newCap - (0 + n))) (e := e) (newCap - n) size f2 f3 hF' (by rw [run_zeroCells_size, hzs]; simp) (fun h => by omega)
                    refine ⟨_, _, _, f4, ?_, by simpa using k1, by simpa using k2⟩
                    have : VRel (ρ.upd s.next ⟨w.heap.size, 0, xs.length, newCap - n, size⟩) (.slice (some ⟨s.next, 0, none⟩) n n) (.slice (some ⟨w.heap.size, 0 + 0, none⟩) n newCap) :=
                      .slice Rho.upd_same (Nat.le_refl _) (.inr ⟨by simp; omega, by simp [hlen']⟩)
                    simpa using this
                · cases h
              · rename_i i o
                split at h
                · rename_i cs own g hi
                  split at h
                  · rename_i hl0
                    obtain ⟨p, c', hp, h1, h2, rfl⟩ := hbV.slice_inv
                    obtain ⟨old, hFo, holdrun⟩ := hr'.loadCells (P := P) hi hp hl0
                    have holdrun' : (Builtin.firstCells size l (.slice (some ⟨p.r, p.b + o, none⟩) l c')).run P w.drew = .ok old.toArray w.drew := by simpa [Builtin.firstCells] using holdrun
                    have hFall := hFo.append hF'
                    have hlold : ((cs.drop o).take (l * size)).length = l * size := by simp; omega
                    have hp0 := hp
                    obtain ⟨q, hq, hor⟩ := hr.place hi
                    rw [hp] at hq; cases hq
                    split at h
                    · rename_i hex
                      split at h
                      · rename_i hg2
                        cases h
                        have hc' : c' = c := by
                          rcases h2 with h2 | ⟨h2, h3⟩
                          · exact h2
                          · cases hb : w.heap[p.r]? with
                            | none => rw [hb] at hor; exact hor.elim
                            | some ob =>
                              rw [hb] at hor
                              cases ob with
                              | cells rcs e' fz =>
                                obtain ⟨a1, _, _, _, a5, a6⟩ := hor
                                by_cases hg0 : g = 0
                                · rw [h2, (a5 hg0).1]; rfl
                                · rcases hg2 with hg2 | hg2
                                  · exact absurd hg2 hg0
                                  · rcases hex with hex | hex
                                    · exact absurd hex hg0
                                    · have hz2 := a6 hg0
                                      rw [hz2, hg2] at h3
                                      exact absurd (h3.trans a1.symm) hex
                              | _ => exact hor.elim
                        subst hc'
                        obtain ⟨newCap, w₁, f1, f2, f3, f4⟩ := run_append_new (P := P) (t := t) hT0 hT1 hB0 hB1 htS htX hdX hsz hbt hzv hnn holdrun' hrunx' hgt hln hbt1
                        obtain ⟨k1, k2⟩ := newCells_list hr (rest := Builtin.zeroCells z.cells (newCap - (l + n))) (e := e) (newCap - (l + n)) size f2 f3 hFall (by rw [run_zeroCells_size, hzs]; exact Nat.le_refl _) (fun h => by omega)
                        refine ⟨_, _, _, f4, ?_, by simpa using k1, by simpa using k2⟩
                        have : VRel (ρ.upd s.next ⟨w.heap.size, 0, ((cs.drop o).take (l * size) ++ xs).length, newCap - (l + n), size⟩) (.slice (some ⟨s.next, 0, none⟩) (l + n) (l + n)) (.slice (some ⟨w.heap.size, 0 + 0, none⟩) (l + n) newCap) :=
                          .slice Rho.upd_same (Nat.le_refl _) (.inr ⟨by simp; omega, by simp only [List.length_append, hlold, hlen', Nat.zero_add, Nat.add_mul]⟩)
                        simpa using this
                      · cases h
                    · rename_i hex
                      simp only [not_or, ne_eq, Decidable.not_not] at hex
                      obtain ⟨hg0, hend⟩ := hex
                      split at h
                      · rename_i hg2
                        obtain ⟨hg2, hlc, hown, hone⟩ := hg2
                        cases h
                        by_cases hle' : l + n ≤ c'
                        · have hrun := run_append_room (P := P) (t := t) hT0 hT1 hB0 hB1 htS htX hdX hsz (hnn w) hrunx hle'
                          cases hb : w.heap[p.r]? with
                          | none => rw [hb] at hor; exact hor.elim
                          | some ob =>
                            rw [hb] at hor
                            cases ob with
                            | cells rcs e' fz =>
                              obtain ⟨a1, a2, a3, a4, a5, a6⟩ := hor
                              have hz2 : p.z = size := by rw [a6 hg0, hg2]
                              have hcx : c' = c + p.x := by
                                rcases h2 with h2 | h2
                                · omega
                                · exact h2.1
                              have hroom : p.b + o + l * size + n * size ≤ rcs.size := by
                                have : o + l * size = p.n := by rw [hlc, hend, a1]
                                have h6 : n * size ≤ p.x * size := Nat.mul_le_mul_right _ (by omega)
                                rw [hz2] at a2
                                omega
                              have hlen2 := hF.length
                              obtain ⟨w', b1, b2, b3, b4, b5⟩ := run_storeCells (P := P) p.r (p.b + o + l * size) rxs 0 w rcs e' fz hb (by omega) (a4 hown) (hF.oneCell (List.all_eq_true.1 hone))
                              have hF0 : F2 (VRel ρ) ((cs.drop o).take (l * size) ++ xs) (((rcs.toList.drop (p.b + o)).take (l * size)) ++ rxs) := by
                                refine F2.append (F2.of_get (by simp; omega) ?_) hF
                                intro k v v' g1 g2
                                have hk : k < l * size := by
                                  rcases Nat.lt_or_ge k (l * size) with h | h
                                  · exact h
                                  · rw [List.getElem?_eq_none (by rw [hlold]; exact h)] at g1; cases g1
                                rw [List.getElem?_take_of_lt hk, List.getElem?_drop] at g1 g2
                                obtain ⟨rv, g3, g4⟩ := a3 (o + k) v g1
                                rw [show p.b + (o + k) = p.b + o + k by omega] at g3
                                rw [Array.getElem?_toList, g3] at g2
                                cases g2
                                exact g4
                              refine ⟨ρ.upd s.next ⟨p.r, p.b + o, ((cs.drop o).take (l * size) ++ xs).length, c' - (l + n), size⟩, w', .slice (some ⟨p.r, p.b + o, none⟩) (l + n) c', ?_, ?_, ?_, ?_⟩
                              · rw [hrun]
                                simp only [Addr.add_none]
                                rw [b1]
                                rfl
                              · have : VRel (ρ.upd s.next ⟨p.r, p.b + o, ((cs.drop o).take (l * size) ++ xs).length, c' - (l + n), size⟩) (.slice (some ⟨s.next, 0, none⟩) (l + n) (l + n)) (.slice (some ⟨p.r, p.b + o + 0, none⟩) (l + n) c') :=
                                  .slice Rho.upd_same (Nat.le_refl _) (.inr ⟨by simp; omega, by simp only [List.length_append, hlold, hlen, Nat.zero_add, Nat.add_mul]⟩)
                                simpa using this
                              · refine hr.move hi hp rfl b3 ?_
                                rw [b2]
                                refine ⟨rfl, ?_, ?_, ?_, ?_, ?_⟩
                                · rw [setR_size]
                                  simp only [List.length_append, hlold, hlen]
                                  have h7 : (c' - (l + n)) * size + n * size ≤ p.x * size := by rw [← Nat.add_mul]; exact Nat.mul_le_mul_right _ (by omega)
                                  have : o + l * size = p.n := by rw [hlc, hend, a1]
                                  rw [hz2] at a2
                                  omega
                                · intro k v hk
                                  have hn' := (hr.next s.next (Nat.le_refl _))
                                  simp only [Nat.add_zero]
                                  rw [setR_get _ _ _ _ (by omega)]
                                  rw [List.getElem?_append, hlold] at hk
                                  by_cases hk2 : k < l * size
                                  · rw [if_pos hk2, List.getElem?_take_of_lt hk2, List.getElem?_drop] at hk
                                    rw [if_neg (by omega)]
                                    obtain ⟨rv, g3, g4⟩ := a3 (o + k) v hk
                                    exact ⟨rv, by rw [← g3]; congr 1; omega, g4.mono (Rho.le_upd hn')⟩
                                  · rw [if_neg hk2] at hk
                                    have hk3 : k - l * size < xs.length := by
                                      rcases Nat.lt_or_ge (k - l * size) xs.length with h | h
                                      · exact h
                                      · rw [List.getElem?_eq_none h] at hk; cases hk
                                    rw [if_pos (by omega)]
                                    have hk4 : k - l * size < rxs.length := by omega
                                    refine ⟨rxs[k - l * size], ?_, (hF.get _ v _ hk (List.getElem?_eq_getElem hk4)).mono (Rho.le_upd hn')⟩
                                    rw [← List.getElem?_eq_getElem hk4]
                                    congr 1
                                    omega
                                · intro _ k hk; rw [setR_size] at hk; exact a4 hown k hk
                                · intro h0; omega
                                · intro _; rfl
                              · exact Ext.move hr hi hp hown rfl b3 (by omega) b5
                            | _ => exact hor.elim
                        · obtain ⟨newCap, w₁, f1, f2, f3, f4⟩ := run_append_new (P := P) (t := t) hT0 hT1 hB0 hB1 htS htX hdX hsz hbt hzv hnn holdrun' hrunx' hle' hln hbt1
                          have hless : SW.less (s.kill i) s := ⟨fun j u hj => by simp only [SW.kill] at hj; split at hj <;> first | (cases hj; done) | exact hj, Nat.le_refl _⟩
                          obtain ⟨k1, k2⟩ := newCells_list (hr.less hless) (rest := Builtin.zeroCells z.cells (newCap - (l + n))) (e := e) (newCap - (l + n)) size f2 f3 hFall (by rw [run_zeroCells_size, hzs]; exact Nat.le_refl _) (fun h => by omega)
                          refine ⟨_, _, _, f4, ?_, by simpa using k1, by simpa using Ext.less hless k2⟩
                          have : VRel (ρ.upd (s.kill i).next ⟨w.heap.size, 0, ((cs.drop o).take (l * size) ++ xs).length, newCap - (l + n), size⟩) (.slice (some ⟨(s.kill i).next, 0, none⟩) (l + n) (l + n)) (.slice (some ⟨w.heap.size, 0 + 0, none⟩) (l + n) newCap) :=
                            .slice Rho.upd_same (Nat.le_refl _) (.inr ⟨by simp; omega, by simp only [List.length_append, hlold, hlen', Nat.zero_add, Nat.add_mul]⟩)
                          simpa [SW.kill] using this
                      · cases h
                  · cases h
                · cases h
              · cases h
      · cases h
    · cases h
  · cases h

end Go.Sh
