/- A region that draws its order: one order of the shadow's serves all of the model's. -/
import Derived.Test.YteiclengdlhnnaaSim19
namespace Go.Sh
open Go

/-- run: the operation itself; chk: that a new block could be made. -/
inductive Ent where
  | run (i : Nat)
  | chk (i : Nat)
  deriving DecidableEq

/-- j is to come ahead of i. -/
def ancB (anc : List Nat) (i j : Nat) : Bool := (anc.getD i 0).testBit j

def opAt (ops : Array Oper) (i : Nat) : Option Oper := ops[i]?
def clsAt (ops : Array Oper) (i : Nat) : Nat := ((opAt ops i).map cls).getD 0
def dstAt (ops : Array Oper) (i : Nat) : Option Tmp := (opAt ops i).bind (·.dst)
def looksAt (ops : Array Oper) (i : Nat) : List Tmp := ((opAt ops i).map (Oper.looksAt ops)).getD []
def afterAt (ops : Array Oper) (i : Nat) : List Edge := ((opAt ops i).map (·.after.toList)).getD []

def okAnc (ops : Array Oper) (anc : List Nat) : Bool :=
  (List.range ops.size).all fun i =>
    ((List.range ops.size).all fun j => !ancB anc i j || (afterAt ops i).any fun e => Region.binds .any e && (e.on == j || ancB anc e.on j)) &&
    (afterAt ops i).all (fun e => !Region.binds .any e || ancB anc i e.on) && decide (anc.getD i 0 < 2 ^ ops.size)

def okNames (ops : Array Oper) (anc : List Nat) : Bool :=
  (List.range ops.size).all fun i =>
    match dstAt ops i with
    | none => true
    | some d => !((looksAt ops i).contains d) && (List.range ops.size).all fun j => j == i || ((dstAt ops j != some d) && (!((looksAt ops j).contains d) || ancB anc j i))

def okRest (ops : Array Oper) (anc : List Nat) : List Ent → List Ent → Bool
  | [], pre => (List.range ops.size).all fun i => pre.contains (.run i)
  | .chk i :: rest, pre =>
    decide (i < ops.size) && clsAt ops i == 2 && ((List.range ops.size).all fun k => (!ancB anc i k || pre.contains (.run k)) && (!(pre.contains (.run k)) || clsAt ops k == 0 || ancB anc i k)) &&
      okRest ops anc rest (.chk i :: pre)
  | .run i :: rest, pre =>
    decide (i < ops.size) && !(pre.contains (.run i)) && ((List.range ops.size).all fun k => (!ancB anc i k || pre.contains (.run k)) && (clsAt ops i == 2 || !(pre.contains (.run k)) || clsAt ops k == 0 || ancB anc i k)) &&
      (clsAt ops i != 2 || pre.contains (.chk i)) && okRest ops anc rest (.run i :: pre)

/-- What the runs that have been read may go on to be. -/
def stable (P : Program) (ops : Array Oper) (anc : List Nat) (i : Nat) : List Ent → List Value → SW → Prop
  | [], _, _ => True
  | .chk _ :: pre, fr, s => stable P ops anc i pre fr s
  | .run j :: pre, fr, s =>
    (match opAt ops j with
     | none => True
     | some o => if cls o = 0 ∧ readsHeap o = true ∧ ancB anc i j = false then
         (match sWanted ops o fr with
          | some true => (match o.dst with | some d => sOp P o fr s = some (fr.getD d Go.undef, s) | none => False)
          | some false => True
          | none => False)
       else True) ∧ stable P ops anc i pre fr s

def vcEnts (P : Program) (ops : Array Oper) (anc : List Nat) (K : List Value → SW → Prop) : List Ent → List Ent → List Value → SW → Prop
  | [], _, fr, s => K fr s
  | .chk i :: rest, pre, fr, s =>
    match opAt ops i with
    | none => False
    | some o =>
      match sWanted ops o fr with
      | none => False
      | some false => vcEnts P ops anc K rest (.chk i :: pre) fr s
      | some true => (sNew P o fr).isSome = true ∧ vcEnts P ops anc K rest (.chk i :: pre) fr s
  | .run i :: rest, pre, fr, s =>
    match opAt ops i with
    | none => False
    | some o =>
      match cls o with
      | 0 =>
        match sWanted ops o fr with
        | none => False
        | some false => vcEnts P ops anc K rest (.run i :: pre) (put fr o.dst Go.undef) s
        | some true =>
          match sOp P o fr s with
          | some (v, s') => s' = s ∧ o.dst ≠ none ∧ vcEnts P ops anc K rest (.run i :: pre) (put fr o.dst v) s
          | none => False
      | 1 => vcOp P ops o (fun fr' s' => stable P ops anc i pre fr' s' ∧ vcEnts P ops anc K rest (.run i :: pre) fr' s') fr s
      | _ =>
        match sWanted ops o fr with
        | none => False
        | some false => vcEnts P ops anc K rest (.run i :: pre) (put fr o.dst Go.undef) s
        | some true =>
          match sNew P o fr with
          | some (obj, val) => stable P ops anc i pre (put fr o.dst (val s.next)) (s.new obj) ∧ vcEnts P ops anc K rest (.run i :: pre) (put fr o.dst (val s.next)) (s.new obj)
          | none => False

/-- The frame, but for some temporaries. -/
structure FX (ρ : Rho) (fr : List Value) (a : Act) (X : Nat → Prop) : Prop where
  size : fr.length = a.tmps.size
  defers : a.defers = []
  val : ∀ (k : Nat) (v : Value), fr[k]? = some v → ¬ X k → ∃ rv, a.tmps[k]? = some rv ∧ VRel ρ v rv

theorem FX.frame {ρ : Rho} {fr : List Value} {a : Act} {X : Nat → Prop} (h : FX ρ fr a X) : ∃ fr₀ : List Value, FRel ρ fr₀ a ∧ fr₀.length = fr.length ∧ ∀ k, ¬ X k → fr₀[k]? = fr[k]? := by
  have : ∀ k, ∃ b : Bool, (b = true ↔ X k) := fun k => by
    by_cases hx : X k
    · exact ⟨true, by simp [hx]⟩
    · exact ⟨false, by simp [hx]⟩
  refine ⟨fr.mapIdx fun k v => if Classical.choose (this k) then junk else v, ⟨by simpa using h.size, h.defers, fun k v hk => ?_⟩, by simp, fun k hx => ?_⟩
  · rw [List.getElem?_mapIdx] at hk
    cases hf : fr[k]? with
    | none => rw [hf] at hk; cases hk
    | some u =>
      rw [hf] at hk
      simp only [Option.map_some, Option.some.injEq] at hk
      have hlt : k < a.tmps.size := by rw [← h.size]; exact (List.getElem?_eq_some_iff.1 hf).1
      by_cases hx : X k
      · have hc := (Classical.choose_spec (this k)).2 hx
        rw [if_pos hc] at hk
        subst hk
        exact ⟨a.tmps[k], Array.getElem?_eq_getElem hlt, .junk⟩
      · have hc : ¬ Classical.choose (this k) = true := fun hc => hx ((Classical.choose_spec (this k)).1 hc)
        rw [if_neg hc] at hk
        subst hk
        exact h.val k u hf hx
  · rw [List.getElem?_mapIdx]
    have hc : ¬ Classical.choose (this k) = true := fun hc => hx ((Classical.choose_spec (this k)).1 hc)
    simp only [hc]
    cases fr[k]? <;> rfl

theorem ev_congr {fr fr' : List Value} {x : Operand} (h : ∀ t, x = .tmp t → fr[t]? = fr'[t]?) : ev fr x = ev fr' x := by
  cases x with
  | tmp t => simp only [ev, List.getD, h t rfl]
  | _ => rfl

theorem sWanted_congr {ops : Array Oper} {o : Oper} {fr fr' : List Value} (h : ∀ t ∈ o.looksAt ops, fr[t]? = fr'[t]?) : sWanted ops o fr = sWanted ops o fr' := by
  unfold sWanted
  split
  · rfl
  · rename_i j want hg
    cases hd : (ops[j]? : Option Oper).bind (·.dst) with
    | none => rfl
    | some t =>
      simp only [Option.bind_some]
      rw [h t]
      unfold Oper.looksAt
      rw [List.mem_append]
      right
      simp only [hg, hd]
      simp

theorem looks_ev {ops : Array Oper} {o : Oper} {fr fr' : List Value} (h : ∀ t ∈ o.looksAt ops, fr[t]? = fr'[t]?) : ∀ x ∈ o.op.operands.toList, ev fr x = ev fr' x := by
  intro x hx
  refine ev_congr fun t ht => h t ?_
  unfold Oper.looksAt
  rw [List.mem_append]
  left
  rw [List.mem_filterMap]
  exact ⟨x, hx, by rw [ht]⟩

theorem put_get_ne {fr : List Value} {dst : Option Tmp} {v : Value} {t : Nat} (h : dst ≠ some t) : (put fr dst v)[t]? = fr[t]? := by
  cases dst with
  | none => rfl
  | some d => simp only [put]; rw [List.getElem?_set_ne (fun e => h (by rw [e]))]

theorem put_length (fr : List Value) (dst : Option Tmp) (v : Value) : (put fr dst v).length = fr.length := by
  cases dst <;> simp [put]

theorem aput_get_ne {a : Act} {dst : Option Tmp} {v : Value} {t : Nat} (h : dst ≠ some t) : (a.put dst v).tmps[t]? = a.tmps[t]? := by
  cases dst with
  | none => rfl
  | some d => simp only [Act.put]; rw [Array.getElem?_setIfInBounds_ne (fun e => h (by rw [e]))]

theorem aput_size (a : Act) (dst : Option Tmp) (v : Value) : (a.put dst v).tmps.size = a.tmps.size := by
  cases dst <;> simp [Act.put]

theorem aput_defers (a : Act) (dst : Option Tmp) (v : Value) : (a.put dst v).defers = a.defers := by
  cases dst <;> rfl

theorem put_get_self {fr : List Value} {d : Tmp} {v : Value} (h : d < fr.length) : (put fr (some d) v)[d]? = some v := by
  simp [put, h]

theorem aput_get_self {a : Act} {d : Tmp} {v : Value} (h : d < a.tmps.size) : (a.put (some d) v).tmps[d]? = some v := by
  simp [Act.put, h]

end Go.Sh
