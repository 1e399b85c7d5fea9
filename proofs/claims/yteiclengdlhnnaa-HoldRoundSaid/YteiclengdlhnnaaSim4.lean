/- What is reckoned without memory: comparisons, sums, conversions of numbers. -/
import Derived.Test.YteiclengdlhnnaaSim3
import Derived.Laws.StructEq
namespace Go.Sh
open Go

def sz (P : Program) (t : TypeId) : Option Nat := (P.info? t).map (·.size)
def zeroV (P : Program) (t : TypeId) : Option Value := (P.info? t).bind (·.zero)
def bytesV (P : Program) (t : TypeId) : Option Nat := (P.info? t).map (·.bytes)
def isAggD : TypeDesc → Bool
  | .struct _ | .array _ _ => true
  | _ => false
def aggT (P : Program) (t : TypeId) : Option Bool := (P.underlying t).map isAggD

section
variable {P : Program} (w : World)
theorem run_typeInfo {t : TypeId} {i : TypeInfo} (h : P.info? t = some i) : (typeInfo t).run P w = .ok i w := by
  simp [typeInfo, h]
theorem run_sizeOf' {t : TypeId} {n : Nat} (h : sz P t = some n) : (sizeOf t).run P w = .ok n w := by
  unfold sz at h
  cases hi : P.info? t with
  | none => rw [hi] at h; cases h
  | some i => rw [hi] at h; cases h; simp [sizeOf, run_typeInfo w hi]
theorem run_zeroValue' {t : TypeId} {v : Value} (h : zeroV P t = some v) : (zeroValue t).run P w = .ok v w := by
  unfold zeroV at h
  cases hi : P.info? t with
  | none => rw [hi] at h; cases h
  | some i =>
    rw [hi] at h
    simp only [Option.bind_some] at h
    simp [zeroValue, run_typeInfo w hi, h]
theorem run_underlying' {t : TypeId} {d : TypeDesc} (h : P.underlying t = some d) : (underlying t).run P w = .ok d w := by
  simp [underlying, h]
theorem run_isAgg' {t : TypeId} {b : Bool} (h : aggT P t = some b) : (isAgg t).run P w = .ok b w := by
  unfold aggT at h
  cases hi : P.underlying t with
  | none => rw [hi] at h; cases h
  | some d =>
    rw [hi] at h; cases h
    simp only [isAgg, Sem.run_bind, run_underlying' w hi, Result.andThen_ok]
    cases d <;> rfl
end

def sPart (P : Program) (t : TypeId) (cs : Array Value) (off : Nat) : Option Value :=
  match aggT P t with
  | some true => (sz P t).map fun n => .agg (cs.extract off (off + n))
  | some false => cs[off]?
  | none => none

theorem run_part' {P : Program} {t : TypeId} {cs : Array Value} {off : Nat} {v : Value} (h : sPart P t cs off = some v) (w : World) : (part t cs off).run P w = .ok v w := by
  unfold sPart at h
  cases ha : aggT P t with
  | none => rw [ha] at h; cases h
  | some b =>
    rw [ha] at h
    simp only [part, Sem.run_bind, run_isAgg' w ha, Result.andThen_ok]
    cases b with
    | true =>
      simp only at h
      cases hs : sz P t with
      | none => rw [hs] at h; cases h
      | some n =>
        rw [hs] at h; cases h
        simp [run_sizeOf' w hs]
    | false =>
      simp only at h
      simp [h]

/-- A part of a related aggregate. -/
theorem sPart_rel {P : Program} {ρ : Rho} {t : TypeId} {cs cs' : Array Value} {off : Nat} {v : Value} (hn : cs.size = cs'.size)
    (hc : ∀ (k : Nat) (v v' : Value), cs[k]? = some v → cs'[k]? = some v' → VRel ρ v v') (h : sPart P t cs off = some v) : ∃ rv, sPart P t cs' off = some rv ∧ VRel ρ v rv := by
  unfold sPart at h ⊢
  cases ha : aggT P t with
  | none => rw [ha] at h; cases h
  | some b =>
    rw [ha] at h
    cases b with
    | true =>
      simp only at h ⊢
      cases hs : sz P t with
      | none => rw [hs] at h; cases h
      | some n =>
        rw [hs] at h; cases h
        refine ⟨_, rfl, .agg (by simp [hn]) fun k u u' h1 h2 => ?_⟩
        rw [Array.getElem?_extract] at h1 h2
        split at h1 <;> split at h2 <;> first | (cases h1; done) | (cases h2; done) | exact hc _ _ _ h1 h2
    | false =>
      simp only at h ⊢
      have hlt : off < cs.size := by
        rcases Nat.lt_or_ge off cs.size with h1 | h1
        · exact h1
        · rw [Array.getElem?_eq_none h1] at h; cases h
      exact ⟨cs'[off], Array.getElem?_eq_getElem (by omega), hc off v _ h (Array.getElem?_eq_getElem (by omega))⟩

def sEqFields (eq : TypeId → Value → Value → Option Bool) (P : Program) (xs ys : Array Value) : List Field → Option Bool
  | [] => some true
  | f :: fs =>
    if f.name ≠ "_" then
      match sPart P f.type xs f.offset, sPart P f.type ys f.offset with
      | some a, some b =>
        match eq f.type a b, sEqFields eq P xs ys fs with
        | some r, some r' => some (r && r')
        | _, _ => none
      | _, _ => none
    else sEqFields eq P xs ys fs

def sEqElems (eq : Value → Value → Option Bool) (P : Program) (e : TypeId) (n : Nat) (xs ys : Array Value) : List Nat → Option Bool
  | [] => some true
  | i :: is =>
    match sPart P e xs (i * n), sPart P e ys (i * n) with
    | some a, some b =>
      match eq a b, sEqElems eq P e n xs ys is with
      | some r, some r' => some (r && r')
      | _, _ => none
    | _, _ => none

/-- Are two values equal? -/
def sEqT (P : Program) : Nat → TypeId → Value → Value → Option Bool
  | 0, _, _, _ => none
  | d + 1, t, x, y =>
    match P.underlying t, x, y with
    | some .bool, .bool a, .bool b => some (a == b)
    | some (.int _), .int k a, .int k' b => if k = k' then some (a == b) else none
    | some .string, .string a, .string b => some (a == b)
    | some (.pointer _), .pointer none, .pointer b => some b.isNone
    | some (.pointer _), .pointer (some _), .pointer none => some false
    | some (.slice _), .slice none _ _, .slice b _ _ => some b.isNone
    | some (.slice _), .slice (some _) _ _, .slice none _ _ => some false
    | some (.map _ _), .map none, .map b => some b.isNone
    | some (.map _ _), .map (some _), .map none => some false
    | some (.func _ _ _), .nilFunc, .nilFunc => some true
    | some (.func _ _ _), .nilFunc, .func _ _ _ => some false
    | some (.func _ _ _), .func _ _ _, .nilFunc => some false
    | some (.struct fs), .agg xs, .agg ys => if P.stoodInHeld t then none else sEqFields (fun t => sEqT P d t) P xs ys fs.toList
    | some (.array len e), .agg xs, .agg ys =>
      match sz P e with
      | some n => sEqElems (fun x y => sEqT P d e x y) P e n xs ys (List.range' 0 len)
      | none => none
    | _, _, _ => none

theorem run_eqFields {P : Program} {d : Nat} {eq : TypeId → Value → Value → Option Bool} (heq : ∀ t x y b, eq t x y = some b → ∀ w, (Op.equalIn d t x y).run P w = .ok b w)
    (xs ys : Array Value) : ∀ (fs : List Field) (b : Bool), sEqFields eq P xs ys fs = some b → ∀ w, (Op.eqFields d xs ys fs).run P w = .ok b w := by
  intro fs
  induction fs with
  | nil => intro b h w; cases h; rfl
  | cons f fs ih =>
    intro b h w
    simp only [sEqFields] at h
    simp only [Op.eqFields, Sem.run_ite]
    split
    · rename_i hf
      rw [if_pos hf] at h
      split at h
      · rename_i a c ha hc
        split at h
        · rename_i r r' hr hr'
          cases h
          simp only [Sem.run_bind, run_part' ha, run_part' hc, Result.andThen_ok, heq _ _ _ _ hr]
          cases r
          · simp
          · simp [ih _ hr']
        · cases h
      · cases h
    · rename_i hf
      rw [if_neg hf] at h
      exact ih _ h w

theorem run_eqElems {P : Program} {d : Nat} {eq : Value → Value → Option Bool} {e : TypeId} {n : Nat} (heq : ∀ x y b, eq x y = some b → ∀ w, (Op.equalIn d e x y).run P w = .ok b w)
    (xs ys : Array Value) : ∀ (is : List Nat) (b : Bool), sEqElems eq P e n xs ys is = some b → ∀ w,
      ((forIn is ((none, ()) : Option Bool × PUnit) fun i _ => do
        if !(← Op.equalIn d e (← part e xs (i * n)) (← part e ys (i * n))) then pure (.done (some false, ())) else pure (.yield (none, ()))) : Sem _).run P w =
        .ok (if b then (none, ()) else (some false, ())) w := by
  intro is
  induction is with
  | nil => intro b h w; cases h; rfl
  | cons i is ih =>
    intro b h w
    simp only [sEqElems] at h
    split at h
    · rename_i a c ha hc
      split at h
      · rename_i r r' hr hr'
        cases h
        simp only [List.forIn_cons, Sem.run_bind, run_part' ha, run_part' hc, Result.andThen_ok, heq _ _ _ hr]
        cases r
        · simp
        · simp only [Bool.not_true, Bool.false_eq_true, if_false, Sem.run_pure, Result.andThen_ok, Bool.true_and]
          exact ih _ hr' w
      · cases h
    · cases h

theorem run_equalIn' {P : Program} : ∀ (d : Nat) (t : TypeId) (x y : Value) (b : Bool), sEqT P d t x y = some b → ∀ w, (Op.equalIn d t x y).run P w = .ok b w := by
  intro d
  induction d with
  | zero => intro t x y b h; cases h
  | succ d ih =>
    intro t x y b h w
    simp only [sEqT] at h
    split at h
    case h_13 ht =>
      rename_i fs xs ys
      split at h
      · cases h
      · rename_i hp
        have hf : P.fieldsOf t = fs := by simp [Program.fieldsOf, ht]
        rw [run_equalIn_struct w d t xs ys (by rw [hf]; exact ht) (by simpa using hp), hf]
        exact run_eqFields ih xs ys fs.toList b h w
    case h_14 ht =>
      rename_i len e xs ys
      split at h
      · rename_i n hn
        have := run_eqElems (P := P) (d := d) (n := n) (ih e) xs ys _ _ h w
        simp only [Op.equalIn, Sem.run_bind, run_underlying' w ht, Result.andThen_ok, run_sizeOf' w hn,
          Std.Legacy.Range.forIn_eq_forIn_range', Std.Legacy.Range.size, Nat.sub_zero, Nat.add_sub_cancel, Nat.div_one]
        rw [this]
        cases b <;> simp
      · cases h
    all_goals first
      | (cases h; done)
      | (rename_i ht; simp only [Op.equalIn, Sem.run_bind, run_underlying' w ht, Result.andThen_ok]; (try (split at h)) <;> (cases h) <;> simp [*])


def sInt (op : BinOp) (k : IntKind) (a b : Int) : Option Value :=
  match op with
  | .add => some (.int k (k.wrap (a + b)))
  | .sub => some (.int k (k.wrap (a - b)))
  | .mul => some (.int k (k.wrap (a * b)))
  | .quo => if b = 0 then none else some (.int k (k.wrap (a.tdiv b)))
  | .rem => if b = 0 then none else some (.int k (a.tmod b))
  | .and => some (.int k (k.wrap (BitVec.ofInt k.bits a &&& BitVec.ofInt k.bits b).toNat))
  | .or => some (.int k (k.wrap (BitVec.ofInt k.bits a ||| BitVec.ofInt k.bits b).toNat))
  | .xor => some (.int k (k.wrap (BitVec.ofInt k.bits a ^^^ BitVec.ofInt k.bits b).toNat))
  | .andNot => some (.int k (k.wrap (BitVec.ofInt k.bits a &&& ~~~ (BitVec.ofInt k.bits b)).toNat))
  | .eql => some (.bool (a == b))
  | .neq => some (.bool (a != b))
  | .lss => some (.bool (decide (a < b)))
  | .leq => some (.bool (decide (a ≤ b)))
  | .gtr => some (.bool (decide (b < a)))
  | .geq => some (.bool (decide (b ≤ a)))
  | _ => none

/-- A comparison that needs no guard. -/
def sGuardOk (P : Program) (t : TypeId) : Value → Bool
  | .nilIface => false
  | .agg _ => !P.eqGuardType P.depth t
  | _ => true

def sBin (P : Program) (op : BinOp) (t : TypeId) (x y : Value) : Option Value :=
  match op, x, y with
  | .shl, .int k a, .int _ b => if b < 0 then none else some (.int k (k.wrap (a * 2 ^ (min b.toNat k.bits))))
  | .shr, .int k a, .int _ b => if b < 0 then none else some (.int k (a.fdiv (2 ^ (min b.toNat k.bits))))
  | op, .int k a, .int k' b => if k = k' then sInt op k a b else none
  | .add, .string a, .string b => if a.size + b.size ≤ 1099511627776 then some (.string (a ++ b)) else none
  | .eql, .string a, .string b => some (.bool (a.toList == b.toList))
  | .neq, .string a, .string b => some (.bool (!(a.toList == b.toList)))
  | .eql, x, y => if sGuardOk P t x then (sEqT P 10000 t x y).map .bool else none
  | .neq, x, y => if sGuardOk P t x then (sEqT P 10000 t x y).map fun b => .bool (!b) else none
  | _, _, _ => none

theorem run_sInt {P : Program} {op : BinOp} {k : IntKind} {a b : Int} {v : Value} (t : TypeId) (h : sInt op k a b = some v) (w : World) (hs : op ≠ .shl) (hs' : op ≠ .shr) :
    (Go.binOp op t (.int k a) (.int k b)).run P w = .ok v w := by
  cases op <;> simp only [sInt] at h <;> first
    | (cases h; simp [Go.binOp, Op.intArith, Op.intBits, Op.intCmp]; done)
    | (split at h
       · cases h
       · rename_i hb; cases h; simp [Go.binOp, Op.intDiv, hb])
    | (exact absurd rfl hs)
    | (exact absurd rfl hs')

theorem VRel.int {ρ : Rho} {k : IntKind} {n : Int} {rv : Value} (h : VRel ρ (.int k n) rv) : rv = .int k n := by cases h; rfl
theorem VRel.bool {ρ : Rho} {b : Bool} {rv : Value} (h : VRel ρ (.bool b) rv) : rv = .bool b := by cases h; rfl
theorem VRel.string {ρ : Rho} {b : ByteArray} {rv : Value} (h : VRel ρ (.string b) rv) : rv = .string b := by cases h; rfl
theorem VRel.agg_inv {ρ : Rho} {cs : Array Value} {rv : Value} (h : VRel ρ (.agg cs) rv) : ∃ rcs, rv = .agg rcs ∧ cs.size = rcs.size ∧
    (∀ (k : Nat) (v v' : Value), cs[k]? = some v → rcs[k]? = some v' → VRel ρ v v') := by
  cases h with
  | plain h0 => simp [pl0] at h0
  | agg h1 h2 => exact ⟨_, rfl, h1, h2⟩

theorem sEqFields_rel {P : Program} {ρ : Rho} {eq : TypeId → Value → Value → Option Bool} (heq : ∀ t x y rx ry b, eq t x y = some b → VRel ρ x rx → VRel ρ y ry → eq t rx ry = some b)
    {xs ys rxs rys : Array Value} (hx : xs.size = rxs.size) (hx' : ∀ (k : Nat) (v v' : Value), xs[k]? = some v → rxs[k]? = some v' → VRel ρ v v')
    (hy : ys.size = rys.size) (hy' : ∀ (k : Nat) (v v' : Value), ys[k]? = some v → rys[k]? = some v' → VRel ρ v v') :
    ∀ (fs : List Field) (b : Bool), sEqFields eq P xs ys fs = some b → sEqFields eq P rxs rys fs = some b := by
  intro fs
  induction fs with
  | nil => intro b h; exact h
  | cons f fs ih =>
    intro b h
    simp only [sEqFields] at h ⊢
    split
    · rename_i hf
      rw [if_pos hf] at h
      split at h
      · rename_i a c ha hc
        obtain ⟨ra, h1, h2⟩ := sPart_rel hx hx' ha
        obtain ⟨rc, h3, h4⟩ := sPart_rel hy hy' hc
        split at h
        · rename_i r r' hr hr'
          simp only [h1, h3, heq _ _ _ _ _ _ hr h2 h4, ih _ hr']
          exact h
        · cases h
      · cases h
    · rename_i hf
      rw [if_neg hf] at h
      exact ih _ h

theorem sEqElems_rel {P : Program} {ρ : Rho} {eq : Value → Value → Option Bool} (heq : ∀ x y rx ry b, eq x y = some b → VRel ρ x rx → VRel ρ y ry → eq rx ry = some b) {e : TypeId} {n : Nat}
    {xs ys rxs rys : Array Value} (hx : xs.size = rxs.size) (hx' : ∀ (k : Nat) (v v' : Value), xs[k]? = some v → rxs[k]? = some v' → VRel ρ v v')
    (hy : ys.size = rys.size) (hy' : ∀ (k : Nat) (v v' : Value), ys[k]? = some v → rys[k]? = some v' → VRel ρ v v') :
    ∀ (is : List Nat) (b : Bool), sEqElems eq P e n xs ys is = some b → sEqElems eq P e n rxs rys is = some b := by
  intro is
  induction is with
  | nil => intro b h; exact h
  | cons i is ih =>
    intro b h
    simp only [sEqElems] at h ⊢
    split at h
    · rename_i a c ha hc
      obtain ⟨ra, h1, h2⟩ := sPart_rel hx hx' ha
      obtain ⟨rc, h3, h4⟩ := sPart_rel hy hy' hc
      split at h
      · rename_i r r' hr hr'
        simp only [h1, h3, heq _ _ _ _ _ hr h2 h4, ih _ hr']
        exact h
      · cases h
    · cases h

theorem sEqT_rel {P : Program} {ρ : Rho} : ∀ (d : Nat) (t : TypeId) (x y rx ry : Value) (b : Bool), sEqT P d t x y = some b → VRel ρ x rx → VRel ρ y ry → sEqT P d t rx ry = some b := by
  intro d
  induction d with
  | zero => intro t x y rx ry b h; cases h
  | succ d ih =>
    intro t x y rx ry b h hx hy
    simp only [sEqT] at h
    split at h
    case h_13 ht =>
      obtain ⟨rxs, rfl, h1, h2⟩ := hx.agg_inv
      obtain ⟨rys, rfl, h3, h4⟩ := hy.agg_inv
      simp only [sEqT, ht]
      split at h
      · cases h
      · rename_i hp
        rw [if_neg hp]
        exact sEqFields_rel ih h1 h2 h3 h4 _ _ h
    case h_14 ht =>
      obtain ⟨rxs, rfl, h1, h2⟩ := hx.agg_inv
      obtain ⟨rys, rfl, h3, h4⟩ := hy.agg_inv
      simp only [sEqT, ht]
      split at h
      · exact sEqElems_rel (ih _) h1 h2 h3 h4 _ _ h
      · cases h
    all_goals first
      | (cases h; done)
      | (rename_i ht; cases hx <;> cases hy <;> simp only [sEqT, ht] <;> first | exact h | (simpa using h))

theorem sGuardOk_run {P : Program} {ρ : Rho} {t : TypeId} {x rx : Value} (h : sGuardOk P t x = true) (hx : VRel ρ x rx) (hj : x ≠ junk) (op : BinOp) (X Y : Operand) (ry : Value) (w : World) :
    (eqGuard op t X Y rx ry).run P w = .ok () w := by
  cases hx with
  | junk => exact absurd rfl hj
  | plain h0 =>
    cases x <;> first | (simp [pl0] at h0; done) | (simp [sGuardOk] at h; done) | (cases op <;> cases ry <;> simp [eqGuard])
  | agg h1 h2 =>
    have hm : P.eqGuardType P.depth t = false := by simpa [sGuardOk] using h
    cases ry <;> cases op <;> simp [eqGuard, hm]
  | _ => cases op <;> cases ry <;> simp [eqGuard]

theorem sEqT_junk {P : Program} {d : Nat} {t : TypeId} {y : Value} : sEqT P d t junk y = none := by
  cases d with
  | zero => rfl
  | succ d => simp only [sEqT, junk]; split <;> simp_all

theorem eqGuard_int {P : Program} (op : BinOp) (t : TypeId) (X Y : Operand) (k k' : IntKind) (a b : Int) (w : World) : (eqGuard op t X Y (.int k a) (.int k' b)).run P w = .ok () w := by
  cases op <;> simp [eqGuard]

theorem eqGuard_string {P : Program} (op : BinOp) (t : TypeId) (X Y : Operand) (a b : ByteArray) (w : World) : (eqGuard op t X Y (.string a) (.string b)).run P w = .ok () w := by
  cases op <;> simp [eqGuard]

theorem run_addString {P : Program} {a b : ByteArray} (t : TypeId) (h : a.size + b.size ≤ 1099511627776) (w : World) : (Go.binOp .add t (.string a) (.string b)).run P w = .ok (.string (a ++ b)) w := by
  have : ¬ (((a.size + b.size : Nat) : Int) > IntKind.i64.max) := by
    have e : IntKind.i64.max = 9223372036854775807 := by decide
    rw [e]; omega
  simp only [Go.binOp, Op.stringOp, this, if_false, Sem.run_pure]

theorem run_eql' {P : Program} {d : Nat} {t : TypeId} {x y : Value} {b : Bool} (h : sEqT P (d + 1) t x y = some b) (hi : ∀ k a k' b, x = .int k a → y = .int k' b → False)
    (hs : ∀ a b, x = .string a → y = .string b → False) : Go.binOp .eql t x y = (do pure (.bool (← Op.equal t x y))) ∧ Go.binOp .neq t x y = (do pure (.bool (!(← Op.equal t x y)))) := by
  cases x with
  | int k a => cases y <;> first | exact (hi _ _ _ _ rfl rfl).elim | exact ⟨rfl, rfl⟩
  | string a => cases y <;> first | exact (hs _ _ rfl rfl).elim | exact ⟨rfl, rfl⟩
  | float k a => cases y <;> first | exact ⟨rfl, rfl⟩ | (simp only [sEqT] at h; split at h <;> simp_all)
  | complex k a c => cases y <;> first | exact ⟨rfl, rfl⟩ | (simp only [sEqT] at h; split at h <;> simp_all)
  | _ => cases y <;> exact ⟨rfl, rfl⟩

theorem sEqT_junk' {P : Program} {d : Nat} {t : TypeId} {x : Value} : sEqT P d t x junk = none := by
  cases d with
  | zero => rfl
  | succ d => simp only [sEqT, junk]; split <;> simp_all

theorem sBin_rel {P : Program} {ρ : Rho} {op : BinOp} {t : TypeId} {x y v rx ry : Value} (h : sBin P op t x y = some v) (hx : VRel ρ x rx) (hy : VRel ρ y ry) (X Y : Operand) :
    pl0 v = true ∧ ∀ w, (do eqGuard op t X Y rx ry; Go.binOp op t rx ry : Sem Value).run P w = .ok v w := by
  unfold sBin at h
  split at h
  · obtain rfl := hx.int; obtain rfl := hy.int
    split at h
    · cases h
    · rename_i hb; cases h
      refine ⟨rfl, fun w => ?_⟩
      simp [eqGuard, Go.binOp, Op.shift, hb]
  · obtain rfl := hx.int; obtain rfl := hy.int
    split at h
    · cases h
    · rename_i hb; cases h
      refine ⟨rfl, fun w => ?_⟩
      simp [eqGuard, Go.binOp, Op.shift, hb]
  · rename_i op' _ _ _ _ hs1 hs2
    obtain rfl := hx.int; obtain rfl := hy.int
    split at h
    · rename_i hk; subst hk
      refine ⟨?_, fun w => ?_⟩
      · cases op <;> simp only [sInt] at h <;> first | (cases h; rfl) | (split at h <;> first | (cases h; done) | (cases h; rfl)) | (cases h; done)
      · rw [Sem.run_bind, eqGuard_int]
        exact run_sInt t h w (fun e => by subst e; simp [sInt] at h) (fun e => by subst e; simp [sInt] at h)
    · cases h
  · obtain rfl := hx.string; obtain rfl := hy.string
    split at h
    · rename_i hb
      cases h
      refine ⟨rfl, fun w => ?_⟩
      rw [Sem.run_bind, eqGuard_string]
      exact run_addString t hb w
    · cases h
  · obtain rfl := hx.string; obtain rfl := hy.string
    cases h
    exact ⟨rfl, fun w => by simp [eqGuard, Go.binOp, Op.stringOp]⟩
  · obtain rfl := hx.string; obtain rfl := hy.string
    cases h
    exact ⟨rfl, fun w => by simp [eqGuard, Go.binOp, Op.stringOp]⟩
  · rename_i hi hs
    split at h
    · rename_i hg
      have hj : x ≠ junk := fun e => by subst e; rw [sEqT_junk] at h; cases h
      cases hb : sEqT P 10000 t x y with
      | none => rw [hb] at h; cases h
      | some b =>
        rw [hb] at h; cases h
        refine ⟨rfl, fun w => ?_⟩
        have hr := sEqT_rel _ _ _ _ _ _ _ hb hx hy
        have he := run_equalIn' 10000 t rx ry b hr w
        have hq := run_eql' (d := 9999) hr (fun k a k' c e1 e2 => by
          subst e1 e2
          cases hx <;> first | (cases hy <;> first | exact hi _ _ _ _ rfl rfl | (simp_all [sEqT_junk']; done)) | (exact hj rfl)) (fun a c e1 e2 => by
          subst e1 e2
          cases hx <;> first | (cases hy <;> first | exact hs _ _ rfl rfl | (simp_all [sEqT_junk']; done)) | (exact hj rfl))
        rw [Sem.run_bind, sGuardOk_run hg hx hj]
        simp only [Result.andThen_ok]
        first | rw [hq.1] | rw [hq.2]
        simp [Op.equal, Op.maxDepth, he]
    · cases h
  · rename_i hi hs
    split at h
    · rename_i hg
      have hj : x ≠ junk := fun e => by subst e; rw [sEqT_junk] at h; cases h
      cases hb : sEqT P 10000 t x y with
      | none => rw [hb] at h; cases h
      | some b =>
        rw [hb] at h; cases h
        refine ⟨rfl, fun w => ?_⟩
        have hr := sEqT_rel _ _ _ _ _ _ _ hb hx hy
        have he := run_equalIn' 10000 t rx ry b hr w
        have hq := run_eql' (d := 9999) hr (fun k a k' c e1 e2 => by
          subst e1 e2
          cases hx <;> first | (cases hy <;> first | exact hi _ _ _ _ rfl rfl | (simp_all [sEqT_junk']; done)) | (exact hj rfl)) (fun a c e1 e2 => by
          subst e1 e2
          cases hx <;> first | (cases hy <;> first | exact hs _ _ rfl rfl | (simp_all [sEqT_junk']; done)) | (exact hj rfl))
        rw [Sem.run_bind, sGuardOk_run hg hx hj]
        simp only [Result.andThen_ok]
        first | rw [hq.1] | rw [hq.2]
        simp [Op.equal, Op.maxDepth, he]
    · cases h
  · cases h

end Go.Sh
