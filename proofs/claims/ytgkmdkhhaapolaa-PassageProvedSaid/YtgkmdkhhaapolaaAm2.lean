/-
  THE ABSTRACT MACHINE, 2: its operations.
-/
import Derived.Test.YtgkmdkhhaapolaaAm1
namespace Go.Am
noncomputable section

/-! ### Lists, by their recursors -/
def nthL {α : Type} (l : List α) : Nat → Option α :=
  List.rec (motive := fun _ => Nat → Option α) (fun _ => none) (fun v _ ih i => Nat.casesOn i (some v) ih) l
def consO {α : Type} (v : α) (o : Option (List α)) : Option (List α) := Option.casesOn o none fun vs => some (v :: vs)
/-- What is behind the first i, if there are so many. -/
def dropO {α : Type} (l : List α) : Nat → Option (List α) :=
  List.rec (motive := fun _ => Nat → Option (List α)) (fun i => Nat.casesOn i (some []) fun _ => none) (fun v vs ih i => Nat.casesOn i (some (v :: vs)) ih) l
/-- The first n, if there are so many. -/
def takeO {α : Type} (l : List α) : Nat → Option (List α) :=
  List.rec (motive := fun _ => Nat → Option (List α)) (fun n => Nat.casesOn n (some []) fun _ => none) (fun v _ ih n => Nat.casesOn n (some []) fun n => consO v (ih n)) l
/-- vs laid over the head of a list, if that is as long. -/
def overO {α : Type} (vs : List α) : List α → Option (List α) :=
  List.rec (motive := fun _ => List α → Option (List α)) (fun l => some l) (fun v _ ih l => List.casesOn l none fun _ us => consO v (ih us)) vs
def spliceO {α : Type} (vs : List α) (l : List α) : Nat → Option (List α) :=
  List.rec (motive := fun _ => Nat → Option (List α)) (fun i => Nat.casesOn i (overO vs []) fun _ => none) (fun u us ih i => Nat.casesOn i (overO vs (u :: us)) fun i => consO u (ih i)) l

def splice {α : Type} (cs : List α) (off : Nat) (vs : List α) : List α := cs.take off ++ vs ++ cs.drop (off + vs.length)

theorem nthL_eq {α : Type} : ∀ (l : List α) (i : Nat), nthL l i = l[i]?
  | [], i => by simp [nthL]
  | v :: vs, 0 => rfl
  | v :: vs, i + 1 => by show nthL vs i = _; rw [nthL_eq vs i]; simp
theorem dropO_eq {α : Type} : ∀ (l : List α) (i : Nat), dropO l i = if i ≤ l.length then some (l.drop i) else none
  | [], 0 => rfl
  | [], i + 1 => rfl
  | v :: vs, 0 => rfl
  | v :: vs, i + 1 => by show dropO vs i = _; rw [dropO_eq vs i]; simp
theorem takeO_eq {α : Type} : ∀ (l : List α) (n : Nat), takeO l n = if n ≤ l.length then some (l.take n) else none
  | [], 0 => rfl
  | [], n + 1 => rfl
  | v :: vs, 0 => rfl
  | v :: vs, n + 1 => by
    show consO v (takeO vs n) = _
    rw [takeO_eq vs n]
    by_cases h : n ≤ vs.length <;> simp [consO, h]
theorem overO_eq {α : Type} : ∀ (vs l : List α), overO vs l = if vs.length ≤ l.length then some (vs ++ l.drop vs.length) else none
  | [], l => by show some l = _; simp
  | v :: vs, [] => by show none = _; simp
  | v :: vs, u :: us => by
    show consO v (overO vs us) = _
    rw [overO_eq vs us]
    by_cases h : vs.length ≤ us.length <;> simp [consO, h]
theorem spliceO_eq {α : Type} (vs : List α) : ∀ (l : List α) (i : Nat), spliceO vs l i = if i + vs.length ≤ l.length then some (splice l i vs) else none
  | [], 0 => by show overO vs [] = _; rw [overO_eq]; simp [splice]
  | [], i + 1 => by show none = _; simp
  | u :: us, 0 => by show overO vs (u :: us) = _; rw [overO_eq]; simp [splice]
  | u :: us, i + 1 => by
    show consO u (spliceO vs us i) = _
    rw [spliceO_eq vs us i, show i + 1 + vs.length = (i + vs.length) + 1 by omega]
    by_cases h : i + vs.length ≤ us.length <;> simp [consO, h, splice, show i + 1 + vs.length = (i + vs.length) + 1 by omega]

/-! ### Numbers, by their constructors -/
def half (k : IntKind) : Nat := IntKind.casesOn k 128 32768 2147483648 9223372036854775808 128 32768 2147483648 9223372036854775808
/-- A number that is of its kind already stays as it is. -/
def wrapF (k : IntKind) (n : Int) : Int :=
  Int.casesOn n (fun m => Bool.casesOn (Nat.blt m (half k)) (k.wrap (.ofNat m)) (.ofNat m)) fun m => Bool.casesOn (IntKind.signed k) (k.wrap (.negSucc m)) (Bool.casesOn (Nat.blt m (half k)) (k.wrap (.negSucc m)) (.negSucc m))
def ltF (a b : Int) : Bool :=
  Int.casesOn a (fun m => Int.casesOn b (fun n => Nat.blt m n) fun _ => false) fun m => Int.casesOn b (fun _ => true) fun n => Nat.blt n m
def eqF (a b : Int) : Bool :=
  Int.casesOn a (fun m => Int.casesOn b (fun n => Nat.beq m n) fun _ => false) fun m => Int.casesOn b (fun _ => false) fun n => Nat.beq m n
def notB (b : Bool) : Bool := Bool.casesOn b true false
/-- A number that is less than n, and no less than 0. -/
def idxF (i : Int) (n : Nat) : Option Nat := Int.casesOn i (fun m => Bool.casesOn (Nat.blt m n) none (some m)) fun _ => none

theorem blt_iff (m n : Nat) : Nat.blt m n = decide (m < n) := by
  rw [Bool.eq_iff_iff]
  simp [Nat.blt, Nat.ble_eq, Nat.lt_iff_add_one_le]
theorem beq_iff (m n : Nat) : Nat.beq m n = decide (m = n) := by
  rw [Bool.eq_iff_iff]
  simp [Nat.beq_eq]
theorem wrap_mid (k : IntKind) (n : Int) (h : (if k.signed then -(half k : Int) else 0) ≤ n ∧ n < half k) : k.wrap n = n := by
  obtain ⟨h1, h2⟩ := h
  cases k <;> simp only [half, IntKind.signed] at h1 h2 <;> simp at h1 h2 <;> simp only [IntKind.wrap, IntKind.bits, IntKind.signed] <;> simp <;> first | omega | (split <;> omega)
theorem wrapF_eq (k : IntKind) (n : Int) : wrapF k n = k.wrap n := by
  cases n with
  | ofNat m =>
    show Bool.casesOn (Nat.blt m (half k)) (k.wrap (.ofNat m)) (.ofNat m) = k.wrap (.ofNat m)
    cases h : Nat.blt m (half k) with
    | false => rfl
    | true =>
      rw [blt_iff] at h
      simp only [decide_eq_true_eq] at h
      refine (wrap_mid k _ ⟨?_, ?_⟩).symm
      · split <;> simp <;> omega
      · simp; omega
  | negSucc m =>
    show Bool.casesOn (IntKind.signed k) (k.wrap (.negSucc m)) (Bool.casesOn (Nat.blt m (half k)) (k.wrap (.negSucc m)) (.negSucc m)) = k.wrap (.negSucc m)
    cases hs : IntKind.signed k with
    | false => rfl
    | true =>
      cases h : Nat.blt m (half k) with
      | false => rfl
      | true =>
        rw [blt_iff] at h
        simp only [decide_eq_true_eq] at h
        show (Int.negSucc m) = _
        refine (wrap_mid k _ ⟨?_, ?_⟩).symm
        · rw [if_pos hs]; omega
        · omega
theorem ltF_eq (a b : Int) : ltF a b = decide (a < b) := by
  rw [Bool.eq_iff_iff]
  cases a <;> cases b <;> simp only [ltF, blt_iff, decide_eq_true_eq] <;> first | omega | simp <;> omega
theorem eqF_eq (a b : Int) : eqF a b = (a == b) := by
  rw [Bool.eq_iff_iff]
  cases a <;> cases b <;> simp only [eqF, beq_iff, decide_eq_true_eq, beq_iff_eq] <;> first | omega | simp <;> omega
theorem int_sub (a b : Int) : Int.sub a b = a - b := rfl
theorem int_add (a b : Int) : Int.add a b = a + b := rfl
theorem int_mul (a b : Int) : Int.mul a b = a * b := rfl
theorem leF_eq (a b : Int) : notB (ltF b a) = decide (a ≤ b) := by
  rw [ltF_eq]
  by_cases h : a ≤ b
  · simp [notB, h, show ¬ b < a by omega]
  · simp [notB, h, show b < a by omega]
theorem neF_eq (a b : Int) : notB (eqF a b) = (a != b) := by
  rw [eqF_eq]; cases h : a == b <;> simp [notB, bne, h]
theorem notB_eq (b : Bool) : notB b = !b := by cases b <;> rfl
theorem idxF_some {i : Int} {n j : Nat} (h : idxF i n = some j) : 0 ≤ i ∧ i < n ∧ i.toNat = j := by
  cases i with
  | negSucc m => cases h
  | ofNat m =>
    have h' : Bool.casesOn (Nat.blt m n) none (some m) = some j := h
    rw [blt_iff] at h'
    by_cases hm : m < n
    · simp only [hm, decide_true] at h'
      simp only [Option.some.injEq] at h'
      subst h'
      simp; omega
    · simp only [hm, decide_false] at h'; cases h'

/-- What is known of the program: types and bodies, looked up fast. -/
structure Env where
  info : TypeId → Option TypeInfo
  safe : TypeId → Bool
  body : FuncId → Option Func

structure EnvOk (E : Env) (P : Program) : Prop where
  info : ∀ t i, E.info t = some i → P.info? t = some i
  safe : ∀ t, E.safe t = true → P.stoodInHeld t = false ∧ P.eqGuardType P.depth t = false
  body : ∀ f fn, E.body f = some fn → P.funcs[f]? = some fn
  mixed : P.follows .mixedOrders = true

def Env.und (E : Env) (t : TypeId) : Option TypeDesc :=
  match E.info t with
  | some i => match i.desc with
    | .named _ u => (E.info u).map (·.desc)
    | d => some d
  | none => none

def Env.isAgg (E : Env) (t : TypeId) : Option Bool :=
  match E.und t with
  | some (.struct _) => some true
  | some (.array _ _) => some true
  | some _ => some false
  | none => none

def Env.size (E : Env) (t : TypeId) : Option Nat := (E.info t).map (·.size)

def mapO {α β : Type} (f : α → Option β) : List α → Option (List β)
  | [] => some []
  | a :: as => match f a, mapO f as with
    | some b, some bs => some (b :: bs)
    | _, _ => none

def ofCell : Value → Option V
  | .bool b => some (.bool b)
  | .int k n => some (.int k n)
  | .string s => some (.str s)
  | .pointer none => some (.ptr none)
  | .slice none 0 0 => some (.slice none 0 0 none)
  | .map none => some (.map none)
  | .nilFunc => some .nilFunc
  | _ => none

def ofVal : Value → Option V
  | .agg cs => (mapO ofCell cs.toList).map .agg
  | v => ofCell v

/-- The zero value's cells. -/
def Env.zeros (E : Env) (t : TypeId) : Option (List V) :=
  match E.info t with
  | some i => match i.zero with
    | some z => mapO ofCell z.cells.toList
    | none => none
  | none => none

def Env.zero (E : Env) (t : TypeId) : Option V :=
  match E.info t with
  | some i => match i.zero with
    | some z => ofVal z
    | none => none
  | none => none

def V.cells? : V → Option (List V)
  | .agg cs => some cs
  | .undef => none
  | .tup _ => none
  | v => some [v]

def V.atom : V → Bool
  | .undef | .agg _ | .tup _ => false
  | _ => true

/-- An operand's value. -/
def evA (f : List V) : Operand → V
  | .tmp t => f.getD t .undef
  | .const v => (ofVal v).getD .undef
  | .global _ => .undef
  | .func g => .func g [] []

inductive Res where
  | val (v : V) (H : Heap)
  | skip (H : Heap)
  | call (g : V) (args : List V)

/-- A part of an aggregate. -/
def partA (E : Env) (t : TypeId) (cs : List V) (off : Nat) : Option V :=
  match E.isAgg t, E.size t with
  | some true, some n => some (.agg ((cs.drop off).take n))
  | some false, _ => nthL cs off
  | _, _ => none

def row (H : Heap) (b : Nat) : Option (List V) :=
  match H.get b with
  | some (.cells cs _) => some cs
  | _ => none

/-- n cells from a place on. -/
def cellsAt (H : Heap) (l : Loc) (n : Nat) : Option (List V) :=
  match row H l.blk with
  | some cs => Option.casesOn (dropO cs l.off) none fun us => takeO us n
  | none => none

theorem cellsAt_eq (H : Heap) (l : Loc) (n : Nat) : cellsAt H l n = (match row H l.blk with
    | some cs => if l.off + n ≤ cs.length then some ((cs.drop l.off).take n) else none
    | none => none) := by
  unfold cellsAt
  split
  · rw [dropO_eq]
    rename_i cs _
    by_cases h : l.off ≤ cs.length
    · simp only [h, if_true, takeO_eq, List.length_drop]
      by_cases h' : l.off + n ≤ cs.length
      · simp [h', show n ≤ cs.length - l.off by omega]
      · simp [h', show ¬ n ≤ cs.length - l.off by omega]
    · simp [h, show ¬ l.off + n ≤ cs.length by omega]
  · rfl

def loadA (E : Env) (H : Heap) (t : TypeId) (a : V) : Option V :=
  match a with
  | .ptr (some l) => match E.isAgg t with
    | some true => match E.size t with
      | some n => (cellsAt H l n).map .agg
      | none => none
    | some false => match row H l.blk with
      | some cs => nthL cs l.off
      | none => none
    | none => none
  | _ => none

def setO (H : Heap) (b : Nat) (o : Option (List V)) : Option Heap := Option.casesOn o none fun cs => some (H.set b (.cells cs true))

/-- Cells are written in place. -/
def putCells (H : Heap) (l : Loc) (vs : List V) : Option Heap :=
  match H.get l.blk with
  | some (.cells cs true) => Bool.casesOn (vs.all V.atom) none (setO H l.blk (spliceO vs cs l.off))
  | _ => none

theorem putCells_eq (H : Heap) (l : Loc) (vs : List V) : putCells H l vs = (match H.get l.blk with
    | some (.cells cs true) => if l.off + vs.length ≤ cs.length && vs.all V.atom then some (H.set l.blk (.cells (splice cs l.off vs) true)) else none
    | _ => none) := by
  unfold putCells
  split
  · rw [spliceO_eq]
    cases vs.all V.atom with
    | false => simp
    | true =>
      rename_i cs _
      by_cases h : l.off + vs.length ≤ cs.length <;> simp [h, setO]
  · rfl

def storeA (E : Env) (H : Heap) (t : TypeId) (a x : V) : Option Heap :=
  match a, x.cells?, E.size t with
  | .ptr (some l), some vs, some n => if vs.length = n then putCells H l vs else none
  | _, _, _ => none

def newA (H : Heap) (cs : List V) : V × Heap := (.ptr (some ⟨H.size, 0⟩), H.push (.cells cs true))

def fillA (place : Nat → Option (Nat × Nat)) (cells : List V) : List (Nat × V) → Option (List V)
  | [] => some cells
  | (i, v) :: rest =>
    match place i, v.cells? with
    | some (off, size), some vs => if vs.length = size ∧ off + vs.length ≤ cells.length then fillA place (splice cells off vs) rest else none
    | _, _ => none

def zcells (zs : List V) (n : Nat) : List V := (List.range n).map fun i => zs.getD (i % zs.length) .undef

def placesA (E : Env) : List Field → Option (List (Nat × Nat))
  | [] => some []
  | f :: fs => match E.info f.type, placesA E fs with
    | some i, some ps => some ((f.offset, i.size) :: ps)
    | _, _ => none

def buildA (E : Env) (t : TypeId) (parts : List (Nat × V)) : Option V :=
  match E.und t, E.zeros t with
  | some (.struct fields), some zs => match placesA E fields.toList with
    | some ps => (fillA (ps[·]?) zs parts).map .agg
    | none => none
  | some (.array _ e), some zs => match E.size e with
    | some n => (fillA (fun i => some (i * n, n)) zs parts).map .agg
    | none => none
  | _, _ => none

def buildSliceA (E : Env) (H : Heap) (t : TypeId) (len : Nat) (parts : List (Nat × V)) : Option (V × Heap) :=
  match E.und t with
  | some (.slice e) => match E.size e, E.zeros e with
    | some n, some zs =>
      if len * n ≤ 1048576 ∧ zs.length = n ∧ 0 < n then
        match fillA (fun i => some (i * n, n)) (zcells zs (len * n)) parts with
        | some cs => some (.slice (some ⟨H.size, 0⟩) len n (some len), H.push (.cells cs true))
        | none => none
      else none
    | _, _ => none
  | _ => none

def binInt (op : BinOp) (k : IntKind) (a b : Int) : Option V :=
  match op with
  | .add => some (.int k (wrapF k (Int.add a b)))
  | .sub => some (.int k (wrapF k (Int.sub a b)))
  | .mul => some (.int k (wrapF k (Int.mul a b)))
  | .quo => if b = 0 then none else some (.int k (wrapF k (a.tdiv b)))
  | .rem => if b = 0 then none else some (.int k (a.tmod b))
  | .and => some (.int k (k.wrap (BitVec.ofInt k.bits a &&& BitVec.ofInt k.bits b).toNat))
  | .or => some (.int k (k.wrap (BitVec.ofInt k.bits a ||| BitVec.ofInt k.bits b).toNat))
  | .xor => some (.int k (k.wrap (BitVec.ofInt k.bits a ^^^ BitVec.ofInt k.bits b).toNat))
  | .andNot => some (.int k (k.wrap (BitVec.ofInt k.bits a &&& ~~~BitVec.ofInt k.bits b).toNat))
  | .eql => some (.bool (eqF a b))
  | .neq => some (.bool (notB (eqF a b)))
  | .lss => some (.bool (ltF a b))
  | .leq => some (.bool (notB (ltF b a)))
  | .gtr => some (.bool (ltF b a))
  | .geq => some (.bool (notB (ltF a b)))
  | _ => none

/-- Are the parts of two aggregates alike, field by field? -/
def eqFsA (E : Env) (eq : TypeId → V → V → Option Bool) (xs ys : List V) : List Field → Option Bool
  | [] => some true
  | f :: fs =>
    if f.name ≠ "_" then
      match partA E f.type xs f.offset, partA E f.type ys f.offset with
      | some a, some b => match eq f.type a b with
        | some true => eqFsA E eq xs ys fs
        | some false => some false
        | none => none
      | _, _ => none
    else eqFsA E eq xs ys fs

def eqEsA (E : Env) (eq : V → V → Option Bool) (e n : Nat) (xs ys : List V) : List Nat → Option Bool
  | [] => some true
  | i :: is =>
    match partA E e xs (i * n), partA E e ys (i * n) with
    | some a, some b => match eq a b with
      | some true => eqEsA E eq e n xs ys is
      | some false => some false
      | none => none
    | _, _ => none

def eqA (E : Env) : Nat → TypeId → V → V → Option Bool
  | 0, _, _, _ => none
  | d + 1, t, x, y =>
    match E.und t, x, y with
    | some .bool, .bool a, .bool b => some (a == b)
    | some (.int _), .int k a, .int k' b => if k = k' then some (a == b) else none
    | some .string, .str a, .str b => some (a.toList == b.toList)
    | some (.pointer _), .ptr none, .ptr none => some true
    | some (.pointer _), .ptr none, .ptr (some _) => some false
    | some (.pointer _), .ptr (some _), .ptr none => some false
    | some (.slice _), .slice none _ _ _, .slice none _ _ _ => some true
    | some (.slice _), .slice none _ _ _, .slice (some _) _ _ _ => some false
    | some (.slice _), .slice (some _) _ _ _, .slice none _ _ _ => some false
    | some (.func _ _ _), .nilFunc, .nilFunc => some true
    | some (.func _ _ _), .func _ _ _, .nilFunc => some false
    | some (.func _ _ _), .nilFunc, .func _ _ _ => some false
    | some (.struct fs), .agg xs, .agg ys => if E.safe t then eqFsA E (eqA E d) xs ys fs.toList else none
    | some (.array n e), .agg xs, .agg ys => match E.size e with
      | some m => eqEsA E (eqA E d e) e m xs ys (List.range n)
      | none => none
    | _, _, _ => none

def strA (op : BinOp) (x y : ByteArray) : Option V :=
  match op with
  | .eql => some (.bool (x.toList == y.toList))
  | .neq => some (.bool (!(x.toList == y.toList)))
  | _ => none

def isEq : BinOp → Bool
  | .eql | .neq => true
  | _ => false

def binII (op : BinOp) (k : IntKind) (a : Int) (k' : IntKind) (b : Int) : Option V :=
  match op with
  | .shl => if b < 0 then none else some (.int k (k.wrap (a * 2 ^ (min b.toNat k.bits))))
  | .shr => if b < 0 then none else some (.int k (a.fdiv (2 ^ (min b.toNat k.bits))))
  | op => if k = k' then binInt op k a b else none

def eqOp (E : Env) (op : BinOp) (t : TypeId) (x y : V) : Option V :=
  match op with
  | .eql => (eqA E 10000 t x y).map .bool
  | .neq => (eqA E 10000 t x y).map fun b => .bool (!b)
  | _ => none

def binA (E : Env) (op : BinOp) (t : TypeId) (x y : V) : Option V :=
  match x, y with
  | .int k a, .int k' b => binII op k a k' b
  | .str a, .str b => strA op a b
  | .agg xs, .agg ys => if E.safe t then eqOp E op t (.agg xs) (.agg ys) else none
  | x, y => eqOp E op t x y

def unA (op : UnOp) (x : V) : Option V :=
  match op, x with
  | .neg, .int k n => some (.int k (k.wrap (0 - n)))
  | .xor, .int k n => some (.int k (k.wrap (BitVec.ofInt k.bits (if k.signed then -1 else k.max) ^^^ BitVec.ofInt k.bits n).toNat))
  | .not, .bool b => some (.bool !b)
  | _, _ => none

def convA (E : Env) (src dst : TypeId) (x : V) : Option V :=
  match E.und src, E.und dst, x with
  | some (.int _), some (.int k), .int _ n => some (.int k (k.wrap n))
  | some .string, some .string, .str s => some (.str s)
  | _, _, _ => none

def fieldA (E : Env) (t : TypeId) (x : V) (i : Nat) : Option V :=
  match E.und t, x with
  | some (.struct fs), .agg cs => match fs[i]? with
    | some f => partA E f.type cs f.offset
    | none => none
  | _, _ => none

def fieldAddrA (E : Env) (t : TypeId) (x : V) (i : Nat) : Option V :=
  match E.und t, x with
  | some (.struct fs), .ptr (some l) => match fs[i]? with
    | some f => match E.size f.type with
      | some (_ + 1) => some (.ptr (some ⟨l.blk, l.off + f.offset⟩))
      | _ => none
    | none => none
  | _, _ => none

def indexAddrA (E : Env) (t : TypeId) (x i : V) : Option V :=
  match E.und t, x, i with
  | some (.array n e), .ptr (some l), .int _ i => match E.size e, idxF i n with
    | some m, some j => some (.ptr (some ⟨l.blk, Nat.add l.off (Nat.mul j m)⟩))
    | _, _ => none
  | some (.slice e), .slice (some l) n _ _, .int _ i => match E.size e, idxF i n with
    | some m, some j => some (.ptr (some ⟨l.blk, Nat.add l.off (Nat.mul j m)⟩))
    | _, _ => none
  | _, _, _ => none

def indexA (E : Env) (t : TypeId) (x i : V) : Option V :=
  match E.und t, x, i with
  | some (.array n e), .agg cs, .int _ i => match E.size e, idxF i n with
    | some m, some j => partA E e cs (Nat.mul j m)
    | _, _ => none
  | some .string, .str s, .int _ i => if 0 ≤ i then (s[i.toNat]?).map fun b => .int .u8 b.toNat else none
  | _, _, _ => none

def boundA (d : Nat) : Option V → Option Int
  | none => some d
  | some (.int _ i) => some i
  | some _ => none

/-- The bounds of a slice expression: 0 ≤ l ≤ h ≤ m ≤ len. -/
def boundsA (len : Nat) (lo hi mx : Option V) : Option (Nat × Nat × Nat) :=
  match boundA 0 lo, boundA len hi, boundA len mx with
  | some l, some h, some m => if 0 ≤ l ∧ l ≤ h ∧ h ≤ m ∧ m ≤ len ∧ (mx.isSome → hi.isSome) then some (l.toNat, h.toNat, m.toNat) else none
  | _, _, _ => none

def sliceA (E : Env) (H : Heap) (t : TypeId) (x : V) (lo hi mx : Option V) : Option V :=
  match E.und t, x with
  | some .string, .str s => if mx.isSome then none else
    match boundsA s.size lo hi none with
    | some (l, h, _) => some (.str (s.extract l h))
    | none => none
  | some (.slice e), .slice none _ _ _ => match E.size e with
    | some _ => match boundsA 0 lo hi mx with
      | some _ => some (.slice none 0 0 none)
      | none => none
    | none => none
  | some (.slice e), .slice (some a) len esz cap => match E.size e with
    | some n => if n = esz then
        match boundsA len lo hi mx with
        | some (l, h, m) => some (.slice (some ⟨a.blk, a.off + l * n⟩) (h - l) n (if mx.isSome then some (m - l) else cap.map (· - l)))
        | none => none
      else none
    | none => none
  | some (.array len e), .ptr (some a) => match E.size e with
    | some n => match row H a.blk with
      | some cs => if a.off + len * n ≤ cs.length then
          match boundsA len lo hi mx with
          | some (l, h, m) => some (.slice (some ⟨a.blk, a.off + l * n⟩) (h - l) n (some (m - l)))
          | none => none
        else none
      | none => none
    | none => none
  | _, _ => none

def makeSliceA (E : Env) (H : Heap) (t : TypeId) (l c : V) : Option (V × Heap) :=
  match E.und t, l, c with
  | some (.slice e), .int _ l, .int _ c => match E.info e, E.zeros e with
    | some i, some zs =>
      if 0 ≤ l ∧ l ≤ c ∧ c ≤ 1048576 ∧ i.bytes ≤ 1048576 ∧ zs.length = i.size ∧ 0 < i.size then
        some (.slice (some ⟨H.size, 0⟩) l.toNat i.size (if l = c then some l.toNat else none), H.push (.cells (zcells zs (l.toNat * i.size)) true))
      else none
    | _, _ => none
  | _, _, _ => none

/-- The cells of a slice. -/
def elemsA (H : Heap) (x : V) : Option (List V) :=
  match x with
  | .slice none _ _ _ => some []
  | .slice (some l) n esz _ => cellsAt H l (n * esz)
  | _ => none

def appendA (E : Env) (H : Heap) (t : TypeId) (s x : V) : Option (V × Heap) :=
  match E.und t with
  | some (.slice e) => match E.info e, E.zeros e with
    | some i, some zs => match s, x, elemsA H x with
      | .slice sa sl ssz cap, .slice xa xl xsz _, some news =>
        if news.all V.atom ∧ 0 < i.size ∧ zs.length = i.size ∧ i.bytes ≤ 1048576 ∧ sl + xl ≤ 1048576 ∧ (xa.isSome → xsz = i.size) ∧ (sa.isSome → ssz = i.size) then
          if xl = 0 then some (s, H) else
          match sa with
          | none => some (.slice (some ⟨H.size, 0⟩) xl i.size none, H.push (.cells news true))
          | some l => match cellsAt H l (sl * i.size) with
            | some olds =>
              if cap.any (· < sl + xl) then some (.slice (some ⟨H.size, 0⟩) (sl + xl) i.size none, H.push (.cells (olds ++ news) true)) else
              match H.get l.blk with
              | some (.cells _ true) => some (.slice (some ⟨H.size, 0⟩) (sl + xl) i.size none, (H.set l.blk .dead).push (.cells (olds ++ news) true))
              | _ => none
            | none => none
        else none
      | _, _, _ => none
    | _, _ => none
  | _ => none

def copyA (E : Env) (H : Heap) (t : TypeId) (d s : V) : Option (V × Heap) :=
  match E.und t with
  | some (.slice e) => match E.size e with
    | some n => match d, s with
      | .slice da dl dsz _, .slice sa sl ssz _ =>
        if (da.isSome → dsz = n) ∧ (sa.isSome → ssz = n) then
          match da, sa with
          | some dp, some sp => if min sl dl = 0 then some (.int .i64 0, H) else
            match cellsAt H sp (min sl dl * n) with
            | some vs => match putCells H dp vs with
              | some H' => some (.int .i64 (min sl dl : Nat), H')
              | none => none
            | none => none
          | _, _ => some (.int .i64 0, H)
        else none
      | _, _ => none
    | none => none
  | _ => none

def clearA (E : Env) (H : Heap) (t : TypeId) (x : V) : Option Heap :=
  match E.und t, x with
  | some (.slice e), .slice a n esz _ => match E.zeros e with
    | some zs => if n = 0 then some H else
      match a with
      | some l => if esz = zs.length then putCells H l (zcells zs (n * zs.length)) else none
      | none => none
    | none => none
  | _, _ => none

def lenA (E : Env) (H : Heap) (t : TypeId) (x : V) : Option V :=
  match E.und t, x with
  | some .string, .str s => some (.int .i64 s.size)
  | some (.array n _), _ => some (.int .i64 n)
  | some (.slice _), .slice _ n _ _ => some (.int .i64 n)
  | some (.map _ _), .map none => some (.int .i64 0)
  | some (.map _ _), .map (some b) => match H.get b with
    | some (.map es) => some (.int .i64 es.length)
    | _ => none
  | _, _ => none

def minA : V → V → Option V
  | .int k x, .int _ y => some (.int k (if y < x then y else x))
  | _, _ => none
def maxA : V → V → Option V
  | .int k x, .int _ y => some (.int k (if y > x then y else x))
  | _, _ => none
def foldO (f : V → V → Option V) : V → List V → Option V
  | x, [] => some x
  | x, y :: ys => match f x y with
    | some z => foldO f z ys
    | none => none

/-- Fields that are numbers, one cell each, in their places. -/
def flatI (E : Env) : List Field → List V → Nat → Bool
  | [], [], _ => true
  | f :: fs, .int k _ :: cs, i => f.name != "_" && f.offset == i && (match E.und f.type with | some (.int kd) => k == kd | _ => false) && flatI E fs cs (i + 1)
  | _, _, _ => false

/-- A key that may be asked for. -/
def keyOk (E : Env) (t : TypeId) (k : V) : Bool :=
  match E.und t, k with
  | some (.int kd), .int k _ => k == kd
  | some .string, .str _ => true
  | some (.struct fs), .agg cs => E.safe t && flatI E fs.toList cs 0
  | _, _ => false

def sameIs : List V → List V → Bool
  | [], [] => true
  | .int k a :: xs, .int k' b :: ys => k == k' && a == b && sameIs xs ys
  | _, _ => false

def sameV : V → V → Bool
  | .int k a, .int k' b => k == k' && a == b
  | .str a, .str b => a.toList == b.toList
  | .agg xs, .agg ys => sameIs xs ys
  | _, _ => false

def findA (k : V) : List (V × V) → Nat → Option (Nat × V)
  | [], _ => none
  | (a, x) :: es, i => if sameV k a then some (i, x) else findA k es (i + 1)

def lookupA (E : Env) (H : Heap) (t : TypeId) (m k : V) (ok : Bool) : Option V :=
  match E.und t with
  | some (.map kt e) => if keyOk E kt k then
      match (match m with
        | .map none => some []
        | .map (some b) => match H.get b with
          | some (.map es) => some es
          | _ => none
        | _ => none : Option (List (V × V))) with
      | some es => if es.all (fun p => keyOk E kt p.1) then
          match findA k es 0 with
          | some (_, v) => some (if ok then .tup [v, .bool true] else v)
          | none => match E.zero e with
            | some z => some (if ok then .tup [z, .bool false] else z)
            | none => none
        else none
      | none => none
    else none
  | _ => none

def mapUpdateA (E : Env) (H : Heap) (t : TypeId) (m k x : V) : Option Heap :=
  match E.und t, m with
  | some (.map kt _), .map (some b) => if keyOk E kt k then
      match H.get b with
      | some (.map es) => if es.all (fun p => keyOk E kt p.1) then
          match findA k es 0 with
          | some (i, _) => some (H.set b (.map (es.set i (k, x))))
          | none => some (H.set b (.map (es ++ [(k, x)])))
        else none
      | _ => none
    else none
  | _, _ => none

def okVal (H : Heap) (o : Option V) : Option Res := Option.rec (motive := fun _ => Heap → Option Res) (fun _ => none) (fun v H => some (.val v H)) o H
@[simp] theorem okVal_none (H : Heap) : okVal H none = none := rfl
@[simp] theorem okVal_some (H : Heap) (v : V) : okVal H (some v) = some (.val v H) := rfl
/-- A heap is laid bare before it is handed on. -/
def heapK {β : Type} (H : Heap) : (Heap → β) → β := Heap.rec (motive := fun _ => (Heap → β) → β) (fun size tr low k => k ⟨size, tr, low⟩) H
@[simp] theorem heapK_eq {β : Type} (H : Heap) (k : Heap → β) : heapK H k = k H := rfl
def okPair : Option (V × Heap) → Option Res
  | some (v, H) => heapK H fun H => some (.val v H)
  | none => none
def okSkip : Option Heap → Option Res
  | some H => heapK H fun H => some (.skip H)
  | none => none
def okClear : Option Heap → Option Res
  | some H => heapK H fun H => some (.val (.tup []) H)
  | none => none

def builtinA (E : Env) (H : Heap) (b : Builtin) (ts : List TypeId) (args : List V) : Option Res :=
  match b, ts, args with
  | .len, [t], [x] => (lenA E H t x).map fun v => .val v H
  | .append, [t, u], [s, x] => if t = u then okPair (appendA E H t s x) else none
  | .copy, t :: _, [d, s] => okPair (copyA E H t d s)
  | .clear, [t], [x] => okClear (clearA E H t x)
  | .min, _, x :: xs => (foldO minA x xs).map fun v => .val v H
  | .max, _, x :: xs => (foldO maxA x xs).map fun v => .val v H
  | _, _, _ => none

def opPick (H : Heap) (c a b : V) : Option Res :=
  match c with
  | .bool c => some (.val (if c then a else b) H)
  | _ => none
def opAlloc (H : Heap) : Option (List V) → Option Res
  | some zs => heapK (newA H zs).2 fun H' => some (.val (newA H zs).1 H')
  | none => none
def opNil (H : Heap) (x : V) : Option Res :=
  match x with
  | .ptr (some l) => some (.val (.ptr (some l)) H)
  | .func f a c => some (.val (.func f a c) H)
  | _ => none
def opFunc (H : Heap) (ev : Operand → V) (fn : Fn) (first cap : List Operand) : Option Res :=
  match fn with
  | .func f => some (.val (.func f (first.map ev) (cap.map ev)) H)
  | _ => none
def opMap (H : Heap) : Option Operand → Option Res
  | none => heapK (H.push (.map [])) fun H' => some (.val (.map (some H.size)) H')
  | some _ => none
def opExtract (H : Heap) (x : V) (i : Nat) : Option Res :=
  match x with
  | .tup vs => okVal H vs[i]?
  | _ => none
def opCall (E : Env) (H : Heap) (ev : Operand → V) (callee : Callee) (args : List Operand) (ts : List TypeId) : Option Res :=
  match callee with
  | .value g => some (.call (ev g) (args.map ev))
  | .builtin b => builtinA E H b ts (args.map ev)
  | .invoke _ _ => none

/-- What an operation does; the operation first, so that nothing else stands in the branches. -/
def opT (op : Op) : Env → Heap → (Operand → V) → Option Res :=
  match op with
  | .move x => fun _ H ev => some (.val (ev x) H)
  | .assign x => fun _ H ev => some (.val (ev x) H)
  | .pick c a b => fun _ H ev => opPick H (ev c) (ev a) (ev b)
  | .alloc t => fun E H _ => opAlloc H (E.zeros t)
  | .box _ x => fun _ H ev => opAlloc H (ev x).cells?
  | .build t ps => fun E H ev => okVal H (buildA E t (ps.toList.map fun p => (p.1, ev p.2)))
  | .buildSlice t n ps => fun E H ev => okPair (buildSliceA E H t n (ps.toList.map fun p => (p.1, ev p.2)))
  | .load t a => fun E H ev => okVal H (loadA E H t (ev a))
  | .store t a x => fun E H ev => okSkip (storeA E H t (ev a) (ev x))
  | .nilCheck x => fun _ H ev => opNil H (ev x)
  | .binOp op t x y _ => fun E H ev => okVal H (binA E op t (ev x) (ev y))
  | .unOp op _ x => fun _ H ev => okVal H (unA op (ev x))
  | .convert s d x => fun E H ev => okVal H (convA E s d (ev x))
  | .makeFunc fn first cap => fun _ H ev => opFunc H ev fn first.toList cap.toList
  | .makeMap _ r => fun _ H _ => opMap H r
  | .makeSlice t l c => fun E H ev => okPair (makeSliceA E H t (ev l) (ev c))
  | .slice t x lo hi mx => fun E H ev => okVal H (sliceA E H t (ev x) (lo.map ev) (hi.map ev) (mx.map ev))
  | .fieldAddr t x i => fun E H ev => okVal H (fieldAddrA E t (ev x) i)
  | .field t x i => fun E H ev => okVal H (fieldA E t (ev x) i)
  | .indexAddr t x i => fun E H ev => okVal H (indexAddrA E t (ev x) (ev i))
  | .index t x i => fun E H ev => okVal H (indexA E t (ev x) (ev i))
  | .lookup t m k ok => fun E H ev => okVal H (lookupA E H t (ev m) (ev k) ok)
  | .mapUpdate t m k x => fun E H ev => okSkip (mapUpdateA E H t (ev m) (ev k) (ev x))
  | .extract x i => fun _ H ev => opExtract H (ev x) i
  | .call c => fun E H ev => opCall E H ev c.callee c.args.toList c.argTypes.toList
  | _ => fun _ _ _ => none

def opA (E : Env) (H : Heap) (ev : Operand → V) (op : Op) : Option Res := opT op E H ev

end
end Go.Am
