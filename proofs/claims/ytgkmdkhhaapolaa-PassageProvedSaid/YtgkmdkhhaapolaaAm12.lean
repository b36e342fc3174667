/-
  THE ABSTRACT MACHINE, 12: it runs: frames are trees, one rule a step.
-/
import Derived.Test.YtgkmdkhhaapolaaAm11
namespace Go.Am
noncomputable section

/-! Numbers, values and heaps are laid bare before they are handed on. The alternatives are closed terms: what stands outside is handed to them. -/
def intPos {β : Type} (m : Nat) (k : Int → β) : β := natK m fun m => k (.ofNat m)
def intNeg {β : Type} (m : Nat) (k : Int → β) : β := natK m fun m => k (.negSucc m)
def intK {β : Type} (n : Int) : (Int → β) → β := Int.rec (motive := fun _ => (Int → β) → β) intPos intNeg n
def locMk {β : Type} (b o : Nat) (k : Loc → β) : β := natK b fun b => natK o fun o => k ⟨b, o⟩
def locK {β : Type} (l : Loc) : (Loc → β) → β := Loc.rec (motive := fun _ => (Loc → β) → β) locMk l
def optK {α β : Type} (f : α → (α → β) → β) (o : Option α) : (Option α → β) → β := Option.rec (motive := fun _ => (α → (α → β) → β) → (Option α → β) → β) (fun _ k => k none) (fun a f k => f a fun a => k (some a)) o f
def listK {α β : Type} (f : α → (α → β) → β) (l : List α) : (List α → β) → β :=
  List.rec (motive := fun _ => (α → (α → β) → β) → (List α → β) → β) (fun _ k => k []) (fun a _ ih f k => f a fun a => ih f fun l => k (a :: l)) l f
def boolV {β : Type} (b : Bool) : (V → β) → β := Bool.rec (motive := fun _ => (V → β) → β) (fun k => k (.bool false)) (fun k => k (.bool true)) b
def intV {β : Type} (kd : IntKind) (n : Int) (k : V → β) : β := intK n fun n => k (.int kd n)
def ptrV {β : Type} (a : Option Loc) (k : V → β) : β := optK locK a fun a => k (.ptr a)
def sliceV {β : Type} (a : Option Loc) (len esz : Nat) (cap : Option Nat) (k : V → β) : β := optK locK a fun a => natK len fun len => natK esz fun esz => optK natK cap fun cap => k (.slice a len esz cap)
def mapV {β : Type} (r : Option Nat) (k : V → β) : β := optK natK r fun r => k (.map r)
def yldV {β : Type} (l : Nat) (k : V → β) : β := natK l fun l => k (.yld l)
/-- A value that is no aggregate. -/
def atomK {β : Type} (v : V) : (V → β) → β :=
  V.casesOn (motive_1 := fun _ => (V → β) → β) v (fun k => k .undef) boolV intV (fun s k => k (.str s)) ptrV sliceV mapV (fun f a c k => k (.func f a c)) yldV (fun k => k .nilFunc) (fun cs k => k (.agg cs)) (fun vs k => k (.tup vs))
def funcV {β : Type} (f : FuncId) (a c : List V) (k : V → β) : β := listK atomK a fun a => listK atomK c fun c => k (.func f a c)
def aggV {β : Type} (cs : List V) (k : V → β) : β := listK atomK cs fun cs => k (.agg cs)
def tupV {β : Type} (cs : List V) (k : V → β) : β := listK atomK cs fun cs => k (.tup cs)
def valK {β : Type} (v : V) : (V → β) → β :=
  V.casesOn (motive_1 := fun _ => (V → β) → β) v (fun k => k .undef) boolV intV (fun s k => k (.str s)) ptrV sliceV mapV funcV yldV (fun k => k .nilFunc) aggV tupV
/-- A frame at run: its slots. -/
abbrev TF := S2 V

def optD (o : Option V) : V := Option.rec .undef (fun v => v) o
def TF.get (f : TF) (i : Nat) : V := optD (S2.get (p2 i) f)
def TF.list (n : Nat) (f : TF) : List V := (List.range n).map (TF.get f)
/-- Slots from i on. -/
def argK {β : Type} (l : List V) : Nat → TF → (TF → β) → β :=
  List.rec (motive := fun _ => Nat → TF → (TF → β) → β) (fun _ t k => k t) (fun v _ ih i t k => S2.setK (p2 i) v t fun t => ih (Nat.succ i) t k) l
/-- A frame, the first slots l. -/
def TF.ofK {β : Type} (l : List V) (k : TF → β) : β := argK l 0 S2.empty k

def evTmp (t : Nat) (f : TF) : V := TF.get f t
def evConst (v : Value) (_ : TF) : V := (ofVal v).getD .undef
def evFunc (g : FuncId) (_ : TF) : V := .func g [] []
def evT (f : TF) (x : Operand) : V := Operand.casesOn (motive := fun _ => TF → V) x evTmp evConst (fun _ _ => .undef) evFunc f

def sameBool (v : V) : Bool → Option Bool :=
  match v with
  | .bool b => fun want => some (Bool.rec (notB want) want b)
  | _ => fun _ => none
def wantOf (ops : Array Oper) (g : Option (Nat × Bool)) : Option (Option (Tmp × Bool)) :=
  match g with
  | none => some none
  | some (j, want) => match (ops[j]?).bind (·.dst) with
    | some t => some (some (t, want))
    | none => none
/-! ### Drawn orders -/
/-- What an operation does to blocks: it reads some; it makes some out of values in which no block stands; it may do anything. -/
inductive Cd where
  | rd (rs : List Nat)
  | al
  | fu

/-- An operation that was done: its number, its ways, the heaps ahead of it and behind it. -/
structure Seen where
  i : Nat
  cd : Cd
  H : Heap
  H' : Heap

def ptrBlk (v : V) : List Nat :=
  match v with
  | .ptr (some l) => [l.blk]
  | _ => []
def mapBlk (v : V) : List Nat :=
  match v with
  | .map (some b) => [b]
  | _ => []
/-- The blocks that an operation reads, if it does no more than that. -/
def readsOf (op : Op) : (Operand → V) → Option (List Nat) :=
  match op with
  | .move _ | .assign _ | .pick _ _ _ | .build _ _ | .nilCheck _ | .binOp _ _ _ _ _ | .unOp _ _ _ | .convert _ _ _ | .makeFunc _ _ _ | .fieldAddr _ _ _ | .field _ _ _ | .indexAddr _ _ _ | .index _ _ _ | .extract _ _ => fun _ => some []
  | .load _ a => fun ev => some (ptrBlk (ev a))
  | .slice _ x _ _ _ => fun ev => some (ptrBlk (ev x))
  | .lookup _ m _ _ => fun ev => some (mapBlk (ev m))
  | .call c => match c.callee with
    | .builtin .len => match c.args.toList with
      | [x] => fun ev => some (mapBlk (ev x))
      | _ => fun _ => none
    | .builtin .min => fun _ => some []
    | .builtin .max => fun _ => some []
    | _ => fun _ => none
  | _ => fun _ => none
/-- Does an operation do no more than make blocks? -/
def makesOf (op : Op) : Bool :=
  match op with
  | .alloc _ | .box _ _ | .buildSlice _ _ _ | .makeMap _ _ | .makeSlice _ _ _ => true
  | _ => false
def noIdA : V → Bool
  | .undef | .bool _ | .int _ _ | .str _ | .nilFunc => true
  | .ptr none => true
  | .slice none _ _ _ => true
  | .map none => true
  | _ => false
def noId : V → Bool
  | .agg cs => cs.all noIdA
  | v => noIdA v
def ltAll (rs : List Nat) (n : Nat) : Bool := List.rec true (fun r _ ih => Bool.rec false ih (Nat.blt r n)) rs
def cdMake (b : Bool) (looks : List Tmp) (f : TF) : Cd := Bool.rec .fu (Bool.rec .fu .al (looks.all fun t => noId (TF.get f t))) b
def cdRead (o : Oper) (looks : List Tmp) (f : TF) (H : Heap) (rs : Option (List Nat)) : Cd :=
  match rs with
  | some rs => Bool.rec .fu (.rd rs) (ltAll rs H.size)
  | none => cdMake (makesOf o.op) looks f
def cdWant (o : Oper) (looks : List Tmp) (f : TF) (H : Heap) (b : Option Bool) : Cd :=
  match b with
  | some true => cdRead o looks f H (readsOf o.op (evT f))
  | some false => .rd []
  | none => .fu
def wantT (ops : Array Oper) (f : TF) (g : Option (Nat × Bool)) : Option Bool :=
  match wantOf ops g with
  | some none => some true
  | some (some (t, want)) => sameBool (TF.get f t) want
  | none => none
def cdOf (ops : Array Oper) (o : Oper) (f : TF) (H : Heap) : Cd := cdWant o (o.looksAt ops) f H (wantT ops f o.guard)

/-- The operations that are to be done ahead of each one, as the bits of a number. -/
def ancStep (acc : List Nat) (e : Edge) (m : Nat) : Nat := Bool.rec (motive := fun _ => Nat) m (Nat.lor m (Nat.lor (Nat.pow 2 e.on) ((nthL acc e.on).getD 0))) (Region.binds .any e)
def ancOf (o : Oper) (acc : List Nat) : Nat := o.after.toList.foldr (ancStep acc) 0
def ancsOf (os : List Oper) : List Nat := os.foldl (fun acc o => acc ++ [ancOf o acc]) []
def hasBit (m i : Nat) : Bool := Nat.beq (Nat.mod (Nat.div m (Nat.pow 2 i)) 2) 1
def befB (ancs : List Nat) (i j : Nat) : Bool := hasBit ((nthL ancs j).getD 0) i
def cmpB (ancs : List Nat) (i j : Nat) : Bool := Bool.rec (befB ancs j i) true (befB ancs i j)

def isCall (o : Oper) : Bool := Bool.rec true false (match readsOf o.op (fun _ => .undef) with | some _ => true | none => makesOf o.op)
/-- The next operation: one that is no call, if there is one. -/
def nextOp (os : List Oper) (ancs : List Nat) (done : Nat) (calls : Bool) : List Nat → Option Nat
  | [] => none
  | i :: is => match nthL os i with
    | some o => if (!(hasBit done i)) && Nat.beq (Nat.land ((nthL ancs i).getD 0) done) ((nthL ancs i).getD 0) && (calls || !(isCall o)) then some i else nextOp os ancs done calls is
    | none => none
def orderGo (os : List Oper) (ancs : List Nat) (all : List Nat) : Nat → Nat → List Nat
  | 0, _ => []
  | k + 1, done => match nextOp os ancs done false all with
    | some i => i :: orderGo os ancs all k (Nat.lor done (Nat.pow 2 i))
    | none => match nextOp os ancs done true all with
      | some i => i :: orderGo os ancs all k (Nat.lor done (Nat.pow 2 i))
      | none => []
def orderOf (os : List Oper) (ancs : List Nat) : List Nat := orderGo os ancs (List.range os.length) os.length 0

/-- Is the order one that fits; are two operations that meet at a slot joined by a path? -/
def idxOf (l : List Nat) (i : Nat) : Nat := match l with
  | [] => 0
  | a :: l => Bool.casesOn (Nat.beq a i) (Nat.succ (idxOf l i)) 0
def edgesOk (ord : List Nat) (n : Nat) (i : Nat) (o : Oper) : Bool := o.after.toList.all fun e => !(Region.binds .any e) || (Nat.blt e.on n && Nat.blt (idxOf ord e.on) (idxOf ord i))
def optEq (a : Option Tmp) (t : Tmp) : Bool := match a with
  | some d => Nat.beq d t
  | none => false
def meetOk (ancs : List Nat) (i k : Nat) (o' : Oper) (ts : List Tmp) : Bool :=
  match o'.dst with
  | some d => Nat.beq i k || !(ts.any fun t => Nat.beq t d) || cmpB ancs i k
  | none => true
def rowOk (os : List Oper) (ancs : List Nat) (i : Nat) (ts : List Tmp) : List Oper → Nat → Bool
  | [], _ => true
  | o' :: rest, k => meetOk ancs i k o' ts && rowOk os ancs i ts rest (k + 1)
def opsOk (ops : Array Oper) (ancs ord : List Nat) : List Oper → Nat → Bool
  | [], _ => true
  | o :: rest, i => edgesOk ord ops.size i o && rowOk ops.toList ancs i (o.dst.toList ++ o.looksAt ops) ops.toList 0 && opsOk ops ancs ord rest (i + 1)
def allIn (ord : List Nat) (n : Nat) : Bool := (List.range n).all fun p => match nthL ord p with
  | some i => Nat.blt i n && Nat.beq (idxOf ord i) p
  | none => false
def allAt (ord : List Nat) (n : Nat) : Bool := (List.range n).all fun i => match nthL ord (idxOf ord i) with
  | some j => Nat.beq j i && Nat.blt (idxOf ord i) n
  | none => false
/-- The order in which a region is to be run here. -/
def planOf (ops : Array Oper) : Option (List Nat × List Nat) :=
  match ancsOf ops.toList with
  | ancs => match orderOf ops.toList ancs with
    | ord => if Nat.beq ord.length ops.size && (allIn ord ops.size && (allAt ord ops.size && opsOk ops ancs ord ops.toList 0)) then some (ancs, ord) else none

/-- Are two objects the same for sure? -/
def sameA0 : V → V → Bool
  | .undef, .undef => true
  | .bool a, .bool b => a == b
  | .int k a, .int k' b => k == k' && eqF a b
  | .ptr none, .ptr none => true
  | .ptr (some a), .ptr (some b) => Nat.beq a.blk b.blk && Nat.beq a.off b.off
  | .slice none n e none, .slice none n' e' none => Nat.beq n n' && Nat.beq e e'
  | .slice (some a) n e c, .slice (some b) n' e' c' => Nat.beq a.blk b.blk && Nat.beq a.off b.off && Nat.beq n n' && Nat.beq e e' && (match c, c' with
    | none, none => true
    | some k, some k' => Nat.beq k k'
    | _, _ => false)
  | .map none, .map none => true
  | .map (some a), .map (some b) => Nat.beq a b
  | .yld a, .yld b => Nat.beq a b
  | .nilFunc, .nilFunc => true
  | _, _ => false
def sameAs0 : List V → List V → Bool
  | [], [] => true
  | a :: as, b :: bs => sameA0 a b && sameAs0 as bs
  | _, _ => false
def sameA : V → V → Bool
  | .func f a c, .func g a' c' => Nat.beq f g && (sameAs0 a a' && sameAs0 c c')
  | a, b => sameA0 a b
def sameAs : List V → List V → Bool
  | [], [] => true
  | a :: as, b :: bs => sameA a b && sameAs as bs
  | _, _ => false
def sameO : Option Obj → Option Obj → Bool
  | some (.cells a o), some (.cells b o') => sameAs a b && o == o'
  | none, none => true
  | some .dead, some .dead => true
  | _, _ => false

/-- r is none of what x made, and x left it as it was. -/
def clearOf (x : Seen) (r : Nat) : Bool := Nat.ble x.H'.size r || (Nat.blt r x.H.size && sameO (x.H.get r) (x.H'.get r))
def madeOf (x : Seen) : List Nat := (List.range (Nat.sub x.H'.size x.H.size)).map fun k => Nat.add x.H.size k
/-- x is later than y in the order of the run. -/
def pairOk (ancs : List Nat) (x y : Seen) : Bool :=
  match x.cd, y.cd with
  | .rd _, .rd _ => true
  | .al, .al => true
  | .rd rs, .al => cmpB ancs x.i y.i || rs.all fun r => Nat.ble y.H'.size r || Nat.blt r y.H.size
  | .al, .rd rs => cmpB ancs x.i y.i || rs.all fun r => Nat.ble x.H'.size r || Nat.blt r x.H.size
  | .rd rs, .fu => cmpB ancs x.i y.i || rs.all (clearOf y)
  | .fu, .rd rs => cmpB ancs x.i y.i || rs.all (clearOf x)
  | .fu, .al => cmpB ancs x.i y.i || (madeOf y).all fun b => sameO (x.H.get b) (x.H'.get b)
  | _, _ => cmpB ancs x.i y.i
def newOk (ancs : List Nat) (x : Seen) (seen : List Seen) : Bool := List.rec true (fun y _ ih => Bool.rec false ih (pairOk ancs x y)) seen

/-- What is to be done; n: the size of the frame. -/
inductive Task where
  | code (R : Option Nat) (n : Nat) (c : Code) (f : TF)
  | loop (R : Option Nat) (n : Nat) (c : Code) (f : TF)
  | ops (n : Nat) (ops : Array Oper) (os : List Oper) (f : TF)
  | draw (n : Nat) (ops : Array Oper) (ancs : List Nat) (todo : List Nat) (seen : List Seen) (f : TF)
  | call (g : V) (args : List V)
  | fn (fid : FuncId) (args : List V)

inductive Out where
  | code (e : Ex) (f : TF) (H : Heap)
  | val (v : V) (H : Heap)
  | fail

abbrev Rec := Task → Heap → Out

def thenEx (e : Ex) (f : TF) (H : Heap) : Rec → Option Nat → Nat → Code → Out :=
  match e with
  | .normal => fun rec R n b => rec (.code R n b f) H
  | e => fun _ _ _ _ => .code e f H
def thenCode (o : Out) : Rec → Option Nat → Nat → Code → Out :=
  match o with
  | .code e f H => thenEx e f H
  | o => fun _ _ _ _ => o
def branchB (t : Bool) : Rec → Option Nat → Nat → Code → Code → TF → Heap → Out :=
  Bool.rec (motive := fun _ => Rec → Option Nat → Nat → Code → Code → TF → Heap → Out) (fun rec R n _ b f H => rec (.code R n b f) H) (fun rec R n a _ f H => rec (.code R n a f) H) t
def branch (v : V) : Rec → Option Nat → Nat → Code → Code → TF → Heap → Out :=
  match v with
  | .bool t => branchB t
  | _ => fun _ _ _ _ _ _ _ => .fail
def unblockE (e : Ex) : Nat → TF → Heap → Out :=
  match e with
  | .exit id' => fun id f H => Bool.casesOn (Nat.beq id' id) (.code (.exit id') f H) (.code .normal f H)
  | e => fun _ f H => .code e f H
def unblock (o : Out) : Nat → Out :=
  match o with
  | .code e f H => fun id => unblockE e id f H
  | o => fun _ => o
def rangeEnd (f : TF) (l : Nat) (H : Heap) (L : LoopA) : Out :=
  match L.state with
  | .busy => .fail
  | _ => match jumpEx L.pending with
    | some e => heapK (H.set l (.loop { L with state := .exhausted })) fun H => .code e f H
    | none => .fail
def rangeBack (f : TF) (l : Nat) : Out → Out
  | .val _ H => match H.get l with
    | some (.loop L) => rangeEnd f l H L
    | _ => .fail
  | _ => .fail
def rangeA (rec : Rec) (R : Option Nat) (n : Nat) (f : TF) (H : Heap) (ps : List Tmp) (assign body : Code) : V → Out
  | .func gf first cap =>
    match (match R with | none => true | some l => match H.get l with | some (.loop _) => true | _ => false) with
    | true => heapK (H.push (.loop { state := .ready, pending := none, tmps := TF.list n f, params := ps, assign, body })) fun H' => rangeBack f H.size (rec (.fn gf (first ++ [.yld H.size] ++ cap)) H')
    | false => .fail
  | _ => .fail
def drawP (ops : Array Oper) (p : Option (List Nat × List Nat)) : Rec → Nat → TF → Heap → Out :=
  match p with
  | some (ancs, ord) => fun rec n f H => rec (.draw n ops ancs ord [] f) H
  | none => fun _ _ _ _ => .fail
def regionB (ops : Array Oper) (d : Bool) : Rec → Nat → TF → Heap → Out := Bool.rec (motive := fun _ => Rec → Nat → TF → Heap → Out) (fun rec n f H => rec (.ops n ops ops.toList f) H) (drawP ops (planOf ops)) d
def stepC (c : Code) : Rec → Option Nat → Nat → TF → Heap → Out :=
  match c with
  | .skip => fun _ _ _ f H => .code .normal f H
  | .label _ => fun _ _ _ f H => .code .normal f H
  | .region _ ops d => fun rec _ n f H => regionB ops d rec n f H
  | .seq a b => fun rec R n f H => thenCode (rec (.code R n a f) H) rec R n b
  | .cond c a b => fun rec R n f H => branch (evT f c) rec R n a b f H
  | .block id b => fun rec R n f H => unblock (rec (.code R n b f) H) id
  | .loop b => fun rec R n f H => rec (.loop R n b f) H
  | .scope b => fun rec R n f H => rec (.code R n b f) H
  | .exit id => fun _ _ _ f H => .code (.exit id) f H
  | .ret => fun _ _ _ f H => .code .ret f H
  | .rangeFunc g ps assign body => fun rec R n f H => rangeA rec R n f H ps.toList assign body (evT f g)
  | _ => fun _ _ _ _ _ => .fail
def loopEx (e : Ex) (f : TF) (H : Heap) : Rec → Option Nat → Nat → Code → Out :=
  match e with
  | .normal => fun rec R n c => rec (.loop R n c f) H
  | e => fun _ _ _ _ => .code e f H
def stepL (o : Out) : Rec → Option Nat → Nat → Code → Out :=
  match o with
  | .code e f H => loopEx e f H
  | o => fun _ _ _ _ => o
/-- The next operations, with a slot written. -/
def putIn (d : Nat) (v : V) (rec : Rec) (n : Nat) (ops : Array Oper) (os : List Oper) (f : TF) (H : Heap) : Out := S2.setK (p2 d) v f fun f => rec (.ops n ops os f) H
def putOut (_ : Nat) (_ : V) (rec : Rec) (n : Nat) (ops : Array Oper) (os : List Oper) (f : TF) (H : Heap) : Out := rec (.ops n ops os f) H
def putB (b : Bool) : Nat → V → Rec → Nat → Array Oper → List Oper → TF → Heap → Out :=
  Bool.rec (motive := fun _ => Nat → V → Rec → Nat → Array Oper → List Oper → TF → Heap → Out) putOut putIn b
def putD (d : Nat) (v : V) (rec : Rec) (n : Nat) : Array Oper → List Oper → TF → Heap → Out := putB (Nat.blt d n) d v rec n
def putK (dst : Option Tmp) : V → Rec → Nat → Array Oper → List Oper → TF → Heap → Out :=
  Option.rec (motive := fun _ => V → Rec → Nat → Array Oper → List Oper → TF → Heap → Out) (fun _ rec n ops os f H => rec (.ops n ops os f) H) putD dst
def gotVal (o : Out) : Option Tmp → Rec → Nat → Array Oper → List Oper → TF → Out :=
  match o with
  | .val v H => fun dst rec n ops os f => valK v fun v => putK dst v rec n ops os f H
  | _ => fun _ _ _ _ _ _ => .fail
abbrev ResK := Option Tmp → Rec → Nat → Array Oper → List Oper → TF → Heap → Out
def resVal (v : V) (H : Heap) (dst : Option Tmp) (rec : Rec) (n : Nat) (ops : Array Oper) (os : List Oper) (f : TF) (_ : Heap) : Out := valK v fun v => putK dst v rec n ops os f H
def resSkip (H : Heap) (dst : Option Tmp) (rec : Rec) (n : Nat) (ops : Array Oper) (os : List Oper) (f : TF) (_ : Heap) : Out := putK dst .undef rec n ops os f H
def resCall (g : V) (args : List V) (dst : Option Tmp) (rec : Rec) (n : Nat) (ops : Array Oper) (os : List Oper) (f : TF) (H : Heap) : Out := gotVal (listK valK args fun args => rec (.call g args) H) dst rec n ops os f
def resSome (r : Res) : ResK := Res.rec (motive := fun _ => ResK) resVal resSkip resCall r
def resNone : ResK := fun _ _ _ _ _ _ _ => .fail
def doRes (r : Option Res) : ResK := Option.rec (motive := fun _ => ResK) resNone resSome r
def doIt (E : Env) (rec : Rec) (n : Nat) (ops : Array Oper) (os : List Oper) (f : TF) (H : Heap) (o : Oper) : Out := doRes (opT o.op E H (evT f)) o.dst rec n ops os f H
def doNot (_ : Env) (rec : Rec) (n : Nat) (ops : Array Oper) (os : List Oper) (f : TF) (H : Heap) (o : Oper) : Out := putK o.dst .undef rec n ops os f H
def doB (b : Bool) : Env → Rec → Nat → Array Oper → List Oper → TF → Heap → Oper → Out := Bool.rec (motive := fun _ => Env → Rec → Nat → Array Oper → List Oper → TF → Heap → Oper → Out) doNot doIt b
def doFail : Env → Rec → Nat → Array Oper → List Oper → TF → Heap → Oper → Out := fun _ _ _ _ _ _ _ _ => .fail
def doOB (b : Option Bool) : Env → Rec → Nat → Array Oper → List Oper → TF → Heap → Oper → Out := Option.rec (motive := fun _ => Env → Rec → Nat → Array Oper → List Oper → TF → Heap → Oper → Out) doFail doB b
def doWant (p : Tmp × Bool) (E : Env) (rec : Rec) (n : Nat) (ops : Array Oper) (os : List Oper) (f : TF) (H : Heap) (o : Oper) : Out := doOB (sameBool (TF.get f p.1) p.2) E rec n ops os f H o
def doSome (g : Option (Tmp × Bool)) : Env → Rec → Nat → Array Oper → List Oper → TF → Heap → Oper → Out := Option.rec (motive := fun _ => Env → Rec → Nat → Array Oper → List Oper → TF → Heap → Oper → Out) doIt doWant g
/-- An operation, if its guard is as it has to be. -/
def doOp (g : Option (Option (Tmp × Bool))) : Env → Rec → Nat → Array Oper → List Oper → TF → Heap → Oper → Out :=
  Option.rec (motive := fun _ => Env → Rec → Nat → Array Oper → List Oper → TF → Heap → Oper → Out) doFail doSome g
def stepNil (_ : Env) (_ : Rec) (_ : Nat) (_ : Array Oper) (f : TF) (H : Heap) : Out := .code .normal f H
def stepCons (o : Oper) (os : List Oper) (_ : Env → Rec → Nat → Array Oper → TF → Heap → Out) (E : Env) (rec : Rec) (n : Nat) (ops : Array Oper) (f : TF) (H : Heap) : Out := doOp (wantOf ops o.guard) E rec n ops os f H o
def stepO (os : List Oper) : Env → Rec → Nat → Array Oper → TF → Heap → Out := List.rec (motive := fun _ => Env → Rec → Nat → Array Oper → TF → Heap → Out) stepNil stepCons os
def seenNext (ok : Bool) (rec : Rec) (n : Nat) (ops : Array Oper) (ancs : List Nat) (is : List Nat) (x : Seen) (seen : List Seen) (f : TF) (H : Heap) : Out := Bool.rec .fail (rec (.draw n ops ancs is (x :: seen) f) H) ok
def cdK {β : Type} (c : Cd) : (Cd → β) → β :=
  match c with
  | .rd rs => fun k => listK natK rs fun rs => k (.rd rs)
  | .al => fun k => k .al
  | .fu => fun k => k .fu
def drawDid (o : Out) : Rec → Nat → Array Oper → List Nat → Nat → List Nat → Cd → List Seen → Heap → Out :=
  match o with
  | .code .normal f' H' => fun rec n ops ancs i is cd seen H => seenNext (Nat.ble H.size H'.size && newOk ancs ⟨i, cd, H, H'⟩ seen) rec n ops ancs is ⟨i, cd, H, H'⟩ seen f' H'
  | _ => fun _ _ _ _ _ _ _ _ _ => .fail
def drawOp (o : Option Oper) : Rec → Nat → Array Oper → List Nat → Nat → List Nat → List Seen → TF → Heap → Out :=
  match o with
  | some o => fun rec n ops ancs i is seen f H => cdK (cdOf ops o f H) fun cd => drawDid (rec (.ops n ops [o] f) H) rec n ops ancs i is cd seen H
  | none => fun _ _ _ _ _ _ _ _ _ => .fail
def stepD (todo : List Nat) : Rec → Nat → Array Oper → List Nat → List Seen → TF → Heap → Out :=
  match todo with
  | [] => fun _ _ _ _ _ f H => .code .normal f H
  | i :: is => fun rec n ops ancs seen f H => drawOp (nthL ops.toList i) rec n ops ancs i is seen f H
def roundEnd (l : Nat) : Out → Out
  | .code e _ H => match H.get l with
    | some (.loop L) => heapK (H.set l (.loop { L with state := if e = .normal then .ready else .done, pending := e.jump })) fun H => .val (.bool (decide (e = .normal))) H
    | _ => .fail
  | _ => .fail
def roundBody (rec : Rec) (n : Nat) (l : Nat) (body : Code) : Out → Out
  | .code .normal f H => match H.get l with
    | some (.loop L) => match L.state with
      | .ready => roundEnd l (heapK (H.set l (.loop { L with state := .busy })) fun H => rec (.code (some l) n body f) H)
      | _ => .fail
    | _ => .fail
  | _ => .fail
def stepG (g : V) : Rec → List V → Heap → Out :=
  match g with
  | .func fid first cap => fun rec args H => rec (.fn fid (first ++ args ++ cap)) H
  | .yld l => fun rec args H => match H.get l with
    | some (.loop L) => Bool.casesOn (Nat.beq args.length L.params.length) .fail (roundBody rec L.tmps.length l L.body (TF.ofK (zipPut L.params args L.tmps) fun f => rec (.code (some l) L.tmps.length L.assign f) H))
    | _ => .fail
  | _ => fun _ _ _ => .fail
def outVal (H : Heap) : Option V → Out
  | some v => valK v fun v => .val v H
  | none => .fail
def resOneT (E : Env) (H : Heap) (f : TF) (r : ResultVar) : Option V :=
  match r with
  | .tmp t => some (TF.get f t)
  | .cell a t => loadA E H t (TF.get f a)
def oneOf (vs : List V) : V :=
  match vs with
  | [v] => v
  | vs => .tup vs
def resT (E : Env) (H : Heap) (f : TF) (rs : List ResultVar) : Option V := (mapO (resOneT E H f) rs).map oneOf
def fnEnd (o : Out) : Env → List ResultVar → Out :=
  match o with
  | .code (.exit _) _ _ => fun _ _ => .fail
  | .code _ f H => fun E rs => outVal H (resT E H f rs)
  | _ => fun _ _ => .fail
def stepB (c : Option Code) : Env → Rec → List V → Heap → Nat → List ResultVar → Out :=
  match c with
  | some c => fun E rec args H n rs => fnEnd (Bool.rec .fail (TF.ofK args fun f => rec (.code none n c f) H) (Nat.ble args.length n)) E rs
  | none => fun _ _ _ _ _ _ => .fail
def stepF (fn : Option Func) : Env → Rec → List V → Heap → Out :=
  match fn with
  | some fn => fun E rec args H => stepB fn.body E rec args H fn.ntmps fn.results.toList
  | none => fun _ _ _ _ => .fail
def taskCode (R : Option Nat) (n : Nat) (c : Code) (f : TF) (_ : Env) (rec : Rec) (H : Heap) : Out := stepC c rec R n f H
def taskLoop (R : Option Nat) (n : Nat) (c : Code) (f : TF) (_ : Env) (rec : Rec) (H : Heap) : Out := stepL (rec (.code R n c f) H) rec R n c
def taskOps (n : Nat) (ops : Array Oper) (os : List Oper) (f : TF) (E : Env) (rec : Rec) (H : Heap) : Out := stepO os E rec n ops f H
def taskDraw (n : Nat) (ops : Array Oper) (ancs : List Nat) (todo : List Nat) (seen : List Seen) (f : TF) (_ : Env) (rec : Rec) (H : Heap) : Out := stepD todo rec n ops ancs seen f H
def taskCall (g : V) (args : List V) (_ : Env) (rec : Rec) (H : Heap) : Out := stepG g rec args H
def taskFn (fid : FuncId) (args : List V) (E : Env) (rec : Rec) (H : Heap) : Out := stepF (E.body fid) E rec args H
def stepT (t : Task) : Env → Rec → Heap → Out := Task.rec (motive := fun _ => Env → Rec → Heap → Out) taskCode taskLoop taskOps taskDraw taskCall taskFn t

def run (E : Env) (n : Nat) : Task → Heap → Out :=
  Nat.rec (motive := fun _ => Task → Heap → Out) (fun _ _ => .fail) (fun _ rec t H => stepT t E rec H) n

def Heap.empty : Heap := { size := 0, tr := S3.empty, low := 0 }

def isTrue : Out → Bool
  | .val (.bool true) _ => true
  | _ => false

end
end Go.Am
