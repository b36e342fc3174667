/-
  THE ABSTRACT MACHINE, 1: values, objects, heap, and how they stand for the model's.
  A run of the abstract machine has no tape, no capacities and no block numbers of the model's: what it shows holds in every world that it stands for.
-/
import Derived.RangeFuncLeaves
import Derived.OrdersIn
import Derived.Laws.Sem
import Derived.KernelRfl
namespace Go.Am

/-- A place: a block of the abstract heap, a cell of it. -/
structure Loc where
  blk : Nat
  off : Nat
  deriving DecidableEq, Inhabited

inductive V where
  | undef
  | bool (b : Bool)
  | int (k : IntKind) (n : Int)
  | str (s : ByteArray)
  | ptr (a : Option Loc)
  | slice (a : Option Loc) (len esz : Nat) (cap : Option Nat)
  | map (r : Option Nat)
  | func (f : FuncId) (first cap : List V)
  | yld (l : Nat)
  | nilFunc
  | agg (cs : List V)
  | tup (vs : List V)
  deriving Inhabited

structure LoopA where
  state : LoopState
  pending : Option Code
  tmps : List V
  params : List Tmp
  assign : Code
  body : Code

inductive Obj where
  | cells (cs : List V) (own : Bool)
  | map (es : List (V × V))
  | loop (l : LoopA)
  | dead

/-! ### The heap: a tree over the bits of a block's number -/
inductive Tree (α : Type) where
  | nil
  | node (l : Tree α) (o : Option α) (r : Tree α)

/-- The way to a node. -/
inductive Pth where
  | e
  | l (p : Pth)
  | r (p : Pth)

noncomputable def pthOdd (k : Nat) (ih : Nat → Pth) : Pth := .r (ih (Nat.div k 2))
noncomputable def pthEven (k : Nat) (ih : Nat → Pth) : Pth := .l (ih (Nat.div k 2))
noncomputable def pthStep (ih : Nat → Pth) (k : Nat) : Pth :=
  Nat.rec (motive := fun _ => (Nat → Pth) → Pth) (fun _ => .e) (fun k _ => Bool.rec (motive := fun _ => (Nat → Pth) → Pth) (pthOdd k) (pthEven k) (Nat.beq (Nat.mod k 2) 0)) k ih
noncomputable def pthF (n : Nat) : Nat → Pth := Nat.rec (motive := fun _ => Nat → Pth) (fun _ => .e) (fun _ ih => pthStep ih) n
noncomputable def pth (k : Nat) : Pth := pthF (Nat.succ k) k

theorem pthF_zero (n : Nat) : pthF (n + 1) 0 = .e := rfl
theorem pthF_succ (n k : Nat) : pthF (n + 1) (k + 1) = if k % 2 = 0 then .l (pthF n (k / 2)) else .r (pthF n (k / 2)) := by
  show Bool.rec (motive := fun _ => (Nat → Pth) → Pth) (pthOdd k) (pthEven k) (Nat.beq (Nat.mod k 2) 0) (pthF n) = _
  by_cases h : k % 2 = 0
  · have : Nat.beq (Nat.mod k 2) 0 = true := by show Nat.beq (k % 2) 0 = true; rw [h]; rfl
    rw [this, if_pos h]; rfl
  · have : Nat.beq (Nat.mod k 2) 0 = false := by
      show Nat.beq (k % 2) 0 = false
      cases e : Nat.beq (k % 2) 0 with
      | false => rfl
      | true => exact absurd (Nat.eq_of_beq_eq_true e) h
    rw [this, if_neg h]; rfl
theorem pthF_fuel : ∀ (n m k : Nat), k < n → k < m → pthF n k = pthF m k
  | 0, _, _, h, _ => by omega
  | _, 0, _, _, h => by omega
  | n + 1, m + 1, 0, _, _ => by rw [pthF_zero, pthF_zero]
  | n + 1, m + 1, k + 1, h1, h2 => by rw [pthF_succ, pthF_succ, pthF_fuel n m (k / 2) (by omega) (by omega)]
theorem pth_zero : pth 0 = .e := rfl
theorem pth_succ (k : Nat) : pth (k + 1) = if k % 2 = 0 then .l (pth (k / 2)) else .r (pth (k / 2)) := by
  show pthF (k + 1 + 1) (k + 1) = _
  rw [pthF_succ, pthF_fuel (k + 1) (k / 2 + 1) (k / 2) (by omega) (by omega)]; rfl
theorem pth_inj : ∀ (j k : Nat), pth j = pth k → j = k := by
  intro j
  induction j using Nat.strongRecOn with
  | _ j ih =>
    intro k h
    cases j with
    | zero => cases k with
      | zero => rfl
      | succ k => rw [pth_zero, pth_succ] at h; split at h <;> cases h
    | succ j => cases k with
      | zero => rw [pth_zero, pth_succ] at h; split at h <;> cases h
      | succ k =>
        rw [pth_succ, pth_succ] at h
        split at h <;> split at h
        · have := ih (j / 2) (by omega) (k / 2) (by injection h); omega
        · cases h
        · cases h
        · have := ih (j / 2) (by omega) (k / 2) (by injection h); omega

noncomputable def Tree.here {α : Type} (t : Tree α) : Option α := Tree.rec none (fun _ o _ _ _ => o) t
noncomputable def Tree.goL {α β : Type} (ih : Tree α → β) (t : Tree α) : β := Tree.rec (motive := fun _ => (Tree α → β) → β) (fun ih => ih .nil) (fun l _ _ _ _ ih => ih l) t ih
noncomputable def Tree.goR {α β : Type} (ih : Tree α → β) (t : Tree α) : β := Tree.rec (motive := fun _ => (Tree α → β) → β) (fun ih => ih .nil) (fun _ _ r _ _ ih => ih r) t ih
noncomputable def Tree.getP {α : Type} (p : Pth) : Tree α → Option α :=
  Pth.rec (motive := fun _ => Tree α → Option α) Tree.here (fun _ ih => Tree.goL ih) (fun _ ih => Tree.goR ih) p
noncomputable def Tree.get {α : Type} (t : Tree α) (k : Nat) : Option α := Tree.getP (pth k) t

theorem Tree.getP_nil {α : Type} : ∀ p : Pth, (Tree.nil : Tree α).getP p = none
  | .e => rfl
  | .l p => Tree.getP_nil p
  | .r p => Tree.getP_nil p
@[simp] theorem Tree.get_nil {α : Type} (k : Nat) : (Tree.nil : Tree α).get k = none := Tree.getP_nil _
@[simp] theorem Tree.get_node_zero {α : Type} (l r : Tree α) (o : Option α) : (Tree.node l o r).get 0 = o := rfl
theorem Tree.get_node_succ {α : Type} (l r : Tree α) (o : Option α) (k : Nat) : (Tree.node l o r).get (k + 1) = if k % 2 = 0 then l.get (k / 2) else r.get (k / 2) := by
  unfold Tree.get
  rw [pth_succ]
  split <;> rfl

/-- A node with a tree in front; the tree's own node is laid bare first. -/
noncomputable def Tree.nodeL {α : Type} (t : Tree α) : Option α → Tree α → Tree α :=
  Tree.rec (motive := fun _ => Option α → Tree α → Tree α) (fun o r => .node .nil o r) (fun a b c _ _ o r => .node (.node a b c) o r) t
noncomputable def Tree.nodeR {α : Type} (t : Tree α) : Tree α → Option α → Tree α :=
  Tree.rec (motive := fun _ => Tree α → Option α → Tree α) (fun l o => .node l o .nil) (fun a b c _ _ l o => .node l o (.node a b c)) t
theorem Tree.nodeL_eq {α : Type} (o : Option α) (r t : Tree α) : Tree.nodeL t o r = .node t o r := by cases t <;> rfl
theorem Tree.nodeR_eq {α : Type} (l : Tree α) (o : Option α) (t : Tree α) : Tree.nodeR t l o = .node l o t := by cases t <;> rfl
noncomputable def Tree.setE {α : Type} (x : α) (t : Tree α) : Tree α := Tree.rec (motive := fun _ => α → Tree α) (fun x => .node .nil (some x) .nil) (fun l _ r _ _ x => .node l (some x) r) t x
noncomputable def Tree.setL {α : Type} (ih : α → Tree α → Tree α) (x : α) (t : Tree α) : Tree α :=
  Tree.rec (motive := fun _ => (α → Tree α → Tree α) → α → Tree α) (fun ih x => Tree.nodeL (ih x .nil) none .nil) (fun l o r _ _ ih x => Tree.nodeL (ih x l) o r) t ih x
noncomputable def Tree.setR {α : Type} (ih : α → Tree α → Tree α) (x : α) (t : Tree α) : Tree α :=
  Tree.rec (motive := fun _ => (α → Tree α → Tree α) → α → Tree α) (fun ih x => Tree.nodeR (ih x .nil) .nil none) (fun l o r _ _ ih x => Tree.nodeR (ih x r) l o) t ih x
noncomputable def Tree.setP {α : Type} (p : Pth) : α → Tree α → Tree α :=
  Pth.rec (motive := fun _ => α → Tree α → Tree α) Tree.setE (fun _ ih => Tree.setL ih) (fun _ ih => Tree.setR ih) p
noncomputable def Tree.setP' {α : Type} (t : Tree α) (p : Pth) (x : α) : Tree α := Tree.setP p x t
noncomputable def Tree.set {α : Type} (x : α) (t : Tree α) (k : Nat) : Tree α := Tree.setP (pth k) x t

theorem Tree.getP_setP {α : Type} (x : α) : ∀ (p q : Pth) (t : Tree α), [Decidable (q = p)] → (Tree.setP p x t).getP q = if q = p then some x else t.getP q
  | .e, q, t, _ => by
    show (Tree.setE x t).getP q = _
    cases q with
    | e => cases t <;> simp <;> rfl
    | l q => cases t <;> simp <;> first | rfl | exact (Tree.getP_nil q).trans (Tree.getP_nil _).symm
    | r q => cases t <;> simp <;> first | rfl | exact (Tree.getP_nil q).trans (Tree.getP_nil _).symm
  | .l p, q, t, _ => by
    haveI : ∀ a b : Pth, Decidable (a = b) := fun a b => Classical.propDecidable _
    have h : ∀ l o r, Tree.getP q (Tree.nodeL (Tree.setP p x l) o r) = if q = .l p then some x else Tree.getP q (.node l o r) := by
      intro l o r
      rw [Tree.nodeL_eq]
      cases q with
      | e => simp; rfl
      | r q => simp; rfl
      | l q =>
        have := Tree.getP_setP x p q l
        simp only [Pth.l.injEq]
        exact this
    cases t with
    | nil =>
      refine (h .nil none .nil).trans ?_
      by_cases e : q = .l p
      · simp [e]
      · simp only [e, if_false]
        cases q with
        | e => rfl
        | l q => rfl
        | r q => rfl
    | node l o r =>
      refine (h l o r).trans ?_
      by_cases e : q = .l p <;> simp [e]
  | .r p, q, t, _ => by
    haveI : ∀ a b : Pth, Decidable (a = b) := fun a b => Classical.propDecidable _
    have h : ∀ l o r, Tree.getP q (Tree.nodeR (Tree.setP p x r) l o) = if q = .r p then some x else Tree.getP q (.node l o r) := by
      intro l o r
      rw [Tree.nodeR_eq]
      cases q with
      | e => simp; rfl
      | l q => simp; rfl
      | r q =>
        have := Tree.getP_setP x p q r
        simp only [Pth.r.injEq]
        exact this
    cases t with
    | nil =>
      refine (h .nil none .nil).trans ?_
      by_cases e : q = .r p
      · simp [e]
      · simp only [e, if_false]
        cases q with
        | e => rfl
        | l q => rfl
        | r q => rfl
    | node l o r =>
      refine (h l o r).trans ?_
      by_cases e : q = .r p <;> simp [e]

theorem Tree.get_set {α : Type} (x : α) (t : Tree α) (k j : Nat) : (Tree.set x t k).get j = if j = k then some x else t.get j := by
  haveI : ∀ a b : Pth, Decidable (a = b) := fun a b => Classical.propDecidable _
  unfold Tree.get Tree.set
  rw [Tree.getP_setP]
  by_cases h : j = k
  · simp [h]
  · simp only [h, if_false]
    rw [if_neg fun e => h (pth_inj _ _ e)]

/-! ### Nodes of sixteen -/
inductive D16 where
  | d0 | d1 | d2 | d3 | d4 | d5 | d6 | d7 | d8 | d9 | d10 | d11 | d12 | d13 | d14 | d15

structure N16 (α : Type) where
  (a0 a1 a2 a3 a4 a5 a6 a7 a8 a9 a10 a11 a12 a13 a14 a15 : α)

noncomputable def d16 (k0 : Nat) : D16 := Nat.rec (motive := fun _ => D16) .d0 (fun k1 _ => Nat.rec (motive := fun _ => D16) .d1 (fun k2 _ => Nat.rec (motive := fun _ => D16) .d2 (fun k3 _ => Nat.rec (motive := fun _ => D16) .d3 (fun k4 _ => Nat.rec (motive := fun _ => D16) .d4 (fun k5 _ => Nat.rec (motive := fun _ => D16) .d5 (fun k6 _ => Nat.rec (motive := fun _ => D16) .d6 (fun k7 _ => Nat.rec (motive := fun _ => D16) .d7 (fun k8 _ => Nat.rec (motive := fun _ => D16) .d8 (fun k9 _ => Nat.rec (motive := fun _ => D16) .d9 (fun k10 _ => Nat.rec (motive := fun _ => D16) .d10 (fun k11 _ => Nat.rec (motive := fun _ => D16) .d11 (fun k12 _ => Nat.rec (motive := fun _ => D16) .d12 (fun k13 _ => Nat.rec (motive := fun _ => D16) .d13 (fun k14 _ => Nat.rec (motive := fun _ => D16) .d14 (fun k15 _ => .d15) k14) k13) k12) k11) k10) k9) k8) k7) k6) k5) k4) k3) k2) k1) k0
theorem d16_inj : ∀ j k : Nat, j < 16 → k < 16 → d16 j = d16 k → j = k := by
  intro j k hj hk h
  have hj' : j = 0 ∨ j = 1 ∨ j = 2 ∨ j = 3 ∨ j = 4 ∨ j = 5 ∨ j = 6 ∨ j = 7 ∨ j = 8 ∨ j = 9 ∨ j = 10 ∨ j = 11 ∨ j = 12 ∨ j = 13 ∨ j = 14 ∨ j = 15 := by omega
  have hk' : k = 0 ∨ k = 1 ∨ k = 2 ∨ k = 3 ∨ k = 4 ∨ k = 5 ∨ k = 6 ∨ k = 7 ∨ k = 8 ∨ k = 9 ∨ k = 10 ∨ k = 11 ∨ k = 12 ∨ k = 13 ∨ k = 14 ∨ k = 15 := by omega
  rcases hj' with rfl | rfl | rfl | rfl | rfl | rfl | rfl | rfl | rfl | rfl | rfl | rfl | rfl | rfl | rfl | rfl <;>
    rcases hk' with rfl | rfl | rfl | rfl | rfl | rfl | rfl | rfl | rfl | rfl | rfl | rfl | rfl | rfl | rfl | rfl <;> first | rfl | (exact absurd h (by intro h; cases h))

noncomputable def N16.at {α : Type} (d : D16) : N16 α → α := D16.rec (motive := fun _ => N16 α → α) N16.a0 N16.a1 N16.a2 N16.a3 N16.a4 N16.a5 N16.a6 N16.a7 N16.a8 N16.a9 N16.a10 N16.a11 N16.a12 N16.a13 N16.a14 N16.a15 d
noncomputable def N16.put0 {α β : Type} (x : α) (n : N16 α) : (N16 α → β) → β := N16.rec (motive := fun _ => α → (N16 α → β) → β) (fun _ a1 a2 a3 a4 a5 a6 a7 a8 a9 a10 a11 a12 a13 a14 a15 x k => k ⟨x, a1, a2, a3, a4, a5, a6, a7, a8, a9, a10, a11, a12, a13, a14, a15⟩) n x
noncomputable def N16.put1 {α β : Type} (x : α) (n : N16 α) : (N16 α → β) → β := N16.rec (motive := fun _ => α → (N16 α → β) → β) (fun a0 _ a2 a3 a4 a5 a6 a7 a8 a9 a10 a11 a12 a13 a14 a15 x k => k ⟨a0, x, a2, a3, a4, a5, a6, a7, a8, a9, a10, a11, a12, a13, a14, a15⟩) n x
noncomputable def N16.put2 {α β : Type} (x : α) (n : N16 α) : (N16 α → β) → β := N16.rec (motive := fun _ => α → (N16 α → β) → β) (fun a0 a1 _ a3 a4 a5 a6 a7 a8 a9 a10 a11 a12 a13 a14 a15 x k => k ⟨a0, a1, x, a3, a4, a5, a6, a7, a8, a9, a10, a11, a12, a13, a14, a15⟩) n x
noncomputable def N16.put3 {α β : Type} (x : α) (n : N16 α) : (N16 α → β) → β := N16.rec (motive := fun _ => α → (N16 α → β) → β) (fun a0 a1 a2 _ a4 a5 a6 a7 a8 a9 a10 a11 a12 a13 a14 a15 x k => k ⟨a0, a1, a2, x, a4, a5, a6, a7, a8, a9, a10, a11, a12, a13, a14, a15⟩) n x
noncomputable def N16.put4 {α β : Type} (x : α) (n : N16 α) : (N16 α → β) → β := N16.rec (motive := fun _ => α → (N16 α → β) → β) (fun a0 a1 a2 a3 _ a5 a6 a7 a8 a9 a10 a11 a12 a13 a14 a15 x k => k ⟨a0, a1, a2, a3, x, a5, a6, a7, a8, a9, a10, a11, a12, a13, a14, a15⟩) n x
noncomputable def N16.put5 {α β : Type} (x : α) (n : N16 α) : (N16 α → β) → β := N16.rec (motive := fun _ => α → (N16 α → β) → β) (fun a0 a1 a2 a3 a4 _ a6 a7 a8 a9 a10 a11 a12 a13 a14 a15 x k => k ⟨a0, a1, a2, a3, a4, x, a6, a7, a8, a9, a10, a11, a12, a13, a14, a15⟩) n x
noncomputable def N16.put6 {α β : Type} (x : α) (n : N16 α) : (N16 α → β) → β := N16.rec (motive := fun _ => α → (N16 α → β) → β) (fun a0 a1 a2 a3 a4 a5 _ a7 a8 a9 a10 a11 a12 a13 a14 a15 x k => k ⟨a0, a1, a2, a3, a4, a5, x, a7, a8, a9, a10, a11, a12, a13, a14, a15⟩) n x
noncomputable def N16.put7 {α β : Type} (x : α) (n : N16 α) : (N16 α → β) → β := N16.rec (motive := fun _ => α → (N16 α → β) → β) (fun a0 a1 a2 a3 a4 a5 a6 _ a8 a9 a10 a11 a12 a13 a14 a15 x k => k ⟨a0, a1, a2, a3, a4, a5, a6, x, a8, a9, a10, a11, a12, a13, a14, a15⟩) n x
noncomputable def N16.put8 {α β : Type} (x : α) (n : N16 α) : (N16 α → β) → β := N16.rec (motive := fun _ => α → (N16 α → β) → β) (fun a0 a1 a2 a3 a4 a5 a6 a7 _ a9 a10 a11 a12 a13 a14 a15 x k => k ⟨a0, a1, a2, a3, a4, a5, a6, a7, x, a9, a10, a11, a12, a13, a14, a15⟩) n x
noncomputable def N16.put9 {α β : Type} (x : α) (n : N16 α) : (N16 α → β) → β := N16.rec (motive := fun _ => α → (N16 α → β) → β) (fun a0 a1 a2 a3 a4 a5 a6 a7 a8 _ a10 a11 a12 a13 a14 a15 x k => k ⟨a0, a1, a2, a3, a4, a5, a6, a7, a8, x, a10, a11, a12, a13, a14, a15⟩) n x
noncomputable def N16.put10 {α β : Type} (x : α) (n : N16 α) : (N16 α → β) → β := N16.rec (motive := fun _ => α → (N16 α → β) → β) (fun a0 a1 a2 a3 a4 a5 a6 a7 a8 a9 _ a11 a12 a13 a14 a15 x k => k ⟨a0, a1, a2, a3, a4, a5, a6, a7, a8, a9, x, a11, a12, a13, a14, a15⟩) n x
noncomputable def N16.put11 {α β : Type} (x : α) (n : N16 α) : (N16 α → β) → β := N16.rec (motive := fun _ => α → (N16 α → β) → β) (fun a0 a1 a2 a3 a4 a5 a6 a7 a8 a9 a10 _ a12 a13 a14 a15 x k => k ⟨a0, a1, a2, a3, a4, a5, a6, a7, a8, a9, a10, x, a12, a13, a14, a15⟩) n x
noncomputable def N16.put12 {α β : Type} (x : α) (n : N16 α) : (N16 α → β) → β := N16.rec (motive := fun _ => α → (N16 α → β) → β) (fun a0 a1 a2 a3 a4 a5 a6 a7 a8 a9 a10 a11 _ a13 a14 a15 x k => k ⟨a0, a1, a2, a3, a4, a5, a6, a7, a8, a9, a10, a11, x, a13, a14, a15⟩) n x
noncomputable def N16.put13 {α β : Type} (x : α) (n : N16 α) : (N16 α → β) → β := N16.rec (motive := fun _ => α → (N16 α → β) → β) (fun a0 a1 a2 a3 a4 a5 a6 a7 a8 a9 a10 a11 a12 _ a14 a15 x k => k ⟨a0, a1, a2, a3, a4, a5, a6, a7, a8, a9, a10, a11, a12, x, a14, a15⟩) n x
noncomputable def N16.put14 {α β : Type} (x : α) (n : N16 α) : (N16 α → β) → β := N16.rec (motive := fun _ => α → (N16 α → β) → β) (fun a0 a1 a2 a3 a4 a5 a6 a7 a8 a9 a10 a11 a12 a13 _ a15 x k => k ⟨a0, a1, a2, a3, a4, a5, a6, a7, a8, a9, a10, a11, a12, a13, x, a15⟩) n x
noncomputable def N16.put15 {α β : Type} (x : α) (n : N16 α) : (N16 α → β) → β := N16.rec (motive := fun _ => α → (N16 α → β) → β) (fun a0 a1 a2 a3 a4 a5 a6 a7 a8 a9 a10 a11 a12 a13 a14 _ x k => k ⟨a0, a1, a2, a3, a4, a5, a6, a7, a8, a9, a10, a11, a12, a13, a14, x⟩) n x
/-- One of the sixteen is another one; then go on. -/
noncomputable def N16.putK {α β : Type} (d : D16) : α → N16 α → (N16 α → β) → β := D16.rec (motive := fun _ => α → N16 α → (N16 α → β) → β) N16.put0 N16.put1 N16.put2 N16.put3 N16.put4 N16.put5 N16.put6 N16.put7 N16.put8 N16.put9 N16.put10 N16.put11 N16.put12 N16.put13 N16.put14 N16.put15 d
noncomputable def N16.put {α : Type} (d : D16) (x : α) (n : N16 α) : N16 α := N16.putK d x n id
theorem N16.putK_eq {α β : Type} (d : D16) (x : α) (n : N16 α) (k : N16 α → β) : N16.putK d x n k = k (N16.put d x n) := by cases d <;> rfl
theorem N16.at_put_same {α : Type} (d : D16) (x : α) (n : N16 α) : (N16.put d x n).at d = x := by cases d <;> rfl
theorem N16.at_put_ne {α : Type} {d e : D16} (x : α) (n : N16 α) (h : e ≠ d) : (N16.put d x n).at e = n.at e := by
  cases d <;> first
    | (cases e <;> first | rfl | exact absurd rfl h)
def N16.all {α : Type} (x : α) : N16 α := ⟨x, x, x, x, x, x, x, x, x, x, x, x, x, x, x, x⟩
theorem N16.at_all {α : Type} (d : D16) (x : α) : (N16.all x).at d = x := by cases d <;> rfl

/-! ### A store: two nodes deep (256 places), or three nodes deep (4096 places); behind them a tree -/
inductive P2 where
  | within (d e : D16)
  | beyond (p : Pth)
noncomputable def p2In (k : Nat) : P2 := .within (d16 (Nat.div k 16)) (d16 (Nat.mod k 16))
noncomputable def p2Out (k : Nat) : P2 := .beyond (pth (Nat.sub k 256))
noncomputable def p2 (k : Nat) : P2 := Bool.rec (motive := fun _ => Nat → P2) p2Out p2In (Nat.blt k 256) k
theorem blt_dec (m n : Nat) : Nat.blt m n = decide (m < n) := by
  rw [Bool.eq_iff_iff]
  simp [Nat.blt, Nat.ble_eq, Nat.lt_iff_add_one_le]
theorem p2_inj (j k : Nat) (h : p2 j = p2 k) : j = k := by
  unfold p2 at h
  rw [blt_dec, blt_dec] at h
  by_cases hj : j < 256 <;> by_cases hk : k < 256 <;> simp only [hj, hk, decide_true, decide_false] at h
  · have h' : P2.within (d16 (j / 16)) (d16 (j % 16)) = .within (d16 (k / 16)) (d16 (k % 16)) := h
    injection h' with h1 h2
    have := d16_inj _ _ (by omega) (by omega) h1
    have := d16_inj _ _ (by omega) (by omega) h2
    omega
  · cases h
  · cases h
  · have h' : P2.beyond (pth (j - 256)) = .beyond (pth (k - 256)) := h
    have := pth_inj _ _ (P2.beyond.inj h')
    omega

structure S2 (α : Type) where
  m : N16 (N16 (Option α))
  more : Tree α
noncomputable def S2.getIn {α : Type} (d e : D16) (s : S2 α) : Option α := (s.m.at d).at e
noncomputable def S2.getOut {α : Type} (p : Pth) (s : S2 α) : Option α := s.more.getP p
noncomputable def S2.get {α : Type} (p : P2) : S2 α → Option α := P2.rec (motive := fun _ => S2 α → Option α) S2.getIn S2.getOut p
noncomputable def S2.mkIn {α β : Type} (d e : D16) (m : N16 (N16 (Option α))) (more : Tree α) (x : α) (k : S2 α → β) : β := N16.putK e (some x) (m.at d) fun n => N16.putK d n m fun m => k ⟨m, more⟩
noncomputable def S2.setIn {α β : Type} (d e : D16) (x : α) (s : S2 α) (k : S2 α → β) : β := S2.rec (motive := fun _ => α → (S2 α → β) → β) (S2.mkIn d e) s x k
noncomputable def S2.mkTree {α β : Type} (m : N16 (N16 (Option α))) (t : Tree α) : (S2 α → β) → β := Tree.rec (motive := fun _ => N16 (N16 (Option α)) → (S2 α → β) → β) (fun m k => k ⟨m, .nil⟩) (fun l o r _ _ m k => k ⟨m, .node l o r⟩) t m
noncomputable def S2.mkOut {α β : Type} (p : Pth) (m : N16 (N16 (Option α))) (more : Tree α) (x : α) (k : S2 α → β) : β := S2.mkTree m (more.setP' p x) k
noncomputable def S2.setOut {α β : Type} (p : Pth) (x : α) (s : S2 α) (k : S2 α → β) : β := S2.rec (motive := fun _ => α → (S2 α → β) → β) (S2.mkOut p) s x k
/-- A place is written; then go on. -/
noncomputable def S2.setK {α β : Type} (p : P2) : α → S2 α → (S2 α → β) → β := P2.rec (motive := fun _ => α → S2 α → (S2 α → β) → β) S2.setIn S2.setOut p
noncomputable def S2.set {α : Type} (p : P2) (x : α) (s : S2 α) : S2 α := S2.setK p x s id
theorem S2.mkTree_eq {α β : Type} (m : N16 (N16 (Option α))) (t : Tree α) (k : S2 α → β) : S2.mkTree m t k = k ⟨m, t⟩ := by cases t <;> rfl
theorem S2.setK_eq {α β : Type} (p : P2) (x : α) (s : S2 α) (k : S2 α → β) : S2.setK p x s k = k (S2.set p x s) := by
  obtain ⟨m, t⟩ := s
  cases p with
  | within d e =>
    show N16.putK e (some x) (m.at d) (fun n => N16.putK d n m fun m => k ⟨m, t⟩) = k (N16.putK e (some x) (m.at d) (fun n => N16.putK d n m fun m => ⟨m, t⟩))
    rw [N16.putK_eq, N16.putK_eq, N16.putK_eq, N16.putK_eq]
  | beyond q =>
    show S2.mkTree m _ k = k (S2.mkTree m _ id)
    rw [S2.mkTree_eq, S2.mkTree_eq]; rfl
theorem S2.get_set_same {α : Type} (p : P2) (x : α) (s : S2 α) : (S2.set p x s).get p = some x := by
  obtain ⟨m, t⟩ := s
  cases p with
  | within d e =>
    show S2.get _ (N16.putK e (some x) (m.at d) (fun n => N16.putK d n m fun m => ⟨m, t⟩)) = _
    rw [N16.putK_eq, N16.putK_eq]
    show ((N16.put d _ m).at d).at e = _
    rw [N16.at_put_same, N16.at_put_same]
  | beyond q =>
    haveI : ∀ a b : Pth, Decidable (a = b) := fun a b => Classical.propDecidable _
    show S2.get _ (S2.mkTree m (t.setP' q x) id) = _
    rw [S2.mkTree_eq]
    show (Tree.setP q x t).getP q = _
    rw [Tree.getP_setP]; simp
theorem S2.get_set_ne {α : Type} {p q : P2} (x : α) (s : S2 α) (h : q ≠ p) : (S2.set p x s).get q = s.get q := by
  obtain ⟨m, t⟩ := s
  haveI : ∀ a b : Pth, Decidable (a = b) := fun a b => Classical.propDecidable _
  haveI : ∀ a b : D16, Decidable (a = b) := fun a b => Classical.propDecidable _
  cases p with
  | within d e =>
    show S2.get _ (N16.putK e (some x) (m.at d) (fun n => N16.putK d n m fun m => ⟨m, t⟩)) = _
    rw [N16.putK_eq, N16.putK_eq]
    cases q with
    | beyond q => rfl
    | within d' e' =>
      show ((N16.put d _ m).at d').at e' = (m.at d').at e'
      by_cases hd : d' = d
      · subst hd
        rw [N16.at_put_same, N16.at_put_ne _ _ fun he => h (by rw [he])]
      · rw [N16.at_put_ne _ _ hd]
  | beyond p =>
    show S2.get _ (S2.mkTree m (t.setP' p x) id) = _
    rw [S2.mkTree_eq]
    cases q with
    | within d e => rfl
    | beyond q =>
      show (Tree.setP p x t).getP q = t.getP q
      rw [Tree.getP_setP, if_neg fun e => h (by rw [e])]
def S2.empty {α : Type} : S2 α := ⟨N16.all (N16.all none), .nil⟩
theorem S2.get_empty {α : Type} (p : P2) : (S2.empty : S2 α).get p = none := by
  cases p with
  | within d e => show ((N16.all (N16.all none)).at d).at e = none; rw [N16.at_all, N16.at_all]
  | beyond p => exact Tree.getP_nil p

inductive P3 where
  | within (c d e : D16)
  | beyond (p : Pth)
noncomputable def p3In (k : Nat) : P3 := .within (d16 (Nat.div k 256)) (d16 (Nat.mod (Nat.div k 16) 16)) (d16 (Nat.mod k 16))
noncomputable def p3Out (k : Nat) : P3 := .beyond (pth (Nat.sub k 4096))
noncomputable def p3 (k : Nat) : P3 := Bool.rec (motive := fun _ => Nat → P3) p3Out p3In (Nat.blt k 4096) k
theorem p3_inj (j k : Nat) (h : p3 j = p3 k) : j = k := by
  unfold p3 at h
  rw [blt_dec, blt_dec] at h
  by_cases hj : j < 4096 <;> by_cases hk : k < 4096 <;> simp only [hj, hk, decide_true, decide_false] at h
  · have h' : P3.within (d16 (j / 256)) (d16 (j / 16 % 16)) (d16 (j % 16)) = .within (d16 (k / 256)) (d16 (k / 16 % 16)) (d16 (k % 16)) := h
    injection h' with h1 h2 h3
    have := d16_inj _ _ (by omega) (by omega) h1
    have := d16_inj _ _ (by omega) (by omega) h2
    have := d16_inj _ _ (by omega) (by omega) h3
    omega
  · cases h
  · cases h
  · have h' : P3.beyond (pth (j - 4096)) = .beyond (pth (k - 4096)) := h
    have := pth_inj _ _ (P3.beyond.inj h')
    omega

structure S3 (α : Type) where
  m : N16 (N16 (N16 (Option α)))
  more : Tree α
noncomputable def S3.getIn {α : Type} (c d e : D16) (s : S3 α) : Option α := ((s.m.at c).at d).at e
noncomputable def S3.getOut {α : Type} (p : Pth) (s : S3 α) : Option α := s.more.getP p
noncomputable def S3.get {α : Type} (p : P3) : S3 α → Option α := P3.rec (motive := fun _ => S3 α → Option α) S3.getIn S3.getOut p
noncomputable def S3.mkIn {α β : Type} (c d e : D16) (m : N16 (N16 (N16 (Option α)))) (more : Tree α) (x : α) (k : S3 α → β) : β :=
  N16.putK e (some x) ((m.at c).at d) fun n => N16.putK d n (m.at c) fun n => N16.putK c n m fun m => k ⟨m, more⟩
noncomputable def S3.setIn {α β : Type} (c d e : D16) (x : α) (s : S3 α) (k : S3 α → β) : β := S3.rec (motive := fun _ => α → (S3 α → β) → β) (S3.mkIn c d e) s x k
noncomputable def S3.mkTree {α β : Type} (m : N16 (N16 (N16 (Option α)))) (t : Tree α) : (S3 α → β) → β := Tree.rec (motive := fun _ => N16 (N16 (N16 (Option α))) → (S3 α → β) → β) (fun m k => k ⟨m, .nil⟩) (fun l o r _ _ m k => k ⟨m, .node l o r⟩) t m
noncomputable def S3.mkOut {α β : Type} (p : Pth) (m : N16 (N16 (N16 (Option α)))) (more : Tree α) (x : α) (k : S3 α → β) : β := S3.mkTree m (more.setP' p x) k
noncomputable def S3.setOut {α β : Type} (p : Pth) (x : α) (s : S3 α) (k : S3 α → β) : β := S3.rec (motive := fun _ => α → (S3 α → β) → β) (S3.mkOut p) s x k
noncomputable def S3.setK {α β : Type} (p : P3) : α → S3 α → (S3 α → β) → β := P3.rec (motive := fun _ => α → S3 α → (S3 α → β) → β) S3.setIn S3.setOut p
noncomputable def S3.set {α : Type} (p : P3) (x : α) (s : S3 α) : S3 α := S3.setK p x s id
theorem S3.mkTree_eq {α β : Type} (m : N16 (N16 (N16 (Option α)))) (t : Tree α) (k : S3 α → β) : S3.mkTree m t k = k ⟨m, t⟩ := by cases t <;> rfl
theorem S3.setK_eq {α β : Type} (p : P3) (x : α) (s : S3 α) (k : S3 α → β) : S3.setK p x s k = k (S3.set p x s) := by
  obtain ⟨m, t⟩ := s
  cases p with
  | within c d e =>
    show N16.putK e (some x) ((m.at c).at d) (fun n => N16.putK d n (m.at c) fun n => N16.putK c n m fun m => k ⟨m, t⟩) = k (N16.putK e (some x) ((m.at c).at d) (fun n => N16.putK d n (m.at c) fun n => N16.putK c n m fun m => ⟨m, t⟩))
    rw [N16.putK_eq, N16.putK_eq, N16.putK_eq, N16.putK_eq, N16.putK_eq, N16.putK_eq]
  | beyond q =>
    show S3.mkTree m _ k = k (S3.mkTree m _ id)
    rw [S3.mkTree_eq, S3.mkTree_eq]; rfl
theorem S3.get_set_same {α : Type} (p : P3) (x : α) (s : S3 α) : (S3.set p x s).get p = some x := by
  obtain ⟨m, t⟩ := s
  cases p with
  | within c d e =>
    show S3.get _ (N16.putK e (some x) ((m.at c).at d) (fun n => N16.putK d n (m.at c) fun n => N16.putK c n m fun m => ⟨m, t⟩)) = _
    rw [N16.putK_eq, N16.putK_eq, N16.putK_eq]
    show (((N16.put c _ m).at c).at d).at e = _
    rw [N16.at_put_same, N16.at_put_same, N16.at_put_same]
  | beyond q =>
    haveI : ∀ a b : Pth, Decidable (a = b) := fun a b => Classical.propDecidable _
    show S3.get _ (S3.mkTree m (t.setP' q x) id) = _
    rw [S3.mkTree_eq]
    show (Tree.setP q x t).getP q = _
    rw [Tree.getP_setP]; simp
theorem S3.get_set_ne {α : Type} {p q : P3} (x : α) (s : S3 α) (h : q ≠ p) : (S3.set p x s).get q = s.get q := by
  obtain ⟨m, t⟩ := s
  haveI : ∀ a b : Pth, Decidable (a = b) := fun a b => Classical.propDecidable _
  haveI : ∀ a b : D16, Decidable (a = b) := fun a b => Classical.propDecidable _
  cases p with
  | within c d e =>
    show S3.get _ (N16.putK e (some x) ((m.at c).at d) (fun n => N16.putK d n (m.at c) fun n => N16.putK c n m fun m => ⟨m, t⟩)) = _
    rw [N16.putK_eq, N16.putK_eq, N16.putK_eq]
    cases q with
    | beyond q => rfl
    | within c' d' e' =>
      show (((N16.put c _ m).at c').at d').at e' = ((m.at c').at d').at e'
      by_cases hc : c' = c
      · subst hc
        rw [N16.at_put_same]
        by_cases hd : d' = d
        · subst hd
          rw [N16.at_put_same, N16.at_put_ne _ _ fun he => h (by rw [he])]
        · rw [N16.at_put_ne _ _ hd]
      · rw [N16.at_put_ne _ _ hc]
  | beyond p =>
    show S3.get _ (S3.mkTree m (t.setP' p x) id) = _
    rw [S3.mkTree_eq]
    cases q with
    | within c d e => rfl
    | beyond q =>
      show (Tree.setP p x t).getP q = t.getP q
      rw [Tree.getP_setP, if_neg fun e => h (by rw [e])]
def S3.empty {α : Type} : S3 α := ⟨N16.all (N16.all (N16.all none)), .nil⟩
theorem S3.get_empty {α : Type} (p : P3) : (S3.empty : S3 α).get p = none := by
  cases p with
  | within c d e => show (((N16.all (N16.all (N16.all none))).at c).at d).at e = none; rw [N16.at_all, N16.at_all, N16.at_all]
  | beyond p => exact Tree.getP_nil p

structure Heap where
  size : Nat
  tr : S3 Obj
  /-- The least block that was written since this was last set. -/
  low : Nat

def natK {β : Type} (n : Nat) : (Nat → β) → β := Nat.rec (motive := fun _ => (Nat → β) → β) (fun k => k 0) (fun m _ k => k (Nat.succ m)) n
theorem natK_eq {β : Type} (n : Nat) (k : Nat → β) : natK n k = k n := by cases n <;> rfl
noncomputable def Heap.get (H : Heap) (b : Nat) : Option Obj := S3.get (p3 b) H.tr
noncomputable def Heap.pushMk (o : Obj) (size : Nat) (tr : S3 Obj) (low : Nat) : Heap := S3.setK (p3 size) o tr fun tr => natK size fun size => ⟨Nat.succ size, tr, low⟩
noncomputable def Heap.push (H : Heap) (o : Obj) : Heap := Heap.rec (motive := fun _ => Obj → Heap) (fun size tr low o => Heap.pushMk o size tr low) H o
noncomputable def Heap.setMk (b : Nat) (o : Obj) (size : Nat) (tr : S3 Obj) (low : Nat) : Heap := S3.setK (p3 b) o tr fun tr => natK (Bool.rec low b (Nat.blt b low)) fun low => ⟨size, tr, low⟩
noncomputable def Heap.set (H : Heap) (b : Nat) (o : Obj) : Heap := Heap.rec (motive := fun _ => Nat → Obj → Heap) (fun size tr low b o => Heap.setMk b o size tr low) H b o
theorem Heap.push_eq (H : Heap) (o : Obj) : H.push o = ⟨H.size + 1, S3.set (p3 H.size) o H.tr, H.low⟩ := by
  show Heap.pushMk o H.size H.tr H.low = _
  rw [Heap.pushMk, S3.setK_eq, natK_eq]
theorem Heap.set_eq (H : Heap) (b : Nat) (o : Obj) : H.set b o = ⟨H.size, S3.set (p3 b) o H.tr, Bool.rec H.low b (Nat.blt b H.low)⟩ := by
  show Heap.setMk b o H.size H.tr H.low = _
  rw [Heap.setMk, S3.setK_eq, natK_eq]
theorem Heap.get_tr (n l : Nat) (t : S3 Obj) (a : Nat) (o : Obj) (b : Nat) : Heap.get ⟨n, S3.set (p3 a) o t, l⟩ b = if b = a then some o else S3.get (p3 b) t := by
  show S3.get (p3 b) (S3.set (p3 a) o t) = _
  by_cases h : b = a
  · subst h; rw [S3.get_set_same]; simp
  · rw [S3.get_set_ne _ _ fun e => h (p3_inj _ _ e)]; simp [h]

@[simp] theorem Heap.size_push (H : Heap) (o : Obj) : (H.push o).size = H.size + 1 := by rw [Heap.push_eq]
@[simp] theorem Heap.size_set (H : Heap) (b : Nat) (o : Obj) : (H.set b o).size = H.size := by rw [Heap.set_eq]
theorem Heap.get_push (H : Heap) (o : Obj) (b : Nat) : (H.push o).get b = if b = H.size then some o else H.get b := by rw [Heap.push_eq, Heap.get_tr]; rfl
theorem Heap.get_set (H : Heap) (a : Nat) (o : Obj) (b : Nat) : (H.set a o).get b = if b = a then some o else H.get b := by rw [Heap.set_eq, Heap.get_tr]; rfl
@[simp] theorem Heap.get_push_same (H : Heap) (o : Obj) : (H.push o).get H.size = some o := by simp [Heap.get_push]
@[simp] theorem Heap.get_set_same (H : Heap) (b : Nat) (o : Obj) : (H.set b o).get b = some o := by simp [Heap.get_set]
theorem Heap.get_push_ne (H : Heap) (o : Obj) {b : Nat} (h : b ≠ H.size) : (H.push o).get b = H.get b := by simp [Heap.get_push, h]
theorem Heap.get_set_ne (H : Heap) (o : Obj) {a b : Nat} (h : b ≠ a) : (H.set a o).get b = H.get b := by simp [Heap.get_set, h]

/-! ### What stands for what -/
/-- Where a block of the abstract heap lies: nowhere yet; it is used up; in block rb of the world, from cell ro on, of n cells in all. -/
inductive St where
  | abs
  | dead
  | at (rb ro n : Nat)

abbrev Mp := Nat → St

mutual
def VR (ι : Mp) : V → Value → Prop
  | .undef, _ => True
  | .bool b, r => r = .bool b
  | .int k n, r => r = .int k n
  | .str s, r => r = .string s
  | .ptr none, r => r = .pointer none
  | .ptr (some l), r => match ι l.blk with
    | .abs => False
    | .dead => ∃ a, r = .pointer (some a)
    | .at rb ro _ => r = .pointer (some ⟨rb, ro + l.off, none⟩)
  | .slice none len _ _, r => len = 0 ∧ r = .slice none 0 0
  | .slice (some l) len esz cap, r => match ι l.blk with
    | .abs => False
    | .dead => ∃ a c, r = .slice (some a) len c ∧ len ≤ c
    | .at rb ro n => ∃ a c, r = .slice (some a) len c ∧ len ≤ c ∧ (∀ k, cap = some k → c = k) ∧
        ((a = ⟨rb, ro + l.off, none⟩ ∧ ro + l.off + c * esz ≤ n) ∨ c = 0)
  | .map none, r => r = .map none
  | .map (some b), r => match ι b with
    | .abs => False
    | .dead => ∃ rb, r = .map (some rb)
    | .at rb _ _ => r = .map (some rb)
  | .func f a c, r => ∃ a' c', r = .func (.func f) a' c' ∧ VRs ι a a'.toList ∧ VRs ι c c'.toList
  | .yld l, r => match ι l with
    | .abs => False
    | .dead => ∃ rb, r = .func (.yield rb) #[] #[]
    | .at rb _ _ => r = .func (.yield rb) #[] #[]
  | .nilFunc, r => r = .nilFunc
  | .agg cs, r => ∃ c, r = .agg c ∧ VRs ι cs c.toList
  | .tup cs, r => ∃ c, r = .tuple c ∧ VRs ι cs c.toList
def VRs (ι : Mp) : List V → List Value → Prop
  | [], rs => rs = []
  | v :: vs, rs => ∃ r rs', rs = r :: rs' ∧ VR ι v r ∧ VRs ι vs rs'
end

/-- One map goes on from another one: what lay somewhere lies there, or is used up. -/
def Ge (ι ι' : Mp) : Prop := ∀ b, ι b = .abs ∨ ι' b = ι b ∨ (ι' b = .dead ∧ ∃ rb ro n, ι b = .at rb ro n)

theorem Ge.refl (ι : Mp) : Ge ι ι := fun _ => .inr (.inl rfl)
theorem Ge.trans {ι ι' ι'' : Mp} (h : Ge ι ι') (h' : Ge ι' ι'') : Ge ι ι'' := by
  intro b
  rcases h b with e | e | ⟨e, rb, ro, n, e'⟩
  · exact .inl e
  · rcases h' b with f | f | ⟨f, rb, ro, n, f'⟩
    · rw [e] at f; exact .inl f
    · rw [e] at f; exact .inr (.inl f)
    · exact .inr (.inr ⟨f, rb, ro, n, e ▸ f'⟩)
  · rcases h' b with f | f | ⟨f, rb', ro', n', f'⟩
    · rw [e] at f; cases f
    · exact .inr (.inr ⟨f.trans e, rb, ro, n, e'⟩)
    · rw [e] at f'; cases f'

mutual
theorem VR.mono {ι ι' : Mp} (h : Ge ι ι') : ∀ (v : V) (r : Value), VR ι v r → VR ι' v r
  | .undef, _, _ => trivial
  | .bool _, _, h => h
  | .int _ _, _, h => h
  | .str _, _, h => h
  | .ptr none, _, h => h
  | .ptr (some l), r, hv => by
    simp only [VR] at hv ⊢
    rcases h l.blk with e | e | ⟨e, rb, ro, n, e'⟩
    · simp [e] at hv
    · rw [e]; exact hv
    · rw [e'] at hv; rw [e]; exact ⟨_, hv⟩
  | .slice none _ _ _, _, h => h
  | .slice (some l) len esz cap, r, hv => by
    simp only [VR] at hv ⊢
    rcases h l.blk with e | e | ⟨e, rb, ro, n, e'⟩
    · simp [e] at hv
    · rw [e]; exact hv
    · rw [e'] at hv; rw [e]
      obtain ⟨a, c, hr, hle, _⟩ := hv
      exact ⟨a, c, hr, hle⟩
  | .map none, _, h => h
  | .map (some b), r, hv => by
    simp only [VR] at hv ⊢
    rcases h b with e | e | ⟨e, rb, ro, n, e'⟩
    · simp [e] at hv
    · rw [e]; exact hv
    · rw [e'] at hv; rw [e]; exact ⟨rb, hv⟩
  | .func f a c, r, hv => by
    simp only [VR] at hv ⊢
    obtain ⟨a', c', hr, ha, hc⟩ := hv
    exact ⟨a', c', hr, VRs.mono h a _ ha, VRs.mono h c _ hc⟩
  | .yld l, r, hv => by
    simp only [VR] at hv ⊢
    rcases h l with e | e | ⟨e, rb, ro, n, e'⟩
    · simp [e] at hv
    · rw [e]; exact hv
    · rw [e'] at hv; rw [e]; exact ⟨rb, hv⟩
  | .nilFunc, _, h => h
  | .agg cs, r, hv => by
    simp only [VR] at hv ⊢
    obtain ⟨c, hr, hc⟩ := hv
    exact ⟨c, hr, VRs.mono h cs _ hc⟩
  | .tup cs, r, hv => by
    simp only [VR] at hv ⊢
    obtain ⟨c, hr, hc⟩ := hv
    exact ⟨c, hr, VRs.mono h cs _ hc⟩
theorem VRs.mono {ι ι' : Mp} (h : Ge ι ι') : ∀ (vs : List V) (rs : List Value), VRs ι vs rs → VRs ι' vs rs
  | [], _, h => h
  | v :: vs, rs, hv => by
    simp only [VRs] at hv ⊢
    obtain ⟨r, rs', hr, h1, h2⟩ := hv
    exact ⟨r, rs', hr, VR.mono h v r h1, VRs.mono h vs rs' h2⟩
end

theorem VRs.length {ι : Mp} : ∀ {vs : List V} {rs : List Value}, VRs ι vs rs → vs.length = rs.length
  | [], _, h => by simp only [VRs] at h; simp [h]
  | v :: vs, rs, h => by
    simp only [VRs] at h
    obtain ⟨r, rs', rfl, _, h2⟩ := h
    simp [VRs.length h2]

theorem VRs.get {ι : Mp} : ∀ {vs : List V} {rs : List Value}, VRs ι vs rs → ∀ (i : Nat) (v : V), vs[i]? = some v → ∃ r, rs[i]? = some r ∧ VR ι v r
  | [], _, _, i, v, hi => by simp at hi
  | v :: vs, rs, h, i, u, hi => by
    simp only [VRs] at h
    obtain ⟨r, rs', rfl, h1, h2⟩ := h
    cases i with
    | zero => simp at hi; subst hi; exact ⟨r, rfl, h1⟩
    | succ i => simp at hi; simpa using VRs.get h2 i u hi

theorem VRs.of_get {ι : Mp} : ∀ {vs : List V} {rs : List Value}, vs.length = rs.length → (∀ (i : Nat) (v : V) (r : Value), vs[i]? = some v → rs[i]? = some r → VR ι v r) → VRs ι vs rs
  | [], rs, hl, _ => by simp only [VRs]; exact List.length_eq_zero_iff.1 hl.symm
  | v :: vs, [], hl, _ => by simp at hl
  | v :: vs, r :: rs, hl, h => by
    simp only [VRs]
    exact ⟨r, rs, rfl, h 0 v r rfl rfl, VRs.of_get (by simpa using hl) fun i u q hu hq => h (i + 1) u q (by simpa using hu) (by simpa using hq)⟩

theorem VRs.nil {ι : Mp} : VRs ι [] [] := by simp [VRs]
theorem VRs.cons {ι : Mp} {v : V} {vs : List V} {r : Value} {rs : List Value} (h : VR ι v r) (hs : VRs ι vs rs) : VRs ι (v :: vs) (r :: rs) := by
  simp only [VRs]; exact ⟨r, rs, rfl, h, hs⟩
theorem VRs.append {ι : Mp} : ∀ {vs us : List V} {rs qs : List Value}, VRs ι vs rs → VRs ι us qs → VRs ι (vs ++ us) (rs ++ qs)
  | [], us, rs, qs, h, h' => by simp only [VRs] at h; subst h; exact h'
  | v :: vs, us, rs, qs, h, h' => by
    simp only [VRs] at h
    obtain ⟨r, rs', rfl, h1, h2⟩ := h
    exact VRs.cons h1 (VRs.append h2 h')
theorem VRs.take {ι : Mp} : ∀ {vs : List V} {rs : List Value} (n : Nat), VRs ι vs rs → VRs ι (vs.take n) (rs.take n)
  | _, _, 0, _ => by simp [VRs]
  | [], rs, n + 1, h => by simp only [VRs] at h; subst h; simp [VRs]
  | v :: vs, rs, n + 1, h => by
    simp only [VRs] at h
    obtain ⟨r, rs', rfl, h1, h2⟩ := h
    exact VRs.cons h1 (VRs.take n h2)
theorem VRs.drop {ι : Mp} : ∀ {vs : List V} {rs : List Value} (n : Nat), VRs ι vs rs → VRs ι (vs.drop n) (rs.drop n)
  | vs, rs, 0, h => h
  | [], rs, n + 1, h => by simp only [VRs] at h; subst h; simp [VRs]
  | v :: vs, rs, n + 1, h => by
    simp only [VRs] at h
    obtain ⟨r, rs', rfl, h1, h2⟩ := h
    exact VRs.drop n h2
theorem VRs.set {ι : Mp} {v : V} {r : Value} (hv : VR ι v r) : ∀ {vs : List V} {rs : List Value} (n : Nat), VRs ι vs rs → VRs ι (vs.set n v) (rs.set n r)
  | [], rs, _, h => by simp only [VRs] at h; subst h; simp [VRs]
  | u :: vs, rs, 0, h => by
    simp only [VRs] at h
    obtain ⟨r, rs', rfl, h1, h2⟩ := h
    exact VRs.cons hv h2
  | u :: vs, rs, n + 1, h => by
    simp only [VRs] at h
    obtain ⟨r, rs', rfl, h1, h2⟩ := h
    exact VRs.cons h1 (VRs.set hv n h2)
theorem VRs.replicate {ι : Mp} {v : V} {r : Value} (hv : VR ι v r) (n : Nat) : VRs ι (List.replicate n v) (List.replicate n r) := by
  induction n with
  | zero => exact VRs.nil
  | succ n ih => exact VRs.cons hv ih

/-- A frame's slot. -/
theorem VRs.getD {ι : Mp} {vs : List V} {a : Array Value} (h : VRs ι vs a.toList) (i : Nat) : VR ι (vs.getD i .undef) (a.getD i Go.undef) := by
  rw [List.getD_eq_getElem?_getD]
  cases hv : vs[i]? with
  | none => simp [VR]
  | some v =>
    obtain ⟨r, hr, hvr⟩ := h.get i v hv
    have : a[i]? = some r := by simpa using hr
    simp [Array.getD_eq_getD_getElem?, this, hvr]

def PR (ι : Mp) (p : V × V) (e : MapEntry) : Prop := VR ι p.1 e.key ∧ VR ι p.2 e.val

inductive PRs (ι : Mp) : List (V × V) → List MapEntry → Prop
  | nil : PRs ι [] []
  | cons {p : V × V} {e : MapEntry} {ps : List (V × V)} {es : List MapEntry} (h : PR ι p e) (hs : PRs ι ps es) : PRs ι (p :: ps) (e :: es)

theorem PRs.mono {ι ι' : Mp} (h : Ge ι ι') {ps : List (V × V)} {es : List MapEntry} (hs : PRs ι ps es) : PRs ι' ps es := by
  induction hs with
  | nil => exact .nil
  | cons hp _ ih => exact .cons ⟨hp.1.mono h, hp.2.mono h⟩ ih

/-- How an object of the abstract heap stands for one of the world's. -/
def ORel (ι : Mp) (ro n : Nat) : Obj → Go.Obj → Prop
  | .cells cs own, o => ∃ c elem fz, o = .cells c elem fz ∧ c.size = n ∧ ro + cs.length ≤ n ∧ (own = true → fz = (0, 0)) ∧ VRs ι cs ((c.toList.drop ro).take cs.length)
  | .map es, o => ∃ res clock, o = .map res clock ∧ PRs ι es res.toList
  | .loop l, o => ∃ rl : Loop, o = .loop rl ∧ rl.state = l.state ∧ rl.pending = l.pending ∧ rl.params.toList = l.params ∧ rl.assign = l.assign ∧ rl.body = l.body ∧ VRs ι l.tmps rl.tmps.toList
  | .dead, _ => False

theorem ORel.mono {ι ι' : Mp} (h : Ge ι ι') {ro n : Nat} {o : Obj} {o' : Go.Obj} (ho : ORel ι ro n o o') : ORel ι' ro n o o' := by
  cases o with
  | cells cs own => obtain ⟨c, elem, fz, h1, h2, h3, h4, h5⟩ := ho; exact ⟨c, elem, fz, h1, h2, h3, h4, h5.mono h⟩
  | map es => obtain ⟨res, clock, h1, h2⟩ := ho; exact ⟨res, clock, h1, h2.mono h⟩
  | loop l => obtain ⟨rl, h1, h2, h3, h4, h5, h6, h7⟩ := ho; exact ⟨rl, h1, h2, h3, h4, h5, h6, h7.mono h⟩
  | dead => exact ho

def Obj.own : Obj → Bool
  | .cells _ own => own
  | .dead => false
  | _ => true

/-- The abstract heap stands for (a part of) the world. -/
structure Rel (ι : Mp) (H : Heap) (w : World) : Prop where
  dom : ∀ b, H.size ≤ b → ι b = .abs
  live : ∀ b rb ro n, ι b = .at rb ro n → ∃ o o', H.get b = some o ∧ w.heap[rb]? = some o' ∧ ORel ι ro n o o'
  dead : ∀ b, ι b = .dead → H.get b = some .dead
  inj : ∀ b b' rb ro n ro' n', ι b = .at rb ro n → ι b' = .at rb ro' n' → b = b' ∨ ((H.get b).all (!·.own) = true ∧ (H.get b').all (!·.own) = true)

/-- Whatever the abstract heap does not stand for lies as it lay. -/
def Fr (ι : Mp) (w w' : World) : Prop :=
  w.heap.size ≤ w'.heap.size ∧ ∀ r, r < w.heap.size → (∀ b rb ro n, ι b = .at rb ro n → rb ≠ r) → w'.heap[r]? = w.heap[r]?

/-- What is not one's own stays where it is and as it is. -/
def Stays (ι : Mp) (H : Heap) (w : World) (ι' : Mp) (H' : Heap) (w' : World) : Prop :=
  ∀ b rb ro n, ι b = .at rb ro n → (H.get b).all (!·.own) = true → ι' b = .at rb ro n ∧ (H'.get b).all (!·.own) = true ∧ w'.heap[rb]? = w.heap[rb]?
/-- Nothing is told to the outside. -/
def Outs (w w' : World) : Prop := w'.os = w.os ∧ w'.output = w.output

/-- From one state to another one. -/
structure Post (ι : Mp) (H : Heap) (w : World) (ι' : Mp) (H' : Heap) (w' : World) : Prop where
  ge : Ge ι ι'
  rel : Rel ι' H' w'
  fr : Fr ι w w'
  img : ∀ b rb ro n, ι' b = .at rb ro n → (∃ b' ro' n', ι b' = .at rb ro' n') ∨ w.heap.size ≤ rb
  new : ∀ b, ι b = .abs → ι' b ≠ .abs → H.size ≤ b
  size : H.size ≤ H'.size
  stay : Stays ι H w ι' H' w'
  out : Outs w w'

theorem Rel.lt {ι : Mp} {H : Heap} {w : World} (h : Rel ι H w) {b rb ro n : Nat} (hb : ι b = .at rb ro n) : rb < w.heap.size := by
  obtain ⟨o, o', _, h2, _⟩ := h.live b rb ro n hb
  exact (Array.getElem?_eq_some_iff.1 h2).1

theorem Rel.lt' {ι : Mp} {H : Heap} {w : World} (h : Rel ι H w) {b rb ro n : Nat} (hb : ι b = .at rb ro n) : b < H.size := by
  apply Classical.byContradiction
  intro hc
  have := h.dom b (by omega)
  rw [this] at hb
  cases hb

theorem Fr.refl (ι : Mp) (w : World) : Fr ι w w := ⟨Nat.le_refl _, fun _ _ _ => rfl⟩

theorem Post.refl {ι : Mp} {H : Heap} {w : World} (h : Rel ι H w) : Post ι H w ι H w :=
  ⟨.refl _, h, .refl _ _, fun b rb ro n hb => .inl ⟨b, ro, n, hb⟩, fun _ h1 h2 => absurd h1 h2, Nat.le_refl _, fun _ _ _ _ h1 h2 => ⟨h1, h2, rfl⟩, ⟨rfl, rfl⟩⟩

theorem Post.trans {ι ι' ι'' : Mp} {H H' H'' : Heap} {w w' w'' : World} (h : Post ι H w ι' H' w') (h' : Post ι' H' w' ι'' H'' w'') : Post ι H w ι'' H'' w'' := by
  refine ⟨h.ge.trans h'.ge, h'.rel, ⟨Nat.le_trans h.fr.1 h'.fr.1, fun r hr hn => ?_⟩, fun b rb ro n hb => ?_, fun b hb hb' => ?_, Nat.le_trans h.size h'.size, fun b rb ro n h1 h2 => ?_, ⟨h'.out.1.trans h.out.1, h'.out.2.trans h.out.2⟩⟩
  · rw [h'.fr.2 r (Nat.lt_of_lt_of_le hr h.fr.1) fun b rb ro n hb => ?_, h.fr.2 r hr hn]
    rcases h.img b rb ro n hb with ⟨b', ro', n', hb'⟩ | hge
    · exact hn b' rb ro' n' hb'
    · omega
  · rcases h'.img b rb ro n hb with ⟨b', ro', n', hb'⟩ | hge
    · exact h.img b' rb ro' n' hb'
    · exact .inr (Nat.le_trans h.fr.1 hge)
  · by_cases e : ι' b = .abs
    · exact Nat.le_trans h.size (h'.new b e hb')
    · exact h.new b hb e
  · obtain ⟨a1, a2, a3⟩ := h.stay b rb ro n h1 h2
    obtain ⟨c1, c2, c3⟩ := h'.stay b rb ro n a1 a2
    exact ⟨c1, c2, c3.trans a3⟩

/-- A new object: a new block, standing for the world's new block. -/
theorem Post.push {ι : Mp} {H : Heap} {w w' : World} (h : Rel ι H w) (o : Obj) (o' : Go.Obj) (n : Nat) (hw : w'.heap = w.heap.push o')
    (ho : ORel ι 0 n o o') (hx : Outs w w' := by exact ⟨rfl, rfl⟩) : Post ι H w (fun b => if b = H.size then .at w.heap.size 0 n else ι b) (H.push o) w' := by
  have hge : Ge ι (fun b => if b = H.size then .at w.heap.size 0 n else ι b) := by
    intro b
    by_cases e : b = H.size
    · exact .inl (h.dom b (by omega))
    · exact .inr (.inl (by simp [e]))
  refine ⟨hge, ⟨fun b hb => ?_, fun b rb ro m hb => ?_, fun b hb => ?_, fun b b' rb ro m ro' m' hb hb' => ?_⟩, ⟨by simp [hw], fun r hr hn => ?_⟩, fun b rb ro m hb => ?_, fun b hb hb' => ?_, by simp, fun b rb ro m h1 h2 => ?_, hx⟩
  · have e : b ≠ H.size := by simp at hb; omega
    simp only [e, if_false]
    exact h.dom b (by simp at hb; omega)
  · by_cases e : b = H.size
    · simp only [e, if_true, St.at.injEq] at hb
      obtain ⟨rfl, rfl, rfl⟩ := hb
      exact ⟨o, o', by rw [e]; simp, by simp [hw], ho.mono hge⟩
    · simp only [e, if_false] at hb
      obtain ⟨x, x', h1, h2, h3⟩ := h.live b rb ro m hb
      refine ⟨x, x', by rw [Heap.get_push_ne _ _ e]; exact h1, ?_, h3.mono hge⟩
      have hlt := h.lt hb
      simp only [hw, Array.getElem?_push, Nat.ne_of_lt hlt, if_false]
      exact h2
  · by_cases e : b = H.size
    · simp [e] at hb
    · simp only [e, if_false] at hb
      rw [Heap.get_push_ne _ _ e]
      exact h.dead b hb
  · by_cases e : b = H.size <;> by_cases e' : b' = H.size
    · exact .inl (by omega)
    · simp only [e, if_true, e', if_false, St.at.injEq] at hb hb'
      have := h.lt hb'
      omega
    · simp only [e, if_false, e', if_true, St.at.injEq] at hb hb'
      have := h.lt hb
      omega
    · simp only [e, e', if_false] at hb hb'
      rw [Heap.get_push_ne _ _ e, Heap.get_push_ne _ _ e']
      exact h.inj b b' rb ro m ro' m' hb hb'
  · simp [hw, Array.getElem?_push, Nat.ne_of_lt hr]
  · by_cases e : b = H.size
    · simp only [e, if_true, St.at.injEq] at hb
      exact .inr (by omega)
    · simp only [e, if_false] at hb
      exact .inl ⟨b, ro, m, hb⟩
  · by_cases e : b = H.size
    · omega
    · simp only [e, if_false] at hb'
      exact absurd hb hb'
  · have e : b ≠ H.size := Nat.ne_of_lt (h.lt' h1)
    exact ⟨by simp only [e, if_false]; exact h1, by rw [Heap.get_push_ne _ _ e]; exact h2, by simp [hw, Array.getElem?_push, Nat.ne_of_lt (h.lt h1)]⟩

/-- An object is changed in place. -/
theorem Post.set {ι : Mp} {H : Heap} {w w' : World} (h : Rel ι H w) {b rb ro n : Nat} (hb : ι b = .at rb ro n) (hown : (H.get b).any (·.own) = true) (o : Obj) (o' : Go.Obj)
    (hs : w'.heap.size = w.heap.size) (h1 : w'.heap[rb]? = some o') (h2 : ∀ k, k ≠ rb → w'.heap[k]? = w.heap[k]?)
    (ho : ORel ι ro n o o') (hx : Outs w w' := by exact ⟨rfl, rfl⟩) : Post ι H w ι (H.set b o) w' := by
  have hnot : ¬ (H.get b).all (!·.own) = true := by
    cases e : H.get b with
    | none => simp [e] at hown
    | some x => simp [e] at hown ⊢; exact hown
  have uniq : ∀ b' ro' n', ι b' = .at rb ro' n' → b' = b := fun b' ro' n' hb' => by
    rcases h.inj b b' rb ro n ro' n' hb hb' with e | ⟨e, _⟩
    · exact e.symm
    · exact absurd e hnot
  refine ⟨.refl _, ⟨by rw [Heap.size_set]; exact h.dom, fun b' rb' ro' m hb' => ?_, fun b' hb' => ?_, fun b1 b2 rb' ro1 m1 ro2 m2 g1 g2 => ?_⟩, ⟨by rw [hs]; exact Nat.le_refl _, fun r hr hn => ?_⟩, fun b' rb' ro' m hb' => .inl ⟨b', ro', m, hb'⟩, fun _ h1 h2 => absurd h1 h2, by rw [Heap.size_set]; exact Nat.le_refl _, fun b' rb' ro' m q1 q2 => ?_, hx⟩
  · by_cases e : b' = b
    · subst e
      rw [hb] at hb'
      simp only [St.at.injEq] at hb'
      obtain ⟨rfl, rfl, rfl⟩ := hb'
      exact ⟨o, o', by simp, h1, ho⟩
    · obtain ⟨x, x', g1, g2, g3⟩ := h.live b' rb' ro' m hb'
      have hne : rb' ≠ rb := fun e' => e (uniq b' ro' m (e' ▸ hb'))
      exact ⟨x, x', by rw [Heap.get_set_ne _ _ e]; exact g1, by rw [h2 _ hne]; exact g2, g3⟩
  · have e : b' ≠ b := fun e => by rw [e, hb] at hb'; cases hb'
    rw [Heap.get_set_ne _ _ e]
    exact h.dead b' hb'
  · by_cases e1 : b1 = b <;> by_cases e2 : b2 = b
    · exact .inl (by omega)
    · subst e1
      rw [hb] at g1
      simp only [St.at.injEq] at g1
      obtain ⟨rfl, _, _⟩ := g1
      exact .inl (uniq b2 _ _ g2).symm
    · subst e2
      rw [hb] at g2
      simp only [St.at.injEq] at g2
      obtain ⟨rfl, _, _⟩ := g2
      exact .inl (uniq b1 _ _ g1)
    · rw [Heap.get_set_ne _ _ e1, Heap.get_set_ne _ _ e2]
      exact h.inj b1 b2 rb' ro1 m1 ro2 m2 g1 g2
  · exact h2 r (Ne.symm (hn b rb ro n hb))
  · have e : b' ≠ b := fun e => hnot (e ▸ q2)
    have hne : rb' ≠ rb := fun e' => e (uniq b' ro' m (e' ▸ q1))
    exact ⟨q1, by rw [Heap.get_set_ne _ _ e]; exact q2, h2 _ hne⟩

/-- A row is used up; what it held, and more, stands in a new block: in the world it may lie where the old one did, or elsewhere. -/
theorem Post.move {ι : Mp} {H : Heap} {w w' : World} (h : Rel ι H w) {b rb ro n : Nat} (hb : ι b = .at rb ro n) (hown : (H.get b).any (·.own) = true) (o : Obj) (o' : Go.Obj) (ro' n' : Nat)
    (hs : w'.heap.size = w.heap.size) (h1 : w'.heap[rb]? = some o') (h2 : ∀ k, k ≠ rb → w'.heap[k]? = w.heap[k]?)
    (ho : ORel (fun k => if k = b then .dead else ι k) ro' n' o o') (hx : Outs w w' := by exact ⟨rfl, rfl⟩) :
    Post ι H w (fun k => if k = H.size then .at rb ro' n' else if k = b then .dead else ι k) ((H.set b .dead).push o) w' := by
  have hbl : b < H.size := h.lt' hb
  have hbn : b ≠ H.size := by omega
  have hnot : ¬ (H.get b).all (!·.own) = true := by
    cases e : H.get b with
    | none => simp [e] at hown
    | some x => simp [e] at hown ⊢; exact hown
  have uniq : ∀ b' ro' n', ι b' = .at rb ro' n' → b' = b := fun b' ro' n' hb' => by
    rcases h.inj b b' rb ro n ro' n' hb hb' with e | ⟨e, _⟩
    · exact e.symm
    · exact absurd e hnot
  have hge1 : Ge ι (fun k => if k = b then .dead else ι k) := by
    intro k
    by_cases e : k = b
    · exact .inr (.inr ⟨by simp [e], rb, ro, n, e ▸ hb⟩)
    · exact .inr (.inl (by simp [e]))
  have hge2 : Ge (fun k => if k = b then .dead else ι k) (fun k => if k = H.size then .at rb ro' n' else if k = b then .dead else ι k) := by
    intro k
    by_cases e : k = H.size
    · exact .inl (by simp only [e, if_neg (Ne.symm hbn)]; exact h.dom _ (Nat.le_refl _))
    · exact .inr (.inl (by simp [e]))
  have hg : ∀ k, k ≠ H.size → k ≠ b → ((H.set b .dead).push o).get k = H.get k := fun k e1 e2 => by
    rw [Heap.get_push_ne _ _ (by simpa using e1), Heap.get_set_ne _ _ e2]
  refine ⟨hge1.trans hge2, ⟨fun k hk => ?_, fun k rb' q m hk => ?_, fun k hk => ?_, fun k1 k2 rb' q1 m1 q2 m2 g1 g2 => ?_⟩, ⟨by rw [hs]; exact Nat.le_refl _, fun r hr hn => ?_⟩, fun k rb' q m hk => ?_, fun k hk hk' => ?_, by simp, fun k rb' q m q1 q2 => ?_, hx⟩
  · have e1 : k ≠ H.size := by simp at hk; omega
    have e2 : k ≠ b := by simp at hk; omega
    simp only [e1, e2, if_false]
    exact h.dom k (by simp at hk; omega)
  · by_cases e : k = H.size
    · simp only [e, if_true, St.at.injEq] at hk
      obtain ⟨rfl, rfl, rfl⟩ := hk
      refine ⟨o, o', ?_, h1, ho.mono hge2⟩
      rw [e]; simp [Heap.get_push]
    · by_cases e2 : k = b
      · simp [hbn, e2] at hk
      · simp only [e, e2, if_false] at hk
        obtain ⟨x, x', g1, g2, g3⟩ := h.live k rb' q m hk
        have hne : rb' ≠ rb := fun e' => e2 (uniq k q m (e' ▸ hk))
        exact ⟨x, x', by rw [hg k e e2]; exact g1, by rw [h2 _ hne]; exact g2, g3.mono (hge1.trans hge2)⟩
  · by_cases e : k = H.size
    · simp [e] at hk
    · by_cases e2 : k = b
      · rw [Heap.get_push_ne _ _ (by simpa using e), e2]; simp
      · simp only [e, e2, if_false] at hk
        rw [hg k e e2]
        exact h.dead k hk
  · by_cases e1 : k1 = H.size <;> by_cases e2 : k2 = H.size
    · exact .inl (by omega)
    · by_cases e3 : k2 = b
      · simp [hbn, e3] at g2
      · simp only [e1, if_true, e2, e3, if_false, St.at.injEq] at g1 g2
        obtain ⟨rfl, _, _⟩ := g1
        exact absurd (uniq k2 _ _ g2) e3
    · by_cases e3 : k1 = b
      · simp [hbn, e3] at g1
      · simp only [e2, if_true, e1, e3, if_false, St.at.injEq] at g1 g2
        obtain ⟨rfl, _, _⟩ := g2
        exact absurd (uniq k1 _ _ g1) e3
    · by_cases e3 : k1 = b
      · simp [hbn, e3] at g1
      · by_cases e4 : k2 = b
        · simp [hbn, e4] at g2
        · simp only [e1, e2, e3, e4, if_false] at g1 g2
          rw [hg k1 e1 e3, hg k2 e2 e4]
          exact h.inj k1 k2 rb' q1 m1 q2 m2 g1 g2
  · exact h2 r (Ne.symm (hn b rb ro n hb))
  · by_cases e : k = H.size
    · simp only [e, if_true, St.at.injEq] at hk
      obtain ⟨rfl, rfl, rfl⟩ := hk
      exact .inl ⟨b, ro, n, hb⟩
    · by_cases e2 : k = b
      · simp [hbn, e2] at hk
      · simp only [e, e2, if_false] at hk
        exact .inl ⟨k, q, m, hk⟩
  · by_cases e : k = H.size
    · omega
    · by_cases e2 : k = b
      · rw [e2, hb] at hk; cases hk
      · simp only [e, e2, if_false] at hk'
        exact absurd hk hk'
  · have e : k ≠ H.size := Nat.ne_of_lt (h.lt' q1)
    have e2 : k ≠ b := fun e => hnot (e ▸ q2)
    have hne : rb' ≠ rb := fun e' => e2 (uniq k q m (e' ▸ q1))
    exact ⟨by simp only [e, e2, if_false]; exact q1, by rw [hg k e e2]; exact q2, h2 _ hne⟩

/-- A row is used up. -/
theorem Post.kill {ι : Mp} {H : Heap} {w : World} (h : Rel ι H w) {b rb ro n : Nat} (hb : ι b = .at rb ro n) (hown : (H.get b).any (·.own) = true) :
    Post ι H w (fun k => if k = b then .dead else ι k) (H.set b .dead) w := by
  have hge1 : Ge ι (fun k => if k = b then .dead else ι k) := by
    intro k
    by_cases e : k = b
    · exact .inr (.inr ⟨by simp [e], rb, ro, n, e ▸ hb⟩)
    · exact .inr (.inl (by simp [e]))
  have hbl : b < H.size := h.lt' hb
  refine ⟨hge1, ⟨fun k hk => ?_, fun k rb' q m hk => ?_, fun k hk => ?_, fun k1 k2 rb' q1 m1 q2 m2 g1 g2 => ?_⟩, .refl _ _, fun k rb' q m hk => ?_, fun k hk hk' => ?_, by rw [Heap.size_set]; exact Nat.le_refl _, fun k rb' q m q1 q2 => ?_, ⟨rfl, rfl⟩⟩
  · rw [Heap.size_set] at hk
    have e2 : k ≠ b := by omega
    simp only [e2, if_false]
    exact h.dom k hk
  · by_cases e2 : k = b
    · simp [e2] at hk
    · simp only [e2, if_false] at hk
      obtain ⟨x, x', g1, g2, g3⟩ := h.live k rb' q m hk
      exact ⟨x, x', by rw [Heap.get_set_ne _ _ e2]; exact g1, g2, g3.mono hge1⟩
  · by_cases e2 : k = b
    · rw [e2]; simp
    · simp only [e2, if_false] at hk
      rw [Heap.get_set_ne _ _ e2]
      exact h.dead k hk
  · by_cases e3 : k1 = b
    · simp [e3] at g1
    · by_cases e4 : k2 = b
      · simp [e4] at g2
      · simp only [e3, e4, if_false] at g1 g2
        rw [Heap.get_set_ne _ _ e3, Heap.get_set_ne _ _ e4]
        exact h.inj k1 k2 rb' q1 m1 q2 m2 g1 g2
  · by_cases e2 : k = b
    · simp [e2] at hk
    · simp only [e2, if_false] at hk
      exact .inl ⟨k, q, m, hk⟩
  · by_cases e2 : k = b
    · rw [e2, hb] at hk; cases hk
    · simp only [e2, if_false] at hk'
      exact absurd hk hk'
  · have e2 : k ≠ b := fun e => by
      rw [e] at q2
      cases e : H.get b with
      | none => simp [e] at hown
      | some x => simp [e] at hown q2; rw [hown] at q2; cases q2
    exact ⟨by simp only [e2, if_false]; exact q1, by rw [Heap.get_set_ne _ _ e2]; exact q2, rfl⟩

/-- The world's count of draws is no matter. -/
theorem Rel.of_heap {ι : Mp} {H : Heap} {w w' : World} (h : Rel ι H w) (e : w'.heap = w.heap) : Rel ι H w' :=
  ⟨h.dom, fun b rb ro n hb => by rw [e]; exact h.live b rb ro n hb, h.dead, h.inj⟩

theorem Post.of_heap {ι ι' : Mp} {H H' : Heap} {w w' w0 : World} (h : Post ι H w ι' H' w') (e : w.heap = w0.heap) (hx : Outs w0 w := by exact ⟨rfl, rfl⟩) : Post ι H w0 ι' H' w' :=
  ⟨h.ge, h.rel, ⟨by rw [← e]; exact h.fr.1, fun r hr hn => by rw [← e] at hr ⊢; exact h.fr.2 r hr hn⟩, fun b rb ro n hb => by rw [← e]; exact h.img b rb ro n hb, h.new, h.size, fun b rb ro n h1 h2 => by rw [← e]; exact h.stay b rb ro n h1 h2, ⟨h.out.1.trans hx.1, h.out.2.trans hx.2⟩⟩

theorem Post.draw {ι : Mp} {H : Heap} {w w' : World} (h : Rel ι H w) (e : w'.heap = w.heap) (hx : Outs w w' := by exact ⟨rfl, rfl⟩) : Post ι H w ι H w' :=
  (Post.refl (h.of_heap e)).of_heap e hx

end Go.Am
