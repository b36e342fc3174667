/-
  THE SYMBOLIC LAYER, 5: shapes of the rules that programs print.
-/
import Derived.Test.YtgkmdkhhaapolaaSy4
namespace Go.Am
noncomputable section
open Classical

theorem Kn.l {b : Nat} {o : Obj} {L M : CL} (h : (b, o) ∈ L) : Kn b o L M := .inl h
theorem Kn.m {b : Nat} {o : Obj} {L M : CL} (h : (b, o) ∈ M) : Kn b o L M := .inr h

abbrev band (a b : Int) : Int := IntKind.i64.wrap ((BitVec.ofInt IntKind.i64.bits a &&& BitVec.ofInt IntKind.i64.bits b).toNat : Int)
abbrev bor (a b : Int) : Int := IntKind.i64.wrap ((BitVec.ofInt IntKind.i64.bits a ||| BitVec.ofInt IntKind.i64.bits b).toNat : Int)
section bits
variable {P : Program} {E : Env} {R : Option Nat} {n : Nat} {M : CL} {F : FA} {L : CL} {K : Cw → FA → CL → Prop} {ops : Array Oper}
variable {d : Nat} {ty : TypeId} {pos : String} {aft : Array Edge} {g : Option (Nat × Bool)} {t u : TypeId} {x y : Operand} {a b : Int}
theorem OX.band (hw : wantF ops F g = some true) (hd : Nat.blt d n = true) (hx : opd F x = some (.int .i64 a)) (hy : opd F y = some (.int .i64 b)) (k : K (.rd []) ((d, .int .i64 (Am.band a b)) :: F) L) : OX P E R n M ops ⟨some d, .binOp .and t x y u, ty, pos, aft, g⟩ F L K :=
  OX.bin hw hd hx hy rfl k
theorem OX.bor (hw : wantF ops F g = some true) (hd : Nat.blt d n = true) (hx : opd F x = some (.int .i64 a)) (hy : opd F y = some (.int .i64 b)) (k : K (.rd []) ((d, .int .i64 (Am.bor a b)) :: F) L) : OX P E R n M ops ⟨some d, .binOp .or t x y u, ty, pos, aft, g⟩ F L K :=
  OX.bin hw hd hx hy rfl k
theorem band16 : ∀ a : Nat, a < 16 → ∀ b : Nat, b < 16 → 0 ≤ Am.band a b ∧ Am.band a b < 16 := by decide
theorem bor16 : ∀ a : Nat, a < 16 → ∀ b : Nat, b < 16 → 0 ≤ Am.bor a b ∧ Am.bor a b < 16 := by decide
theorem band_rng {a b : Int} (ha : 0 ≤ a ∧ a < 16) (hb : 0 ≤ b ∧ b < 16) : 0 ≤ Am.band a b ∧ Am.band a b < 16 := by
  have := band16 a.toNat (by omega) b.toNat (by omega)
  rwa [Int.toNat_of_nonneg ha.1, Int.toNat_of_nonneg hb.1] at this
theorem bor_rng {a b : Int} (ha : 0 ≤ a ∧ a < 16) (hb : 0 ≤ b ∧ b < 16) : 0 ≤ Am.bor a b ∧ Am.bor a b < 16 := by
  have := bor16 a.toNat (by omega) b.toNat (by omega)
  rwa [Int.toNat_of_nonneg ha.1, Int.toNat_of_nonneg hb.1] at this
end bits

section rules
variable {P : Program} {E : Env} {R : Option Nat} {n : Nat} {M : CL} {F F' : FA} {L L' : CL} {Q : Post3} {ks : List KI} {ops : Array Oper} {os : List Oper}

theorem WS.condD {x : Operand} {a b : Code} {p : Prop} {inst : Decidable p} (hx : opd F x = some (.bool (@decide p inst))) (h1 : p → WS P R n M a ks F L Q) (h2 : ¬ p → WS P R n M b ks F L Q) : WS P R n M (.cond x a b) ks F L Q :=
  WS.cond hx (fun h => h1 (of_decide_eq_true h)) fun h => h2 (of_decide_eq_false h)
theorem WS.condN {x : Operand} {a b : Code} {p : Prop} {inst : Decidable p} (hx : opd F x = some (.bool (!(@decide p inst)))) (h1 : ¬ p → WS P R n M a ks F L Q) (h2 : p → WS P R n M b ks F L Q) : WS P R n M (.cond x a b) ks F L Q :=
  WS.cond hx (fun h => h1 (of_decide_eq_false (by simpa using h))) fun h => h2 (of_decide_eq_true (by simpa using h))
theorem WO.askD {t : Nat} {p : Prop} {inst : Decidable p} (ht : look F t = some (.bool (@decide p inst))) (h1 : p → WO P E R n M ops os ks ((t, .bool true) :: F) L Q) (h2 : ¬ p → WO P E R n M ops os ks ((t, .bool false) :: F) L Q) : WO P E R n M ops os ks F L Q :=
  WO.ask ht (fun h => h1 (of_decide_eq_true h)) fun h => h2 (of_decide_eq_false h)
theorem WO.askN {t : Nat} {p : Prop} {inst : Decidable p} (ht : look F t = some (.bool (!(@decide p inst)))) (h1 : ¬ p → WO P E R n M ops os ks ((t, .bool true) :: F) L Q) (h2 : p → WO P E R n M ops os ks ((t, .bool false) :: F) L Q) : WO P E R n M ops os ks F L Q :=
  WO.ask ht (fun h => h1 (of_decide_eq_false (by simpa using h))) fun h => h2 (of_decide_eq_true (by simpa using h))
theorem WD.askD {ancs todo : List Nat} {seen : List SeenS} {t : Nat} {p : Prop} {inst : Decidable p} (ht : look F t = some (.bool (@decide p inst))) (h1 : p → WD P E R n M ops ancs todo seen ks ((t, .bool true) :: F) L Q) (h2 : ¬ p → WD P E R n M ops ancs todo seen ks ((t, .bool false) :: F) L Q) : WD P E R n M ops ancs todo seen ks F L Q :=
  WD.ask ht (fun h => h1 (of_decide_eq_true h)) fun h => h2 (of_decide_eq_false h)
theorem WD.askN {ancs todo : List Nat} {seen : List SeenS} {t : Nat} {p : Prop} {inst : Decidable p} (ht : look F t = some (.bool (!(@decide p inst)))) (h1 : ¬ p → WD P E R n M ops ancs todo seen ks ((t, .bool true) :: F) L Q) (h2 : p → WD P E R n M ops ancs todo seen ks ((t, .bool false) :: F) L Q) : WD P E R n M ops ancs todo seen ks F L Q :=
  WD.ask ht (fun h => h1 (of_decide_eq_false (by simpa using h))) fun h => h2 (of_decide_eq_true (by simpa using h))
end rules
end
end Go.Am
