/-
  PASSAGE: the examples are as they are told: a closed run, first part.
-/
import Derived.Test.YtgkmdkhhaapolaaPs1
import Derived.Test.YtgkmdkhhaapolaaAm21
namespace Go.Proofs.Ytgkmdkhhaapolaa
open Go.Am Go.Proofs
noncomputable section
def codeOf (o : Option Code) : Code := match o with
  | some c => c
  | none => .skip
def headsC : Nat → Code → List Code
  | n + 1, .seq a b => a :: headsC n b
  | _, _ => []
def restC : Nat → Code → Code
  | n + 1, .seq _ b => restC n b
  | _, c => c
theorem seqs_heads : ∀ (n : Nat) (c : Code), seqs (headsC n c) (restC n c) = c
  | 0, c => by unfold headsC restC; rfl
  | n + 1, c => by
    unfold headsC restC
    cases c with
    | seq a b => exact congrArg (Code.seq a) (seqs_heads n b)
    | _ => rfl
theorem awake_one : runL E 100000 Try.f14.ntmps (headsC 6 (codeOf Try.f14.body)) S2.empty Heap.empty = true := by kernel_rfl
end
end Go.Proofs.Ytgkmdkhhaapolaa
