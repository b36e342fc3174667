/-
  PASSAGE: the examples are as they are told: a closed run, second part.
-/
import Derived.Test.YtgkmdkhhaapolaaAw1
namespace Go.Proofs.Ytgkmdkhhaapolaa
open Go.Am Go.Proofs
theorem awake_two : endTrue (run E 100000 (.code none Try.f14.ntmps (restC 6 (codeOf Try.f14.body)) S2.empty) Heap.empty) = true := by kernel_rfl
theorem awake_ok : FN P 14 [] [] [] fun v L' => v = .bool true ∧ L' = [] :=
  FN.closed (AC.parts EOk ENt (fn := Try.f14) (c := (codeOf Try.f14.body)) (n := 120) rfl rfl rfl rfl
    fun H => by
      have := AX.part EOk ENt awake_one (yesF_dry _) (fun H => AX.last EOk ENt (n := 120) awake_two H) H
      rw [seqs_heads] at this
      exact this)
end Go.Proofs.Ytgkmdkhhaapolaa
