/-
  THE ABSTRACT MACHINE, 13: the program's tables as trees.
-/
import Derived.Test.YtgkmdkhhaapolaaAm12
namespace Go.Am
noncomputable section

theorem info_of_build {P : Program} {T : Tree TypeInfo} (h : T = Tree.build P.types.size P.types.toList) (t : TypeId) (i : TypeInfo) (hi : T.get t = some i) : P.info? t = some i := by
  rw [h, Tree.get_build _ _ _ (by simp)] at hi
  have hlt : t < P.types.size := by
    have := (List.getElem?_eq_some_iff.1 hi).1
    simpa using this
  simp only [Tables.info?, hlt, if_true]
  simpa using hi

theorem body_of_build {P : Program} {T : Tree Func} (h : T = Tree.build P.funcs.size P.funcs.toList) (f : FuncId) (fn : Func) (hi : T.get f = some fn) : P.funcs[f]? = some fn := by
  rw [h, Tree.get_build _ _ _ (by simp)] at hi
  simpa using hi

end
end Go.Am
