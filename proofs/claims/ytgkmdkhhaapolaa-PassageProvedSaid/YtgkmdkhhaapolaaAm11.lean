/-
  THE ABSTRACT MACHINE, 11: trees out of lists.
-/
import Derived.Test.YtgkmdkhhaapolaaAm10
namespace Go.Am
noncomputable section

mutual
def evens {α : Type} : List α → List α
  | [] => []
  | a :: as => a :: odds as
def odds {α : Type} : List α → List α
  | [] => []
  | _ :: as => evens as
end

mutual
theorem evens_get {α : Type} : ∀ (l : List α) (k : Nat), (evens l)[k]? = l[2 * k]?
  | [], k => by simp [evens]
  | a :: as, 0 => by simp [evens]
  | a :: as, k + 1 => by simp only [evens, List.getElem?_cons_succ, odds_get as k]; rw [show 2 * (k + 1) = (2 * k + 1) + 1 by omega, List.getElem?_cons_succ]
theorem odds_get {α : Type} : ∀ (l : List α) (k : Nat), (odds l)[k]? = l[2 * k + 1]?
  | [], k => by simp [odds]
  | a :: as, k => by simp only [odds, evens_get as k, List.getElem?_cons_succ]
end

mutual
theorem evens_len {α : Type} : ∀ (l : List α), (evens l).length ≤ l.length
  | [] => by simp [evens]
  | a :: as => by simp only [evens, List.length_cons]; have := odds_len as; omega
theorem odds_len {α : Type} : ∀ (l : List α), (odds l).length ≤ l.length
  | [] => by simp [odds]
  | a :: as => by simp only [odds, List.length_cons]; have := evens_len as; omega
end

def Tree.build {α : Type} : Nat → List α → Tree α
  | 0, _ => .nil
  | _ + 1, [] => .nil
  | n + 1, a :: as => .node (Tree.build n (evens as)) (some a) (Tree.build n (odds as))

theorem Tree.get_build {α : Type} : ∀ (n : Nat) (l : List α) (k : Nat), l.length ≤ n → (Tree.build n l).get k = l[k]?
  | 0, l, k, h => by
    have : l = [] := List.eq_nil_of_length_eq_zero (by omega)
    subst this
    simp [Tree.build]
  | n + 1, [], k, _ => by simp [Tree.build]
  | n + 1, a :: as, 0, _ => by simp [Tree.build]
  | n + 1, a :: as, k + 1, h => by
    simp only [List.length_cons] at h
    simp only [Tree.build, Tree.get_node_succ, List.getElem?_cons_succ]
    split
    · rw [Tree.get_build n _ _ (by have := evens_len as; omega), evens_get]; congr 1; omega
    · rw [Tree.get_build n _ _ (by have := odds_len as; omega), odds_get]; congr 1; omega


end
end Go.Am
