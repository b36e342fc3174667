/-
  THE ABSTRACT MACHINE, 16: what the runner's parts show.
-/
import Derived.Test.YtgkmdkhhaapolaaAm15
namespace Go.Am
noncomputable section
open Classical

/-! ### Laid bare, nothing changes -/
theorem intK_eq {β : Type} (n : Int) (k : Int → β) : intK n k = k n := by cases n <;> exact natK_eq _ _
theorem locK_eq {β : Type} (l : Loc) (k : Loc → β) : locK l k = k l := by
  obtain ⟨b, o⟩ := l
  show natK b (fun b => natK o fun o => k ⟨b, o⟩) = _
  rw [natK_eq, natK_eq]
theorem optK_eq {α β : Type} (f : α → (α → β) → β) (hf : ∀ a k, f a k = k a) (o : Option α) (k : Option α → β) : optK f o k = k o := by
  cases o with
  | none => rfl
  | some a => exact hf a _
theorem listK_eq {α β : Type} (f : α → (α → β) → β) (hf : ∀ a k, f a k = k a) : ∀ (l : List α) (k : List α → β), listK f l k = k l
  | [], _ => rfl
  | a :: l, k => by
    show f a (fun a => listK f l fun l => k (a :: l)) = _
    rw [hf, listK_eq f hf l]
theorem atomK_eq {β : Type} (v : V) (k : V → β) : atomK v k = k v := by
  cases v with
  | bool b => cases b <;> rfl
  | int kd n => exact intK_eq n _
  | ptr a => exact optK_eq _ (fun a k => locK_eq a k) a _
  | slice a len esz cap =>
    show optK locK a (fun a => natK len fun len => natK esz fun esz => optK natK cap fun cap => k (.slice a len esz cap)) = _
    rw [optK_eq _ (fun a k => locK_eq a k), natK_eq, natK_eq, optK_eq _ fun a k => natK_eq a k]
  | map r => exact optK_eq _ (fun a k => natK_eq a k) r _
  | yld l => exact natK_eq l _
  | _ => rfl
theorem valK_eq {β : Type} (v : V) (k : V → β) : valK v k = k v := by
  cases v with
  | bool b => cases b <;> rfl
  | int kd n => exact intK_eq n _
  | ptr a => exact optK_eq _ (fun a k => locK_eq a k) a _
  | slice a len esz cap =>
    show optK locK a (fun a => natK len fun len => natK esz fun esz => optK natK cap fun cap => k (.slice a len esz cap)) = _
    rw [optK_eq _ (fun a k => locK_eq a k), natK_eq, natK_eq, optK_eq _ fun a k => natK_eq a k]
  | map r => exact optK_eq _ (fun a k => natK_eq a k) r _
  | yld l => exact natK_eq l _
  | func f a c =>
    show listK atomK a (fun a => listK atomK c fun c => k (.func f a c)) = _
    rw [listK_eq _ fun a k => atomK_eq a k, listK_eq _ fun a k => atomK_eq a k]
  | agg cs => exact listK_eq _ (fun a k => atomK_eq a k) cs _
  | tup cs => exact listK_eq _ (fun a k => atomK_eq a k) cs _
  | _ => rfl
theorem cdK_eq {β : Type} (c : Cd) (k : Cd → β) : cdK c k = k c := by
  cases c with
  | rd rs => exact listK_eq _ (fun a k => natK_eq a k) rs _
  | _ => rfl

/-! ### Frames -/
/-- A list of n slots, and a store that holds the same. -/
def FR (n : Nat) (l : List V) (t : TF) : Prop := l.length = n ∧ ∀ i, l.getD i .undef = TF.get t i

theorem FR.evT {n : Nat} {l : List V} {t : TF} (h : FR n l t) : evT t = evA l := by
  funext x
  cases x with
  | tmp i => exact (h.2 i).symm
  | const v => rfl
  | global g => rfl
  | func g => rfl

theorem TF.get_set (t : TF) (d : Nat) (v : V) (i : Nat) : TF.get (S2.set (p2 d) v t) i = if i = d then v else TF.get t i := by
  unfold TF.get
  by_cases h : i = d
  · subst h; rw [S2.get_set_same]; simp [optD]
  · rw [S2.get_set_ne _ _ fun e => h (p2_inj _ _ e)]; simp [h]

theorem FR.put {n : Nat} {l : List V} {t : TF} (h : FR n l t) {d : Nat} (hd : d < n) (v : V) : FR n (l.set d v) (S2.set (p2 d) v t) := by
  refine ⟨by simpa using h.1, fun i => ?_⟩
  rw [TF.get_set]
  by_cases e : i = d
  · subst e
    have : i < l.length := by rw [h.1]; exact hd
    simp [List.getD_eq_getElem?_getD, this]
  · rw [if_neg e, ← h.2 i]
    simp [List.getD_eq_getElem?_getD, List.getElem?_set_ne (Ne.symm e)]

theorem TF.get_empty (i : Nat) : TF.get S2.empty i = .undef := by
  unfold TF.get; rw [S2.get_empty]; rfl

theorem argK_get {β : Type} : ∀ (l : List V) (i : Nat) (t : TF) (k : TF → β), ∃ t', argK l i t k = k t' ∧ ∀ j, TF.get t' j = if i ≤ j ∧ j < i + l.length then l.getD (j - i) .undef else TF.get t j
  | [], i, t, k => ⟨t, rfl, fun j => by simp; omega⟩
  | v :: l, i, t, k => by
    show ∃ t', S2.setK (p2 i) v t (fun t => argK l (Nat.succ i) t k) = k t' ∧ _
    rw [S2.setK_eq]
    obtain ⟨t', h1, h2⟩ := argK_get l (i + 1) (S2.set (p2 i) v t) k
    refine ⟨t', h1, fun j => ?_⟩
    rw [h2 j, TF.get_set]
    by_cases e : j = i
    · subst e
      have h3 : ¬ (j + 1 ≤ j ∧ j < j + 1 + l.length) := by omega
      have h4 : j ≤ j ∧ j < j + (v :: l).length := by simp
      rw [if_neg h3, if_pos rfl, if_pos h4]; simp
    · by_cases h3 : i + 1 ≤ j ∧ j < i + 1 + l.length
      · have h4 : i ≤ j ∧ j < i + (v :: l).length := by simp; omega
        rw [if_pos h3, if_pos h4, show j - i = (j - (i + 1)) + 1 by omega]; simp
      · have h4 : ¬ (i ≤ j ∧ j < i + (v :: l).length) := by simp; omega
        rw [if_neg h3, if_neg h4, if_neg e]

theorem ofK_get {β : Type} (l : List V) (k : TF → β) : ∃ t', TF.ofK l k = k t' ∧ ∀ j, TF.get t' j = l.getD j .undef := by
  obtain ⟨t', h1, h2⟩ := argK_get l 0 S2.empty k
  refine ⟨t', h1, fun j => ?_⟩
  rw [h2 j, TF.get_empty]
  by_cases h : j < l.length
  · simp [h]
  · simp [h]

theorem FR.args {n : Nat} {args : List V} (hn : args.length ≤ n) {t : TF} (h : ∀ j, TF.get t j = args.getD j .undef) : FR n (args ++ List.replicate (n - args.length) .undef) t := by
  refine ⟨by simp; omega, fun i => ?_⟩
  rw [h i]
  by_cases hi : i < args.length
  · simp [List.getD_eq_getElem?_getD, List.getElem?_append_left hi]
  · simp only [List.getD_eq_getElem?_getD]
    rw [List.getElem?_append_right (by omega), List.getElem?_replicate, List.getElem?_eq_none (by omega)]
    split <;> rfl

theorem FR.ofList {l : List V} {t : TF} (h : ∀ j, TF.get t j = l.getD j .undef) : FR l.length l t := ⟨rfl, fun i => (h i).symm⟩

theorem FR.list {n : Nat} {l : List V} {t : TF} (h : FR n l t) : TF.list n t = l := by
  apply List.ext_getElem?
  intro i
  unfold TF.list
  by_cases hi : i < n
  · have hl : i < l.length := by rw [h.1]; exact hi
    have := h.2 i
    rw [List.getElem?_map, List.getElem?_range hi]
    simp only [Option.map_some]
    rw [← this, List.getD_eq_getElem?_getD, List.getElem?_eq_getElem hl]; rfl
  · rw [List.getElem?_eq_none (by simp; omega), List.getElem?_eq_none (by rw [h.1]; omega)]

/-! ### Guards -/
theorem sameBool_eq (v : V) (b : Bool) : sameBool v b = match v with | .bool x => some (x == b) | _ => none := by
  cases v <;> try rfl
  rename_i x
  cases x <;> cases b <;> rfl

theorem FR.want {n : Nat} {l : List V} {t : TF} (h : FR n l t) (ops : Array Oper) (o : Oper) : wantT ops t o.guard = wantA ops l o := by
  unfold wantT wantA wantOf
  cases hg : o.guard with
  | none => rfl
  | some g =>
    obtain ⟨j, want⟩ := g
    simp only
    cases hd : (ops[j]?).bind (·.dst) with
    | none => rfl
    | some d =>
      simp only
      rw [sameBool_eq, ← h.2 d]
      rfl

end
end Go.Am
