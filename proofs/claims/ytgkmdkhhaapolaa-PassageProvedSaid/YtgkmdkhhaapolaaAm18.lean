/-
  THE ABSTRACT MACHINE, 18: a drawn order that was run in one order.
-/
import Derived.Test.YtgkmdkhhaapolaaAm17
namespace Go.Am
noncomputable section
open Classical

section plan
variable {ops : Array Oper}

theorem hasBit_eq (m i : Nat) : hasBit m i = m.testBit i := by
  unfold hasBit
  rw [beq_iff, Nat.testBit_eq_decide_div_mod_eq]
  rfl

theorem ancOf_bit {acc : List Nat} {o : Oper} {i : Nat} (h : (ancOf o acc).testBit i = true) : ∃ e ∈ o.after, Region.binds .any e = true ∧ (e.on = i ∨ ∃ m, acc[e.on]? = some m ∧ m.testBit i = true) := by
  have key : ∀ (l : List Edge), (l.foldr (ancStep acc) 0).testBit i = true →
      ∃ e ∈ l, Region.binds .any e = true ∧ (e.on = i ∨ ∃ m, acc[e.on]? = some m ∧ m.testBit i = true) := by
    intro l
    induction l with
    | nil => intro h; simp at h
    | cons e l ih =>
      intro h
      simp only [List.foldr_cons] at h
      generalize l.foldr (ancStep acc) 0 = m0 at h ih
      unfold ancStep at h
      cases hb : Region.binds .any e with
      | false =>
        rw [hb] at h
        obtain ⟨e', h1, h2⟩ := ih h
        exact ⟨e', List.mem_cons_of_mem _ h1, h2⟩
      | true =>
        rw [hb] at h
        have h2 : (m0 ||| (2 ^ e.on ||| ((nthL acc e.on).getD 0))).testBit i = true := h
        simp only [Nat.testBit_or, Bool.or_eq_true] at h2
        rcases h2 with h2 | h2 | h2
        · obtain ⟨e', h1, h2⟩ := ih h2
          exact ⟨e', List.mem_cons_of_mem _ h1, h2⟩
        · rw [Nat.testBit_two_pow] at h2
          exact ⟨e, List.mem_cons_self, hb, .inl (by simpa using h2)⟩
        · rw [nthL_eq] at h2
          cases hm : acc[e.on]? with
          | none => rw [hm] at h2; simp at h2
          | some m => rw [hm] at h2; exact ⟨e, List.mem_cons_self, hb, .inr ⟨m, hm, h2⟩⟩
  obtain ⟨e, h1, h2⟩ := key _ h
  exact ⟨e, by simpa using h1, h2⟩

theorem ancsOf_bit : ∀ (j m i : Nat), (ancsOf ops.toList)[j]? = some m → m.testBit i = true → Bef ops i j := by
  have key : ∀ (rest : List Oper) (acc : List Nat), ops.toList.drop acc.length = rest → (∀ j m i, acc[j]? = some m → m.testBit i = true → Bef ops i j) →
      ∀ j m i, (rest.foldl (fun acc o => acc ++ [ancOf o acc]) acc)[j]? = some m → m.testBit i = true → Bef ops i j := by
    intro rest
    induction rest with
    | nil => intro acc _ h; exact h
    | cons o rest ih =>
      intro acc hd h
      have ho : ops[acc.length]? = some o := by
        have := congrArg (·[0]?) hd
        simpa [List.getElem?_drop] using this
      refine ih (acc ++ [ancOf o acc]) ?_ ?_
      · rw [List.length_append, List.length_singleton, ← List.drop_drop, hd]; rfl
      · intro j m i hj hb
        rw [List.getElem?_append] at hj
        split at hj
        · exact h j m i hj hb
        · rename_i hlt
          have hj' : j = acc.length := by
            rcases Nat.lt_or_ge (j - acc.length) 1 with h' | h'
            · omega
            · rw [List.getElem?_eq_none (by simpa using h')] at hj; cases hj
          subst hj'
          simp at hj
          subst hj
          obtain ⟨e, h1, h2, h3⟩ := ancOf_bit hb
          have hb1 : Bef1 ops e.on acc.length := ⟨o, ho, e, h1, h2, rfl⟩
          rcases h3 with h3 | ⟨m, h3, h4⟩
          · rw [h3] at hb1; exact .single hb1
          · exact .tail (h e.on m i h3 h4) hb1
  exact fun j m i => key ops.toList [] rfl (fun j m i h => by simp at h) j m i

theorem befB_ok {i j : Nat} (h : befB (ancsOf ops.toList) i j = true) : Bef ops i j := by
  unfold befB at h
  rw [hasBit_eq, nthL_eq] at h
  cases hm : (ancsOf ops.toList)[j]? with
  | none => rw [hm] at h; simp at h
  | some m => rw [hm] at h; exact ancsOf_bit j m i hm h

theorem cmpB_ok {i j : Nat} (h : cmpB (ancsOf ops.toList) i j = true) : Bef ops i j ∨ Bef ops j i := by
  unfold cmpB at h
  cases h1 : befB (ancsOf ops.toList) i j with
  | true => exact .inl (befB_ok h1)
  | false => rw [h1] at h; exact .inr (befB_ok h)

structure PlanOk (ops : Array Oper) (ancs ord : List Nat) : Prop where
  ancs : ancs = ancsOf ops.toList
  len : ord.length = ops.size
  at' : ∀ p, p < ops.size → ∃ i, ord[p]? = some i ∧ i < ops.size ∧ idxOf ord i = p
  of : ∀ i, i < ops.size → ord[idxOf ord i]? = some i ∧ idxOf ord i < ops.size
  edge : ∀ i j, Bef1 ops i j → i < ops.size ∧ idxOf ord i < idxOf ord j
  meet : ∀ i k o o' t, ops[i]? = some o → ops[k]? = some o' → i ≠ k → (o.dst = some t ∨ t ∈ o.looksAt ops) → o'.dst = some t → Bef ops i k ∨ Bef ops k i

theorem rowOk_ok {ancs : List Nat} {i : Nat} {ts : List Tmp} : ∀ {rest : List Oper} {k : Nat}, rowOk (ops.toList) ancs i ts rest k = true → ∀ j o', rest[j]? = some o' → meetOk ancs i (k + j) o' ts = true
  | [], _, _, j, o', h => by simp at h
  | o :: rest, k, hr, j, o', h => by
    simp only [rowOk, Bool.and_eq_true] at hr
    cases j with
    | zero => simp at h; subst h; exact hr.1
    | succ j => simp at h; rw [show k + (j + 1) = (k + 1) + j by omega]; exact rowOk_ok hr.2 j o' h

theorem opsOk_ok {ancs ord : List Nat} : ∀ {rest : List Oper} {k : Nat}, opsOk ops ancs ord rest k = true → ∀ j o, rest[j]? = some o → edgesOk ord ops.size (k + j) o = true ∧ rowOk ops.toList ancs (k + j) (o.dst.toList ++ o.looksAt ops) ops.toList 0 = true
  | [], _, _, j, o', h => by simp at h
  | o :: rest, k, hr, j, o', h => by
    simp only [opsOk, Bool.and_eq_true] at hr
    cases j with
    | zero => simp at h; subst h; exact hr.1
    | succ j => simp at h; rw [show k + (j + 1) = (k + 1) + j by omega]; exact opsOk_ok hr.2 j o' h

theorem planOf_ok {ancs ord : List Nat} (h : planOf ops = some (ancs, ord)) : PlanOk ops ancs ord := by
  unfold planOf at h
  simp only at h
  split at h
  · rename_i hc
    simp only [Option.some.injEq, Prod.mk.injEq] at h
    obtain ⟨h1, h2⟩ := h
    subst h1; subst h2
    simp only [Bool.and_eq_true] at hc
    obtain ⟨hl, h1, h2, h3⟩ := hc
    have hl := nat_beq hl
    generalize hord : orderOf ops.toList (ancsOf ops.toList) = ord at *
    have hops := fun j o (ho : ops[j]? = some o) => opsOk_ok h3 j o (by simpa using ho)
    simp only [Nat.zero_add] at hops
    refine ⟨rfl, hl, fun p hp => ?_, fun i hi => ?_, fun i j ⟨o, ho, e, he, hb, hi⟩ => ?_, fun i k o o' t hi hk hne ht hd => ?_⟩
    · have := List.all_eq_true.1 h1 p (by simpa using hp)
      rw [nthL_eq] at this
      split at this
      · rename_i i hi
        simp only [Bool.and_eq_true, blt_iff, decide_eq_true_eq] at this
        exact ⟨i, hi, this.1, nat_beq this.2⟩
      · cases this
    · have := List.all_eq_true.1 h2 i (by simpa using hi)
      rw [nthL_eq] at this
      split at this
      · rename_i j hj
        simp only [Bool.and_eq_true, blt_iff, decide_eq_true_eq] at this
        rw [← nat_beq this.1]
        rw [nat_beq this.1]
        exact ⟨by rw [hj, nat_beq this.1], this.2⟩
      · cases this
    · have := List.all_eq_true.1 (hops j o ho).1 e (by simpa using he)
      simp only [hb, Bool.not_true, Bool.false_or, Bool.and_eq_true, blt_iff, decide_eq_true_eq] at this
      subst hi
      exact this
    · have := rowOk_ok (hops i o hi).2 k o' (by simpa using hk)
      unfold meetOk at this
      rw [hd] at this
      simp only [Bool.or_eq_true, Nat.zero_add] at this
      rcases this with (h | h) | h
      · exact absurd (nat_beq h) hne
      · exfalso
        have hany : ((o.dst.toList ++ o.looksAt ops).any fun t' => Nat.beq t' t) = true := by
          rw [List.any_eq_true]
          refine ⟨t, ?_, by simp⟩
          rw [List.mem_append]
          rcases ht with ht | ht
          · left; simp [ht]
          · exact .inr ht
        rw [hany] at h; cases h
      · exact cmpB_ok h
  · cases h

end plan
end
end Go.Am
