/-
  THE ABSTRACT MACHINE, 19: what the runner shows of a region whose order is drawn.
-/
import Derived.Test.YtgkmdkhhaapolaaAm18
namespace Go.Am
noncomputable section
open Classical

section draws
variable {P : Program} {E : Env} {ops : Array Oper}

theorem ltAll_ok {n : Nat} : ∀ {rs : List Nat}, ltAll rs n = true → ∀ r ∈ rs, r < n
  | [], _, r, hr => by cases hr
  | a :: rs, h, r, hr => by
    have h' : Bool.rec (motive := fun _ => Bool) false (ltAll rs n) (Nat.blt a n) = true := h
    cases hb : Nat.blt a n with
    | false => rw [hb] at h'; cases h'
    | true =>
      rw [hb] at h'
      rcases List.mem_cons.1 hr with rfl | hr
      · rw [blt_iff] at hb; simpa using hb
      · exact ltAll_ok h' r hr

theorem cdOf_eq {n : Nat} {l : List V} {t : TF} (hf : FR n l t) (o : Oper) (H : Heap) : cdOf ops o t H = cdWant o (o.looksAt ops) t H (wantA ops l o) := by
  unfold cdOf; rw [hf.want]

theorem cdOf_rd {n : Nat} {l : List V} {t : TF} (hf : FR n l t) {o : Oper} {H H' : Heap} {v : V} {rs : List Nat} (hc : cdOf ops o t H = .rd rs) (h : OpV P E ops o l H v H') :
    H' = H ∧ (∀ r ∈ rs, r < H.size) ∧ ((wantA ops l o = some false ∧ v = .undef) ∨ (wantA ops l o = some true ∧ ∀ C : Heap, (∀ r ∈ rs, C.get r = H.get r) → opA E C (evA l) o.op = some (.val v C))) := by
  rw [cdOf_eq hf] at hc
  have htrue : wantA ops l o = some true → ∀ r, opA E H (evA l) o.op = some r → (∃ v', r = .val v' H ∧ (∀ C : Heap, (∀ r ∈ rs, C.get r = H.get r) → opA E C (evA l) o.op = some (.val v' C))) ∧ ∀ r ∈ rs, r < H.size := by
    intro hw r hr
    rw [hw] at hc
    simp only [cdWant] at hc
    cases hrd : readsOf o.op (evT t) with
    | none =>
      rw [hrd] at hc
      simp only [cdRead] at hc
      unfold cdMake at hc
      cases hm : makesOf o.op with
      | false => rw [hm] at hc; cases hc
      | true =>
        rw [hm] at hc
        simp only at hc
        cases hl : (o.looksAt ops).all fun t' => noId (TF.get t t') with
        | false => rw [hl] at hc; cases hc
        | true => rw [hl] at hc; cases hc
    | some rs' =>
      rw [hrd] at hc
      simp only [cdRead] at hc
      cases hl : ltAll rs' H.size with
      | false => rw [hl] at hc; cases hc
      | true =>
        rw [hl] at hc
        simp only [Cd.rd.injEq] at hc
        subst hc
        rw [hf.evT] at hrd
        exact ⟨reads_ok hrd hr, ltAll_ok hl⟩
  cases h with
  | pass hw =>
    rw [hw] at hc
    simp only [cdWant, Cd.rd.injEq] at hc
    subst hc
    exact ⟨rfl, (fun r hr => by cases hr), .inl ⟨hw, rfl⟩⟩
  | val hw h =>
    obtain ⟨⟨v', h1, h2⟩, h3⟩ := htrue hw _ h
    cases h1
    exact ⟨rfl, h3, .inr ⟨hw, h2⟩⟩
  | skip hw h =>
    obtain ⟨⟨v', h1, h2⟩, h3⟩ := htrue hw _ h
    cases h1
  | call hw h hg =>
    obtain ⟨⟨v', h1, h2⟩, h3⟩ := htrue hw _ h
    cases h1

theorem cdOf_al {n : Nat} {l : List V} {t : TF} (hf : FR n l t) {o : Oper} {H H' : Heap} {v : V} (hc : cdOf ops o t H = .al) (h : OpV P E ops o l H v H') :
    (∀ t ∈ o.looksAt ops, NoId (l.getD t .undef)) ∧ ∀ b, b < H.size → H'.get b = H.get b := by
  rw [cdOf_eq hf] at hc
  have htrue : wantA ops l o = some true → makesOf o.op = true ∧ ∀ t ∈ o.looksAt ops, NoId (l.getD t .undef) := by
    intro hw
    rw [hw] at hc
    simp only [cdWant] at hc
    cases hrd : readsOf o.op (evT t) with
    | none =>
      rw [hrd] at hc
      simp only [cdRead] at hc
      unfold cdMake at hc
      cases hm : makesOf o.op with
      | false => rw [hm] at hc; cases hc
      | true =>
        rw [hm] at hc
        simp only at hc
        cases hl : (o.looksAt ops).all fun t' => noId (TF.get t t') with
        | false => rw [hl] at hc; cases hc
        | true =>
          refine ⟨rfl, fun t' ht' => ?_⟩
          have := List.all_eq_true.1 hl t' ht'
          rw [hf.2 t']
          exact noId_ok this
    | some rs' =>
      rw [hrd] at hc
      simp only [cdRead] at hc
      cases hl : ltAll rs' H.size with
      | false => rw [hl] at hc; cases hc
      | true => rw [hl] at hc; cases hc
  cases h with
  | pass hw => rw [hw] at hc; cases hc
  | val hw h =>
    obtain ⟨h1, h2⟩ := htrue hw
    obtain ⟨v', H2, h3, _, h4⟩ := makes_ok h1 h
    cases h3
    exact ⟨h2, h4⟩
  | skip hw h =>
    obtain ⟨h1, h2⟩ := htrue hw
    obtain ⟨v', H2, h3, _, h4⟩ := makes_ok h1 h
    cases h3
  | call hw h hg =>
    obtain ⟨h1, h2⟩ := htrue hw
    obtain ⟨v', H2, h3, _, h4⟩ := makes_ok h1 h
    cases h3

/-- A row of operations that was run in one order, with what is known of each. -/
structure Tr (P : Program) (E : Env) (ops : Array Oper) (n : Nat) (ancs : List Nat) (todo : List Nat) (seen : List Seen) (F : Nat → List V) (G : Nat → Heap) (W : Nat → V) (C : Nat → Cd) : Prop where
  step : ∀ p i, todo[p]? = some i → ∃ o t, ops[i]? = some o ∧ FR n (F p) t ∧ C p = cdOf ops o t (G p) ∧ OpV P E ops o (F p) (G p) (W p) (G (p + 1)) ∧ F (p + 1) = putA (F p) o.dst (W p) ∧ (G p).size ≤ (G (p + 1)).size
  old : ∀ p i, todo[p]? = some i → ∀ y ∈ seen, pairOk ancs ⟨i, C p, G p, G (p + 1)⟩ y = true
  two : ∀ p q i j, todo[p]? = some i → todo[q]? = some j → q < p → pairOk ancs ⟨i, C p, G p, G (p + 1)⟩ ⟨j, C q, G q, G (q + 1)⟩ = true

theorem clearOf_ok {x : Seen} {r : Nat} (h : clearOf x r = true) : x.H'.size ≤ r ∨ (r < x.H.size ∧ x.H'.get r = x.H.get r) := by
  unfold clearOf at h
  simp only [Bool.or_eq_true, Bool.and_eq_true, blt_iff, decide_eq_true_eq, Nat.ble_eq] at h
  rcases h with h | ⟨h1, h2⟩
  · exact .inl h
  · exact .inr ⟨h1, (sameO_ok h2).symm⟩

variable {n : Nat} {ancs ord : List Nat} {F : Nat → List V} {G : Nat → Heap} {W : Nat → V} {C : Nat → Cd}

theorem Tr.row (hP : PlanOk ops ancs ord) (hT : Tr P E ops n ancs ord [] F G W C) : Row P E ops F G (fun i => W (idxOf ord i)) (idxOf ord) (fun p => ord.getD p 0) where
  posLt := fun i hi => (hP.of i hi).2
  ordLt := fun p hp => by
    obtain ⟨i, h1, h2, _⟩ := hP.at' p hp
    rw [List.getD_eq_getElem?_getD, h1]; exact h2
  posOrd := fun p hp => by
    obtain ⟨i, h1, _, h3⟩ := hP.at' p hp
    rw [List.getD_eq_getElem?_getD, h1]; exact h3
  ordPos := fun i hi => by rw [List.getD_eq_getElem?_getD, (hP.of i hi).1]; rfl
  edge := hP.edge
  step := fun i o ho => by
    have hlt := (Array.getElem?_eq_some_iff.1 ho).1
    obtain ⟨o', t, h1, h2, h3, h4, h5, h6⟩ := hT.step _ i (hP.of i hlt).1
    rw [ho] at h1; cases h1
    exact ⟨h4, h5⟩
  size := fun i hi => by
    obtain ⟨o', t, h1, h2, h3, h4, h5, h6⟩ := hT.step _ i (hP.of i hi).1
    exact h6
  dsts := fun i k o o' t h1 h2 h3 h4 h5 => hP.meet i k o o' t h1 h2 h3 (.inl h4) h5
  looks := fun i k o o' t h1 h2 h3 h4 h5 => hP.meet i k o o' t h1 h2 h3 (.inr h4) h5

theorem Tr.cls (hP : PlanOk ops ancs ord) (hT : Tr P E ops n ancs ord [] F G W C) (i : Nat) (o : Oper) (ho : ops[i]? = some o) : Cls E ops F G (fun i => W (idxOf ord i)) (idxOf ord) i o := by
  have hlt := (Array.getElem?_eq_some_iff.1 ho).1
  obtain ⟨o', t, h1, h2, h3, h4, h5, h6⟩ := hT.step _ i (hP.of i hlt).1
  rw [ho] at h1; cases h1
  have cmp : ∀ {a b : Nat}, cmpB ancs a b = true → Bef ops a b ∨ Bef ops b a := fun h => by rw [hP.ancs] at h; exact cmpB_ok h
  -- an operation that reads changes nothing; one that makes leaves what was there
  have quiet : ∀ k, k < ops.size → ∀ rs, C (idxOf ord k) = .rd rs → ∀ b, ¬ Chg G (idxOf ord) k b := fun k hk rs hc b => by
    obtain ⟨o1, t1, g1, g2, g3, g4, g5, g6⟩ := hT.step _ k (hP.of k hk).1
    rw [hc] at g3
    exact Cls.quiet (o := o1) rs (cdOf_rd g2 g3.symm g4).1 b
  have fresh : ∀ k, k < ops.size → C (idxOf ord k) = .al → ∀ b, Chg G (idxOf ord) k b → (G (idxOf ord k)).size ≤ b := fun k hk hc b hb => by
    obtain ⟨o1, t1, g1, g2, g3, g4, g5, g6⟩ := hT.step _ k (hP.of k hk).1
    rw [hc] at g3
    rcases hb.2 with h | h
    · exact h
    · apply Classical.byContradiction
      intro hn
      exact h ((cdOf_al g2 g3.symm g4).2 b (by omega))
  have pairs : ∀ k, k < ops.size → k ≠ i → (idxOf ord k < idxOf ord i ∧ pairOk ancs ⟨i, C (idxOf ord i), G (idxOf ord i), G (idxOf ord i + 1)⟩ ⟨k, C (idxOf ord k), G (idxOf ord k), G (idxOf ord k + 1)⟩ = true) ∨
      (idxOf ord i < idxOf ord k ∧ pairOk ancs ⟨k, C (idxOf ord k), G (idxOf ord k), G (idxOf ord k + 1)⟩ ⟨i, C (idxOf ord i), G (idxOf ord i), G (idxOf ord i + 1)⟩ = true) := fun k hk hne => by
    have e1 := (hP.of k hk).1
    have e2 := (hP.of i hlt).1
    rcases Nat.lt_trichotomy (idxOf ord k) (idxOf ord i) with h | h | h
    · exact .inl ⟨h, hT.two _ _ _ _ e2 e1 h⟩
    · rw [h, e2] at e1; cases e1; exact absurd rfl hne
    · exact .inr ⟨h, hT.two _ _ _ _ e1 e2 h⟩
  cases hc : C (idxOf ord i) with
  | rd rs =>
    rw [hc] at h3
    obtain ⟨g1, g2, g3⟩ := cdOf_rd h2 h3.symm h4
    refine .reads rs g1 g3 fun r hr => ⟨g2 r hr, fun k hk hne hck => ?_⟩
    have one : ∀ (b : Bool), (b = true → False) → (cmpB ancs i k || b) = true → Bef ops k i ∨ Bef ops i k := fun b hb h => by
      rcases Bool.or_eq_true _ _ |>.mp h with h | h
      · exact (cmp h).symm
      · exact (hb h).elim
    have one' : ∀ (b : Bool), (b = true → False) → (cmpB ancs k i || b) = true → Bef ops k i ∨ Bef ops i k := fun b hb h => by
      rcases Bool.or_eq_true _ _ |>.mp h with h | h
      · exact cmp h
      · exact (hb h).elim
    cases hck' : C (idxOf ord k) with
    | rd rs' => exact absurd hck (quiet k hk rs' hck' r)
    | al =>
      have hf := fresh k hk hck' r hck
      have hb := hck.1
      have bad : ∀ {H H' : Heap}, H.size ≤ r → r < H'.size → (rs.all fun r => Nat.ble H'.size r || Nat.blt r H.size) = true → False := fun hx hy hall => by
        have := List.all_eq_true.1 hall r hr
        simp only [Bool.or_eq_true, blt_iff, decide_eq_true_eq, Nat.ble_eq] at this
        omega
      rcases pairs k hk hne with ⟨_, h⟩ | ⟨_, h⟩
      · rw [hc, hck'] at h; exact one _ (bad hf hb) h
      · rw [hc, hck'] at h; exact one' _ (bad hf hb) h
    | fu =>
      have bad : rs.all (clearOf ⟨k, .fu, G (idxOf ord k), G (idxOf ord k + 1)⟩) = true → False := fun hall => by
        have := clearOf_ok (List.all_eq_true.1 hall r hr)
        simp only at this
        obtain ⟨b1, b2⟩ := hck
        rcases this with h | ⟨h, h'⟩
        · omega
        · rcases b2 with b2 | b2
          · omega
          · exact b2 h'
      rcases pairs k hk hne with ⟨_, h⟩ | ⟨_, h⟩
      · rw [hc, hck'] at h; exact one _ bad h
      · rw [hc, hck'] at h; exact one' _ bad h
  | al =>
    rw [hc] at h3
    obtain ⟨g1, g2⟩ := cdOf_al h2 h3.symm h4
    exact .alone g1 g2
  | fu =>
    refine .full fun k hk hne => ?_
    cases hck' : C (idxOf ord k) with
    | rd rs' => exact .inl (quiet k hk rs' hck')
    | al =>
      rcases pairs k hk hne with ⟨hlt', h⟩ | ⟨_, h⟩
      · rw [hc, hck'] at h
        rcases Bool.or_eq_true _ _ |>.mp h with h | h
        · rcases cmp h with h | h
          · exact .inr (.inr (.inl h))
          · exact .inr (.inl h)
        · refine .inr (.inr (.inr ⟨hlt', fun b hb => ?_⟩))
          have hf := fresh k hk hck' b hb
          refine ⟨hf, fun hci => ?_⟩
          have hsz := (hT.row hP).sizes (idxOf ord i) (idxOf ord k + 1) (by omega) (Nat.le_of_lt (hP.of i hlt).2)
          have hb1 := hb.1
          have hm : b ∈ madeOf ⟨k, .al, G (idxOf ord k), G (idxOf ord k + 1)⟩ := by
            unfold madeOf
            refine List.mem_map.2 ⟨b - (G (idxOf ord k)).size, List.mem_range.2 ?_, ?_⟩
            · show b - (G (idxOf ord k)).size < (G (idxOf ord k + 1)).size - (G (idxOf ord k)).size
              omega
            · show (G (idxOf ord k)).size + (b - (G (idxOf ord k)).size) = b
              omega
          have := sameO_ok (List.all_eq_true.1 h b hm)
          rcases hci.2 with h' | h'
          · omega
          · exact h' this.symm
      · rw [hc, hck'] at h
        rcases cmp h with h | h
        · exact .inr (.inl h)
        · exact .inr (.inr (.inl h))
    | fu =>
      rcases pairs k hk hne with ⟨_, h⟩ | ⟨_, h⟩
      · rw [hc, hck'] at h
        rcases cmp h with h | h
        · exact .inr (.inr (.inl h))
        · exact .inr (.inl h)
      · rw [hc, hck'] at h
        rcases cmp h with h | h
        · exact .inr (.inl h)
        · exact .inr (.inr (.inl h))

theorem Tr.AX (hE : EnvOk E P) (hP : PlanOk ops ancs ord) (hT : Tr P E ops n ancs ord [] F G W C) (R : Option Nat) (id : Nat) : AX P R (.region id ops true) (F 0) (G 0) .normal (F ops.size) (G ops.size) :=
  AX.region_draw hE (hT.row hP) (hT.cls hP)

/-- One more operation ahead. -/
theorem Tr.cons {i : Nat} {is : List Nat} {seen : List Seen} {o : Oper} {t : TF} {l : List V} {H : Heap} {v : V} (ho : ops[i]? = some o) (hf : FR n l t)
    (hV : OpV P E ops o l H v (G 0)) (hF : F 0 = putA l o.dst v) (hs : H.size ≤ (G 0).size) (hnew : ∀ y ∈ seen, pairOk ancs ⟨i, cdOf ops o t H, H, G 0⟩ y = true)
    (hT : Tr P E ops n ancs is (⟨i, cdOf ops o t H, H, G 0⟩ :: seen) F G W C) :
    Tr P E ops n ancs (i :: is) seen (fun p => Nat.casesOn p l F) (fun p => Nat.casesOn p H G) (fun p => Nat.casesOn p v W) (fun p => Nat.casesOn p (cdOf ops o t H) C) where
  step := fun p j hj => by
    cases p with
    | zero => simp at hj; subst hj; exact ⟨o, t, ho, hf, rfl, hV, hF, hs⟩
    | succ p => exact hT.step p j (by simpa using hj)
  old := fun p j hj y hy => by
    cases p with
    | zero => simp at hj; subst hj; exact hnew y hy
    | succ p => exact hT.old p j (by simpa using hj) y (List.mem_cons_of_mem _ hy)
  two := fun p q j k hj hk hlt => by
    cases p with
    | zero => omega
    | succ p =>
      cases q with
      | zero => simp at hk; subst hk; exact hT.old p j (by simpa using hj) _ List.mem_cons_self
      | succ q => exact hT.two p q j k (by simpa using hj) (by simpa using hk) (by omega)

theorem newOk_ok {x : Seen} : ∀ {seen : List Seen}, newOk ancs x seen = true → ∀ y ∈ seen, pairOk ancs x y = true
  | [], _, y, hy => by cases hy
  | a :: seen, h, y, hy => by
    have h' : Bool.rec (motive := fun _ => Bool) false (newOk ancs x seen) (pairOk ancs x a) = true := h
    cases hb : pairOk ancs x a with
    | false => rw [hb] at h'; cases h'
    | true =>
      rw [hb] at h'
      rcases List.mem_cons.1 hy with rfl | hy
      · exact hb
      · exact newOk_ok h' y hy

theorem OpS.toV {o : Oper} {l l' : List V} {H H' : Heap} (h : OpS P E ops o l H l' H') : ∃ v, OpV P E ops o l H v H' ∧ l' = putA l o.dst v := by
  cases h with
  | val hw h => exact ⟨_, .val hw h, rfl⟩
  | skip hw h => exact ⟨_, .skip hw h, rfl⟩
  | call hw h hg => exact ⟨_, .call hw h hg, rfl⟩
  | pass hw => exact ⟨_, .pass hw, rfl⟩

end draws
end
end Go.Am
