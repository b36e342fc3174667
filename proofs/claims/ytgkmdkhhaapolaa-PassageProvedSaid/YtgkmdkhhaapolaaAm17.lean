/-
  THE ABSTRACT MACHINE, 17: the checks of the runner's drawn orders.
-/
import Derived.Test.YtgkmdkhhaapolaaAm16
namespace Go.Am
noncomputable section
open Classical

theorem ptr_row {H C : Heap} {v : V} {l : Loc} (hv : v = .ptr (some l)) (h : ∀ r ∈ ptrBlk v, C.get r = H.get r) : C.get l.blk = H.get l.blk := by
  subst hv; exact h _ (by simp [ptrBlk])

theorem loadA_same {E : Env} {H C : Heap} {t : TypeId} {a : V} (h : ∀ r ∈ ptrBlk a, C.get r = H.get r) : loadA E C t a = loadA E H t a := by
  unfold loadA
  split
  · rename_i l
    have : row C l.blk = row H l.blk := by unfold row; rw [ptr_row rfl h]
    simp only [cellsAt, this]
  · rfl

theorem sliceA_same {E : Env} {H C : Heap} {t : TypeId} {x : V} {lo hi mx : Option V} (h : ∀ r ∈ ptrBlk x, C.get r = H.get r) : sliceA E C t x lo hi mx = sliceA E H t x lo hi mx := by
  have hrow : ∀ l, x = .ptr (some l) → row C l.blk = row H l.blk := fun l hl => by unfold row; rw [ptr_row hl h]
  unfold sliceA
  cases hu : E.und t with
  | none => rfl
  | some d =>
    cases d <;> cases x <;> try rfl
    all_goals first
      | (rename_i a; cases a <;> first | rfl | (simp only [hrow _ rfl]; done))
      | (rename_i a _ _ _; cases a <;> rfl)

theorem lenA_same {E : Env} {H C : Heap} {t : TypeId} {x : V} (h : ∀ r ∈ mapBlk x, C.get r = H.get r) : lenA E C t x = lenA E H t x := by
  have hrow : ∀ b, x = .map (some b) → C.get b = H.get b := fun b hb => by subst hb; exact h b (by simp [mapBlk])
  unfold lenA
  cases hu : E.und t with
  | none => rfl
  | some d =>
    cases d <;> cases x <;> try rfl
    all_goals first
      | (rename_i a; cases a <;> first | rfl | (simp only [hrow _ rfl]; done))
      | (rename_i a _ _ _; cases a <;> rfl)

theorem lookupA_same {E : Env} {H C : Heap} {t : TypeId} {m k : V} {ok : Bool} (h : ∀ r ∈ mapBlk m, C.get r = H.get r) : lookupA E C t m k ok = lookupA E H t m k ok := by
  have hrow : ∀ b, m = .map (some b) → C.get b = H.get b := fun b hb => by subst hb; exact h b (by simp [mapBlk])
  unfold lookupA
  cases m with
  | map a =>
    cases a with
    | none => rfl
    | some b => simp only [hrow b rfl]
  | _ => rfl

theorem okVal_inv {H : Heap} {o : Option V} {r : Res} (h : okVal H o = some r) : ∃ v, o = some v ∧ r = .val v H := by
  cases o with
  | none => cases h
  | some v => simp only [okVal_some, Option.some.injEq] at h; exact ⟨v, rfl, h.symm⟩

theorem reads_ok {E : Env} {H : Heap} {ev : Operand → V} {op : Op} {rs : List Nat} (hr : readsOf op ev = some rs) {r : Res} (h : opA E H ev op = some r) :
    ∃ v, r = .val v H ∧ ∀ C : Heap, (∀ r ∈ rs, C.get r = H.get r) → opA E C ev op = some (.val v C) := by
  have pure : ∀ (X : Option V), okVal H X = some r → ∃ v, r = .val v H ∧ ∀ C : Heap, (∀ r ∈ rs, C.get r = H.get r) → okVal C X = some (.val v C) := by
    intro X hX
    obtain ⟨v, h1, h2⟩ := okVal_inv hX
    exact ⟨v, h2, fun C _ => by rw [h1]; rfl⟩
  cases op <;> simp only [readsOf] at hr <;> try (cases hr; done)
  all_goals simp only [opA, opT] at h ⊢
  case move x => simp only [Option.some.injEq] at h; subst h; exact ⟨_, rfl, fun _ _ => rfl⟩
  case assign x => simp only [Option.some.injEq] at h; subst h; exact ⟨_, rfl, fun _ _ => rfl⟩
  case pick c a b =>
    unfold opPick at h ⊢
    split at h
    · simp only [Option.some.injEq] at h; subst h
      exact ⟨_, rfl, fun _ _ => rfl⟩
    · cases h
  case nilCheck x =>
    unfold opNil at h ⊢
    split at h
    · simp only [Option.some.injEq] at h; subst h; exact ⟨_, rfl, fun _ _ => rfl⟩
    · simp only [Option.some.injEq] at h; subst h; exact ⟨_, rfl, fun _ _ => rfl⟩
    · cases h
  case build => exact pure _ h
  case binOp => exact pure _ h
  case unOp => exact pure _ h
  case convert => exact pure _ h
  case fieldAddr => exact pure _ h
  case field => exact pure _ h
  case indexAddr => exact pure _ h
  case index => exact pure _ h
  case makeFunc fn first cap =>
    unfold opFunc at h ⊢
    cases fn <;> simp at h
    subst h
    exact ⟨_, rfl, fun _ _ => rfl⟩
  case extract x i =>
    unfold opExtract at h ⊢
    split at h
    · exact pure _ h
    · cases h
  case load t a =>
    simp only [Option.some.injEq] at hr; subst hr
    obtain ⟨v, h1, h2⟩ := okVal_inv h
    exact ⟨v, h2, fun C hC => by rw [loadA_same hC, h1]; rfl⟩
  case slice t x lo hi mx =>
    simp only [Option.some.injEq] at hr; subst hr
    obtain ⟨v, h1, h2⟩ := okVal_inv h
    exact ⟨v, h2, fun C hC => by rw [sliceA_same hC, h1]; rfl⟩
  case lookup t m k ok =>
    simp only [Option.some.injEq] at hr; subst hr
    obtain ⟨v, h1, h2⟩ := okVal_inv h
    exact ⟨v, h2, fun C hC => by rw [lookupA_same hC, h1]; rfl⟩
  case call c =>
    unfold opCall at h ⊢
    cases hc : c.callee with
    | value g => simp [hc] at hr
    | invoke a b => simp [hc] at hr
    | builtin b =>
      simp only [hc] at hr h
      have hmap : ∀ (X : Option V), (X.map fun v => Res.val v H) = some r → ∃ v, X = some v ∧ r = .val v H := by
        intro X hX
        cases X with
        | none => cases hX
        | some v => simp only [Option.map_some, Option.some.injEq] at hX; exact ⟨v, rfl, hX.symm⟩
      cases b <;> simp only at hr <;> try (cases hr; done)
      case len =>
        match hargs : c.args.toList with
        | [x] =>
          rw [hargs] at hr h
          simp only [Option.some.injEq] at hr; subst hr
          cases hts : c.argTypes.toList with
          | nil => simp [hts, builtinA] at h
          | cons t ts =>
            cases ts with
            | cons _ _ => simp [hts, builtinA] at h
            | nil =>
              simp only [hts, builtinA, List.map] at h ⊢
              obtain ⟨v, h1, h2⟩ := hmap _ h
              exact ⟨v, h2, fun C hC => by rw [lenA_same hC, h1]; rfl⟩
        | [] => rw [hargs] at hr; cases hr
        | _ :: _ :: _ => rw [hargs] at hr; cases hr
      case min =>
        cases hargs : c.args.toList.map ev with
        | nil => rw [hargs] at h; simp [builtinA] at h
        | cons x xs =>
          rw [hargs] at h
          simp only [builtinA] at h ⊢
          obtain ⟨v, h1, h2⟩ := hmap _ h
          exact ⟨v, h2, fun C _ => by rw [h1]; rfl⟩
      case max =>
        cases hargs : c.args.toList.map ev with
        | nil => rw [hargs] at h; simp [builtinA] at h
        | cons x xs =>
          rw [hargs] at h
          simp only [builtinA] at h ⊢
          obtain ⟨v, h1, h2⟩ := hmap _ h
          exact ⟨v, h2, fun C _ => by rw [h1]; rfl⟩

theorem makes_ok {E : Env} {H : Heap} {ev : Operand → V} {op : Op} (hm : makesOf op = true) {r : Res} (h : opA E H ev op = some r) :
    ∃ v H', r = .val v H' ∧ H.size ≤ H'.size ∧ ∀ b, b < H.size → H'.get b = H.get b := by
  have push : ∀ o : Obj, H.size ≤ (H.push o).size ∧ ∀ b, b < H.size → (H.push o).get b = H.get b := fun o =>
    ⟨by simp, fun b hb => Heap.get_push_ne _ _ (by omega)⟩
  have alloc : ∀ o : Option (List V), opAlloc H o = some r → ∃ v H', r = .val v H' ∧ H.size ≤ H'.size ∧ ∀ b, b < H.size → H'.get b = H.get b := by
    intro o ho
    cases o with
    | none => cases ho
    | some zs =>
      simp only [opAlloc, heapK_eq, Option.some.injEq] at ho
      exact ⟨_, _, ho.symm, push _⟩
  cases op <;> simp only [makesOf] at hm <;> try (cases hm; done)
  all_goals simp only [opA, opT] at h
  case alloc t => exact alloc _ h
  case box t x => exact alloc _ h
  case makeMap t o =>
    cases o with
    | none => simp only [opMap, heapK_eq, Option.some.injEq] at h; exact ⟨_, _, h.symm, push _⟩
    | some _ => cases h
  case buildSlice t n ps =>
    cases hb : buildSliceA E H t n (ps.toList.map fun p => (p.1, ev p.2)) with
    | none => rw [hb] at h; cases h
    | some p =>
      obtain ⟨v, H'⟩ := p
      simp only [hb, okPair, heapK_eq, Option.some.injEq] at h
      refine ⟨v, H', h.symm, ?_⟩
      unfold buildSliceA at hb
      repeat' split at hb
      all_goals first | (cases hb; done) | (simp only [Option.some.injEq, Prod.mk.injEq] at hb; rw [← hb.2]; exact push _)
  case makeSlice t l c =>
    cases hb : makeSliceA E H t (ev l) (ev c) with
    | none => rw [hb] at h; cases h
    | some p =>
      obtain ⟨v, H'⟩ := p
      simp only [hb, okPair, heapK_eq, Option.some.injEq] at h
      refine ⟨v, H', h.symm, ?_⟩
      unfold makeSliceA at hb
      repeat' split at hb
      all_goals first | (cases hb; done) | (simp only [Option.some.injEq, Prod.mk.injEq] at hb; rw [← hb.2]; exact push _)

theorem noIdA_ok {v : V} (h : noIdA v = true) : NoId v := by
  intro ι ι' r hv
  cases v with
  | ptr a => cases a with
    | none => exact hv
    | some _ => cases h
  | slice a _ _ _ => cases a with
    | none => exact hv
    | some _ => cases h
  | map a => cases a with
    | none => exact hv
    | some _ => cases h
  | undef => exact hv
  | bool _ => exact hv
  | int _ _ => exact hv
  | str _ => exact hv
  | nilFunc => exact hv
  | func _ _ _ => cases h
  | yld _ => cases h
  | agg _ => cases h
  | tup _ => cases h

theorem noIdAs_ok : ∀ {vs : List V}, vs.all noIdA = true → ∀ ι ι' rs, VRs ι vs rs → VRs ι' vs rs
  | [], _, _, _, _, h => by simpa [VRs] using h
  | v :: vs, hn, ι, ι', rs, h => by
    simp only [List.all_cons, Bool.and_eq_true] at hn
    simp only [VRs] at h ⊢
    obtain ⟨r, rs', h1, h2, h3⟩ := h
    exact ⟨r, rs', h1, noIdA_ok hn.1 _ _ _ h2, noIdAs_ok hn.2 _ _ _ h3⟩

theorem noId_ok {v : V} (h : noId v = true) : NoId v := by
  cases v with
  | agg cs =>
    intro ι ι' r hv
    simp only [VR] at hv ⊢
    obtain ⟨c, h1, h2⟩ := hv
    exact ⟨c, h1, noIdAs_ok h _ _ _ h2⟩
  | _ => exact noIdA_ok h

theorem nat_beq {a b : Nat} (h : Nat.beq a b = true) : a = b := Nat.eq_of_beq_eq_true h

theorem sameA0_ok {a b : V} (h : sameA0 a b = true) : a = b := by
  unfold sameA0 at h
  split at h <;> (try simp only [Bool.and_eq_true] at h)
  all_goals first
    | rfl
    | (cases h; done)
    | skip
  · simp at h; rw [h]
  · rw [eqF_eq] at h; simp at h; rw [h.1, h.2]
  · rename_i a b; obtain ⟨h1, h2⟩ := h; obtain ⟨x, y⟩ := a; obtain ⟨x', y'⟩ := b; rw [show x = x' from nat_beq h1, show y = y' from nat_beq h2]
  · rw [nat_beq h.1, nat_beq h.2]
  · rename_i a n e c b n' e' c'
    obtain ⟨⟨⟨⟨h1, h2⟩, h3⟩, h4⟩, h5⟩ := h
    obtain ⟨x, y⟩ := a; obtain ⟨x', y'⟩ := b
    rw [show x = x' from nat_beq h1, show y = y' from nat_beq h2, nat_beq h3, nat_beq h4]
    cases c <;> cases c' <;> simp only at h5 <;> first | rfl | (cases h5; done) | (rw [nat_beq h5])
  · rw [nat_beq h]
  · rw [nat_beq h]

theorem sameAs0_ok : ∀ {as bs : List V}, sameAs0 as bs = true → as = bs
  | [], [], _ => rfl
  | [], _ :: _, h => by cases h
  | _ :: _, [], h => by cases h
  | a :: as, b :: bs, h => by
    simp only [sameAs0, Bool.and_eq_true] at h
    rw [sameA0_ok h.1, sameAs0_ok h.2]
theorem sameA_ok {a b : V} (h : sameA a b = true) : a = b := by
  unfold sameA at h
  split at h
  · simp only [Bool.and_eq_true] at h
    rw [nat_beq h.1, sameAs0_ok h.2.1, sameAs0_ok h.2.2]
  · exact sameA0_ok h

theorem sameAs_ok : ∀ {as bs : List V}, sameAs as bs = true → as = bs
  | [], [], _ => rfl
  | [], _ :: _, h => by cases h
  | _ :: _, [], h => by cases h
  | a :: as, b :: bs, h => by
    simp only [sameAs, Bool.and_eq_true] at h
    rw [sameA_ok h.1, sameAs_ok h.2]

theorem sameO_ok {a b : Option Obj} (h : sameO a b = true) : a = b := by
  unfold sameO at h
  split at h
  · simp only [Bool.and_eq_true, beq_iff_eq] at h
    rw [sameAs_ok h.1, h.2]
  · rfl
  · rfl
  · cases h

end
end Go.Am
