/-
  PASSAGE, 5: earliest days, calendars. Printed by spec4.py.
-/
import Derived.Test.YtgkmdkhhaapolaaPs4
namespace Go.Proofs.Ytgkmdkhhaapolaa
open Go.Am Go.Proofs
set_option maxRecDepth 40000
set_option maxHeartbeats 4000000
set_option linter.unusedVariables false
set_option linter.unusedSimpArgs false
theorem ds_at {ds : List Int} (hdl : ds.length = 160) (hrng : ∀ (i : Nat) x, ds[i]? = some x → 0 ≤ x ∧ x ≤ 1001) {p s : Int} (hpp : 0 ≤ p ∧ p < 10) (hss : 0 ≤ s ∧ s < 16) : ds[ix p s]? = some (dget ds p s) ∧ 0 ≤ dget ds p s ∧ dget ds p s ≤ 1001 := by
  have hl := ix_lt hpp hss
  have h1 : ds[ix p s]? = some (dget ds p s) := by
    unfold dget
    rw [List.getD_eq_getElem?_getD, List.getElem?_eq_getElem (by rw [hdl]; exact hl)]; rfl
  exact ⟨h1, hrng _ _ h1⟩
theorem least_new {ds : List Int} {p s : Int} {k : Nat} (h : ∀ j : Nat, j < k → dget ds p s ≤ dget ds p j) (hlt : dget ds p k < dget ds p s) (j : Nat) (hj : j < k + 1) : dget ds p k ≤ dget ds p j := by
  by_cases e : j = k
  · rw [e]; exact Int.le_refl _
  · have := h j (by omega); omega
theorem least_old {ds : List Int} {p s : Int} {k : Nat} (h : ∀ j : Nat, j < k → dget ds p s ≤ dget ds p j) (hlt : ¬ dget ds p k < dget ds p s) (j : Nat) (hj : j < k + 1) : dget ds p s ≤ dget ds p j := by
  by_cases e : j = k
  · rw [e]; omega
  · exact h j (by omega)
theorem snoc_at {ds dl : List Int} {k : Nat} {x : Int} (h : ∀ (i : Nat) x, dl[i]? = some x → DayAt ds i x) (hl : dl.length = k) (hx : DayAt ds k x) (i : Nat) (y : Int) (hy : (dl ++ [x])[i]? = some y) : DayAt ds i y := by
  rw [List.getElem?_append] at hy
  split at hy
  · exact h i y hy
  · have : i = k := by
      rcases Nat.lt_or_ge (i - dl.length) 1 with h' | h'
      · omega
      · rw [List.getElem?_eq_none (by simpa using h')] at hy; cases hy
    subst this
    rw [hl, Nat.sub_self] at hy
    simp at hy; subst hy; exact hx
theorem least_ok {posts post day papers : Int} {wv : V} {ds : List Int} {tb mb : Nat} (hdl : ds.length = 160) (hrng : ∀ (i : Nat) x, ds[i]? = some x → 0 ≤ x ∧ x ≤ 1001) {p : Int} (hpp : 0 ≤ p ∧ p < 10) : FN P 49 [.ptr (some ⟨tb, 0⟩), iv p] [] [(tb, .cells (tripC posts wv post day papers ds mb) true)] (fun v L' => ∃ s, v = .agg [iv p, iv s] ∧ L' = [] ∧ (0 ≤ s ∧ s < 16) ∧ ∀ s', 0 ≤ s' ∧ s' < 16 → dget ds p s ≤ dget ds p s') := by
  refine FN.forget ?_
  refine FN.intro EOk ENt rfl rfl rfl ?_
  refine WS.seq ?_
  refine WS.region EOk ?_
  refine WO.cons (OX.alloc rfl rfl rfl rfl ((.cons (.cons .nil))) fun b4 => ?_)
  refine WO.nil ?_
  refine KQ.seq ?_
  refine WS.seq ?_
  refine WS.region EOk ?_
  refine WO.cons (OX.move rfl rfl rfl ?_)
  refine WO.cons (OX.build rfl rfl rfl rfl ((.cons (.cons .nil))) ?_)
  refine WO.cons (OX.alloc rfl rfl rfl rfl ((.cons (.cons .nil))) fun b5 => ?_)
  refine WO.cons (OX.storeL rfl rfl rfl rfl rfl rfl (by (repeat (first | exact .here | apply Take.there))) rfl ((.cons (.cons .nil))) ?_)
  refine WO.nil ?_
  refine KQ.seq ?_
  refine WS.seq ?_
  refine WS.seq ?_
  refine WS.region EOk ?_
  refine WO.cons (OX.move rfl rfl rfl ?_)
  refine WO.cons (OX.move rfl rfl rfl ?_)
  refine WO.cons (OX.nilCheck rfl rfl rfl ?_)
  refine WO.cons (OX.fieldAddr (r := 5) rfl rfl rfl rfl ?_)
  refine WO.cons (OX.indexArr (m := 10) (z := 16) rfl rfl rfl rfl rfl (by omega) ?_)
  refine WO.cons (OX.load (v := .agg ((rowOf ds p.toNat).map iv)) rfl rfl rfl (by first | (refine .l ?_; (repeat first | exact .head _ | apply List.Mem.tail); done) | (refine .m ?_; (repeat first | exact .head _ | apply List.Mem.tail); done) | assumption) (by show (takeAt (tripC posts wv post day papers ds mb) (0 + 5 + p.toNat * 16) 16).map V.agg = _; rw [trip_row hdl (p := p.toNat) (by omega) (by omega)]; rfl) ?_)
  refine WO.cons (OX.move rfl rfl rfl ?_)
  refine WO.nil ?_
  refine KQ.seq ?_
  refine WS.block ?_
  refine WS.loop (S := Nat × Int) (FF := fun s => [(0, .ptr (some ⟨tb, 0⟩)), (1, iv p), (4, .ptr (some ⟨b4, 0⟩)), (5, .ptr (some ⟨b5, 0⟩)), (15, .agg ((rowOf ds p.toNat).map iv)), (16, iv s.1)]) (LL := fun s => [(b5, .cells [iv p, iv s.2] true), (b4, .cells [iv 0, iv 0] true)]) (I := fun s => s.1 ≤ 16 ∧ (0 ≤ s.2 ∧ s.2 < 16) ∧ ∀ j : Nat, j < s.1 → dget ds p s.2 ≤ dget ds p j) (μ := fun s => 16 - s.1) (s0 := (0, 0)) (⟨by omega, ⟨by omega, by omega⟩, fun j hj => absurd hj (by omega)⟩) (by exact ⟨rfl, rfl, rfl, rfl, rfl, rfl, trivial⟩) (by repeat (first | exact Sub.nil _ | (apply Sub.cons; (repeat (first | exact .here | apply Take.there))))) ?_
  rintro ⟨k, s⟩ ⟨hk1, hs1, hs2⟩
  dsimp only at hk1 hs1 hs2 ⊢
  refine WS.seq ?_
  refine WS.region EOk ?_
  refine WO.cons (OX.lt rfl rfl rfl rfl ?_)
  refine WO.nil ?_
  refine KQ.seq ?_
  refine WS.seq ?_
  first | refine WS.condD rfl (fun h17 => ?_) (fun h17 => ?_) | refine WS.condN rfl (fun h17 => ?_) (fun h17 => ?_) | refine WS.cond rfl (fun h17 => ?_) (fun h17 => ?_)
  ·
    refine WS.skip ?_
    refine KQ.seq ?_
    refine WS.seq ?_
    refine WS.block ?_
    refine WS.seq ?_
    refine WS.region EOk ?_
    refine WO.cons (OX.move rfl rfl rfl ?_)
    refine WO.cons (OX.index rfl rfl rfl rfl (row_index hdl hpp (by omega)) ?_)
    refine WO.cons (OX.assign rfl rfl rfl ?_)
    refine WO.cons (OX.assign rfl rfl rfl ?_)
    refine WO.nil ?_
    refine KQ.seq ?_
    refine WS.seq ?_
    refine WS.draw EOk (ancs := [0, 0, 0, 0, 8, 2, 34, 102, 254, 510, 1023]) (ord := [0, 1, 2, 3, 4, 5, 6, 7, 8, 9, 10]) (by kernel_rfl) ?_
    refine WD.cons rfl (OX.move rfl rfl rfl ⟨trivial, ?_⟩)
    refine WD.cons rfl (OX.move rfl rfl rfl ⟨⟨.inr trivial, trivial⟩, ?_⟩)
    refine WD.cons rfl (OX.move rfl rfl rfl ⟨⟨.inr trivial, ⟨.inr trivial, trivial⟩⟩, ?_⟩)
    refine WD.cons rfl (OX.fieldAddr (r := 1) rfl rfl rfl rfl ⟨⟨.inr trivial, ⟨.inr trivial, ⟨.inr trivial, trivial⟩⟩⟩, ?_⟩)
    refine WD.cons rfl (OX.load rfl rfl rfl (by first | (refine .l ?_; (repeat first | exact .head _ | apply List.Mem.tail); done) | (refine .m ?_; (repeat first | exact .head _ | apply List.Mem.tail); done) | assumption) rfl ⟨⟨.inr trivial, ⟨.inr trivial, ⟨.inr trivial, ⟨.inr trivial, trivial⟩⟩⟩⟩, ?_⟩)
    refine WD.cons rfl (OX.nilCheck rfl rfl rfl ⟨⟨.inr trivial, ⟨.inr trivial, ⟨.inr trivial, ⟨.inr trivial, ⟨.inr trivial, trivial⟩⟩⟩⟩⟩, ?_⟩)
    refine WD.cons rfl (OX.fieldAddr (r := 5) rfl rfl rfl rfl ⟨⟨.inr trivial, ⟨.inr trivial, ⟨.inr trivial, ⟨.inr trivial, ⟨.inr trivial, ⟨.inr trivial, trivial⟩⟩⟩⟩⟩⟩, ?_⟩)
    refine WD.cons rfl (OX.indexArr (m := 10) (z := 16) rfl rfl rfl rfl rfl (by omega) ⟨⟨.inr trivial, ⟨.inr trivial, ⟨.inr trivial, ⟨.inr trivial, ⟨.inr trivial, ⟨.inr trivial, ⟨.inr trivial, trivial⟩⟩⟩⟩⟩⟩⟩, ?_⟩)
    refine WD.cons rfl (OX.indexArr (m := 16) (z := 1) rfl rfl rfl rfl rfl (by omega) ⟨⟨.inr trivial, ⟨.inr trivial, ⟨.inr trivial, ⟨.inr trivial, ⟨.inr trivial, ⟨.inr trivial, ⟨.inr trivial, ⟨.inr trivial, trivial⟩⟩⟩⟩⟩⟩⟩⟩, ?_⟩)
    refine WD.cons rfl (OX.load rfl rfl rfl (by first | (refine .l ?_; (repeat first | exact .head _ | apply List.Mem.tail); done) | (refine .m ?_; (repeat first | exact .head _ | apply List.Mem.tail); done) | assumption) (by exact trip_load (i := ix p s) (by simp only [ix, Int.toNat_natCast]; omega) (ds_at hdl hrng hpp hs1).1) ⟨⟨.inr trivial, ⟨.inr trivial, ⟨.inr trivial, ⟨.inr trivial, ⟨.inr trivial, ⟨.inr trivial, ⟨.inr trivial, ⟨.inr trivial, ⟨.inr trivial, trivial⟩⟩⟩⟩⟩⟩⟩⟩⟩, ?_⟩)
    refine WD.cons rfl (OX.lt rfl rfl rfl rfl ⟨⟨.inr trivial, ⟨.inr trivial, ⟨.inr trivial, ⟨.inr trivial, ⟨.inr trivial, ⟨.inr trivial, ⟨.inr trivial, ⟨.inr trivial, ⟨.inr trivial, ⟨.inr trivial, trivial⟩⟩⟩⟩⟩⟩⟩⟩⟩⟩, ?_⟩)
    refine WD.nil ?_
    refine KQ.seq ?_
    first | refine WS.condD rfl (fun h30 => ?_) (fun h30 => ?_) | refine WS.condN rfl (fun h30 => ?_) (fun h30 => ?_) | refine WS.cond rfl (fun h30 => ?_) (fun h30 => ?_)
    ·
      refine WS.region EOk ?_
      refine WO.cons (OX.move rfl rfl rfl ?_)
      refine WO.cons (OX.fieldAddr (r := 1) rfl rfl rfl rfl ?_)
      refine WO.cons (OX.storeL rfl rfl rfl rfl rfl rfl (by (repeat (first | exact .here | apply Take.there))) rfl ((.cons (.cons .nil))) ?_)
      refine WO.nil ?_
      refine KQ.blk ?_
      refine KQ.seq ?_
      refine WS.region EOk ?_
      refine WO.cons (OX.add rfl rfl rfl rfl (by omega) ?_)
      refine WO.cons (OX.move rfl rfl rfl ?_)
      refine WO.nil ?_
      refine KQ.done ?_
      first | exact LQ.nx (k + 1, (k : Int)) (by repeat (first | exact Sub.nil _ | (apply Sub.cons; (repeat (first | exact .here | apply Take.there))))) ⟨rfl, rfl, rfl, rfl, rfl, rfl, trivial⟩ (by show 16 - (k + 1) < 16 - k; omega) ⟨by dsimp only; omega, ⟨by omega, by omega⟩, fun j hj => least_new hs2 (by omega) j hj⟩ | exact LQ.nx (k + 1, s) (by repeat (first | exact Sub.nil _ | (apply Sub.cons; (repeat (first | exact .here | apply Take.there))))) ⟨rfl, rfl, rfl, rfl, rfl, rfl, trivial⟩ (by show 16 - (k + 1) < 16 - k; omega) ⟨by dsimp only; omega, hs1, fun j hj => least_old hs2 (by omega) j hj⟩
    ·
      refine WS.skip ?_
      refine KQ.blk ?_
      refine KQ.seq ?_
      refine WS.region EOk ?_
      refine WO.cons (OX.add rfl rfl rfl rfl (by omega) ?_)
      refine WO.cons (OX.move rfl rfl rfl ?_)
      refine WO.nil ?_
      refine KQ.done ?_
      first | exact LQ.nx (k + 1, (k : Int)) (by repeat (first | exact Sub.nil _ | (apply Sub.cons; (repeat (first | exact .here | apply Take.there))))) ⟨rfl, rfl, rfl, rfl, rfl, rfl, trivial⟩ (by show 16 - (k + 1) < 16 - k; omega) ⟨by dsimp only; omega, ⟨by omega, by omega⟩, fun j hj => least_new hs2 (by omega) j hj⟩ | exact LQ.nx (k + 1, s) (by repeat (first | exact Sub.nil _ | (apply Sub.cons; (repeat (first | exact .here | apply Take.there))))) ⟨rfl, rfl, rfl, rfl, rfl, rfl, trivial⟩ (by show 16 - (k + 1) < 16 - k; omega) ⟨by dsimp only; omega, hs1, fun j hj => least_old hs2 (by omega) j hj⟩
  ·
    refine WS.exit ?_
    refine KQ.seq_exit ?_
    refine KQ.done ?_
    refine LQ.exit ?_
    refine KQ.blk_here ?_
    refine KQ.seq ?_
    refine WS.seq ?_
    refine WS.region EOk ?_
    refine WO.cons (OX.loadG rfl rfl rfl (by first | (refine .l ?_; (repeat first | exact .head _ | apply List.Mem.tail); done) | (refine .m ?_; (repeat first | exact .head _ | apply List.Mem.tail); done) | assumption) rfl ((.cons (.cons .nil))) ?_)
    refine WO.cons (OX.storeL rfl rfl rfl rfl rfl rfl (by (repeat (first | exact .here | apply Take.there))) rfl ((.cons (.cons .nil))) ?_)
    refine WO.nil ?_
    refine KQ.seq ?_
    refine WS.ret ?_
    refine KQ.done ?_
    refine FQ.ret (.cons (.cellG rfl (by first | (refine .l ?_; (repeat first | exact .head _ | apply List.Mem.tail); done) | (refine .m ?_; (repeat first | exact .head _ | apply List.Mem.tail); done) | assumption) rfl ((.cons (.cons .nil)))) (.nil)) ?_
    exact ⟨[], Sub.nil _, s, rfl, rfl, hs1, fun s' hs' => by have := hs2 s'.toNat (by omega); rwa [Int.toNat_of_nonneg hs'.1] at this⟩
theorem day_ok {posts post day papers : Int} {wv : V} {ds : List Int} {tb mb : Nat} (hdl : ds.length = 160) (hrng : ∀ (i : Nat) x, ds[i]? = some x → 0 ≤ x ∧ x ≤ 1001) {p : Int} (hpp : 0 ≤ p ∧ p < 10) : FN P 22 [.ptr (some ⟨tb, 0⟩), iv p] [] [(tb, .cells (tripC posts wv post day papers ds mb) true)] (fun v L' => ∃ x, v = iv x ∧ L' = [] ∧ DayAt ds p x) := by
  refine FN.forget ?_
  refine FN.intro EOk ENt rfl rfl rfl ?_
  refine WS.seq ?_
  refine WS.region EOk ?_
  refine WO.cons (OX.assign rfl rfl rfl ?_)
  refine WO.nil ?_
  refine KQ.seq ?_
  refine WS.seq ?_
  refine WS.seq ?_
  refine WS.draw EOk (ancs := [0, 0, 0, 0, 12, 28, 1, 65, 195, 511, 1023, 2047]) (ord := [0, 1, 2, 3, 6, 7, 8, 4, 5, 9, 10, 11]) (by kernel_rfl) ?_
  refine WD.cons rfl (OX.move rfl rfl rfl ⟨trivial, ?_⟩)
  refine WD.cons rfl (OX.move rfl rfl rfl ⟨⟨.inr trivial, trivial⟩, ?_⟩)
  refine WD.cons rfl (OX.move rfl rfl rfl ⟨⟨.inr trivial, ⟨.inr trivial, trivial⟩⟩, ?_⟩)
  refine WD.cons rfl (OX.move rfl rfl rfl ⟨⟨.inr trivial, ⟨.inr trivial, ⟨.inr trivial, trivial⟩⟩⟩, ?_⟩)
  refine WD.cons rfl (OX.nilCheck rfl rfl rfl ⟨⟨.inr trivial, ⟨.inr trivial, ⟨.inr trivial, ⟨.inr trivial, trivial⟩⟩⟩⟩, ?_⟩)
  refine WD.cons rfl (OX.fieldAddr (r := 5) rfl rfl rfl rfl ⟨⟨.inr trivial, ⟨.inr trivial, ⟨.inr trivial, ⟨.inr trivial, ⟨.inr trivial, trivial⟩⟩⟩⟩⟩, ?_⟩)
  refine WD.cons rfl (OX.indexArr (m := 10) (z := 16) rfl rfl rfl rfl rfl (by omega) ⟨⟨.inr trivial, ⟨.inr trivial, ⟨.inr trivial, ⟨.inr trivial, ⟨.inr trivial, ⟨.inr trivial, trivial⟩⟩⟩⟩⟩⟩, ?_⟩)
  refine WD.cons rfl (OX.call rfl rfl rfl (least_ok hdl hrng hpp) (TakeS.perm (by repeat (first | exact TakeS.nil | (apply TakeS.cons; (repeat (first | exact .here | apply Take.there)))))) (by first | exact SubM.nil | exact SubM.self (fun _ h => h) | (repeat (first | exact SubM.nil | (apply SubM.cons; exact (by first | (refine .l ?_; (repeat first | exact .head _ | apply List.Mem.tail); done) | (refine .m ?_; (repeat first | exact .head _ | apply List.Mem.tail); done) | assumption))))) ?kk)
  case kk =>
    rintro _ _ ⟨s, rfl, rfl, hs1, hs2⟩
    refine ⟨⟨.inr (by simp [PairW, ids]), ⟨.inr (by simp [PairW, ids]), ⟨.inr (by simp [PairW, ids]), ⟨.inl (by kernel_rfl), ⟨.inl (by kernel_rfl), ⟨.inr (by simp [PairW, ids]), ⟨.inr (by simp [PairW, ids]), trivial⟩⟩⟩⟩⟩⟩⟩, ?_⟩
    refine WD.cons rfl (OX.field rfl rfl rfl rfl ⟨⟨.inl (by kernel_rfl), ⟨.inr trivial, ⟨.inr trivial, ⟨.inr trivial, ⟨.inr trivial, ⟨.inr trivial, ⟨.inr trivial, ⟨.inr trivial, trivial⟩⟩⟩⟩⟩⟩⟩⟩, ?_⟩)
    refine WD.cons rfl (OX.indexArr (m := 16) (z := 1) rfl rfl rfl rfl rfl (by omega) ⟨⟨.inr trivial, ⟨.inl (by kernel_rfl), ⟨.inr trivial, ⟨.inr trivial, ⟨.inr trivial, ⟨.inr trivial, ⟨.inr trivial, ⟨.inr trivial, ⟨.inr trivial, trivial⟩⟩⟩⟩⟩⟩⟩⟩⟩, ?_⟩)
    refine WD.cons rfl (OX.load rfl rfl rfl (by first | (refine .l ?_; (repeat first | exact .head _ | apply List.Mem.tail); done) | (refine .m ?_; (repeat first | exact .head _ | apply List.Mem.tail); done) | assumption) (by exact trip_load (i := ix p s) (by simp only [ix, Int.toNat_natCast]; omega) (ds_at hdl hrng hpp hs1).1) ⟨⟨.inr trivial, ⟨.inr trivial, ⟨.inl (by kernel_rfl), ⟨.inr trivial, ⟨.inr trivial, ⟨.inr trivial, ⟨.inr trivial, ⟨.inr trivial, ⟨.inr trivial, ⟨.inr trivial, trivial⟩⟩⟩⟩⟩⟩⟩⟩⟩⟩, ?_⟩)
    refine WD.cons rfl (OX.assign rfl rfl rfl ⟨⟨.inr trivial, ⟨.inr trivial, ⟨.inr trivial, ⟨.inl (by kernel_rfl), ⟨.inr trivial, ⟨.inr trivial, ⟨.inr trivial, ⟨.inr trivial, ⟨.inr trivial, ⟨.inr trivial, ⟨.inr trivial, trivial⟩⟩⟩⟩⟩⟩⟩⟩⟩⟩⟩, ?_⟩)
    refine WD.nil ?_
    refine KQ.seq ?_
    refine WS.seq ?_
    refine WS.region EOk ?_
    refine WO.cons (OX.move rfl rfl rfl ?_)
    refine WO.cons (OX.le rfl rfl rfl rfl ?_)
    refine WO.nil ?_
    refine KQ.seq ?_
    first | refine WS.condD rfl (fun h18 => ?_) (fun h18 => ?_) | refine WS.condN rfl (fun h18 => ?_) (fun h18 => ?_) | refine WS.cond rfl (fun h18 => ?_) (fun h18 => ?_)
    ·
      refine WS.seq ?_
      refine WS.region EOk ?_
      refine WO.cons (OX.move rfl rfl rfl ?_)
      refine WO.cons (OX.assign rfl rfl rfl ?_)
      refine WO.nil ?_
      refine KQ.seq ?_
      refine WS.ret ?_
      refine KQ.seq_ret ?_
      refine KQ.done ?_
      refine FQ.ret (.cons (.tmp rfl) (.nil)) ?_
      exact ⟨[], Sub.nil _, _, rfl, rfl, s, hs1, hs2, by rw [if_pos h18]⟩
    ·
      refine WS.skip ?_
      refine KQ.seq ?_
      refine WS.seq ?_
      refine WS.region EOk ?_
      refine WO.cons (OX.assign rfl rfl rfl ?_)
      refine WO.nil ?_
      refine KQ.seq ?_
      refine WS.ret ?_
      refine KQ.done ?_
      refine FQ.ret (.cons (.tmp rfl) (.nil)) ?_
      exact ⟨[], Sub.nil _, _, rfl, rfl, s, hs1, hs2, by rw [if_neg h18]⟩
theorem sclone_ok {tb o n : Nat} {cp : Option Nat} {cs us : List V} {own : Bool} (htk : takeAt cs o (n * 1) = some us) (hn : 0 < n ∧ n ≤ 1000) (hat : us.all V.atom = true) : FN P 23 [.slice (some ⟨tb, o⟩) n 1 cp] [] [(tb, .cells cs own)] (fun v L' => ∃ b, v = .slice (some ⟨b, 0⟩) n 1 none ∧ L' = [(b, .cells us true)]) := by
  refine FN.forget ?_
  refine FN.intro EOk ENt rfl rfl rfl ?_
  refine WS.seq ?_
  refine WS.region EOk ?_
  refine WO.cons (OX.assign rfl rfl rfl ?_)
  refine WO.nil ?_
  refine KQ.seq ?_
  refine WS.seq ?_
  refine WS.seq ?_
  refine WS.region EOk ?_
  refine WO.cons (OX.move rfl rfl rfl ?_)
  refine WO.cons (OX.bin (v := .bool false) rfl rfl rfl rfl rfl ?_)
  refine WO.nil ?_
  refine KQ.seq ?_
  refine WS.condF rfl ?_
  refine WS.skip ?_
  refine KQ.seq ?_
  refine WS.seq ?_
  refine WS.region EOk ?_
  refine WO.cons (OX.buildSlice (m := 1) (cs' := []) rfl rfl rfl rfl .nil fun b5 => ?_)
  refine WO.cons (OX.move rfl rfl rfl ?_)
  refine WO.cons (OX.append (z := 1) (olds := []) (xl := n) rfl rfl rfl rfl rfl (by (repeat (first | exact .here | apply Take.there))) rfl (.some (by first | (refine .l ?_; (repeat first | exact .head _ | apply List.Mem.tail); done) | (refine .m ?_; (repeat first | exact .head _ | apply List.Mem.tail); done) | assumption) htk) ⟨by omega, by omega⟩ (fun c hc => by cases hc; omega) hat fun b7 => ?_)
  refine WO.cons (OX.assign rfl rfl rfl ?_)
  refine WO.nil ?_
  refine KQ.seq ?_
  refine WS.ret ?_
  refine KQ.done ?_
  refine FQ.ret (.cons (.tmp rfl) (.nil)) ?_
  exact ⟨[(b7, .cells us true)], by repeat (first | exact Sub.nil _ | (apply Sub.cons; (repeat (first | exact .here | apply Take.there)))), b7, by show V.slice _ (0 + n) _ _ = _; rw [Nat.zero_add], rfl⟩
theorem clone_ok {tb o n : Nat} {cp : Option Nat} {cs us : List V} {own : Bool} (htk : takeAt cs o (n * 1) = some us) (hn : 0 < n ∧ n ≤ 1000) (hat : us.all V.atom = true) : FN P 24 [.slice (some ⟨tb, o⟩) n 1 cp] [] [(tb, .cells cs own)] (fun v L' => ∃ b, v = .slice (some ⟨b, 0⟩) n 1 none ∧ L' = [(b, .cells us true)]) := by
  refine FN.forget ?_
  refine FN.intro EOk ENt rfl rfl rfl ?_
  refine WS.seq ?_
  refine WS.region EOk ?_
  refine WO.cons (OX.assign rfl rfl rfl ?_)
  refine WO.nil ?_
  refine KQ.seq ?_
  refine WS.seq ?_
  refine WS.region EOk ?_
  refine WO.cons (OX.move rfl rfl rfl ?_)
  refine WO.cons (OX.appNil (z := 1) rfl rfl rfl rfl rfl (.some (by first | (refine .l ?_; (repeat first | exact .head _ | apply List.Mem.tail); done) | (refine .m ?_; (repeat first | exact .head _ | apply List.Mem.tail); done) | assumption) htk) ⟨by omega, by omega⟩ hat fun b4 => ?_)
  refine WO.cons (OX.assign rfl rfl rfl ?_)
  refine WO.nil ?_
  refine KQ.seq ?_
  refine WS.ret ?_
  refine KQ.done ?_
  refine FQ.ret (.cons (.tmp rfl) (.nil)) ?_
  exact ⟨[(b4, .cells us true)], by repeat (first | exact Sub.nil _ | (apply Sub.cons; (repeat (first | exact .here | apply Take.there)))), b4, rfl, rfl⟩
theorem earliest_ok {posts post day papers : Int} {ws : List Wy} {wa : Option Am.Loc} {m wz : Nat} {wcp : Option Nat} {M : CL} (hW : WaysOk M wa m wz wcp ws) (hp : 1 ≤ posts ∧ posts ≤ 10) (hl : ws.length ≤ 24) (hws : ∀ w ∈ ws, w.Ok posts) (hh : (0 ≤ post ∧ post < posts) ∧ (0 ≤ day ∧ day ≤ 1000) ∧ 0 ≤ papers ∧ papers ≤ 15) : FN P 8 [.agg [iv posts, (.slice wa m wz wcp)], .agg [iv post, iv day, iv papers]] [] M (fun v L' => ∃ (ob : Nat) (dl ds : List Int), v = .tup [.slice (some ⟨ob, 0⟩) posts.toNat 1 none, err 0] ∧ L' = [(ob, .cells (dl.map iv) true)] ∧ dl.length = posts.toNat ∧ Days ws posts post day papers ds ∧ ∀ (i : Nat) x, dl[i]? = some x → DayAt ds i x) := by
  refine FN.forget ?_
  refine FN.intro EOk ENt rfl rfl rfl ?_
  refine WS.seq ?_
  refine WS.region EOk ?_
  refine WO.cons (OX.box rfl rfl rfl rfl fun b2 => ?_)
  refine WO.cons (OX.box rfl rfl rfl rfl fun b3 => ?_)
  refine WO.cons (OX.assign rfl rfl rfl ?_)
  refine WO.cons (OX.assign rfl rfl rfl ?_)
  refine WO.nil ?_
  refine KQ.seq ?_
  refine WS.seq ?_
  refine WS.seq ?_
  refine WS.region EOk ?_
  refine WO.cons (OX.loadG rfl rfl rfl (by first | (refine .l ?_; (repeat first | exact .head _ | apply List.Mem.tail); done) | (refine .m ?_; (repeat first | exact .head _ | apply List.Mem.tail); done) | assumption) rfl ((.cons (.cons .nil))) ?_)
  refine WO.cons (OX.loadG rfl rfl rfl (by first | (refine .l ?_; (repeat first | exact .head _ | apply List.Mem.tail); done) | (refine .m ?_; (repeat first | exact .head _ | apply List.Mem.tail); done) | assumption) rfl ((.cons (.cons (.cons .nil)))) ?_)
  refine WO.cons (OX.call rfl rfl rfl (herded_ok hW hp hl hws hh) (TakeS.perm (by repeat (first | exact TakeS.nil | (apply TakeS.cons; (repeat (first | exact .here | apply Take.there)))))) (by first | exact SubM.nil | exact SubM.self (fun _ h => h) | (repeat (first | exact SubM.nil | (apply SubM.cons; exact (by first | (refine .l ?_; (repeat first | exact .head _ | apply List.Mem.tail); done) | (refine .m ?_; (repeat first | exact .head _ | apply List.Mem.tail); done) | assumption))))) ?kk)
  case kk =>
    rintro _ _ ⟨rfl, rfl⟩
    refine WO.cons (OX.assign rfl rfl rfl ?_)
    refine WO.nil ?_
    refine KQ.seq ?_
    refine WS.seq ?_
    refine WS.region EOk ?_
    refine WO.cons (OX.move rfl rfl rfl ?_)
    refine WO.cons (OX.ne rfl rfl rfl rfl ?_)
    refine WO.nil ?_
    refine KQ.seq ?_
    first | refine WS.condD rfl (fun h14 => ?_) (fun h14 => ?_) | refine WS.condN rfl (fun h14 => ?_) (fun h14 => ?_) | refine WS.cond rfl (fun h14 => ?_) (fun h14 => ?_)
    ·
      exact absurd h14 (by simp)
    ·
      refine WS.skip ?_
      refine KQ.seq ?_
      refine WS.seq ?_
      refine WS.region EOk ?_
      refine WO.cons (OX.loadG rfl rfl rfl (by first | (refine .l ?_; (repeat first | exact .head _ | apply List.Mem.tail); done) | (refine .m ?_; (repeat first | exact .head _ | apply List.Mem.tail); done) | assumption) rfl ((.cons (.cons .nil))) ?_)
      refine WO.cons (OX.loadG rfl rfl rfl (by first | (refine .l ?_; (repeat first | exact .head _ | apply List.Mem.tail); done) | (refine .m ?_; (repeat first | exact .head _ | apply List.Mem.tail); done) | assumption) rfl ((.cons (.cons (.cons .nil)))) ?_)
      refine WO.cons (OX.call rfl rfl rfl (begun_ok hW hp hl hws hh) (TakeS.perm (by repeat (first | exact TakeS.nil | (apply TakeS.cons; (repeat (first | exact .here | apply Take.there)))))) (by first | exact SubM.nil | exact SubM.self (fun _ h => h) | (repeat (first | exact SubM.nil | (apply SubM.cons; exact (by first | (refine .l ?_; (repeat first | exact .head _ | apply List.Mem.tail); done) | (refine .m ?_; (repeat first | exact .head _ | apply List.Mem.tail); done) | assumption))))) ?kk)
      case kk =>
        rintro _ _ ⟨tb, mb, ds, rfl, rfl, hds⟩
        refine WO.cons (OX.assign rfl rfl rfl ?_)
        refine WO.nil ?_
        refine KQ.seq ?_
        refine WS.seq ?_
        refine WS.region EOk ?_
        refine WO.cons (OX.assign rfl rfl rfl ?_)
        refine WO.nil ?_
        refine KQ.seq ?_
        refine WS.seq ?_
        refine WS.seq ?_
        refine WS.region EOk ?_
        refine WO.cons (OX.fieldAddr (r := 0) rfl rfl rfl rfl ?_)
        refine WO.cons (OX.load rfl rfl rfl (by first | (refine .l ?_; (repeat first | exact .head _ | apply List.Mem.tail); done) | (refine .m ?_; (repeat first | exact .head _ | apply List.Mem.tail); done) | assumption) rfl ?_)
        refine WO.cons (OX.move rfl rfl rfl ?_)
        refine WO.nil ?_
        refine KQ.seq ?_
        refine WS.block ?_
        refine WS.loop (S := Nat × List Int × Nat) (FF := fun s => [(2, .ptr (some ⟨b2, 0⟩)), (3, .ptr (some ⟨b3, 0⟩)), (7, .ptr (some ⟨tb, 0⟩)), (8, gV 1 s.2.2 s.1), (20, iv posts), (21, iv s.1)]) (LL := fun s => (b3, .cells [iv post, iv day, iv papers] true) :: (b2, .cells [iv posts, (.slice wa m wz wcp)] true) :: (tb, .cells (tripC posts (.slice wa m wz wcp) post day papers ds mb) true) :: gL s.2.2 (s.2.1.map iv) s.1) (I := fun s => s.1 ≤ posts.toNat ∧ s.2.1.length = s.1 ∧ ∀ (i : Nat) x, s.2.1[i]? = some x → DayAt ds i x) (μ := fun s => posts.toNat - s.1) (s0 := (0, [], 0)) (⟨by omega, rfl, fun i x hx => by simp at hx⟩) (by exact ⟨rfl, rfl, rfl, rfl, rfl, rfl, trivial⟩) (by repeat (first | exact Sub.nil _ | (apply Sub.cons; (repeat (first | exact .here | apply Take.there))))) ?_
        rintro ⟨k, dl, ob⟩ ⟨hk1, hdl, hdx⟩
        dsimp only at hk1 hdl hdx ⊢
        refine WS.seq ?_
        refine WS.region EOk ?_
        refine WO.cons (OX.lt rfl rfl rfl rfl ?_)
        refine WO.nil ?_
        refine KQ.seq ?_
        refine WS.seq ?_
        first | refine WS.condD rfl (fun h22 => ?_) (fun h22 => ?_) | refine WS.condN rfl (fun h22 => ?_) (fun h22 => ?_) | refine WS.cond rfl (fun h22 => ?_) (fun h22 => ?_)
        ·
          refine WS.skip ?_
          refine KQ.seq ?_
          refine WS.seq ?_
          refine WS.block ?_
          refine WS.seq ?_
          refine WS.region EOk ?_
          refine WO.cons (OX.move rfl rfl rfl ?_)
          refine WO.cons (OX.assign rfl rfl rfl ?_)
          refine WO.nil ?_
          refine KQ.seq ?_
          refine WS.region EOk ?_
          refine WO.cons (OX.move rfl rfl rfl ?_)
          refine WO.cons (OX.move rfl rfl rfl ?_)
          refine WO.cons (OX.move rfl rfl rfl ?_)
          refine WO.cons (OX.call rfl rfl rfl (day_ok hds.len hds.rng (by omega)) (TakeS.perm (by repeat (first | exact TakeS.nil | (apply TakeS.cons; (repeat (first | exact .here | apply Take.there)))))) (by first | exact SubM.nil | exact SubM.self (fun _ h => h) | (repeat (first | exact SubM.nil | (apply SubM.cons; exact (by first | (refine .l ?_; (repeat first | exact .head _ | apply List.Mem.tail); done) | (refine .m ?_; (repeat first | exact .head _ | apply List.Mem.tail); done) | assumption))))) ?kk)
          case kk =>
            rintro _ _ ⟨x, rfl, rfl, hx⟩
            refine WO.cons (OX.buildSlice rfl rfl rfl rfl ((.cons .nil)) fun b28 => ?_)
            refine WO.cons (OX.grow (z := 1) (us := dl.map iv) (es := [iv x]) rfl rfl rfl rfl rfl (by first | (refine .l ?_; (repeat first | exact .head _ | apply List.Mem.tail); done) | (refine .m ?_; (repeat first | exact .head _ | apply List.Mem.tail); done) | assumption) rfl rfl (by simp [hdl]) (by omega) (by (first | exact List.perm_append_comm (l₁ := []) (l₂ := gL ob (dl.map iv) k) | exact List.perm_append_comm (l₁ := [_]) (l₂ := gL ob (dl.map iv) k) | exact List.perm_append_comm (l₁ := [_, _]) (l₂ := gL ob (dl.map iv) k) | exact List.perm_append_comm (l₁ := [_, _, _]) (l₂ := gL ob (dl.map iv) k) | exact List.perm_append_comm (l₁ := [_, _, _, _]) (l₂ := gL ob (dl.map iv) k) | exact List.perm_append_comm (l₁ := [_, _, _, _, _]) (l₂ := gL ob (dl.map iv) k) | exact List.perm_append_comm (l₁ := [_, _, _, _, _, _]) (l₂ := gL ob (dl.map iv) k) | exact List.perm_append_comm (l₁ := [_, _, _, _, _, _, _]) (l₂ := gL ob (dl.map iv) k) | exact List.perm_append_comm (l₁ := [_, _, _, _, _, _, _, _]) (l₂ := gL ob (dl.map iv) k) | exact List.perm_append_comm (l₁ := [_, _, _, _, _, _, _, _, _]) (l₂ := gL ob (dl.map iv) k) | exact List.perm_append_comm (l₁ := [_, _, _, _, _, _, _, _, _, _]) (l₂ := gL ob (dl.map iv) k) | exact List.perm_append_comm (l₁ := [_, _, _, _, _, _, _, _, _, _, _]) (l₂ := gL ob (dl.map iv) k) | exact List.perm_append_comm (l₁ := [_, _, _, _, _, _, _, _, _, _, _, _]) (l₂ := gL ob (dl.map iv) k) | exact List.perm_append_comm (l₁ := [_, _, _, _, _, _, _, _, _, _, _, _, _]) (l₂ := gL ob (dl.map iv) k))) fun b29 _ => ?_)
            rw [show dl.map iv ++ [iv x] = (dl ++ [x]).map iv by simp]
            refine WO.cons (OX.assign rfl rfl rfl ?_)
            refine WO.nil ?_
            refine KQ.blk ?_
            refine KQ.seq ?_
            refine WS.region EOk ?_
            refine WO.cons (OX.add rfl rfl rfl rfl (by omega) ?_)
            refine WO.cons (OX.move rfl rfl rfl ?_)
            refine WO.nil ?_
            refine KQ.done ?_
            exact LQ.nx (k + 1, dl ++ [x], b29) (by repeat (first | exact Sub.nil _ | (apply Sub.cons; (repeat (first | exact .here | apply Take.there))))) ⟨rfl, rfl, rfl, rfl, rfl, rfl, trivial⟩ (by show posts.toNat - (k + 1) < posts.toNat - k; omega) ⟨by dsimp only; omega, by simp [hdl], fun i y hy => snoc_at hdx hdl hx i y hy⟩
        ·
          refine WS.exit ?_
          refine KQ.seq_exit ?_
          refine KQ.done ?_
          refine LQ.exit ?_
          refine KQ.blk_here ?_
          refine KQ.seq ?_
          refine WS.seq ?_
          refine WS.region EOk ?_
          refine WO.cons (OX.move rfl rfl rfl ?_)
          refine WO.cons (OX.assign rfl rfl rfl ?_)
          refine WO.cons (OX.assign rfl rfl rfl ?_)
          refine WO.nil ?_
          refine KQ.seq ?_
          refine WS.ret ?_
          refine KQ.done ?_
          refine FQ.ret (.cons (.tmp rfl) (.cons (.tmp rfl) (.nil))) ?_
          obtain ⟨k, rfl⟩ : ∃ k', k = k' + 1 := ⟨k - 1, by omega⟩
          have hkp : posts.toNat = k + 1 := by omega
          exact ⟨[(ob, .cells (dl.map iv) true)], by repeat (first | exact Sub.nil _ | (apply Sub.cons; (repeat (first | exact .here | apply Take.there)))), ob, dl, ds, by show V.tup [V.slice _ (k + 1) _ _, _] = _; rw [hkp], rfl, by omega, hds, hdx⟩
theorem calendar_ok {posts post day papers : Int} {ws : List Wy} {wa : Option Am.Loc} {m wz : Nat} {wcp : Option Nat} {M : CL} (hW : WaysOk M wa m wz wcp ws) (hp : 1 ≤ posts ∧ posts ≤ 10) (hl : ws.length ≤ 24) (hws : ∀ w ∈ ws, w.Ok posts) (hh : (0 ≤ post ∧ post < posts) ∧ (0 ≤ day ∧ day ≤ 1000) ∧ 0 ≤ papers ∧ papers ≤ 15) : FN P 9 [.agg [iv posts, (.slice wa m wz wcp)], .agg [iv post, iv day, iv papers]] [] M (fun v L' => ∃ (ob : Nat) (cal : List (Nat × List Int)), v = .tup [.slice (some ⟨ob, 0⟩) posts.toNat 1 none, err 0] ∧ L' = (ob, .cells (calV cal) true) :: calL cal ∧ cal.length = posts.toNat ∧ ∀ c ∈ cal, RowOk c.2) := by
  refine FN.forget ?_
  refine FN.intro EOk ENt rfl rfl rfl ?_
  refine WS.seq ?_
  refine WS.region EOk ?_
  refine WO.cons (OX.box rfl rfl rfl rfl fun b2 => ?_)
  refine WO.cons (OX.box rfl rfl rfl rfl fun b3 => ?_)
  refine WO.cons (OX.assign rfl rfl rfl ?_)
  refine WO.cons (OX.assign rfl rfl rfl ?_)
  refine WO.nil ?_
  refine KQ.seq ?_
  refine WS.seq ?_
  refine WS.seq ?_
  refine WS.region EOk ?_
  refine WO.cons (OX.loadG rfl rfl rfl (by first | (refine .l ?_; (repeat first | exact .head _ | apply List.Mem.tail); done) | (refine .m ?_; (repeat first | exact .head _ | apply List.Mem.tail); done) | assumption) rfl ((.cons (.cons .nil))) ?_)
  refine WO.cons (OX.loadG rfl rfl rfl (by first | (refine .l ?_; (repeat first | exact .head _ | apply List.Mem.tail); done) | (refine .m ?_; (repeat first | exact .head _ | apply List.Mem.tail); done) | assumption) rfl ((.cons (.cons (.cons .nil)))) ?_)
  refine WO.cons (OX.call rfl rfl rfl (herded_ok hW hp hl hws hh) (TakeS.perm (by repeat (first | exact TakeS.nil | (apply TakeS.cons; (repeat (first | exact .here | apply Take.there)))))) (by first | exact SubM.nil | exact SubM.self (fun _ h => h) | (repeat (first | exact SubM.nil | (apply SubM.cons; exact (by first | (refine .l ?_; (repeat first | exact .head _ | apply List.Mem.tail); done) | (refine .m ?_; (repeat first | exact .head _ | apply List.Mem.tail); done) | assumption))))) ?kk)
  case kk =>
    rintro _ _ ⟨rfl, rfl⟩
    refine WO.cons (OX.assign rfl rfl rfl ?_)
    refine WO.nil ?_
    refine KQ.seq ?_
    refine WS.seq ?_
    refine WS.region EOk ?_
    refine WO.cons (OX.move rfl rfl rfl ?_)
    refine WO.cons (OX.ne rfl rfl rfl rfl ?_)
    refine WO.nil ?_
    refine KQ.seq ?_
    first | refine WS.condD rfl (fun h14 => ?_) (fun h14 => ?_) | refine WS.condN rfl (fun h14 => ?_) (fun h14 => ?_) | refine WS.cond rfl (fun h14 => ?_) (fun h14 => ?_)
    ·
      exact absurd h14 (by simp)
    ·
      refine WS.skip ?_
      refine KQ.seq ?_
      refine WS.seq ?_
      refine WS.region EOk ?_
      refine WO.cons (OX.loadG rfl rfl rfl (by first | (refine .l ?_; (repeat first | exact .head _ | apply List.Mem.tail); done) | (refine .m ?_; (repeat first | exact .head _ | apply List.Mem.tail); done) | assumption) rfl ((.cons (.cons .nil))) ?_)
      refine WO.cons (OX.loadG rfl rfl rfl (by first | (refine .l ?_; (repeat first | exact .head _ | apply List.Mem.tail); done) | (refine .m ?_; (repeat first | exact .head _ | apply List.Mem.tail); done) | assumption) rfl ((.cons (.cons (.cons .nil)))) ?_)
      refine WO.cons (OX.call rfl rfl rfl (begun_ok hW hp hl hws hh) (TakeS.perm (by repeat (first | exact TakeS.nil | (apply TakeS.cons; (repeat (first | exact .here | apply Take.there)))))) (by first | exact SubM.nil | exact SubM.self (fun _ h => h) | (repeat (first | exact SubM.nil | (apply SubM.cons; exact (by first | (refine .l ?_; (repeat first | exact .head _ | apply List.Mem.tail); done) | (refine .m ?_; (repeat first | exact .head _ | apply List.Mem.tail); done) | assumption))))) ?kk)
      case kk =>
        rintro _ _ ⟨tb, mb, ds, rfl, rfl, hds⟩
        refine WO.cons (OX.assign rfl rfl rfl ?_)
        refine WO.nil ?_
        refine KQ.seq ?_
        refine WS.seq ?_
        refine WS.region EOk ?_
        refine WO.cons (OX.assign rfl rfl rfl ?_)
        refine WO.nil ?_
        refine KQ.seq ?_
        refine WS.seq ?_
        refine WS.seq ?_
        refine WS.region EOk ?_
        refine WO.cons (OX.fieldAddr (r := 0) rfl rfl rfl rfl ?_)
        refine WO.cons (OX.load rfl rfl rfl (by first | (refine .l ?_; (repeat first | exact .head _ | apply List.Mem.tail); done) | (refine .m ?_; (repeat first | exact .head _ | apply List.Mem.tail); done) | assumption) rfl ?_)
        refine WO.cons (OX.move rfl rfl rfl ?_)
        refine WO.nil ?_
        refine KQ.seq ?_
        refine WS.block ?_
        refine WS.loop (S := Nat × List (Nat × List Int) × Nat) (FF := fun s => [(2, .ptr (some ⟨b2, 0⟩)), (3, .ptr (some ⟨b3, 0⟩)), (7, .ptr (some ⟨tb, 0⟩)), (8, gV 1 s.2.2 s.1), (20, iv posts), (21, iv s.1)]) (LL := fun s => (b3, .cells [iv post, iv day, iv papers] true) :: (b2, .cells [iv posts, (.slice wa m wz wcp)] true) :: (tb, .cells (tripC posts (.slice wa m wz wcp) post day papers ds mb) true) :: (gL s.2.2 (calV s.2.1) s.1 ++ calL s.2.1)) (I := fun s => s.1 ≤ posts.toNat ∧ s.2.1.length = s.1 ∧ ∀ c ∈ s.2.1, RowOk c.2) (μ := fun s => posts.toNat - s.1) (s0 := (0, [], 0)) (⟨by omega, rfl, fun c hc => by cases hc⟩) (by exact ⟨rfl, rfl, rfl, rfl, rfl, rfl, trivial⟩) (by repeat (first | exact Sub.nil _ | (apply Sub.cons; (repeat (first | exact .here | apply Take.there))))) ?_
        rintro ⟨k, cal, ob⟩ ⟨hk1, hcl, hcr⟩
        dsimp only at hk1 hcl hcr ⊢
        refine WS.seq ?_
        refine WS.region EOk ?_
        refine WO.cons (OX.lt rfl rfl rfl rfl ?_)
        refine WO.nil ?_
        refine KQ.seq ?_
        refine WS.seq ?_
        first | refine WS.condD rfl (fun h22 => ?_) (fun h22 => ?_) | refine WS.condN rfl (fun h22 => ?_) (fun h22 => ?_) | refine WS.cond rfl (fun h22 => ?_) (fun h22 => ?_)
        ·
          refine WS.skip ?_
          refine KQ.seq ?_
          refine WS.seq ?_
          refine WS.block ?_
          refine WS.seq ?_
          refine WS.region EOk ?_
          refine WO.cons (OX.move rfl rfl rfl ?_)
          refine WO.cons (OX.assign rfl rfl rfl ?_)
          refine WO.nil ?_
          refine KQ.seq ?_
          refine WS.region EOk ?_
          refine WO.cons (OX.move rfl rfl rfl ?_)
          refine WO.cons (OX.move rfl rfl rfl ?_)
          refine WO.cons (OX.move rfl rfl rfl ?_)
          refine WO.cons (OX.nilCheck rfl rfl rfl ?_)
          refine WO.cons (OX.fieldAddr (r := 5) rfl rfl rfl rfl ?_)
          refine WO.cons (OX.indexArr (m := 10) (z := 16) rfl rfl rfl rfl rfl (by omega) ?_)
          refine WO.cons (OX.sliceArr (z := 1) (m := 16) rfl rfl rfl rfl (by first | (refine .l ?_; (repeat first | exact .head _ | apply List.Mem.tail); done) | (refine .m ?_; (repeat first | exact .head _ | apply List.Mem.tail); done) | assumption) (by rw [trip_len, hds.len]; simp only [Int.toNat_natCast]; omega) ?_)
          refine WO.cons (OX.call rfl rfl rfl (sclone_ok (cs := tripC posts (.slice wa m wz wcp) post day papers ds mb) (own := true) (n := 16) (us := (rowOf ds k).map iv) (by exact trip_row hds.len (by omega) (by simp only [Int.toNat_natCast]; omega)) (by omega) (iv_atoms _)) (TakeS.perm (by repeat (first | exact TakeS.nil | (apply TakeS.cons; (repeat (first | exact .here | apply Take.there)))))) (by first | exact SubM.nil | exact SubM.self (fun _ h => h) | (repeat (first | exact SubM.nil | (apply SubM.cons; exact (by first | (refine .l ?_; (repeat first | exact .head _ | apply List.Mem.tail); done) | (refine .m ?_; (repeat first | exact .head _ | apply List.Mem.tail); done) | assumption))))) ?kk)
          case kk =>
            rintro _ _ ⟨rb, rfl, rfl⟩
            refine WO.cons (OX.buildSlice rfl rfl rfl rfl ((.cons .nil)) fun b32 => ?_)
            refine WO.cons (OX.grow (z := 1) (us := calV cal) (es := [.slice (some ⟨rb, 0⟩) 16 1 none]) rfl rfl rfl rfl rfl (by first | (refine .l ?_; (repeat first | exact .head _ | apply List.Mem.tail); done) | (refine .m ?_; (repeat first | exact .head _ | apply List.Mem.tail); done) | assumption) rfl rfl (by rw [calV_len]; omega) (by omega) (by (first | exact List.perm_append_comm_assoc [] (gL ob (calV cal) k) (calL cal) | exact List.perm_append_comm_assoc [_] (gL ob (calV cal) k) (calL cal) | exact List.perm_append_comm_assoc [_, _] (gL ob (calV cal) k) (calL cal) | exact List.perm_append_comm_assoc [_, _, _] (gL ob (calV cal) k) (calL cal) | exact List.perm_append_comm_assoc [_, _, _, _] (gL ob (calV cal) k) (calL cal) | exact List.perm_append_comm_assoc [_, _, _, _, _] (gL ob (calV cal) k) (calL cal) | exact List.perm_append_comm_assoc [_, _, _, _, _, _] (gL ob (calV cal) k) (calL cal) | exact List.perm_append_comm_assoc [_, _, _, _, _, _, _] (gL ob (calV cal) k) (calL cal) | exact List.perm_append_comm_assoc [_, _, _, _, _, _, _, _] (gL ob (calV cal) k) (calL cal) | exact List.perm_append_comm_assoc [_, _, _, _, _, _, _, _, _] (gL ob (calV cal) k) (calL cal) | exact List.perm_append_comm_assoc [_, _, _, _, _, _, _, _, _, _] (gL ob (calV cal) k) (calL cal) | exact List.perm_append_comm_assoc [_, _, _, _, _, _, _, _, _, _, _] (gL ob (calV cal) k) (calL cal) | exact List.perm_append_comm_assoc [_, _, _, _, _, _, _, _, _, _, _, _] (gL ob (calV cal) k) (calL cal) | exact List.perm_append_comm_assoc [_, _, _, _, _, _, _, _, _, _, _, _, _] (gL ob (calV cal) k) (calL cal))) fun b33 _ => ?_)
            rw [calV_snoc cal rb (rowOf ds k)]
            refine WO.cons (OX.assign rfl rfl rfl ?_)
            refine WO.nil ?_
            refine KQ.blk ?_
            refine KQ.seq ?_
            refine WS.region EOk ?_
            refine WO.cons (OX.add rfl rfl rfl rfl (by omega) ?_)
            refine WO.cons (OX.move rfl rfl rfl ?_)
            refine WO.nil ?_
            refine KQ.done ?_
            refine LQ.nx (k + 1, cal ++ [(rb, rowOf ds k)], b33) ?_ ⟨rfl, rfl, rfl, rfl, rfl, rfl, trivial⟩ (by show posts.toNat - (k + 1) < posts.toNat - k; omega) ⟨by dsimp only; omega, by simp [hcl], fun c hc => ?_⟩
            · dsimp only
              rw [calL_snoc]
              exact (by repeat (first | exact Sub.refl _ | (apply Sub.cons; (repeat (first | exact .here | apply Take.there))) | apply Sub.drop | apply Sub.dropL))
            · rcases List.mem_append.1 hc with hc | hc
              · exact hcr c hc
              · rw [List.mem_singleton.1 hc]; exact rowOf_ok hds.len hds.rng (by omega)
        ·
          refine WS.exit ?_
          refine KQ.seq_exit ?_
          refine KQ.done ?_
          refine LQ.exit ?_
          refine KQ.blk_here ?_
          refine KQ.seq ?_
          refine WS.seq ?_
          refine WS.region EOk ?_
          refine WO.cons (OX.move rfl rfl rfl ?_)
          refine WO.cons (OX.assign rfl rfl rfl ?_)
          refine WO.cons (OX.assign rfl rfl rfl ?_)
          refine WO.nil ?_
          refine KQ.seq ?_
          refine WS.ret ?_
          refine KQ.done ?_
          refine FQ.ret (.cons (.tmp rfl) (.cons (.tmp rfl) (.nil))) ?_
          obtain ⟨k, rfl⟩ : ∃ k', k = k' + 1 := ⟨k - 1, by omega⟩
          have hkp : posts.toNat = k + 1 := by omega
          exact ⟨(ob, .cells (calV cal) true) :: calL cal, by repeat (first | exact Sub.refl _ | (apply Sub.cons; (repeat (first | exact .here | apply Take.there))) | apply Sub.drop | apply Sub.dropL), ob, cal, by show V.tup [V.slice _ (k + 1) _ _, _] = _; rw [hkp], rfl, by omega, hcr⟩
end Go.Proofs.Ytgkmdkhhaapolaa
