/-
  PASSAGE, plain: calendars that are changed.
-/
import Derived.Test.YtgkmdkhhaapolaaPs7
namespace Go.Proofs.Ytgkmdkhhaapolaa
open Go.Am Go.Proofs
noncomputable section
theorem deck0 : DeckOk 0 9 := ⟨by omega, by omega, by omega, by omega⟩
theorem WO.sub {E : Env} {R : Option Nat} {n : Nat} {M : CL} {F : FA} {L L' : CL} {Q : Post3} {ks : List KI} {ops : Array Oper} {os : List Oper} (hL : Am.Sub L' L) (h : WO P E R n M ops os ks F L' Q) : WO P E R n M ops os ks F L Q := fun H f hg hf hr =>
  let ⟨f', H', F'', L'', h1, h2, h3, h4⟩ := h H f (hg.sub hL) hf (hr.sub hL)
  ⟨f', H', F'', L'', h1, h2, h3.sub hL, h4⟩
theorem WS.sub {R : Option Nat} {n : Nat} {M : CL} {F : FA} {L L' : CL} {Q : Post3} {ks : List KI} {c : Code} (hL : Am.Sub L' L) (h : WS P R n M c ks F L' Q) : WS P R n M c ks F L Q := fun H f hg hf hr =>
  let ⟨e, f', H', F'', L'', h1, h2, h3, h4⟩ := h H f (hg.sub hL) hf (hr.sub hL)
  ⟨e, f', H', F'', L'', h1, h2, h3.sub hL, h4⟩
theorem perm_row {E C T T0 : CL} {x : Nat × Am.Obj} (h : C.Perm (x :: T)) : (E ++ (C ++ T0)).Perm (x :: (E ++ (T ++ T0))) :=
  ((h.append_right T0).append_left E).trans List.perm_middle
theorem calL_perm (cal : List (Nat × List Int)) : (calL cal).Perm (cal.map fun c => (c.1, .cells (c.2.map iv) true)) := by
  unfold calL; rw [List.map_reverse]; exact List.reverse_perm _
theorem calL_take {cal : List (Nat × List Int)} {i : Nat} {c : Nat × List Int} (h : cal[i]? = some c) : ∃ T, (calL cal).Perm ((c.1, .cells (c.2.map iv) true) :: T) ∧ ∀ r, (calL (cal.set i (c.1, r))).Perm ((c.1, .cells (r.map iv) true) :: T) := by
  have hl : i < cal.length := (List.getElem?_eq_some_iff.1 h).1
  have hc : cal[i] = c := (List.getElem?_eq_some_iff.1 h).2
  refine ⟨(cal.take i ++ cal.drop (i + 1)).map fun c => (c.1, .cells (c.2.map iv) true), ?_, fun r => ?_⟩
  · refine (calL_perm cal).trans ?_
    have e : cal = cal.take i ++ c :: cal.drop (i + 1) := by rw [← hc, List.getElem_cons_drop, List.take_append_drop]
    refine List.Perm.trans (List.Perm.of_eq (congrArg _ e)) ?_
    rw [List.map_append, List.map_cons, List.map_append]
    exact List.perm_middle
  · refine (calL_perm _).trans ?_
    rw [List.set_eq_take_append_cons_drop, if_pos hl, List.map_append, List.map_cons, List.map_append]
    exact List.perm_middle
theorem calV_set {cal : List (Nat × List Int)} {i : Nat} {c : Nat × List Int} (h : cal[i]? = some c) (r : List Int) : calV (cal.set i (c.1, r)) = calV cal := by
  unfold calV
  rw [List.map_set]
  have hl : i < cal.length := (List.getElem?_eq_some_iff.1 h).1
  have hc : cal[i] = c := (List.getElem?_eq_some_iff.1 h).2
  apply List.ext_getElem?
  intro j
  by_cases e : i = j
  · subst e
    rw [List.getElem?_set_self (by simpa using hl), List.getElem?_map, h]; rfl
  · rw [List.getElem?_set_ne e]
theorem calL_mem {cal : List (Nat × List Int)} {c : Nat × List Int} (h : c ∈ cal) : (c.1, .cells (c.2.map iv) true) ∈ calL cal := (calL_perm cal).mem_iff.2 (List.mem_map.2 ⟨c, h, rfl⟩)
theorem row_st {r : List Int} {i : Nat} {x : Int} (h : i < r.length) : spliceO [iv x] (r.map iv) (0 + i * 1) = some ((r.set i x).map iv) := by
  rw [Nat.zero_add, Nat.mul_one, splice_one _ _ (by simpa using h), List.map_set]
theorem RowOk.set {r : List Int} (h : RowOk r) {x : Int} (hx : 0 ≤ x ∧ x ≤ 1001) (i : Nat) : RowOk (r.set i x) := by
  refine ⟨by rw [List.length_set]; exact h.1, fun y hy => ?_⟩
  rcases List.mem_or_eq_of_mem_set hy with h' | h'
  · exact h.2 y h'
  · rw [h']; exact hx
theorem cal_set_ok {cal : List (Nat × List Int)} (hr : ∀ c ∈ cal, RowOk c.2) {i b : Nat} {r : List Int} (h : RowOk r) : ∀ c ∈ cal.set i (b, r), RowOk c.2 := by
  intro c hc
  rcases List.mem_or_eq_of_mem_set hc with h' | h'
  · exact hr c h'
  · rw [h']; exact h
theorem cget_set {cal : List (Nat × List Int)} {p s x : Int} {c : Nat × List Int} (h : cal[p.toNat]? = some c) (hs : s.toNat < c.2.length) : cget (cal.set p.toNat (c.1, c.2.set s.toNat x)) p s = x := by
  have hl : p.toNat < cal.length := (List.getElem?_eq_some_iff.1 h).1
  unfold cget
  rw [List.getElem?_set_self hl]
  simp [List.getD_eq_getElem?_getD, hs]
/-- What a calendar that holds proves is no more than the earliest day. -/
theorem proved_le {ws : List Wy} {posts post day papers : Int} {ds : List Int} {cal : List (Nat × List Int)} {p x got : Int} (hd : Days ws posts post day papers ds) (hv : Valid ws posts post day papers (calF cal)) (hp : 0 ≤ p ∧ p < 10) (hx : DayAt ds p x) (hne : x ≠ -1) (hg : ∀ s, 0 ≤ s ∧ s < 16 → got ≤ cget cal p s) : got ≤ x := by
  obtain ⟨s, hs1, hs2, hs3⟩ := hx
  have hat := ds_at hd.len hd.rng hp hs1
  have h1 := hd.lb _ hv _ _ hat.1
  rw [calF_ix hp.1 hs1] at h1
  have h2 := hg s hs1
  split at hs3 <;> omega
theorem no_more {ws : List Wy} {posts post day papers : Int} {ds dl : List Int} {cal : List (Nat × List Int)} {p x got e : Int} (hd : Days ws posts post day papers ds) (h : e = 9 ∨ e = 0 ∧ Valid ws posts post day papers (calF cal) ∧ ∀ s, 0 ≤ s ∧ s < 16 → got ≤ cget cal p s) (he : e = 0) (hp : 0 ≤ p ∧ p < 10)
    (hdx : ∀ (i : Nat) x, dl[i]? = some x → DayAt ds i x) (hdp : dl[p.toNat]? = some x) (hne : x ≠ -1) (hlt : x < got) : False := by
  rcases h with h | ⟨_, hv, hg⟩
  · omega
  · have h1 := hdx _ _ hdp
    rw [Int.toNat_of_nonneg hp.1] at h1
    have := proved_le hd hv hp h1 hne hg
    omega
end
end Go.Proofs.Ytgkmdkhhaapolaa
