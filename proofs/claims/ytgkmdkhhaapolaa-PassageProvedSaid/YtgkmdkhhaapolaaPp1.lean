/-
  PASSAGE, plain: the earliest days, and the calendars that prove them.
-/
import Derived.Test.YtgkmdkhhaapolaaPs1
namespace Go.Proofs.Ytgkmdkhhaapolaa
open Go.Am Go.Proofs
noncomputable section

def ix (p s : Int) : Nat := p.toNat * 16 + s.toNat
def dget (ds : List Int) (p s : Int) : Int := ds.getD (ix p s) 0
theorem ix_lt {p s : Int} (hp : 0 ≤ p ∧ p < 10) (hs : 0 ≤ s ∧ s < 16) : ix p s < 160 := by unfold ix; omega
theorem ix_inj {p s p' s' : Int} (hp : 0 ≤ p) (hs : 0 ≤ s ∧ s < 16) (hp' : 0 ≤ p') (hs' : 0 ≤ s' ∧ s' < 16) (h : ix p s = ix p' s') : p = p' ∧ s = s' := by unfold ix at h; omega

/-- A calendar that holds. -/
structure Valid (ws : List Wy) (posts hp hd hs : Int) (cal : Nat → Int) : Prop where
  top : ∀ i, i < 160 → cal i ≤ 1001
  start : cal (ix hp hs) ≤ hd
  step : ∀ s w, 0 ≤ s ∧ s < 16 → w ∈ ws → CanGo w w.src (cal (ix w.src s)) s → cal (ix w.dst (bor s w.gives)) ≤ goneDay w (cal (ix w.src s))

theorem gone_mono {w : Wy} {a b p s : Int} (h : a ≤ b) (hb : CanGo w p b s) : CanGo w p a s ∧ goneDay w a ≤ goneDay w b := by
  unfold CanGo goneDay at *
  obtain ⟨h1, h2, h3, h4⟩ := hb
  refine ⟨⟨h1, h2, by omega, ?_⟩, ?_⟩ <;> split <;> split at h4 <;> (try split) <;> omega

structure BI (ws : List Wy) (posts hp hd hs : Int) (ds : List Int) (todo : List (Int × Int)) (cl : Int → Int → Wy → Prop) : Prop where
  len : ds.length = 160
  rng : ∀ (i : Nat) x, ds[i]? = some x → 0 ≤ x ∧ x ≤ 1001
  todoOk : ∀ q ∈ todo, (0 ≤ q.1 ∧ q.1 < posts) ∧ 0 ≤ q.2 ∧ q.2 < 16
  sum : (todo.length : Int) + ds.sum ≤ 160161
  lb : ∀ cal, Valid ws posts hp hd hs cal → ∀ (i : Nat) x, ds[i]? = some x → cal i ≤ x
  start : dget ds hp hs ≤ hd
  clos : ∀ p s w, (0 ≤ p ∧ p < posts) → (0 ≤ s ∧ s < 16) → w ∈ ws → w.src = p → (p, s) ∈ todo ∨ cl p s w ∨ (CanGo w p (dget ds p s) s → dget ds w.dst (bor s w.gives) ≤ goneDay w (dget ds p s))

theorem sum_set : ∀ (l : List Int) (i : Nat) (x y : Int), l[i]? = some x → (l.set i y).sum = l.sum - x + y
  | [], i, x, y, h => by simp at h
  | a :: l, 0, x, y, h => by simp at h; subst h; simp; omega
  | a :: l, i + 1, x, y, h => by
    simp only [List.set_cons_succ, List.sum_cons]
    rw [sum_set l i x y (by simpa using h)]; omega
theorem sum_nn : ∀ (l : List Int), (∀ (i : Nat) x, l[i]? = some x → 0 ≤ x) → 0 ≤ l.sum
  | [], _ => by simp
  | a :: l, h => by
    have h1 := h 0 a rfl
    have h2 := sum_nn l fun i x hx => h (i + 1) x (by simpa using hx)
    simp only [List.sum_cons]; omega
theorem sum_rep (n : Nat) (x : Int) : (List.replicate n x).sum = n * x := by
  induction n with
  | zero => simp
  | succ n ih => rw [List.replicate_succ, List.sum_cons, ih]; push_cast; rw [Int.add_mul]; omega

variable {ws : List Wy} {posts hp hd hs : Int} {ds : List Int} {todo : List (Int × Int)}

theorem BI.at {cl} (h : BI ws posts hp hd hs ds todo cl) {p s : Int} (hpp : 0 ≤ p ∧ p < 10) (hss : 0 ≤ s ∧ s < 16) : ds[ix p s]? = some (dget ds p s) ∧ 0 ≤ dget ds p s ∧ dget ds p s ≤ 1001 := by
  have hl := ix_lt hpp hss
  have h1 : ds[ix p s]? = some (dget ds p s) := by
    unfold dget
    rw [List.getD_eq_getElem?_getD, List.getElem?_eq_getElem (by rw [h.len]; exact hl)]; rfl
  exact ⟨h1, h.rng _ _ h1⟩

theorem dget_set_same {p s x : Int} (hl : ix p s < ds.length) : dget (ds.set (ix p s) x) p s = x := by
  unfold dget
  simp [List.getD_eq_getElem?_getD, hl]
theorem dget_set_ne {i : Nat} {p s x : Int} (h : ix p s ≠ i) : dget (ds.set i x) p s = dget ds p s := by
  unfold dget
  simp [List.getD_eq_getElem?_getD, List.getElem?_set_ne (Ne.symm h)]

theorem BI.init (hpp : 0 ≤ hp ∧ hp < posts) (hq : posts ≤ 10) (hss : 0 ≤ hs ∧ hs ≤ 15) (hdd : 0 ≤ hd ∧ hd ≤ 1000) (hl : ds.length = 160) (hds : ∀ i, i < 160 → ds[i]? = some 1001) (hws : ∀ w ∈ ws, w.Ok posts) :
    BI ws posts hp hd hs (ds.set (ix hp hs) hd) [(hp, hs)] (fun _ _ _ => False) where
  len := by simpa using hl
  rng := fun i x hx => by
    by_cases e : ix hp hs = i
    · subst e
      rw [List.getElem?_set_self (by rw [hl]; exact ix_lt (by omega) (by omega))] at hx
      simp only [Option.some.injEq] at hx; omega
    · rw [List.getElem?_set_ne e] at hx
      have : i < 160 := by rw [← hl]; exact (List.getElem?_eq_some_iff.1 hx).1
      rw [hds i this] at hx; simp only [Option.some.injEq] at hx; omega
  todoOk := fun q hq => by rw [List.mem_singleton.1 hq]; exact ⟨hpp, by omega⟩
  sum := by
    have e : ds = List.replicate 160 1001 := by
      apply List.ext_getElem?
      intro i
      by_cases h : i < 160
      · rw [hds i h, List.getElem?_replicate, if_pos h]
      · rw [List.getElem?_eq_none (by omega), List.getElem?_replicate, if_neg h]
    have h1 := sum_set ds (ix hp hs) 1001 hd (hds _ (ix_lt (by omega) (by omega)))
    have h2 : ds.sum = 160160 := by rw [e, sum_rep]; rfl
    rw [h1, h2]
    show ((1 : Nat) : Int) + _ ≤ _
    omega
  lb := fun cal hc i x hx => by
    by_cases e : ix hp hs = i
    · subst e
      rw [List.getElem?_set_self (by rw [hl]; exact ix_lt (by omega) (by omega))] at hx
      simp only [Option.some.injEq] at hx; rw [← hx]; exact hc.start
    · rw [List.getElem?_set_ne e] at hx
      have hi : i < 160 := by rw [← hl]; exact (List.getElem?_eq_some_iff.1 hx).1
      rw [hds i hi] at hx; simp only [Option.some.injEq] at hx; rw [← hx]; exact hc.top i hi
  start := by rw [dget_set_same (by rw [hl]; exact ix_lt (by omega) (by omega))]; exact Int.le_refl _
  clos := fun p s w h1 h2 h3 h4 => by
    by_cases e : ix p s = ix hp hs
    · obtain ⟨rfl, rfl⟩ := ix_inj h1.1 h2 hpp.1 (by omega) e
      exact .inl (by simp)
    · refine .inr (.inr fun hg => ?_)
      rw [dget_set_ne e] at hg
      have : dget ds p s = 1001 := by unfold dget; rw [List.getD_eq_getElem?_getD, hds _ (ix_lt (by omega) h2)]; rfl
      rw [this] at hg
      obtain ⟨_, _, hw3, hw4, _, _, _, _, hw9⟩ := hws w h3
      have := hg.2.2.1; omega

theorem BI.pop {p s : Int} (h : BI ws posts hp hd hs ds ((p, s) :: todo) (fun _ _ _ => False)) : BI ws posts hp hd hs ds todo (fun p' s' w => p' = p ∧ s' = s ∧ ∃ j : Nat, 0 ≤ j ∧ ws[j]? = some w) where
  len := h.len
  rng := h.rng
  todoOk := fun q hq => h.todoOk q (List.mem_cons_of_mem _ hq)
  sum := by have := h.sum; simp at this; omega
  lb := h.lb
  start := h.start
  clos := fun p' s' w h1 h2 h3 h4 => by
    rcases h.clos p' s' w h1 h2 h3 h4 with h5 | h5 | h5
    · rcases List.mem_cons.1 h5 with h6 | h6
      · simp only [Prod.mk.injEq] at h6
        obtain ⟨j, hj⟩ := List.mem_iff_getElem?.1 h3
        exact .inr (.inl ⟨h6.1, h6.2, j, Nat.zero_le _, hj⟩)
      · exact .inl h6
    · exact h5.elim
    · exact .inr (.inr h5)

/-- The exceptions while the ways from k on of a state are still to be looked at. -/
abbrev Cur (ws : List Wy) (p s : Int) (k : Nat) : Int → Int → Wy → Prop := fun p' s' w => p' = p ∧ s' = s ∧ ∃ j : Nat, k ≤ j ∧ ws[j]? = some w

theorem BI.skip {p s : Int} {k : Nat} {w : Wy} (h : BI ws posts hp hd hs ds todo (Cur ws p s k)) (hk : ws[k]? = some w) (hw : w.src = p → CanGo w p (dget ds p s) s → dget ds w.dst (bor s w.gives) ≤ goneDay w (dget ds p s)) : BI ws posts hp hd hs ds todo (Cur ws p s (k + 1)) where
  len := h.len
  rng := h.rng
  todoOk := h.todoOk
  sum := h.sum
  lb := h.lb
  start := h.start
  clos := fun p' s' w' h1 h2 h3 h4 => by
    rcases h.clos p' s' w' h1 h2 h3 h4 with h5 | ⟨rfl, rfl, j, hj, hjw⟩ | h5
    · exact .inl h5
    · by_cases e : j = k
      · subst e
        rw [hk] at hjw
        simp only [Option.some.injEq] at hjw
        subst hjw
        exact .inr (.inr (hw h4))
      · exact .inr (.inl ⟨rfl, rfl, j, by omega, hjw⟩)
    · exact .inr (.inr h5)

theorem BI.better {p s : Int} {k : Nat} {w : Wy} (h : BI ws posts hp hd hs ds todo (Cur ws p s k)) (hk : ws[k]? = some w) (hsrc : w.src = p) (hq : posts ≤ 10) (hps : (0 ≤ p ∧ p < posts) ∧ 0 ≤ s ∧ s < 16) (hws : ∀ w ∈ ws, w.Ok posts)
    (hg : CanGo w p (dget ds p s) s) (hlt : goneDay w (dget ds p s) < dget ds w.dst (bor s w.gives)) :
    BI ws posts hp hd hs (ds.set (ix w.dst (bor s w.gives)) (goneDay w (dget ds p s))) (todo ++ [(w.dst, bor s w.gives)]) (Cur ws p s (k + 1)) := by
  have hwm : w ∈ ws := List.mem_of_getElem? hk
  obtain ⟨⟨w1, w2⟩, ⟨w3, w4⟩, w5, ⟨w6, w7⟩, _, _, ⟨w8, w9⟩, ⟨w10, w11⟩, w12⟩ := hws w hwm
  have hb := bor_rng (a := s) (b := w.gives) hps.2 (by omega)
  have hil := ix_lt (p := w.dst) (s := bor s w.gives) (by omega) hb
  have hat := h.at (p := w.dst) (s := bor s w.gives) (by omega) hb
  have hcur := h.at (p := p) (s := s) (by omega) hps.2
  have hg0 : 0 ≤ goneDay w (dget ds p s) := by unfold goneDay; split <;> omega
  have hle : ∀ p' s', dget (ds.set (ix w.dst (bor s w.gives)) (goneDay w (dget ds p s))) p' s' ≤ dget ds p' s' := fun p' s' => by
    by_cases e : ix p' s' = ix w.dst (bor s w.gives)
    · have e1 : dget (ds.set (ix w.dst (bor s w.gives)) (goneDay w (dget ds p s))) p' s' = goneDay w (dget ds p s) := by
        unfold dget; rw [e]; simp [List.getD_eq_getElem?_getD, h.len, hil]
      have e2 : dget ds p' s' = dget ds w.dst (bor s w.gives) := by unfold dget; rw [e]
      rw [e1, e2]; omega
    · rw [dget_set_ne e]; exact Int.le_refl _
  refine ⟨by simpa using h.len, fun i x hx => ?_, fun q hq => ?_, ?_, fun cal hc i x hx => ?_, Int.le_trans (hle _ _) h.start, fun p' s' w' h1 h2 h3 h4 => ?_⟩
  · by_cases e : ix w.dst (bor s w.gives) = i
    · subst e
      rw [List.getElem?_set_self (by rw [h.len]; exact hil)] at hx
      simp only [Option.some.injEq] at hx; omega
    · rw [List.getElem?_set_ne e] at hx; exact h.rng i x hx
  · rcases List.mem_append.1 hq with hq | hq
    · exact h.todoOk q hq
    · rw [List.mem_singleton.1 hq]; exact ⟨⟨w3, w4⟩, hb⟩
  · rw [sum_set _ _ _ _ hat.1, List.length_append]
    have := h.sum
    simp; omega
  · by_cases e : ix w.dst (bor s w.gives) = i
    · subst e
      rw [List.getElem?_set_self (by rw [h.len]; exact hil)] at hx
      simp only [Option.some.injEq] at hx
      rw [← hx]
      have hc1 := h.lb cal hc _ _ hcur.1
      have hgm := gone_mono hc1 hg
      subst hsrc
      exact Int.le_trans (hc.step s w hps.2 hwm hgm.1) hgm.2
    · rw [List.getElem?_set_ne e] at hx; exact h.lb cal hc i x hx
  · by_cases e : ix p' s' = ix w.dst (bor s w.gives)
    · obtain ⟨rfl, rfl⟩ := ix_inj h1.1 h2 w3 hb e
      exact .inl (by simp)
    · rw [dget_set_ne e]
      rcases h.clos p' s' w' h1 h2 h3 h4 with h5 | ⟨rfl, rfl, j, hj, hjw⟩ | h5
      · exact .inl (List.mem_append_left _ h5)
      · by_cases ej : j = k
        · subst ej
          rw [hk] at hjw
          simp only [Option.some.injEq] at hjw
          subst hjw
          refine .inr (.inr fun _ => ?_)
          rw [dget_set_same (by rw [h.len]; exact hil)]
          exact Int.le_refl _
        · exact .inr (.inl ⟨rfl, rfl, j, by omega, hjw⟩)
      · exact .inr (.inr fun hg' => Int.le_trans (hle _ _) (h5 hg'))

theorem BI.over {p s : Int} {k : Nat} (h : BI ws posts hp hd hs ds todo (Cur ws p s k)) (hk : ws.length ≤ k) : BI ws posts hp hd hs ds todo (fun _ _ _ => False) where
  len := h.len
  rng := h.rng
  todoOk := h.todoOk
  sum := h.sum
  lb := h.lb
  start := h.start
  clos := fun p' s' w' h1 h2 h3 h4 => by
    rcases h.clos p' s' w' h1 h2 h3 h4 with h5 | ⟨_, _, j, hj, hjw⟩ | h5
    · exact .inl h5
    · rw [List.getElem?_eq_none (by omega)] at hjw; cases hjw
    · exact .inr (.inr h5)

/-- The days of a trip. -/
structure Days (ws : List Wy) (posts hp hd hs : Int) (ds : List Int) : Prop where
  len : ds.length = 160
  rng : ∀ (i : Nat) x, ds[i]? = some x → 0 ≤ x ∧ x ≤ 1001
  lb : ∀ cal, Valid ws posts hp hd hs cal → ∀ (i : Nat) x, ds[i]? = some x → cal i ≤ x
  valid : Valid ws posts hp hd hs (fun i => ds.getD i 0)
theorem BI.days (h : BI ws posts hp hd hs ds [] (fun _ _ _ => False)) (hq : posts ≤ 10) (hws : ∀ w ∈ ws, w.Ok posts) : Days ws posts hp hd hs ds where
  len := h.len
  rng := h.rng
  lb := h.lb
  valid := ⟨fun i hi => by
    have : ds[i]? = some (ds.getD i 0) := by rw [List.getD_eq_getElem?_getD, List.getElem?_eq_getElem (by rw [h.len]; exact hi)]; rfl
    exact (h.rng i _ this).2, h.start, fun s w h2 h3 hg => by
    rcases h.clos w.src s w (hws w h3).1 h2 h3 rfl with h5 | h5 | h5
    · cases h5
    · exact h5.elim
    · exact h5 hg⟩

/-! ### The trip's cells -/
def tripC (posts : Int) (wv : V) (hp hd hs : Int) (ds : List Int) (mb : Nat) : List V := [iv posts, wv, iv hp, iv hd, iv hs] ++ (ds.map iv ++ [.map (some mb)])
theorem trip_load {posts : Int} {wv : V} {hp hd hs : Int} {ds : List Int} {mb o i : Nat} {x : Int} (ho : o = 5 + i) (hi : ds[i]? = some x) : nthL (tripC posts wv hp hd hs ds mb) o = some (iv x) := by
  subst ho
  rw [nthL_eq]
  have hl : i < ds.length := (List.getElem?_eq_some_iff.1 hi).1
  unfold tripC
  rw [List.getElem?_append_right (by simp), show 5 + i - [iv posts, wv, iv hp, iv hd, iv hs].length = i by simp, List.getElem?_append_left (by simpa using hl)]
  simp [hi]
theorem trip_map {posts : Int} {wv : V} {hp hd hs : Int} {ds : List Int} {mb o : Nat} (ho : o = 165) (hl : ds.length = 160) : nthL (tripC posts wv hp hd hs ds mb) o = some (.map (some mb)) := by
  subst ho
  rw [nthL_eq]
  unfold tripC
  rw [List.getElem?_append_right (by simp), List.getElem?_append_right (by simp [hl])]
  simp [hl]
theorem splice_one {v : V} : ∀ (cs : List V) (o : Nat), o < cs.length → spliceO [v] cs o = some (cs.set o v)
  | [], o, h => by simp at h
  | u :: us, 0, _ => rfl
  | u :: us, o + 1, h => by
    show consO u (spliceO [v] us o) = _
    rw [splice_one us o (by simpa using h)]; rfl
theorem trip_store {posts : Int} {wv : V} {hp hd hs : Int} {ds : List Int} {mb o i : Nat} {x : Int} (ho : o = 5 + i) (hi : i < ds.length) : spliceO [iv x] (tripC posts wv hp hd hs ds mb) o = some (tripC posts wv hp hd hs (ds.set i x) mb) := by
  subst ho
  rw [splice_one _ _ (by simp [tripC]; omega)]
  unfold tripC
  rw [List.set_append_right _ _ (by simp), show 5 + i - [iv posts, wv, iv hp, iv hd, iv hs].length = i by simp, List.set_append_left _ _ (by simpa using hi), List.map_set]
theorem trip_mapL {posts : Int} {wv : V} {hp hd hs : Int} {ds : List Int} {mb : Nat} (hl : ds.length = 160) : loadV E 73 (tripC posts wv hp hd hs ds mb) (0 + 165) = some (.map (some mb)) := by
  have h := trip_map (posts := posts) (wv := wv) (hp := hp) (hd := hd) (hs := hs) (ds := ds) (mb := mb) (o := 0 + 165) rfl hl
  unfold loadV
  have e : E.isAgg 73 = some false := rfl
  rw [e]; exact h
theorem trip_len {posts : Int} {wv : V} {hp hd hs : Int} {ds : List Int} {mb : Nat} : (tripC posts wv hp hd hs ds mb).length = ds.length + 6 := by simp [tripC]

/-! ### The list of states -/
def scells (l : List (Int × Int)) : List V := l.flatMap fun q => [iv q.1, iv q.2]
theorem scells_len (l : List (Int × Int)) : (scells l).length = l.length * 2 := by
  induction l with
  | nil => rfl
  | cons q l ih => simp [scells] at ih ⊢; omega
theorem scells_snoc (l : List (Int × Int)) (a b : Int) : scells l ++ [iv a, iv b] = scells (l ++ [(a, b)]) := by simp [scells]
theorem todo_head {cs : List V} {o : Nat} {p s : Int} {l : List (Int × Int)} (h : takeAt cs o (((p, s) :: l).length * 2) = some (scells ((p, s) :: l))) : loadV E 106 cs (o + (0 : Int).toNat * 2) = some (.agg [iv p, iv s]) := by
  show (takeAt cs (o + (0 : Int).toNat * 2) 2).map V.agg = _
  rw [takeAt_eq] at h ⊢
  split at h
  · rename_i hl
    simp only [List.length_cons] at hl
    simp only [Option.some.injEq] at h
    rw [if_pos (by simp; omega)]
    have h2 := congrArg (List.take 2) h
    rw [List.take_take, List.length_cons, Nat.min_eq_left (by omega)] at h2
    simp only [Int.toNat_zero, Nat.zero_mul, Nat.add_zero, Option.map_some, h2]
    rfl
  · cases h
theorem todo_tail {cs : List V} {o : Nat} {q : Int × Int} {l : List (Int × Int)} (h : takeAt cs o ((q :: l).length * 2) = some (scells (q :: l))) : takeAt cs (o + 1 * 2) (l.length * 2) = some (scells l) := by
  rw [takeAt_eq] at h ⊢
  split at h
  · rename_i hl
    simp only [List.length_cons] at hl
    simp only [Option.some.injEq] at h
    rw [if_pos (by omega)]
    have h2 := congrArg (List.drop 2) h
    rw [List.drop_take, List.drop_drop, List.length_cons, show (l.length + 1) * 2 - 2 = l.length * 2 by omega] at h2
    rw [Nat.one_mul, h2]
    rfl
  · cases h
theorem set_below {ds : List Int} {n : Nat} {v : Int} (hds : ∀ i, i < n → ds[i]? = some v) (hn : n < ds.length) (i : Nat) (hi : i < n + 1) : (ds.set n v)[i]? = some v := by
  by_cases e : n = i
  · subst e; rw [List.getElem?_set_self hn]
  · rw [List.getElem?_set_ne e]; exact hds i (by omega)
structure St where
  (ds : List Int) (todo : List (Int × Int)) (tb o : Nat) (cs : List V) (cp : Option Nat) (es : List (V × V))
abbrev St.Ok (s : St) : Prop := takeAt s.cs s.o (s.todo.length * 2) = some (scells s.todo) ∧ (∀ c, s.cp = some c → c ≤ s.todo.length) ∧ KeysOk E 106 s.es
def St.mu (s : St) : Nat := (2 * s.ds.sum + s.todo.length).toNat
/-- The blocks of a trip at work. -/
abbrev tripL (posts : Int) (wv : V) (hp hd hs : Int) (b2 b3 b5 b8 b18 b20 : Nat) (s : St) : CL :=
  [(b8, .cells [.slice (some ⟨s.tb, s.o⟩) s.todo.length 2 s.cp] true), (s.tb, .cells s.cs true), (b20, .cells (tripC posts wv hp hd hs s.ds b18) true), (b18, .map s.es), (b5, .cells [.ptr (some ⟨b20, 0⟩)] true), (b3, .cells [iv hp, iv hd, iv hs] true), (b2, .cells [iv posts, wv] true)]

/-! ### Rows -/
def rowOf (ds : List Int) (p : Nat) : List Int := (ds.drop (p * 16)).take 16
theorem rowOf_len {ds : List Int} (hl : ds.length = 160) {p : Nat} (hp : p < 10) : (rowOf ds p).length = 16 := by simp [rowOf, hl]; omega
theorem rowOf_get {ds : List Int} {p s : Nat} (hs : s < 16) : (rowOf ds p)[s]? = ds[p * 16 + s]? := by
  unfold rowOf
  rw [List.getElem?_take_of_lt hs, List.getElem?_drop]
theorem trip_row {posts : Int} {wv : V} {hp hd hs : Int} {ds : List Int} {mb : Nat} (hl : ds.length = 160) {p : Nat} (hp' : p < 10) {o : Nat} (ho : o = 5 + p * 16) : takeAt (tripC posts wv hp hd hs ds mb) o 16 = some ((rowOf ds p).map iv) := by
  subst ho
  rw [takeAt_eq, if_pos (by rw [trip_len, hl]; omega)]
  congr 1
  apply List.ext_getElem?
  intro j
  by_cases hj : j < 16
  · rw [List.getElem?_take_of_lt hj, List.getElem?_drop, List.getElem?_map, rowOf_get hj]
    unfold tripC
    rw [List.getElem?_append_right (by simp; omega), List.getElem?_append_left (by simp [hl]; omega)]
    simp only [List.length_cons, List.length_nil, List.getElem?_map]
    rw [show 5 + p * 16 + j - (0 + 1 + 1 + 1 + 1 + 1) = p * 16 + j by omega]
  · rw [List.getElem?_eq_none (by simp; omega), List.getElem?_eq_none (by simp [rowOf_len hl hp']; omega)]
theorem iv_atoms (l : List Int) : (l.map iv).all V.atom = true := by simp [V.atom]
theorem row_at {ds : List Int} (hl : ds.length = 160) {p : Int} (hp : 0 ≤ p ∧ p < 10) {k : Nat} (hk : k < 16) : (rowOf ds p.toNat)[k]? = some (dget ds p k) := by
  rw [rowOf_get hk]
  unfold dget ix
  rw [List.getD_eq_getElem?_getD, Int.toNat_natCast, List.getElem?_eq_getElem (by omega)]
  rfl
theorem row_index {ds : List Int} (hl : ds.length = 160) {p : Int} (hp : 0 ≤ p ∧ p < 10) {k : Nat} (hk : k < 16) : indexA E 71 (.agg ((rowOf ds p.toNat).map iv)) (.int .i64 (k : Int)) = some (iv (dget ds p k)) := by
  have hu : E.und 71 = some (.array 16 3) := rfl
  have hz : E.size 3 = some 1 := rfl
  have ha : E.isAgg 3 = some false := rfl
  unfold indexA
  simp only [hu, hz, idxF_of (i := (k : Int)) (m := 16) ⟨by omega, by omega⟩, partA, ha, nthL_eq]
  simp [row_at hl hp hk]
/-- A calendar's rows. -/
def calV (cal : List (Nat × List Int)) : List V := cal.map fun c => .slice (some ⟨c.1, 0⟩) 16 1 none
def calL (cal : List (Nat × List Int)) : CL := cal.reverse.map fun c => (c.1, .cells (c.2.map iv) true)
theorem calV_len (cal : List (Nat × List Int)) : (calV cal).length = cal.length := by simp [calV]
theorem calV_snoc (cal : List (Nat × List Int)) (b : Nat) (r : List Int) : calV cal ++ [.slice (some ⟨b, 0⟩) 16 1 none] = calV (cal ++ [(b, r)]) := by simp [calV]
theorem calL_snoc (cal : List (Nat × List Int)) (b : Nat) (r : List Int) : calL (cal ++ [(b, r)]) = (b, .cells (r.map iv) true) :: calL cal := by simp [calL]
def RowOk (r : List Int) : Prop := r.length = 16 ∧ ∀ x ∈ r, 0 ≤ x ∧ x ≤ 1001
theorem rowOf_ok {ds : List Int} (hl : ds.length = 160) (hr : ∀ (i : Nat) x, ds[i]? = some x → 0 ≤ x ∧ x ≤ 1001) {p : Nat} (hp : p < 10) : RowOk (rowOf ds p) := by
  refine ⟨rowOf_len hl hp, fun x hx => ?_⟩
  obtain ⟨i, hi⟩ := List.mem_iff_getElem?.1 hx
  have : i < 16 := by rw [← rowOf_len hl hp]; exact (List.getElem?_eq_some_iff.1 hi).1
  rw [rowOf_get this] at hi
  exact hr _ _ hi
/-- The earliest day at a post. -/
def DayAt (ds : List Int) (p x : Int) : Prop := ∃ s, (0 ≤ s ∧ s < 16) ∧ (∀ s', 0 ≤ s' ∧ s' < 16 → dget ds p s ≤ dget ds p s') ∧ x = if dget ds p s ≤ 1000 then dget ds p s else -1
end
end Go.Proofs.Ytgkmdkhhaapolaa
