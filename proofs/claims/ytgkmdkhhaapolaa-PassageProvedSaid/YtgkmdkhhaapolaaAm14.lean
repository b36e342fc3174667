/-
  THE ABSTRACT MACHINE, 14: a step that is made with a part of the map alone; operations that look at their operands only.
-/
import Derived.Test.YtgkmdkhhaapolaaAm13
namespace Go.Am
noncomputable section
open Classical

/-- A part of a map. -/
def Mp.only (ι : Mp) (V : Nat → Prop) : Mp := fun b => if V b then ι b else .abs
/-- One map, where it is defined; another one elsewhere. -/
def Mp.join (ι ι₁ : Mp) : Mp := fun b => if ι₁ b = .abs then ι b else ι₁ b

theorem Mp.only_in {ι : Mp} {V : Nat → Prop} {b : Nat} (h : V b) : ι.only V b = ι b := if_pos h
theorem Mp.only_ne {ι : Mp} {V : Nat → Prop} {b : Nat} (h : ι.only V b ≠ .abs) : V b ∧ ι.only V b = ι b := by
  unfold Mp.only at h ⊢
  by_cases hv : V b
  · exact ⟨hv, if_pos hv⟩
  · rw [if_neg hv] at h; exact absurd rfl h

/-- A step with a part of the map (all of it, or nothing), seen from the whole map and from the start of the row. -/
theorem Post.step {ι0 ι ι₁ : Mp} {H0 C C' Hp Hq : Heap} {w0 w w' : World} {V : Nat → Prop} (hp0 : Post ι0 H0 w0 ι C w) (hp : Post (ι.only V) Hp w ι₁ Hq w') (hV : (∀ b, V b) ∨ ∀ b, ¬ V b)
    (hfresh : ∀ b, Hp.size ≤ b → b < Hq.size → ι b = .abs) (h0 : H0.size ≤ Hp.size) (hs : C'.size = C.size) (hle : Hq.size ≤ C.size)
    (hc1 : ∀ b, ι₁ b ≠ .abs → C'.get b = Hq.get b) (hc2 : ∀ b, ι₁ b = .abs → ι b ≠ .abs → C'.get b = C.get b) (hvis : ∀ b, V b → ι b ≠ .abs → Hp.get b = C.get b) :
    Post ι0 H0 w0 (ι.join ι₁) C' w' ∧ Ge ι (ι.join ι₁) ∧ Ge ι₁ (ι.join ι₁) := by
  have hge1 : Ge ι₁ (ι.join ι₁) := fun b => by
    by_cases h : ι₁ b = .abs
    · exact .inl h
    · exact .inr (.inl (if_neg h))
  have hge : Ge ι (ι.join ι₁) := fun b => by
    by_cases h : ι₁ b = .abs
    · exact .inr (.inl (if_pos h))
    · have hj : ι.join ι₁ b = ι₁ b := if_neg h
      rw [hj]
      by_cases hv : V b
      · have := hp.ge b
        rwa [Mp.only_in hv] at this
      · have habs : ι.only V b = .abs := if_neg hv
        have h1 := hp.new b habs h
        have h2 : b < Hq.size := by
          apply Classical.byContradiction
          intro hc
          exact h (hp.rel.dom b (by omega))
        exact .inl (hfresh b h1 h2)
  have himg : ∀ b rb ro n, ι.only V b = .at rb ro n → ι b = .at rb ro n := fun b rb ro n hb => by
    have hne : ι.only V b ≠ .abs := by rw [hb]; simp
    rw [← (Mp.only_ne hne).2]; exact hb
  have hall : ∀ b, ι₁ b = .abs → ι b ≠ .abs → ∀ b, ¬ V b := fun b h1 h2 => by
    rcases hV with hV | hV
    · rcases hp.ge b with e | e | ⟨e, _⟩
      · rw [Mp.only_in (hV b)] at e; exact absurd e h2
      · rw [Mp.only_in (hV b), h1] at e; exact absurd e.symm h2
      · rw [h1] at e; cases e
    · exact hV
  have hold : ∀ b, ι₁ b = .abs → ι b ≠ .abs → ∀ rb, rb < w.heap.size → w'.heap[rb]? = w.heap[rb]? := fun b h1 h2 rb hr =>
    hp.fr.2 rb hr fun b' rb' ro n hb' => by
      have : ι.only V b' = .abs := if_neg (hall b h1 h2 b')
      rw [this] at hb'; cases hb'
  refine ⟨⟨hp0.ge.trans hge, ⟨fun b hb => ?_, fun b rb ro n hb => ?_, fun b hb => ?_, fun b b' rb ro n ro' n' hb hb' => ?_⟩, ⟨Nat.le_trans hp0.fr.1 hp.fr.1, fun r hr hn => ?_⟩, fun b rb ro n hb => ?_, fun b hb hb' => ?_, by rw [hs]; exact hp0.size, fun b rb ro n q1 q2 => ?_, ⟨hp.out.1.trans hp0.out.1, hp.out.2.trans hp0.out.2⟩⟩, hge, hge1⟩
  · rw [hs] at hb
    have h1 : ι₁ b = .abs := hp.rel.dom b (by omega)
    show (if ι₁ b = .abs then ι b else ι₁ b) = _
    rw [if_pos h1]
    exact hp0.rel.dom b hb
  · by_cases h : ι₁ b = .abs
    · have hj : ι.join ι₁ b = ι b := if_pos h
      rw [hj] at hb
      have hne : ι b ≠ .abs := by rw [hb]; simp
      obtain ⟨o, o', g1, g2, g3⟩ := hp0.rel.live b rb ro n hb
      exact ⟨o, o', by rw [hc2 b h hne]; exact g1, by rw [hold b h hne rb (hp0.rel.lt hb)]; exact g2, g3.mono hge⟩
    · have hj : ι.join ι₁ b = ι₁ b := if_neg h
      rw [hj] at hb
      obtain ⟨o, o', g1, g2, g3⟩ := hp.rel.live b rb ro n hb
      exact ⟨o, o', by rw [hc1 b h]; exact g1, g2, g3.mono hge1⟩
  · by_cases h : ι₁ b = .abs
    · have hj : ι.join ι₁ b = ι b := if_pos h
      rw [hj] at hb
      have hne : ι b ≠ .abs := by rw [hb]; simp
      rw [hc2 b h hne]; exact hp0.rel.dead b hb
    · have hj : ι.join ι₁ b = ι₁ b := if_neg h
      rw [hj] at hb
      rw [hc1 b h]; exact hp.rel.dead b hb
  · have key : ∀ b b' ro n ro' n', ι₁ b = .abs → ι b = .at rb ro n → ι₁ b' = .at rb ro' n' → False := by
      intro b b' ro n ro' n' h h1 h2
      have hne : ι b ≠ .abs := by rw [h1]; simp
      rcases hp.img b' rb ro' n' h2 with ⟨b'', q, m, hb''⟩ | hge'
      · have : ι.only V b'' = .abs := if_neg (hall b h hne b'')
        rw [this] at hb''; cases hb''
      · have := hp0.rel.lt h1
        omega
    by_cases h : ι₁ b = .abs
    · have hj : ι.join ι₁ b = ι b := if_pos h
      rw [hj] at hb
      by_cases h' : ι₁ b' = .abs
      · have hj' : ι.join ι₁ b' = ι b' := if_pos h'
        rw [hj'] at hb'
        rw [hc2 b h (by rw [hb]; simp), hc2 b' h' (by rw [hb']; simp)]
        exact hp0.rel.inj b b' rb ro n ro' n' hb hb'
      · have hj' : ι.join ι₁ b' = ι₁ b' := if_neg h'
        rw [hj'] at hb'
        exact (key b b' ro n ro' n' h hb hb').elim
    · have hj : ι.join ι₁ b = ι₁ b := if_neg h
      rw [hj] at hb
      by_cases h' : ι₁ b' = .abs
      · have hj' : ι.join ι₁ b' = ι b' := if_pos h'
        rw [hj'] at hb'
        exact (key b' b ro' n' ro n h' hb' hb).elim
      · have hj' : ι.join ι₁ b' = ι₁ b' := if_neg h'
        rw [hj'] at hb'
        rw [hc1 b h, hc1 b' h']
        exact hp.rel.inj b b' rb ro n ro' n' hb hb'
  · rw [hp.fr.2 r (Nat.lt_of_lt_of_le hr hp0.fr.1) fun b rb ro n hb => ?_, hp0.fr.2 r hr hn]
    rcases hp0.img b rb ro n (himg b rb ro n hb) with ⟨b', ro', n', hb'⟩ | hge'
    · exact hn b' rb ro' n' hb'
    · omega
  · by_cases h : ι₁ b = .abs
    · have hj : ι.join ι₁ b = ι b := if_pos h
      rw [hj] at hb
      exact hp0.img b rb ro n hb
    · have hj : ι.join ι₁ b = ι₁ b := if_neg h
      rw [hj] at hb
      rcases hp.img b rb ro n hb with ⟨b', q, m, hb'⟩ | hge'
      · exact hp0.img b' rb q m (himg _ _ _ _ hb')
      · exact .inr (Nat.le_trans hp0.fr.1 hge')
  · by_cases e : ι b = .abs
    · by_cases h : ι₁ b = .abs
      · have hj : ι.join ι₁ b = ι b := if_pos h
        rw [hj] at hb'
        exact absurd e hb'
      · have habs : ι.only V b = .abs := by
          apply Classical.byContradiction
          intro hne
          rw [(Mp.only_ne hne).2] at hne
          exact hne e
        exact Nat.le_trans h0 (hp.new b habs h)
    · exact hp0.new b hb e
  · obtain ⟨a1, a2, a3⟩ := hp0.stay b rb ro n q1 q2
    have hne : ι b ≠ .abs := by rw [a1]; simp
    by_cases h : ι₁ b = .abs
    · exact ⟨(if_pos h).trans a1, by rw [hc2 b h hne]; exact a2, (hold b h hne rb (hp0.rel.lt a1)).trans a3⟩
    · have hv : V b := by
        apply Classical.byContradiction
        intro hv
        have habs : ι.only V b = .abs := if_neg hv
        have h1 := hp.new b habs h
        have h2 : b < Hq.size := by
          apply Classical.byContradiction
          intro hc
          exact h (hp.rel.dom b (by omega))
        exact hne (hfresh b h1 h2)
      obtain ⟨c1, c2, c3⟩ := hp.stay b rb ro n ((Mp.only_in hv).trans a1) (by rw [hvis b hv hne]; exact a2)
      exact ⟨(if_neg h).trans c1, by rw [hc1 b h]; exact c2, c3.trans a3⟩

theorem Mp.only_all (ι : Mp) : ι.only (fun _ => True) = ι := funext fun _ => if_pos trivial

/-- The empty map stands for nothing of the heap. -/
theorem Rel.none (ι : Mp) (H : Heap) (w : World) : Rel (ι.only fun _ => False) H w where
  dom := fun _ _ => if_neg not_false
  live := fun b rb ro n h => by have : ι.only (fun _ => False) b = .abs := if_neg not_false; rw [this] at h; cases h
  dead := fun b h => by have : ι.only (fun _ => False) b = .abs := if_neg not_false; rw [this] at h; cases h
  inj := fun b _ _ _ _ _ _ h _ => by have : ι.only (fun _ => False) b = .abs := if_neg not_false; rw [this] at h; cases h

/-- Heaps that are alike where the map is defined. -/
theorem Rel.congr {ι : Mp} {C H : Heap} {w : World} (hr : Rel ι C w) (hd : ∀ b, H.size ≤ b → ι b = .abs) (h : ∀ b, ι b ≠ .abs → H.get b = C.get b) : Rel ι H w where
  dom := hd
  live := fun b rb ro n hb => by
    obtain ⟨o, o', h1, h2, h3⟩ := hr.live b rb ro n hb
    exact ⟨o, o', by rw [h b (by rw [hb]; simp)]; exact h1, h2, h3⟩
  dead := fun b hb => by rw [h b (by rw [hb]; simp)]; exact hr.dead b hb
  inj := fun b b' rb ro n ro' n' hb hb' => by
    rw [h b (by rw [hb]; simp), h b' (by rw [hb']; simp)]
    exact hr.inj b b' rb ro n ro' n' hb hb'

theorem Post.congr {ι0 ι : Mp} {H0 C H : Heap} {w0 w : World} (hp : Post ι0 H0 w0 ι C w) (hs : H0.size ≤ H.size) (hd : ∀ b, H.size ≤ b → ι b = .abs) (h : ∀ b, ι b ≠ .abs → H.get b = C.get b) : Post ι0 H0 w0 ι H w :=
  ⟨hp.ge, hp.rel.congr hd h, hp.fr, hp.img, hp.new, hs, fun b rb ro n q1 q2 => by
    obtain ⟨a1, a2, a3⟩ := hp.stay b rb ro n q1 q2
    exact ⟨a1, by rw [h b (by rw [a1]; simp)]; exact a2, a3⟩, hp.out⟩

/-! ### Operations look at their operands alone -/
theorem opA_congr {E : Env} {H : Heap} {ev ev' : Operand → V} {op : Op} (h : ∀ x ∈ op.operands.toList, ev x = ev' x) : opA E H ev op = opA E H ev' op := by
  have hmap : ∀ (l : List Operand), (∀ x ∈ l, ev x = ev' x) → l.map ev = l.map ev' := fun l hl => List.map_congr_left hl
  cases op <;> simp only [opA, opT] <;> simp only [Op.operands, List.mem_cons, List.not_mem_nil, or_false, forall_eq_or_imp, forall_eq] at h <;> try (simp only [h]; done)
  case build ps =>
    rw [show (ps.toList.map fun p => (p.1, ev p.2)) = ps.toList.map fun p => (p.1, ev' p.2) from List.map_congr_left fun p hp => by rw [h p.2 (List.mem_map.2 ⟨p, hp, rfl⟩)]]
  case buildSlice ps =>
    rw [show (ps.toList.map fun p => (p.1, ev p.2)) = ps.toList.map fun p => (p.1, ev' p.2) from List.map_congr_left fun p hp => by rw [h p.2 (List.mem_map.2 ⟨p, hp, rfl⟩)]]
  case makeFunc fn first cap =>
    simp only [Array.toList_append, List.mem_append] at h
    unfold opFunc
    rw [hmap first.toList fun x hx => h x (.inl hx), hmap cap.toList fun x hx => h x (.inr hx)]
  case slice t x lo hi mx =>
    have ho : ∀ (l : Option Operand), (∀ y, l = some y → ev y = ev' y) → l.map ev = l.map ev' := fun l hl => by cases l with
      | none => rfl
      | some y => simp [hl y rfl]
    rw [h x (by simp), ho lo fun y hy => h y (by simp [hy]), ho hi fun y hy => h y (by simp [hy]), ho mx fun y hy => h y (by simp [hy])]
  case call c =>
    unfold opCall
    have ha : c.args.toList.map ev = c.args.toList.map ev' := hmap _ fun x hx => h x (by simp [Call.operands]; first | exact .inl (by simpa using hx) | exact .inr (by simpa using hx))
    rw [ha]
    cases hc : c.callee with
    | value g => simp only; rw [h g (by simp [Call.operands, hc])]
    | builtin b => rfl
    | invoke a b => rfl

end
end Go.Am
