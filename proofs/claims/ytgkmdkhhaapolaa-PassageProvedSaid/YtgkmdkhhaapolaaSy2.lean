/-
  THE SYMBOLIC LAYER, 2: rows of operations, in the order of the text and in a drawn order.
-/
import Derived.Test.YtgkmdkhhaapolaaSy1
namespace Go.Am
noncomputable section
open Classical

/-- What an operation does beside those whose order is open: it reads some blocks; it makes a block out of values in which no block stands; it may do anything to some blocks (others are known ahead of it). -/
inductive Cw where
  | rd (rs : List Nat)
  | al (b : Nat)
  | fu (ws kn : List Nat)

structure SeenS where
  i : Nat
  cl : Cw

section rows
variable {P : Program} {E : Env} {ops : Array Oper}

def CwOk (E : Env) (ops : Array Oper) (o : Oper) (l : List V) (H : Heap) (v : V) (H' : Heap) : Cw → Prop
  | .rd rs => H' = H ∧ (∀ r ∈ rs, r < H.size) ∧ ((wantA ops l o = some false ∧ v = .undef) ∨ (wantA ops l o = some true ∧ ∀ C : Heap, (∀ r ∈ rs, C.get r = H.get r) → opA E C (evA l) o.op = some (.val v C)))
  | .al b => (∀ t ∈ o.looksAt ops, NoId (l.getD t .undef)) ∧ b = H.size ∧ H'.size = H.size + 1 ∧ ∀ c, c < H.size → H'.get c = H.get c
  | .fu ws kn => (∀ r ∈ kn, r < H.size) ∧ ∀ c, c < H.size → c ∉ ws → H'.get c = H.get c

/-- x is later than y. -/
def PairW (x y : Cw) : Prop :=
  match x, y with
  | .rd _, .rd _ => True
  | .al _, .al _ => True
  | .al _, .rd _ => True
  | .rd rs, .al b => b ∉ rs
  | .rd rs, .fu ws kn => ∀ r ∈ rs, r ∈ kn ∧ r ∉ ws
  | .fu ws _, .rd rs => ∀ r ∈ rs, r ∉ ws
  | .fu ws _, .al b => b ∉ ws
  | _, _ => False
def PairS (ancs : List Nat) (x y : SeenS) : Prop := cmpB ancs x.i y.i = true ∨ PairW x.cl y.cl
def PairsS (ancs : List Nat) (x : SeenS) : List SeenS → Prop
  | [] => True
  | y :: ys => PairS ancs x y ∧ PairsS ancs x ys
theorem PairsS.of {ancs : List Nat} {x : SeenS} : ∀ {ys : List SeenS}, PairsS ancs x ys → ∀ y ∈ ys, PairS ancs x y
  | [], _, y, hy => by cases hy
  | z :: ys, h, y, hy => by
    rcases List.mem_cons.1 hy with rfl | hy
    · exact h.1
    · exact PairsS.of h.2 y hy

structure TrS (P : Program) (E : Env) (ops : Array Oper) (n : Nat) (ancs : List Nat) (todo : List Nat) (seen : List SeenS) (F : Nat → List V) (G : Nat → Heap) (W : Nat → V) (C : Nat → Cw) : Prop where
  step : ∀ p i, todo[p]? = some i → ∃ o, ops[i]? = some o ∧ OpV P E ops o (F p) (G p) (W p) (G (p + 1)) ∧ F (p + 1) = putA (F p) o.dst (W p) ∧ (G p).size ≤ (G (p + 1)).size ∧ CwOk E ops o (F p) (G p) (W p) (G (p + 1)) (C p)
  old : ∀ p i, todo[p]? = some i → ∀ y ∈ seen, PairS ancs ⟨i, C p⟩ y
  two : ∀ p q i j, todo[p]? = some i → todo[q]? = some j → q < p → PairS ancs ⟨i, C p⟩ ⟨j, C q⟩

variable {n : Nat} {ancs ord : List Nat} {F : Nat → List V} {G : Nat → Heap} {W : Nat → V} {C : Nat → Cw}

theorem TrS.row (hP : PlanOk ops ancs ord) (hT : TrS P E ops n ancs ord [] F G W C) : Row P E ops F G (fun i => W (idxOf ord i)) (idxOf ord) (fun p => ord.getD p 0) where
  posLt := fun i hi => (hP.of i hi).2
  ordLt := fun p hp => by
    obtain ⟨i, h1, h2, _⟩ := hP.at' p hp
    rw [List.getD_eq_getElem?_getD, h1]; exact h2
  posOrd := fun p hp => by
    obtain ⟨i, h1, _, h3⟩ := hP.at' p hp
    rw [List.getD_eq_getElem?_getD, h1]; exact h3
  ordPos := fun i hi => by rw [List.getD_eq_getElem?_getD, (hP.of i hi).1]; rfl
  edge := hP.edge
  step := fun i o ho => by
    have hlt := (Array.getElem?_eq_some_iff.1 ho).1
    obtain ⟨o', h1, h4, h5, h6, _⟩ := hT.step _ i (hP.of i hlt).1
    rw [ho] at h1; cases h1
    exact ⟨h4, h5⟩
  size := fun i hi => by
    obtain ⟨o', h1, h4, h5, h6, _⟩ := hT.step _ i (hP.of i hi).1
    exact h6
  dsts := fun i k o o' t h1 h2 h3 h4 h5 => hP.meet i k o o' t h1 h2 h3 (.inl h4) h5
  looks := fun i k o o' t h1 h2 h3 h4 h5 => hP.meet i k o o' t h1 h2 h3 (.inr h4) h5

theorem TrS.cls (hP : PlanOk ops ancs ord) (hT : TrS P E ops n ancs ord [] F G W C) (i : Nat) (o : Oper) (ho : ops[i]? = some o) : Cls E ops F G (fun i => W (idxOf ord i)) (idxOf ord) i o := by
  have hlt := (Array.getElem?_eq_some_iff.1 ho).1
  have hR := hT.row hP
  obtain ⟨o', h1, h4, h5, h6, hcw⟩ := hT.step _ i (hP.of i hlt).1
  rw [ho] at h1; cases h1
  have cmp : ∀ {a b : Nat}, cmpB ancs a b = true → Bef ops a b ∨ Bef ops b a := fun h => by rw [hP.ancs] at h; exact cmpB_ok h
  have okOf : ∀ k, k < ops.size → ∃ o, CwOk E ops o (F (idxOf ord k)) (G (idxOf ord k)) (W (idxOf ord k)) (G (idxOf ord k + 1)) (C (idxOf ord k)) := fun k hk => by
    obtain ⟨o1, g1, g2, g3, g4, g5⟩ := hT.step _ k (hP.of k hk).1
    exact ⟨o1, g5⟩
  have quiet : ∀ k, k < ops.size → ∀ rs, C (idxOf ord k) = .rd rs → ∀ b, ¬ Chg G (idxOf ord) k b := fun k hk rs hc b => by
    obtain ⟨o1, g⟩ := okOf k hk
    rw [hc] at g
    exact Cls.quiet (o := o1) rs g.1 b
  have fresh : ∀ k, k < ops.size → ∀ c, C (idxOf ord k) = .al c → ∀ b, Chg G (idxOf ord) k b → b = c ∧ c = (G (idxOf ord k)).size := fun k hk c hc b hb => by
    obtain ⟨o1, g⟩ := okOf k hk
    rw [hc] at g
    obtain ⟨_, g1, g2, g3⟩ := g
    obtain ⟨b1, b2⟩ := hb
    rcases b2 with h | h
    · exact ⟨by omega, g1⟩
    · by_cases hlt : b < (G (idxOf ord k)).size
      · exact absurd (g3 b hlt) h
      · exact ⟨by omega, g1⟩
  have pairs : ∀ k, k < ops.size → k ≠ i → (idxOf ord k < idxOf ord i ∧ PairS ancs ⟨i, C (idxOf ord i)⟩ ⟨k, C (idxOf ord k)⟩) ∨ (idxOf ord i < idxOf ord k ∧ PairS ancs ⟨k, C (idxOf ord k)⟩ ⟨i, C (idxOf ord i)⟩) := fun k hk hne => by
    have e1 := (hP.of k hk).1
    have e2 := (hP.of i hlt).1
    rcases Nat.lt_trichotomy (idxOf ord k) (idxOf ord i) with h | h | h
    · exact .inl ⟨h, hT.two _ _ _ _ e2 e1 h⟩
    · rw [h, e2] at e1; cases e1; exact absurd rfl hne
    · exact .inr ⟨h, hT.two _ _ _ _ e1 e2 h⟩
  cases hc : C (idxOf ord i) with
  | rd rs =>
    rw [hc] at hcw
    obtain ⟨g1, g2, g3⟩ := hcw
    refine .reads rs g1 g3 fun r hr => ⟨g2 r hr, fun k hk hne hck => ?_⟩
    cases hck' : C (idxOf ord k) with
    | rd rs' => exact absurd hck (quiet k hk rs' hck' r)
    | al c =>
      obtain ⟨e1, e2⟩ := fresh k hk c hck' r hck
      rcases pairs k hk hne with ⟨_, h⟩ | ⟨hlt', h⟩
      · rw [hc, hck'] at h
        rcases h with h | h
        · exact (cmp h).symm
        · exact absurd (e1 ▸ hr) h
      · have := hR.sizes (idxOf ord k) (idxOf ord i) (by omega) (Nat.le_of_lt (hP.of k hk).2)
        have := g2 r hr
        omega
    | fu ws kn =>
      obtain ⟨o1, g⟩ := okOf k hk
      rw [hck'] at g
      obtain ⟨k1, k2⟩ := g
      have bad : r ∉ ws → r < (G (idxOf ord k)).size → False := fun hw hl => by
        rcases hck.2 with h | h
        · omega
        · exact h (k2 r hl hw)
      rcases pairs k hk hne with ⟨_, h⟩ | ⟨hlt', h⟩
      · rw [hc, hck'] at h
        rcases h with h | h
        · exact (cmp h).symm
        · exact (bad (h r hr).2 (k1 r (h r hr).1)).elim
      · rw [hc, hck'] at h
        rcases h with h | h
        · exact cmp h
        · have := hR.sizes (idxOf ord k) (idxOf ord i) (by omega) (Nat.le_of_lt (hP.of k hk).2)
          have := g2 r hr
          exact (bad (h r hr) (by omega)).elim
  | al b =>
    rw [hc] at hcw
    exact .alone hcw.1 hcw.2.2.2
  | fu ws kn =>
    rw [hc] at hcw
    refine .full fun k hk hne => ?_
    cases hck' : C (idxOf ord k) with
    | rd rs' => exact .inl (quiet k hk rs' hck')
    | al c =>
      rcases pairs k hk hne with ⟨hlt', h⟩ | ⟨_, h⟩
      · rw [hc, hck'] at h
        rcases h with h | h
        · rcases cmp h with h | h
          · exact .inr (.inr (.inl h))
          · exact .inr (.inl h)
        · refine .inr (.inr (.inr ⟨hlt', fun b hb => ?_⟩))
          obtain ⟨e1, e2⟩ := fresh k hk c hck' b hb
          refine ⟨by omega, fun hci => ?_⟩
          have hsz := hR.sizes (idxOf ord i) (idxOf ord k + 1) (by omega) (Nat.le_of_lt (hP.of i hlt).2)
          have hb1 := hb.1
          rcases hci.2 with h' | h'
          · omega
          · exact h' (hcw.2 b (by omega) (e1 ▸ h))
      · rw [hc, hck'] at h
        rcases h with h | h
        · rcases cmp h with h | h
          · exact .inr (.inl h)
          · exact .inr (.inr (.inl h))
        · exact h.elim
    | fu ws' kn' =>
      rcases pairs k hk hne with ⟨_, h⟩ | ⟨_, h⟩
      · rw [hc, hck'] at h
        rcases h with h | h
        · rcases cmp h with h | h
          · exact .inr (.inr (.inl h))
          · exact .inr (.inl h)
        · exact h.elim
      · rw [hc, hck'] at h
        rcases h with h | h
        · rcases cmp h with h | h
          · exact .inr (.inl h)
          · exact .inr (.inr (.inl h))
        · exact h.elim

theorem TrS.cons {i : Nat} {is : List Nat} {seen : List SeenS} {o : Oper} {l : List V} {H : Heap} {v : V} {c : Cw} (ho : ops[i]? = some o)
    (hV : OpV P E ops o l H v (G 0)) (hF : F 0 = putA l o.dst v) (hs : H.size ≤ (G 0).size) (hc : CwOk E ops o l H v (G 0) c) (hnew : ∀ y ∈ seen, PairS ancs ⟨i, c⟩ y)
    (hT : TrS P E ops n ancs is (⟨i, c⟩ :: seen) F G W C) :
    TrS P E ops n ancs (i :: is) seen (fun p => Nat.casesOn p l F) (fun p => Nat.casesOn p H G) (fun p => Nat.casesOn p v W) (fun p => Nat.casesOn p c C) where
  step := fun p j hj => by
    cases p with
    | zero => simp at hj; subst hj; exact ⟨o, ho, hV, hF, hs, hc⟩
    | succ p => exact hT.step p j (by simpa using hj)
  old := fun p j hj y hy => by
    cases p with
    | zero => simp at hj; subst hj; exact hnew y hy
    | succ p => exact hT.old p j (by simpa using hj) y (List.mem_cons_of_mem _ hy)
  two := fun p q j k hj hk hlt => by
    cases p with
    | zero => omega
    | succ p =>
      cases q with
      | zero => simp at hk; subst hk; exact hT.old p j (by simpa using hj) _ List.mem_cons_self
      | succ q => exact hT.two p q j k (by simpa using hj) (by simpa using hk) (by omega)
end rows

section steps
variable (P : Program) (E : Env) (R : Option Nat) (n : Nat) (M : CL) (ops : Array Oper)

/-- One operation. -/
def OX (o : Oper) (F : FA) (L : CL) (K : Cw → FA → CL → Prop) : Prop :=
  ∀ H f, Good L M H → FOk n F f → ROk R L H → ∃ v H' F' L' c, OpV P E ops o f H v H' ∧ FOk n F' (putA f o.dst v) ∧ To L M H L' H' ∧ CwOk E ops o f H v H' c ∧ K c F' L'

/-- The operations of a drawn order. -/
def WD (ancs todo : List Nat) (seen : List SeenS) (ks : List KI) (F : FA) (L : CL) (Q : Post3) : Prop :=
  ∀ H f, Good L M H → FOk n F f → ROk R L H → ∃ (F₁ : Nat → List V) (G : Nat → Heap) (W : Nat → V) (C : Nat → Cw) (F' : FA) (L' : CL), F₁ 0 = f ∧ G 0 = H ∧ TrS P E ops n ancs todo seen F₁ G W C ∧
    FOk n F' (F₁ todo.length) ∧ To L M H L' (G todo.length) ∧ KQ P R n M Q ks .normal F' L'
end steps

section rules
variable {P : Program} {E : Env} {R : Option Nat} {n : Nat} {M : CL} {F F' : FA} {L L' : CL} {Q : Post3} {ks : List KI} {ops : Array Oper} {os : List Oper} {o : Oper}

theorem WO.nil (h : KQ P R n M Q ks .normal F L) : WO P E R n M ops [] ks F L Q := fun H f hg hf _ => ⟨f, H, F, L, .nil, hf, .refl hg, h⟩
theorem WO.cons (h : OX P E R n M ops o F L fun _ F' L' => WO P E R n M ops os ks F' L' Q) : WO P E R n M ops (o :: os) ks F L Q := fun H f hg hf hr => by
  obtain ⟨v, H₁, F₁, L₁, _, h1, h2, h3, _, h4⟩ := h H f hg hf hr
  obtain ⟨f', H', F', L', g1, g2, g3, g4⟩ := h4 H₁ _ h3.good h2 (hr.to h3)
  exact ⟨f', H', F', L', .cons h1.toS g1, g2, h3.trans g3, g4⟩

theorem WD.nil {ancs : List Nat} {seen : List SeenS} (h : KQ P R n M Q ks .normal F L) : WD P E R n M ops ancs [] seen ks F L Q := fun H f hg hf _ =>
  ⟨fun _ => f, fun _ => H, fun _ => .undef, fun _ => .fu [] [], F, L, rfl, rfl, ⟨fun p i h => by simp at h, fun p i h => by simp at h, fun p q i j h => by simp at h⟩, hf, .refl hg, h⟩
theorem WD.cons {ancs is : List Nat} {seen : List SeenS} {i : Nat} (ho : ops[i]? = some o)
    (h : OX P E R n M ops o F L fun c F' L' => PairsS ancs ⟨i, c⟩ seen ∧ WD P E R n M ops ancs is (⟨i, c⟩ :: seen) ks F' L' Q) : WD P E R n M ops ancs (i :: is) seen ks F L Q := fun H f hg hf hr => by
  obtain ⟨v, H₁, F₁, L₁, c, h1, h2, h3, hc, hp, h4⟩ := h H f hg hf hr
  obtain ⟨F₂, G, W, C, F', L', g1, g2, g3, g4, g5, g6⟩ := h4 H₁ _ h3.good h2 (hr.to h3)
  subst g2
  exact ⟨_, _, _, _, F', L', rfl, rfl, TrS.cons ho h1 g1 h3.size hc hp.of g3, g4, h3.trans g5, g6⟩

theorem WS.draw (hE : EnvOk E P) {id : Nat} {ancs ord : List Nat} (hp : planOf ops = some (ancs, ord)) (h : WD P E R n M ops ancs ord [] ks F L Q) : WS P R n M (.region id ops true) ks F L Q := fun H f hg hf hr => by
  obtain ⟨F₁, G, W, C, F', L', h1, h2, h3, h4, h5, h6⟩ := h H f hg hf hr
  have hP := planOf_ok hp
  have := AX.region_draw hE (R := R) (id := id) (h3.row hP) (h3.cls hP)
  rw [h1, h2, ← hP.len] at this
  exact ⟨_, _, _, F', L', this, h4, h5, h6⟩

/-! What is known of the blocks' numbers -/
theorem TX.nd {c : Code} (h : (ids L).Nodup → (∀ p ∈ M, p.1 ∉ ids L) → TX P R n M c F L Q) : TX P R n M c F L Q := fun H f hg hf hr => h hg.nd (fun p hp => (hg.red p.1 p.2 hp).2.2) H f hg hf hr
theorem WS.nd {c : Code} (h : (ids L).Nodup → (∀ p ∈ M, p.1 ∉ ids L) → WS P R n M c ks F L Q) : WS P R n M c ks F L Q := TX.nd h
theorem WO.nd (h : (ids L).Nodup → (∀ p ∈ M, p.1 ∉ ids L) → WO P E R n M ops os ks F L Q) : WO P E R n M ops os ks F L Q := fun H f hg hf hr => h hg.nd (fun p hp => (hg.red p.1 p.2 hp).2.2) H f hg hf hr
theorem WD.nd {ancs todo : List Nat} {seen : List SeenS} (h : (ids L).Nodup → (∀ p ∈ M, p.1 ∉ ids L) → WD P E R n M ops ancs todo seen ks F L Q) : WD P E R n M ops ancs todo seen ks F L Q := fun H f hg hf hr => h hg.nd (fun p hp => (hg.red p.1 p.2 hp).2.2) H f hg hf hr

/-! A slot whose truth is asked -/
theorem WO.ask {t : Nat} {b : Bool} (ht : look F t = some (.bool b)) (h1 : b = true → WO P E R n M ops os ks ((t, .bool true) :: F) L Q) (h2 : b = false → WO P E R n M ops os ks ((t, .bool false) :: F) L Q) : WO P E R n M ops os ks F L Q := by
  intro H f hg hf hr
  cases b with
  | true => exact h1 rfl H f hg (hf.same (hf.2 t _ ht)) hr
  | false => exact h2 rfl H f hg (hf.same (hf.2 t _ ht)) hr
theorem WD.ask {ancs todo : List Nat} {seen : List SeenS} {t : Nat} {b : Bool} (ht : look F t = some (.bool b)) (h1 : b = true → WD P E R n M ops ancs todo seen ks ((t, .bool true) :: F) L Q) (h2 : b = false → WD P E R n M ops ancs todo seen ks ((t, .bool false) :: F) L Q) :
    WD P E R n M ops ancs todo seen ks F L Q := by
  intro H f hg hf hr
  cases b with
  | true => exact h1 rfl H f hg (hf.same (hf.2 t _ ht)) hr
  | false => exact h2 rfl H f hg (hf.same (hf.2 t _ ht)) hr

end rules
end
end Go.Am
