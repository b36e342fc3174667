/-
  THE ABSTRACT MACHINE, 15: regions that draw their order.
-/
import Derived.Test.YtgkmdkhhaapolaaAm14
namespace Go.Am
noncomputable section
open Classical

section draws
variable {P : Program} {E : Env} {ops : Array Oper}

/-- One operation, and its value. -/
inductive OpV (P : Program) (E : Env) (ops : Array Oper) (o : Oper) (f : List V) (H : Heap) : V → Heap → Prop
  | val {v : V} {H' : Heap} (hw : wantA ops f o = some true) (h : opA E H (evA f) o.op = some (.val v H')) : OpV P E ops o f H v H'
  | skip {H' : Heap} (hw : wantA ops f o = some true) (h : opA E H (evA f) o.op = some (.skip H')) : OpV P E ops o f H .undef H'
  | call {g v : V} {args : List V} {H' : Heap} (hw : wantA ops f o = some true) (h : opA E H (evA f) o.op = some (.call g args)) (hg : AG P g args H v H') : OpV P E ops o f H v H'
  | pass (hw : wantA ops f o = some false) : OpV P E ops o f H .undef H

theorem OpV.toS {o : Oper} {f : List V} {H H' : Heap} {v : V} (h : OpV P E ops o f H v H') : OpS P E ops o f H (putA f o.dst v) H' := by
  cases h with
  | val hw h => exact .val hw h
  | skip hw h => exact .skip hw h
  | call hw h hg => exact .call hw h hg
  | pass hw => exact .pass hw

theorem OpV.sound (hE : EnvOk E P) {i : Nat} {o : Oper} (hi : ops[i]? = some o) {f : List V} {H H' : Heap} {v : V} (h : OpV P E ops o f H v H') {ι : Mp} {w : World} {a : Act} {ro : Option Nat} {Q : Exit → Act → World → Prop} {K : Act → World → Prop}
    (hr : Rel ι H w) (hf : VRs ι f a.tmps.toList)
    (hK : ∀ ι' w' r, Post ι H w ι' H' w' → VR ι' v r → K (a.put o.dst r) w') : wpOpIn (fence ro) 0 P ops Q i K a w := by
  unfold wpOpIn
  simp only [hi]
  cases h with
  | pass hw =>
    rw [wantA_ok hw hf]
    simp only [Bool.false_eq_true, if_false]
    exact ⟨fun _ _ => trivial, hK ι w _ (Post.refl hr) (by simp [VR])⟩
  | val hw h =>
    rw [wantA_ok hw hf]
    simp only [if_true]
    have hs := opA_sound hE hr (evA_ok hf) (o := o) h
    obtain ⟨rv, w', ι', h1, h2, h3⟩ := hs
    refine ⟨fun _ _ => trivial, ?_⟩
    rw [Oper.semAt_eq _ _ _ (fun c hc => by rw [hc] at h; simp [opA, opT] at h), h1]
    exact hK ι' w' _ h2 h3
  | skip hw h =>
    rw [wantA_ok hw hf]
    simp only [if_true]
    have hs := opA_sound hE hr (evA_ok hf) (o := o) h
    obtain ⟨w', ι', h1, h2⟩ := hs
    refine ⟨fun _ _ => trivial, ?_⟩
    rw [Oper.semAt_eq _ _ _ (fun c hc => by rw [hc] at h; simp [opA, opT] at h), h1]
    exact hK ι' w' _ h2 (by simp [VR])
  | call hw h hg =>
    rw [wantA_ok hw hf]
    simp only [if_true]
    have hs := opA_sound hE hr (evA_ok hf) (o := o) h
    obtain ⟨c, gop, rargs, h1, h2, h3, h4, h5⟩ := hs
    refine ⟨fun _ _ => trivial, ?_⟩
    rw [Oper.semAt_eq _ _ _ (fun c hc => by rw [hc] at h; simp [opA, opT] at h)]
    have hrun : execOp a.eval o = (do let d ← resolve a.eval c o.type; invoke d.target d.args : Sem Next) := by simp [execOp, h1]
    rw [hrun]
    rcases hg.enters hr h3 h5 (ro := ro) h2 rfl h4 o.type with ⟨fid, as, hrun, hcall⟩ | ⟨l, fn, tmps, assign, body, hrun, hround⟩
    · rw [hrun, Oper.uponIn_enter]
      refine ⟨fun h => by cases ro <;> simp [fence] at h, hcall.mono fun e w' he => ?_⟩
      obtain ⟨rv, ι', rfl, g1, g2⟩ := he
      exact hK ι' w' _ g1 g2
    · rw [hrun, Oper.uponIn_round]
      refine ⟨fun h => by cases ro <;> simp [fence] at h, hround.mono fun e w' he => ?_⟩
      obtain ⟨rv, ι', rfl, g1, g2⟩ := he
      exact hK ι' w' _ g1 g2

/-- A frame of which some slots alone are known. -/
def maskA (ts : List Tmp) (f : List V) : List V := (List.range f.length).map fun t => if t ∈ ts then f.getD t .undef else .undef
theorem maskA_length (ts : List Tmp) (f : List V) : (maskA ts f).length = f.length := by simp [maskA]
theorem maskA_get (ts : List Tmp) (f : List V) (t : Nat) : (maskA ts f).getD t .undef = if t ∈ ts then f.getD t .undef else .undef := by
  unfold maskA
  simp only [List.getD_eq_getElem?_getD, List.getElem?_map]
  by_cases h : t < f.length
  · simp [List.getElem?_range h]
  · have h1 : (List.range f.length)[t]? = none := by simp; omega
    have h2 : f[t]? = none := by simp; omega
    simp [h1, h2]

theorem OpV.mask {o : Oper} {f : List V} {H H' : Heap} {v : V} (h : OpV P E ops o f H v H') : OpV P E ops o (maskA (o.looksAt ops) f) H v H' := by
  have hev : ∀ x ∈ o.op.operands.toList, evA f x = evA (maskA (o.looksAt ops) f) x := by
    intro x hx
    cases x with
    | tmp t =>
      simp only [evA]
      rw [maskA_get, if_pos]
      exact List.mem_append_left _ (List.mem_filterMap.2 ⟨.tmp t, hx, rfl⟩)
    | const _ => rfl
    | global _ => rfl
    | func _ => rfl
  have hop : ∀ H, opA E H (evA (maskA (o.looksAt ops) f)) o.op = opA E H (evA f) o.op := fun H => (opA_congr hev).symm
  have hwant : wantA ops (maskA (o.looksAt ops) f) o = wantA ops f o := by
    unfold wantA
    cases hg : o.guard with
    | none => rfl
    | some g =>
      obtain ⟨j, want⟩ := g
      simp only
      cases hd : (ops[j]?).bind (·.dst) with
      | none => rfl
      | some t =>
        simp only
        rw [maskA_get, if_pos]
        refine List.mem_append_right _ ?_
        simp [hg, hd]
  cases h with
  | val hw h => exact .val (hwant.trans hw) ((hop _).trans h)
  | skip hw h => exact .skip (hwant.trans hw) ((hop _).trans h)
  | call hw h hg => exact .call (hwant.trans hw) ((hop _).trans h) hg
  | pass hw => exact .pass (hwant.trans hw)

/-- One operation is to be done ahead of another one. -/
def Bef1 (ops : Array Oper) (i j : Nat) : Prop := ∃ o, ops[j]? = some o ∧ ∃ e ∈ o.after, Region.binds .any e = true ∧ e.on = i
def Bef (ops : Array Oper) : Nat → Nat → Prop := Relation.TransGen (Bef1 ops)

/-- What a row of operations does, in an order that fits: the states by place, the operations' places. -/
structure Row (P : Program) (E : Env) (ops : Array Oper) (f : Nat → List V) (H : Nat → Heap) (v : Nat → V) (pos ord : Nat → Nat) : Prop where
  posLt : ∀ i, i < ops.size → pos i < ops.size
  ordLt : ∀ p, p < ops.size → ord p < ops.size
  posOrd : ∀ p, p < ops.size → pos (ord p) = p
  ordPos : ∀ i, i < ops.size → ord (pos i) = i
  edge : ∀ i j, Bef1 ops i j → i < ops.size ∧ pos i < pos j
  step : ∀ i o, ops[i]? = some o → OpV P E ops o (f (pos i)) (H (pos i)) (v i) (H (pos i + 1)) ∧ f (pos i + 1) = putA (f (pos i)) o.dst (v i)
  size : ∀ i, i < ops.size → (H (pos i)).size ≤ (H (pos i + 1)).size
  dsts : ∀ i k o o' t, ops[i]? = some o → ops[k]? = some o' → i ≠ k → o.dst = some t → o'.dst = some t → Bef ops i k ∨ Bef ops k i
  looks : ∀ i k o o' t, ops[i]? = some o → ops[k]? = some o' → i ≠ k → t ∈ o.looksAt ops → o'.dst = some t → Bef ops i k ∨ Bef ops k i

/-- Operation k makes block b, or another thing of it. -/
def Chg (H : Nat → Heap) (pos : Nat → Nat) (k b : Nat) : Prop := b < (H (pos k + 1)).size ∧ ((H (pos k)).size ≤ b ∨ (H (pos k + 1)).get b ≠ (H (pos k)).get b)

def NoId (v : V) : Prop := ∀ ι ι' r, VR ι v r → VR ι' v r

/-- The ways in which an operation may stand beside those whose order is open. -/
inductive Cls (E : Env) (ops : Array Oper) (f : Nat → List V) (H : Nat → Heap) (v : Nat → V) (pos : Nat → Nat) (i : Nat) (o : Oper) : Prop
  /-- It reads some blocks, and writes none. -/
  | reads (rs : List Nat) (hH : H (pos i + 1) = H (pos i))
      (h : (wantA ops (f (pos i)) o = some false ∧ v i = .undef) ∨ (wantA ops (f (pos i)) o = some true ∧ ∀ C : Heap, (∀ r ∈ rs, C.get r = (H (pos i)).get r) → opA E C (evA (f (pos i))) o.op = some (.val (v i) C)))
      (hr : ∀ r ∈ rs, r < (H (pos i)).size ∧ ∀ k, k < ops.size → k ≠ i → Chg H pos k r → Bef ops k i ∨ Bef ops i k)
  /-- It makes blocks out of values in which no block stands. -/
  | alone (hn : ∀ t ∈ o.looksAt ops, NoId ((f (pos i)).getD t .undef)) (hold : ∀ b, b < (H (pos i)).size → (H (pos i + 1)).get b = (H (pos i)).get b)
  /-- Whatever it is: no other one's doing lies open to it. -/
  | full (h : ∀ k, k < ops.size → k ≠ i → (∀ b, ¬ Chg H pos k b) ∨ Bef ops k i ∨ Bef ops i k ∨ (pos k < pos i ∧ ∀ b, Chg H pos k b → (H (pos k)).size ≤ b ∧ ¬ Chg H pos i b))

variable {f : Nat → List V} {H : Nat → Heap} {v : Nat → V} {pos ord : Nat → Nat}

theorem Row.bef (hR : Row P E ops f H v pos ord) {i j : Nat} (h : Bef ops i j) : i < ops.size ∧ pos i < pos j := by
  induction h with
  | single h => exact hR.edge _ _ h
  | tail _ h ih => exact ⟨ih.1, Nat.lt_trans ih.2 (hR.edge _ _ h).2⟩

theorem Row.sizes (hR : Row P E ops f H v pos ord) : ∀ (q p : Nat), p ≤ q → q ≤ ops.size → (H p).size ≤ (H q).size := by
  intro q
  induction q with
  | zero => intro p hp _; rw [Nat.le_zero.1 hp]; exact Nat.le_refl _
  | succ q ih =>
    intro p hp hq
    by_cases e : p = q + 1
    · rw [e]; exact Nat.le_refl _
    · refine Nat.le_trans (ih p (by omega) (by omega)) ?_
      have h1 := hR.size (ord q) (hR.ordLt q (by omega))
      rw [hR.posOrd q (by omega)] at h1
      exact h1

/-- A block that is there at last was there at first, or is made by someone. -/
theorem Row.made (hR : Row P E ops f H v pos ord) : ∀ (q b : Nat), q ≤ ops.size → b < (H q).size → b < (H 0).size ∨ ∃ k, k < ops.size ∧ pos k < q ∧ (H (pos k)).size ≤ b ∧ b < (H (pos k + 1)).size := by
  intro q
  induction q with
  | zero => intro b _ hb; exact .inl hb
  | succ q ih =>
    intro b hq hb
    by_cases h : b < (H q).size
    · rcases ih b (by omega) h with h | ⟨k, h1, h2, h3⟩
      · exact .inl h
      · exact .inr ⟨k, h1, by omega, h3⟩
    · refine .inr ⟨ord q, hR.ordLt q (by omega), ?_, ?_⟩
      · rw [hR.posOrd q (by omega)]; omega
      · rw [hR.posOrd q (by omega)]; exact ⟨by omega, hb⟩

/-- A block that no one changes between two places is the same at both. -/
theorem Row.same (hR : Row P E ops f H v pos ord) : ∀ (q p b : Nat), p ≤ q → q ≤ ops.size → b < (H p).size → (∀ k, k < ops.size → Chg H pos k b → p ≤ pos k → pos k < q → False) → (H q).get b = (H p).get b := by
  intro q
  induction q with
  | zero => intro p b hp _ _ _; rw [Nat.le_zero.1 hp]
  | succ q ih =>
    intro p b hp hq hb hno
    by_cases e : p = q + 1
    · rw [e]
    · have hbq : b < (H q).size := Nat.lt_of_lt_of_le hb (hR.sizes q p (by omega) (by omega))
      rw [← ih p b (by omega) (by omega) hb fun k hk hc h1 h2 => hno k hk hc h1 (by omega)]
      apply Classical.byContradiction
      intro hne
      refine hno (ord q) (hR.ordLt q (by omega)) ?_ (by rw [hR.posOrd q (by omega)]; omega) (by rw [hR.posOrd q (by omega)]; omega)
      have hsz := hR.size (ord q) (hR.ordLt q (by omega))
      unfold Chg
      rw [hR.posOrd q (by omega)] at hsz ⊢
      exact ⟨by omega, .inr hne⟩

/-- The ranges of what two operations make lie apart. -/
theorem Row.apart (hR : Row P E ops f H v pos ord) {i k b : Nat} (hi : i < ops.size) (hk : k < ops.size) (h1 : (H (pos i)).size ≤ b) (h2 : b < (H (pos i + 1)).size) (h3 : (H (pos k)).size ≤ b) (h4 : b < (H (pos k + 1)).size) : i = k := by
  have hpi := hR.posLt i hi
  have hpk := hR.posLt k hk
  rcases Nat.lt_trichotomy (pos i) (pos k) with h | h | h
  · have := hR.sizes (pos k) (pos i + 1) (by omega) (by omega)
    omega
  · rw [← hR.ordPos i hi, ← hR.ordPos k hk, h]
  · have := hR.sizes (pos i) (pos k + 1) (by omega) (by omega)
    omega

theorem Cls.quiet {i : Nat} {o : Oper} (rs : List Nat) (hH : H (pos i + 1) = H (pos i)) (b : Nat) : ¬ Chg H pos i b := by
  rintro ⟨h1, h2⟩
  rw [hH] at h1 h2
  rcases h2 with h2 | h2
  · omega
  · exact h2 rfl

/-- Two operations that change one block: their order is fixed. -/
theorem Row.two (hR : Row P E ops f H v pos ord) (hC : ∀ i o, ops[i]? = some o → Cls E ops f H v pos i o) {i k b : Nat} (hi : i < ops.size) (hk : k < ops.size) (hne : i ≠ k) (h1 : Chg H pos i b) (h2 : Chg H pos k b) : Bef ops i k ∨ Bef ops k i := by
  have goI := hC i _ (Array.getElem?_eq_getElem hi)
  have goK := hC k _ (Array.getElem?_eq_getElem hk)
  have full : ∀ i k, k < ops.size → i ≠ k → Chg H pos i b → Chg H pos k b → ((∀ b, ¬ Chg H pos k b) ∨ Bef ops k i ∨ Bef ops i k ∨ (pos k < pos i ∧ ∀ b, Chg H pos k b → (H (pos k)).size ≤ b ∧ ¬ Chg H pos i b)) → Bef ops i k ∨ Bef ops k i := by
    intro i k _ _ h1 h2 h
    rcases h with h | h | h | ⟨_, h⟩
    · exact absurd h2 (h b)
    · exact .inr h
    · exact .inl h
    · exact absurd h1 (h b h2).2
  have new : ∀ i, Chg H pos i b → (∀ b, b < (H (pos i)).size → (H (pos i + 1)).get b = (H (pos i)).get b) → (H (pos i)).size ≤ b ∧ b < (H (pos i + 1)).size := by
    intro i h hold
    refine ⟨?_, h.1⟩
    rcases h.2 with g | g
    · exact g
    · apply Classical.byContradiction
      intro hlt
      exact g (hold b (by omega))
  cases goI with
  | reads rs hH _ _ => exact absurd h1 (Cls.quiet (o := ops[i]) rs hH b)
  | full h => exact full i k hk hne h1 h2 (h k hk (Ne.symm hne))
  | alone hn hold =>
    cases goK with
    | reads rs hH _ _ => exact absurd h2 (Cls.quiet (o := ops[k]) rs hH b)
    | full h => exact (full k i hi (Ne.symm hne) h2 h1 (h i hi hne)).symm
    | alone hn' hold' =>
      obtain ⟨a1, a2⟩ := new i h1 hold
      obtain ⟨a3, a4⟩ := new k h2 hold'
      exact absurd (hR.apart hi hk a1 a2 a3 a4) hne

/-- A heap of any contents. -/
def Heap.made (g : Nat → Option Obj) (N : Nat) : Nat → Heap
  | 0 => ⟨N, S3.empty, 0⟩
  | m + 1 => match g m with
    | some o => (Heap.made g N m).set m o
    | none => Heap.made g N m
theorem Heap.made_size (g : Nat → Option Obj) (N : Nat) : ∀ m, (Heap.made g N m).size = N
  | 0 => rfl
  | m + 1 => by
    unfold Heap.made
    split
    · rw [Heap.size_set]; exact Heap.made_size g N m
    · exact Heap.made_size g N m
theorem Heap.made_get (g : Nat → Option Obj) (N b : Nat) : ∀ m, (Heap.made g N m).get b = if b < m then g b else none
  | 0 => by simp only [Nat.not_lt_zero, if_false]; exact S3.get_empty _
  | m + 1 => by
    have ih := Heap.made_get g N b m
    unfold Heap.made
    by_cases e : b = m
    · subst e
      have hl : b < b + 1 := by omega
      rw [if_pos hl]
      split
      · rename_i o ho; rw [Heap.get_set_same, ho]
      · rename_i ho; rw [ih, ho]; simp
    · have hi : (if b < m + 1 then g b else none) = (if b < m then g b else none) := by
        by_cases h : b < m
        · rw [if_pos h, if_pos (by omega)]
        · rw [if_neg h, if_neg (by omega)]
      rw [hi]
      split
      · rw [Heap.get_set_ne _ _ e, ih]
      · exact ih

theorem putA_length (f : List V) (dst : Option Tmp) (v : V) : (putA f dst v).length = f.length := by
  cases dst <;> simp [putA]

theorem Row.lens (hR : Row P E ops f H v pos ord) : ∀ q, q ≤ ops.size → (f q).length = (f 0).length := by
  intro q
  induction q with
  | zero => intro _; rfl
  | succ q ih =>
    intro hq
    have hl := hR.ordLt q (by omega)
    have := (hR.step (ord q) _ (Array.getElem?_eq_getElem hl)).2
    rw [hR.posOrd q (by omega)] at this
    rw [this, putA_length, ih (by omega)]

/-- A slot that no one writes between two places is the same at both. -/
theorem Row.slot (hR : Row P E ops f H v pos ord) (t : Nat) : ∀ (q p : Nat), p ≤ q → q ≤ ops.size → (∀ k o, ops[k]? = some o → o.dst = some t → p ≤ pos k → pos k < q → False) → (f q).getD t .undef = (f p).getD t .undef := by
  intro q
  induction q with
  | zero => intro p hp _ _; rw [Nat.le_zero.1 hp]
  | succ q ih =>
    intro p hp hq hno
    by_cases e : p = q + 1
    · rw [e]
    · rw [← ih p (by omega) (by omega) fun k o hk hd h1 h2 => hno k o hk hd h1 (by omega)]
      have hl := hR.ordLt q (by omega)
      have hs := (hR.step (ord q) _ (Array.getElem?_eq_getElem hl)).2
      rw [hR.posOrd q (by omega)] at hs
      rw [hs]
      cases hd : ops[ord q].dst with
      | none => rfl
      | some d =>
        have hne : d ≠ t := fun e' => hno (ord q) _ (Array.getElem?_eq_getElem hl) (by rw [hd, e']) (by rw [hR.posOrd q (by omega)]; omega) (by rw [hR.posOrd q (by omega)]; omega)
        simp only [putA, List.getD_eq_getElem?_getD, List.getElem?_set_ne hne]

/-- How things stand when the operations D are done. -/
structure Inv (P : Program) (ops : Array Oper) (f : Nat → List V) (H : Nat → Heap) (pos : Nat → Nat) (ι0 : Mp) (w0 : World) (ds : List Deferred) (D : Nat → Prop) (ι : Mp) (C : Heap) (a : Act) (w : World) : Prop where
  post : Post ι0 (H 0) w0 ι C w
  size : C.size = (H ops.size).size
  down : ∀ i j, Bef1 ops i j → D j → D i
  agree : ∀ b q, q ≤ ops.size → b < (H q).size → (∀ k, k < ops.size → Chg H pos k b → (D k ↔ pos k < q)) → C.get b = (H q).get b
  made : ∀ b, ι b ≠ .abs → b < (H 0).size ∨ ∃ k, k < ops.size ∧ D k ∧ (H (pos k)).size ≤ b ∧ b < (H (pos k + 1)).size
  frame : ∀ t q, q ≤ ops.size → (∀ k o, ops[k]? = some o → o.dst = some t → (D k ↔ pos k < q)) → VR ι ((f q).getD t .undef) (a.tmps.getD t Go.undef)
  len : a.tmps.size = (f 0).length
  defers : a.defers = ds

variable {ι0 : Mp} {w0 : World} {ds : List Deferred} {D : Nat → Prop} {ι : Mp} {C : Heap} {a : Act} {w : World}

theorem Inv.downs (hI : Inv P ops f H pos ι0 w0 ds D ι C a w) {i j : Nat} (h : Bef ops i j) : D j → D i := by
  induction h with
  | single h => exact hI.down _ _ h
  | tail _ h ih => exact fun hd => ih (hI.down _ _ h hd)

theorem vrs_of_slots {ι : Mp} {g : List V} {tmps : Array Value} (hl : g.length = tmps.size) (h : ∀ t, VR ι (g.getD t .undef) (tmps.getD t Go.undef)) : VRs ι g tmps.toList :=
  VRs.of_get (by simpa using hl) fun t u r hu hr => by
    have := h t
    rw [List.getD_eq_getElem?_getD, hu] at this
    have hr' : tmps[t]? = some r := by simpa using hr
    simpa [Array.getD_eq_getD_getElem?, hr'] using this

/-- The frame behind an operation. -/
theorem Inv.frame_put (hR : Row P E ops f H v pos ord) (hI : Inv P ops f H pos ι0 w0 ds D ι C a w) {i : Nat} {o : Oper} (hi : ops[i]? = some o) (hlt : i < ops.size) (hD : ¬ D i)
    {ι' : Mp} (hge : Ge ι ι') {r : Value} (hv : VR ι' (v i) r) (t q : Nat) (hq : q ≤ ops.size) (hag : ∀ k o, ops[k]? = some o → o.dst = some t → ((D k ∨ k = i) ↔ pos k < q)) :
    VR ι' ((f q).getD t .undef) ((a.put o.dst r).tmps.getD t Go.undef) := by
  by_cases hd : o.dst = some t
  · by_cases hlen : t < a.tmps.size
    · have hp : pos i < q := (hag i o hi hd).1 (.inr rfl)
      have hs := (hR.step i o hi).2
      have e1 : (f q).getD t .undef = v i := by
        rw [hR.slot t q (pos i + 1) (by omega) hq fun k o' hk hd' h1 h2 => ?_, hs, hd]
        · have : t < (f (pos i)).length := by rw [hR.lens _ (by have := hR.posLt i hlt; omega), ← hI.len]; exact hlen
          simp [putA, List.getD_eq_getElem?_getD, this]
        · have hne : k ≠ i := fun e => by subst e; omega
          have hDk : D k := ((hag k o' hk hd').2 h2).resolve_right hne
          rcases hR.dsts i k o o' t hi hk (Ne.symm hne) hd hd' with h | h
          · exact hD (hI.downs h hDk)
          · have := (hR.bef h).2; omega
      have e2 : (a.put o.dst r).tmps.getD t Go.undef = r := by
        rw [hd]; simp [Act.put, Array.getD_eq_getD_getElem?, hlen]
      rw [e1, e2]; exact hv
    · have : (f q).getD t .undef = .undef := by
        have := hR.lens q hq
        rw [List.getD_eq_getElem?_getD, List.getElem?_eq_none (by rw [this, ← hI.len]; omega)]; rfl
      rw [this]; simp [VR]
  · have e2 : (a.put o.dst r).tmps.getD t Go.undef = a.tmps.getD t Go.undef := by
      cases hd' : o.dst with
      | none => rfl
      | some d =>
        have hne : d ≠ t := fun e => hd (by rw [hd', e])
        simp [Act.put, Array.getD_eq_getD_getElem?, Array.getElem?_setIfInBounds_ne hne]
    rw [e2]
    refine VR.mono hge _ _ (hI.frame t q hq fun k o' hk hdk => ?_)
    have hne : k ≠ i := fun e => by subst e; rw [hi] at hk; cases hk; exact hd hdk
    have := hag k o' hk hdk
    simpa [hne] using this

/-- One more operation is done. -/
theorem Inv.step (hE : EnvOk E P) (hR : Row P E ops f H v pos ord) (hC : ∀ i o, ops[i]? = some o → Cls E ops f H v pos i o) (hI : Inv P ops f H pos ι0 w0 ds D ι C a w) {i : Nat} {o : Oper} (hi : ops[i]? = some o) (hD : ¬ D i) (hpre : ∀ k, Bef1 ops k i → D k)
    {ro : Option Nat} {Q : Exit → Act → World → Prop} {K : Act → World → Prop} (hK : ∀ ι' C' a' w', Inv P ops f H pos ι0 w0 ds (fun k => D k ∨ k = i) ι' C' a' w' → K a' w') : wpOpIn (fence ro) 0 P ops Q i K a w := by
  have hlt : i < ops.size := (Array.getElem?_eq_some_iff.1 hi).1
  have hpi := hR.posLt i hlt
  obtain ⟨hV, hfp⟩ := hR.step i o hi
  have hpres : ∀ k, Bef ops k i → D k := fun k h => by
    cases h with
    | single h => exact hpre k h
    | tail h h' => exact hI.downs h (hpre _ h')
  have hposts : ∀ k, Bef ops i k → ¬ D k := fun k h hd => hD (hI.downs h hd)
  have hdown : ∀ j k, Bef1 ops j k → (D k ∨ k = i) → (D j ∨ j = i) := fun j k h hd => by
    rcases hd with hd | rfl
    · exact .inl (hI.down _ _ h hd)
    · exact .inl (hpre _ h)
  have hsz0 : (H 0).size ≤ (H (pos i)).size := hR.sizes _ _ (by omega) (by omega)
  have hsz1 : (H (pos i)).size ≤ (H (pos i + 1)).size := hR.size i hlt
  have hszN : (H (pos i + 1)).size ≤ C.size := by rw [hI.size]; exact hR.sizes _ _ (by omega) (by omega)
  -- the slots that it looks at
  have hslots : ∀ t, t ∈ o.looksAt ops → VR ι ((f (pos i)).getD t .undef) (a.tmps.getD t Go.undef) := fun t ht => hI.frame t (pos i) (by omega) fun k o' hk hd => by
    by_cases e : k = i
    · subst e; exact ⟨fun h => absurd h hD, fun h => by omega⟩
    · rcases hR.looks i k o o' t hi hk (Ne.symm e) ht hd with h | h
      · exact ⟨fun h' => absurd h' (hposts k h), fun h' => by have := (hR.bef h).2; omega⟩
      · exact ⟨fun _ => (hR.bef h).2, fun _ => hpres k h⟩
  have hlenp : (f (pos i)).length = a.tmps.size := by rw [hR.lens _ (by omega), hI.len]
  have hvrs : VRs ι (maskA (o.looksAt ops) (f (pos i))) a.tmps.toList := vrs_of_slots (by rw [maskA_length]; exact hlenp) fun t => by
    rw [maskA_get]
    split
    · exact hslots t ‹_›
    · simp [VR]
  have hfree : ∀ b, (H (pos i)).size ≤ b → b < (H (pos i + 1)).size → ι b = .abs := fun b h1 h2 => by
    apply Classical.byContradiction
    intro hne
    rcases hI.made b hne with h | ⟨k, hk, hDk, h3, h4⟩
    · omega
    · have := hR.apart hlt hk h1 h2 h3 h4
      subst this; exact hD hDk
  -- what is common to the steps that are made with a part of the map
  have lift : ∀ (V : Nat → Prop), ((∀ b, V b) ∨ ∀ b, ¬ V b) → (∀ b, V b → ι b ≠ .abs → C.get b = (H (pos i)).get b) → ((∃ b, ¬ V b) → ∀ b, b < (H (pos i)).size → (H (pos i + 1)).get b = (H (pos i)).get b) →
      Rel (ι.only V) (H (pos i)) w → VRs (ι.only V) (maskA (o.looksAt ops) (f (pos i))) a.tmps.toList → wpOpIn (fence ro) 0 P ops Q i K a w := by
    intro V hVV hvis hold hrel hvr
    refine OpV.sound hE hi hV.mask hrel hvr fun ι₁ w' r hp hv => ?_
    let C' := Heap.made (fun b => if Chg H pos i b then (H (pos i + 1)).get b else C.get b) C.size C.size
    have hC's : C'.size = C.size := Heap.made_size _ _ _
    have hC'g : ∀ b, b < C.size → C'.get b = if Chg H pos i b then (H (pos i + 1)).get b else C.get b := fun b hb => by
      rw [Heap.made_get, if_pos hb]
    have hnoV : ∀ b, ι₁ b = .abs → ι b ≠ .abs → ∀ b, ¬ V b := fun b h1 h2 => by
      rcases hVV with hVV | hVV
      · rcases hp.ge b with e | e | ⟨e, _⟩
        · rw [Mp.only_in (hVV b)] at e; exact absurd e h2
        · rw [Mp.only_in (hVV b), h1] at e; exact absurd e.symm h2
        · rw [h1] at e; cases e
      · exact hVV
    have hnewr : ∀ b, ι₁ b ≠ .abs → b < (H (pos i + 1)).size := fun b hb => by
      apply Classical.byContradiction
      intro hc
      exact hb (hp.rel.dom b (by omega))
    obtain ⟨hpost, hge, hge1⟩ := Post.step (C' := C') hI.post hp hVV hfree hsz0 hC's hszN (fun b hb => by
        have hbq := hnewr b hb
        rw [hC'g b (by omega)]
        split
        · rfl
        · rename_i hn
          have hbp : b < (H (pos i)).size := by
            apply Classical.byContradiction
            intro hc
            exact hn ⟨hbq, .inl (by omega)⟩
          have hne : ι.only V b ≠ .abs := fun e => by have := hp.new b e hb; omega
          obtain ⟨hVb, e⟩ := Mp.only_ne hne
          rw [e] at hne
          rw [hvis b hVb hne]
          apply Classical.byContradiction
          intro hc
          exact hn ⟨hbq, .inr fun e => hc e.symm⟩)
      (fun b h1 h2 => by
        have hb : b < C.size := by
          apply Classical.byContradiction
          intro hc
          exact h2 (hI.post.rel.dom b (by omega))
        rw [hC'g b hb]
        split
        · rename_i hc
          exfalso
          rcases hc.2 with g | g
          · exact h2 (hfree b g hc.1)
          · have hbp : ¬ (H (pos i)).size ≤ b := fun g => h2 (hfree b g hc.1)
            exact g (hold ⟨b, hnoV b h1 h2 b⟩ b (by omega))
        · rfl) (fun b h1 h2 => (hvis b h1 h2).symm)
    refine hK _ C' _ w' ⟨hpost, hC's.trans hI.size, hdown, fun b q hq hb hag => ?_, fun b hb => ?_, fun t q hq hag => ?_, ?_, ?_⟩
    · rw [hC'g b (by rw [hI.size]; exact Nat.lt_of_lt_of_le hb (hR.sizes _ _ hq (Nat.le_refl _)))]
      split
      · rename_i hc
        have hpq : pos i < q := (hag i hlt hc).1 (.inr rfl)
        refine (hR.same q (pos i + 1) b (by omega) hq hc.1 fun k hk hck h1 h2 => ?_).symm
        have hne : k ≠ i := fun e => by subst e; omega
        have hDk : D k := ((hag k hk hck).2 h2).resolve_right hne
        rcases hR.two hC hlt hk (Ne.symm hne) hc hck with h | h
        · exact hposts k h hDk
        · have := (hR.bef h).2; omega
      · rename_i hc
        refine hI.agree b q hq hb fun k hk hck => ?_
        have hne : k ≠ i := fun e => by subst e; exact hc hck
        have := hag k hk hck
        simpa [hne] using this
    · by_cases h : ι b = .abs
      · have h1 : ι₁ b ≠ .abs := fun e => hb (by show (if ι₁ b = .abs then ι b else ι₁ b) = _; rw [if_pos e]; exact h)
        have habs : ι.only V b = .abs := by
          apply Classical.byContradiction
          intro hne
          rw [(Mp.only_ne hne).2] at hne
          exact hne h
        exact .inr ⟨i, hlt, .inr rfl, hp.new b habs h1, hnewr b h1⟩
      · rcases hI.made b h with h | ⟨k, hk, hDk, h3⟩
        · exact .inl h
        · exact .inr ⟨k, hk, .inl hDk, h3⟩
    · exact hI.frame_put hR hi hlt hD hge (VR.mono hge1 _ _ hv) t q hq hag
    · cases o.dst <;> simp [Act.put, hI.len]
    · rw [put_defers]; exact hI.defers
  cases hC i o hi with
  | full hfull =>
    have hdom : ∀ b, (H (pos i)).size ≤ b → ι b = .abs := fun b hb => by
      apply Classical.byContradiction
      intro hne
      rcases hI.made b hne with h | ⟨k, hk, hDk, h3, h4⟩
      · omega
      · have hki : k ≠ i := fun e => by subst e; exact hD hDk
        have hlo : pos k < pos i → False := fun h => by
          have := hR.sizes (pos i) (pos k + 1) (by omega) (by omega)
          omega
        rcases hfull k hk hki with h | h | h | ⟨h, _⟩
        · exact h b ⟨h4, .inl h3⟩
        · exact hlo (hR.bef h).2
        · exact hposts k h hDk
        · exact hlo h
    have hvis : ∀ b, ι b ≠ .abs → C.get b = (H (pos i)).get b := fun b hb => by
      have hbl : b < (H (pos i)).size := by
        apply Classical.byContradiction
        intro hc
        exact hb (hdom b (by omega))
      refine hI.agree b (pos i) (by omega) hbl fun k hk hck => ?_
      by_cases e : k = i
      · subst e; exact ⟨fun h => absurd h hD, fun h => by omega⟩
      · rcases hfull k hk e with h | h | h | ⟨h, hcr⟩
        · exact absurd hck (h b)
        · exact ⟨fun _ => (hR.bef h).2, fun _ => hpres k h⟩
        · exact ⟨fun h' => absurd h' (hposts k h), fun h' => by have := (hR.bef h).2; omega⟩
        · refine ⟨fun _ => h, fun _ => ?_⟩
          have hlo := (hcr b hck).1
          rcases hI.made b hb with h' | ⟨k', hk', hDk', h3, h4⟩
          · have := hR.sizes (pos k) 0 (by omega) (by omega); omega
          · rw [hR.apart hk hk' hlo hck.1 h3 h4]; exact hDk'
    refine lift (fun _ => True) (.inl fun _ => trivial) (fun b _ => hvis b) (fun ⟨b, hb⟩ => absurd trivial hb) ?_ ?_
    · rw [Mp.only_all]
      exact hI.post.rel.congr hdom fun b hb => (hvis b hb).symm
    · rw [Mp.only_all]; exact hvrs
  | alone hn hold =>
    refine lift (fun _ => False) (.inr fun _ => not_false) (fun b hb => hb.elim) (fun _ => hold) (Rel.none _ _ _) ?_
    refine vrs_of_slots (by rw [maskA_length]; exact hlenp) fun t => ?_
    rw [maskA_get]
    split
    · exact hn t ‹_› _ _ _ (hslots t ‹_›)
    · simp [VR]
  | reads rs hH h hr =>
    have hgood : ∀ r ∈ rs, C.get r = (H (pos i)).get r := fun r hrr => by
      obtain ⟨hrl, hrk⟩ := hr r hrr
      refine hI.agree r (pos i) (by omega) hrl fun k hk hck => ?_
      by_cases e : k = i
      · subst e; exact ⟨fun h => absurd h hD, fun h => by omega⟩
      · rcases hrk k hk e hck with h | h
        · exact ⟨fun _ => (hR.bef h).2, fun _ => hpres k h⟩
        · exact ⟨fun h' => absurd h' (hposts k h), fun h' => by have := (hR.bef h).2; omega⟩
    have hV' : OpV P E ops o (f (pos i)) C (v i) C := by
      rcases h with ⟨h1, h2⟩ | ⟨h1, h2⟩
      · rw [h2]; exact .pass h1
      · exact .val h1 (h2 C hgood)
    refine OpV.sound hE hi hV'.mask hI.post.rel hvrs fun ι' w' r hp hv => ?_
    have hquiet := Cls.quiet (H := H) (pos := pos) (o := o) rs hH
    refine hK ι' C _ w' ⟨hI.post.trans hp, hI.size, hdown, fun b q hq hb hag => ?_, fun b hb => ?_, fun t q hq hag => ?_, ?_, ?_⟩
    · refine hI.agree b q hq hb fun k hk hck => ?_
      have hne : k ≠ i := fun e => by subst e; exact hquiet b hck
      have := hag k hk hck
      simpa [hne] using this
    · have hne : ι b ≠ .abs := fun e => by
        have := hp.new b e hb
        exact hb (hp.rel.dom b this)
      rcases hI.made b hne with h | ⟨k, hk, hDk, h3⟩
      · exact .inl h
      · exact .inr ⟨k, hk, .inl hDk, h3⟩
    · exact hI.frame_put hR hi hlt hD hp.ge hv t q hq hag
    · cases o.dst <;> simp [Act.put, hI.len]
    · rw [put_defers]; exact hI.defers

theorem getD_true_of {listed : Array Bool} {i : Nat} (hlt : i < listed.size) : listed.getD i true = false ↔ ¬ listed.getD i false = true := by
  simp [Array.getD_eq_getD_getElem?, hlt]

theorem any_draw (hE : EnvOk E P) (hR : Row P E ops f H v pos ord) (hC : ∀ i o, ops[i]? = some o → Cls E ops f H v pos i o) {ro : Option Nat} {Q : Exit → Act → World → Prop}
    (hQ : ∀ ι C a w, Inv P ops f H pos ι0 w0 ds (fun k => k < ops.size) ι C a w → Q .normal a w) :
    ∀ (fuel : Nat) (listed : Array Bool) (l : List Nat) (a : Act) (w : World) (ι : Mp) (C : Heap), listed.size = ops.size → (∀ i, i < ops.size → listed.getD i true = false → i ∈ l) → l.length ≤ fuel →
      Inv P ops f H pos ι0 w0 ds (fun k => listed.getD k false = true) ι C a w → wpAnyIn (fence ro) 0 P .any ops Q fuel listed a w := by
  have done : ∀ (listed : Array Bool) (a : Act) (w : World) (ι : Mp) (C : Heap), listed.size = ops.size → (∀ i, i < ops.size → ¬ listed.getD i true = false) → Inv P ops f H pos ι0 w0 ds (fun k => listed.getD k false = true) ι C a w → Q .normal a w := by
    intro listed a w ι C hs hall hI
    refine hQ ι C a w ?_
    have : (fun k => listed.getD k false = true) = (fun k => k < ops.size) := by
      funext k
      apply propext
      constructor
      · intro h
        apply Classical.byContradiction
        intro hc
        have : listed[k]? = none := Array.getElem?_eq_none (by omega)
        simp [Array.getD_eq_getD_getElem?, this] at h
      · intro hk
        apply Classical.byContradiction
        intro hc
        exact hall k hk ((getD_true_of (by omega)).2 hc)
    rw [← this]; exact hI
  have stuck : ∀ (listed : Array Bool), listed.size = ops.size → Region.ready .any ops listed = [] → ∀ i, i < ops.size → ¬ listed.getD i true = false := by
    intro listed hs hnil
    have key : ∀ p i, i < ops.size → pos i = p → ¬ listed.getD i true = false := by
      intro p
      induction p using Nat.strongRecOn with
      | _ p ih =>
        intro i hi hp hun
        have : i ∈ Region.ready .any ops listed := by
          refine mem_ready.2 ⟨hun, _, Array.getElem?_eq_getElem hi, fun e he hb => ?_⟩
          have hb1 : Bef1 ops e.on i := ⟨_, Array.getElem?_eq_getElem hi, e, he, hb, rfl⟩
          obtain ⟨h1, h2⟩ := hR.edge _ _ hb1
          apply Classical.byContradiction
          intro hc
          exact ih (pos e.on) (by omega) e.on h1 rfl ((getD_true_of (by omega)).2 hc)
        rw [hnil] at this; cases this
    exact fun i hi => key (pos i) i hi rfl
  intro fuel
  induction fuel with
  | zero =>
    intro listed l a w ι C hs hl hlen hI
    have hnil : l = [] := List.eq_nil_of_length_eq_zero (by omega)
    subst hnil
    have hall : ∀ i, i < ops.size → ¬ listed.getD i true = false := fun i hi h => by cases hl i hi h
    refine ⟨?_, done listed a w ι C hs hall hI⟩
    apply List.eq_nil_iff_forall_not_mem.2
    intro i hi
    obtain ⟨h0, o, ho, _⟩ := mem_ready.1 hi
    exact hall i (Array.getElem?_eq_some_iff.1 ho).1 h0
  | succ fuel ih =>
    intro listed l a w ι C hs hl hlen hI
    refine ⟨fun hnil => done listed a w ι C hs (stuck listed hs hnil) hI, fun i hi => ?_⟩
    obtain ⟨h0, o, ho, hpre⟩ := mem_ready.1 hi
    have hlt : i < ops.size := (Array.getElem?_eq_some_iff.1 ho).1
    refine hI.step hE hR hC ho ((getD_true_of (by omega)).1 h0) (fun k ⟨o', ho', e, he, hb, hk⟩ => ?_) fun ι' C' a' w' hI' => ?_
    · rw [ho] at ho'
      cases ho'
      subst hk
      exact hpre e he hb
    · refine ih _ (l.erase i) a' w' ι' C' (by simpa using hs) (fun k hk hun => ?_) ?_ ?_
      · have hne : k ≠ i := fun e => by
          subst e
          have hkl : k < listed.size := by omega
          simp [hkl] at hun
        rw [getD_set_ne true (Ne.symm hne)] at hun
        exact (List.mem_erase_of_ne hne).2 (hl k hk hun)
      · have := List.length_erase_of_mem (hl i hlt h0)
        have := List.length_pos_of_mem (hl i hlt h0)
        omega
      · have : (fun k => (listed.setIfInBounds i true).getD k false = true) = (fun k => listed.getD k false = true ∨ k = i) := by
          funext k
          apply propext
          by_cases e : k = i
          · subst e
            have hkl : k < listed.size := by omega
            simp [hkl]
          · rw [getD_set_ne false (Ne.symm e)]
            simp [e]
        rw [this]; exact hI'

/-- A REGION whose order is drawn. -/
theorem AX.region_draw (hE : EnvOk E P) {R : Option Nat} {id : Nat} (hR : Row P E ops f H v pos ord) (hC : ∀ i o, ops[i]? = some o → Cls E ops f H v pos i o) :
    AX P R (.region id ops true) (f 0) (H 0) .normal (f ops.size) (H ops.size) := by
  intro B ι w a ro hB hr hf hm hc
  refine wpIn_region_any hE.mixed ?_
  have hdraw : Post ι (H 0) w ι (H 0) { w with drawn := w.drawn + 1 } := Post.draw hr rfl
  refine any_draw (ι0 := ι) (w0 := { w with drawn := w.drawn + 1 }) (ds := a.defers) hE hR hC (fun ι' C a' w' hI => ?_) ops.size _ (List.range ops.size) a _ ι { size := (H ops.size).size, tr := (H 0).tr, low := 0 } (by simp) (fun i hi _ => by simpa using hi) (by simp) ?_
  · have hag : ∀ b, b < (H ops.size).size → C.get b = (H ops.size).get b := fun b hb => hI.agree b ops.size (Nat.le_refl _) hb fun k hk _ => ⟨fun _ => hR.posLt k hk, fun _ => hk⟩
    have hdom : ∀ b, (H ops.size).size ≤ b → ι' b = .abs := fun b hb => hI.post.rel.dom b (by rw [hI.size]; exact hb)
    have hp : Post ι (H 0) _ ι' (H ops.size) w' := hI.post.congr (hR.sizes _ _ (Nat.zero_le _) (Nat.le_refl _)) hdom fun b hb => by
      refine (hag b ?_).symm
      apply Classical.byContradiction
      intro hc
      exact hb (hdom b (by omega))
    refine ⟨ι', rfl, hdraw.trans hp, vrs_of_slots (by rw [hR.lens _ (Nat.le_refl _), hI.len]) fun t => hI.frame t ops.size (Nat.le_refl _) fun k o hk _ => ?_, ?_⟩
    · have hlt := (Array.getElem?_eq_some_iff.1 hk).1
      exact ⟨fun _ => hR.posLt k hlt, fun _ => hlt⟩
    · rw [hI.defers]; exact hm.post (hdraw.trans hp)
  · have hno : ∀ k, ¬ ((Array.replicate ops.size false).getD k false = true) := fun k h => by
      by_cases hk : k < ops.size <;> simp [Array.getD_eq_getD_getElem?, hk] at h
    refine ⟨?_, rfl, fun i j _ h => absurd h (hno j), fun b q hq hb hag => ?_, fun b hb => .inl ?_, fun t q hq hag => ?_, ?_, rfl⟩
    · refine (Post.refl hdraw.rel).congr (hR.sizes _ _ (Nat.zero_le _) (Nat.le_refl _)) (fun b hb => hdraw.rel.dom b (Nat.le_trans (hR.sizes _ _ (Nat.zero_le _) (Nat.le_refl _)) hb)) fun b _ => rfl
    · show (H 0).get b = _
      rcases hR.made q b hq hb with h | ⟨k, hk, hkq, h1, h2⟩
      · exact (hR.same q 0 b (Nat.zero_le _) hq h fun k hk hck _ h2 => hno k ((hag k hk hck).2 h2)).symm
      · exact absurd ((hag k hk ⟨h2, .inl h1⟩).2 hkq) (hno k)
    · apply Classical.byContradiction
      intro hc'
      exact hb (hr.dom b (by omega))
    · rw [hR.slot t q 0 (Nat.zero_le _) hq fun k o hk hd _ h2 => hno k ((hag k o hk hd).2 h2)]
      have := hf.getD t
      simpa using this
    · have := hf.length; simpa using this.symm

end draws
end
end Go.Am
