/-
  THE SYMBOLIC LAYER, 1: frames as lists of known slots, heaps as lists of known blocks; what code does to them.
-/
import Derived.Test.YtgkmdkhhaapolaaAm20
namespace Go.Am
noncomputable section
open Classical

/-! ### Frames -/
abbrev FA := List (Nat × V)
def look : FA → Nat → Option V
  | [], _ => none
  | (t, v) :: F, s => match Nat.beq t s with
    | true => some v
    | false => look F s
def opd (F : FA) : Operand → Option V
  | .tmp t => look F t
  | .const v => ofVal v
  | .global _ => none
  | .func g => some (.func g [] [])

def FOk (n : Nat) (F : FA) (f : List V) : Prop := f.length = n ∧ ∀ t v, look F t = some v → f.getD t .undef = v
/-- Each slot of G is so in F. -/
def HasF (F : FA) : FA → Prop
  | [] => True
  | (t, v) :: G => look F t = some v ∧ HasF F G
theorem HasF.look {F : FA} : ∀ {G : FA}, HasF F G → ∀ t v, look G t = some v → look F t = some v
  | [], _, t, v, h => by cases h
  | (s, u) :: G, hG, t, v, h => by
    simp only [Am.look] at h
    cases hb : Nat.beq s t with
    | true =>
      rw [hb] at h
      simp only [Option.some.injEq] at h
      subst h
      rw [← Nat.eq_of_beq_eq_true hb]; exact hG.1
    | false => rw [hb] at h; exact HasF.look hG.2 t v h
theorem FOk.has {n : Nat} {F G : FA} {f : List V} (h : FOk n F f) (hG : HasF F G) : FOk n G f := ⟨h.1, fun t v ht => h.2 t v (hG.look t v ht)⟩
theorem FOk.put {n : Nat} {F : FA} {f : List V} (h : FOk n F f) {d : Nat} (hd : Nat.blt d n = true) (v : V) : FOk n ((d, v) :: F) (f.set d v) := by
  rw [blt_iff] at hd
  simp only [decide_eq_true_eq] at hd
  refine ⟨by simpa using h.1, fun t u ht => ?_⟩
  simp only [Am.look] at ht
  cases hb : Nat.beq d t with
  | true =>
    rw [hb] at ht
    simp only [Option.some.injEq] at ht
    subst ht
    have := Nat.eq_of_beq_eq_true hb
    subst this
    have : d < f.length := by rw [h.1]; exact hd
    simp [List.getD_eq_getElem?_getD, this]
  | false =>
    rw [hb] at ht
    have hne : d ≠ t := Nat.ne_of_beq_eq_false hb
    rw [← h.2 t u ht]
    simp [List.getD_eq_getElem?_getD, List.getElem?_set_ne hne]
/-- A slot that is not looked at any more. -/
theorem FOk.same {n : Nat} {F : FA} {f : List V} (h : FOk n F f) {d : Nat} {v : V} (hv : f.getD d .undef = v) : FOk n ((d, v) :: F) f := by
  refine ⟨h.1, fun t u ht => ?_⟩
  simp only [Am.look] at ht
  cases hb : Nat.beq d t with
  | true =>
    rw [hb] at ht
    simp only [Option.some.injEq] at ht
    subst ht
    rw [← Nat.eq_of_beq_eq_true hb]; exact hv
  | false => rw [hb] at ht; exact h.2 t u ht
theorem opd_ev {n : Nat} {F : FA} {f : List V} (h : FOk n F f) {x : Operand} {v : V} (hx : opd F x = some v) : evA f x = v := by
  cases x with
  | tmp t => exact h.2 t v hx
  | const c =>
    have hx' : ofVal c = some v := hx
    simp [evA, hx']
  | global g => cases hx
  | func g => simp only [opd, Option.some.injEq] at hx; exact hx

/-! ### Heaps -/
abbrev CL := List (Nat × Obj)
def ids (L : CL) : List Nat := L.map (·.1)

/-- Of the heap L is known and may be changed; M is known and stays. -/
structure Good (L M : CL) (H : Heap) : Prop where
  nd : (ids L).Nodup
  own : ∀ b o, (b, o) ∈ L → b < H.size ∧ H.get b = some o
  red : ∀ b o, (b, o) ∈ M → b < H.size ∧ H.get b = some o ∧ b ∉ ids L

/-- From one heap to another one. -/
structure To (L M : CL) (H : Heap) (L' : CL) (H' : Heap) : Prop where
  good : Good L' M H'
  size : H.size ≤ H'.size
  keep : ∀ b, b < H.size → b ∉ ids L → H'.get b = H.get b
  fresh : ∀ b, b ∈ ids L' → b ∈ ids L ∨ H.size ≤ b

theorem mem_ids {L : CL} {b : Nat} {o : Obj} (h : (b, o) ∈ L) : b ∈ ids L := List.mem_map.2 ⟨_, h, rfl⟩
theorem ids_mem {L : CL} {b : Nat} (h : b ∈ ids L) : ∃ o, (b, o) ∈ L := by
  obtain ⟨⟨c, o⟩, h1, h2⟩ := List.mem_map.1 h
  exact ⟨o, h2 ▸ h1⟩

theorem To.refl {L M : CL} {H : Heap} (h : Good L M H) : To L M H L H := ⟨h, Nat.le_refl _, fun _ _ _ => rfl, fun _ h => .inl h⟩
theorem To.trans {L L₁ L₂ M : CL} {H H₁ H₂ : Heap} (h : To L M H L₁ H₁) (h' : To L₁ M H₁ L₂ H₂) : To L M H L₂ H₂ := by
  refine ⟨h'.good, Nat.le_trans h.size h'.size, fun b hb hn => ?_, fun b hb => ?_⟩
  · rw [h'.keep b (Nat.lt_of_lt_of_le hb h.size) fun hm => ?_, h.keep b hb hn]
    rcases h.fresh b hm with h1 | h1
    · exact hn h1
    · omega
  · rcases h'.fresh b hb with h1 | h1
    · exact h.fresh b h1
    · exact .inr (Nat.le_trans h.size h1)

/-- What is known of a part. -/
structure Sub (L' L : CL) : Prop where
  ex : ∃ R, L.Perm (L' ++ R)
theorem Sub.refl (L : CL) : Sub L L := ⟨⟨[], by simp⟩⟩
theorem Sub.nil (L : CL) : Sub [] L := ⟨⟨L, by simp⟩⟩

/-- One of a list, and the others. -/
inductive Take (p : Nat × Obj) : CL → CL → Prop
  | here {L : CL} : Take p (p :: L) L
  | there {q : Nat × Obj} {L L' : CL} (h : Take p L L') : Take p (q :: L) (q :: L')
theorem Take.perm {p : Nat × Obj} {L L' : CL} (h : Take p L L') : L.Perm (p :: L') := by
  induction h with
  | here => exact .refl _
  | there _ ih => exact (ih.cons _).trans (.swap _ _ _)
/-- Some of a list, and the others. -/
inductive TakeS : CL → CL → CL → Prop
  | nil {L : CL} : TakeS [] L L
  | cons {p : Nat × Obj} {ps L L₁ L₂ : CL} (h : Take p L L₁) (h' : TakeS ps L₁ L₂) : TakeS (p :: ps) L L₂
theorem TakeS.perm {ps L L' : CL} (h : TakeS ps L L') : L.Perm (ps ++ L') := by
  induction h with
  | nil => exact .refl _
  | cons h _ ih => exact h.perm.trans (ih.cons _)
theorem TakeS.sub {ps L L' : CL} (h : TakeS ps L L') : Sub ps L := ⟨⟨L', h.perm⟩⟩
theorem Sub.cons {p : Nat × Obj} {ps L L₁ : CL} (h : Take p L L₁) (h' : Sub ps L₁) : Sub (p :: ps) L := by
  obtain ⟨R, hR⟩ := h'.ex
  exact ⟨⟨R, h.perm.trans (hR.cons p)⟩⟩
theorem Sub.of_perm {L L' : CL} (h : L.Perm L') : Sub L' L := ⟨⟨[], by simpa using h⟩⟩

theorem Good.perm {L L' M : CL} {H : Heap} (hp : L.Perm L') (h : Good L M H) : Good L' M H :=
  ⟨(hp.map _).nodup_iff.1 h.nd, fun b o hb => h.own b o (hp.mem_iff.2 hb), fun b o hb => let ⟨h1, h2, h3⟩ := h.red b o hb; ⟨h1, h2, fun hm => h3 ((hp.map _).mem_iff.2 hm)⟩⟩
theorem Good.left {L R M : CL} {H : Heap} (h : Good (L ++ R) M H) : Good L M H := by
  refine ⟨?_, fun b o hb => h.own b o (List.mem_append_left _ hb), fun b o hb => let ⟨h1, h2, h3⟩ := h.red b o hb; ⟨h1, h2, fun hm => h3 ?_⟩⟩
  · have := h.nd
    simp only [ids, List.map_append] at this ⊢
    exact (List.nodup_append.1 this).1
  · simp only [ids, List.map_append, List.mem_append] at hm ⊢
    exact .inl hm
theorem Good.sub {L L' M : CL} {H : Heap} (hs : Sub L' L) (h : Good L M H) : Good L' M H := by
  obtain ⟨R, hR⟩ := hs.ex
  exact (h.perm hR).left
theorem To.sub {L L' L₁ M : CL} {H H₁ : Heap} (hs : Sub L' L) (h : To L' M H L₁ H₁) : To L M H L₁ H₁ := by
  obtain ⟨R, hR⟩ := hs.ex
  have hm : ∀ b, b ∈ ids L' → b ∈ ids L := fun b hb => (hR.map _).mem_iff.2 (by simp only [List.map_append, List.mem_append]; exact .inl hb)
  exact ⟨h.good, h.size, fun b hb hn => h.keep b hb fun hm' => hn (hm b hm'), fun b hb => (h.fresh b hb).imp_left (hm b)⟩

/-- The frame rule: what is not handed over stays. -/
theorem To.frame {L₁ L₂ L₁' M M₁ : CL} {H H' : Heap} (hg : Good (L₁ ++ L₂) M H) (h : To L₁ M₁ H L₁' H') : To (L₁ ++ L₂) M H (L₁' ++ L₂) H' := by
  have hdis : ∀ b, b ∈ ids L₂ → b ∉ ids L₁ := fun b hb hb' => by
    have := hg.nd
    simp only [ids, List.map_append] at this hb hb'
    exact (List.nodup_append.1 this).2.2 b hb' b hb rfl
  have hlt : ∀ b, b ∈ ids L₂ → b < H.size := fun b hb => by
    obtain ⟨o, ho⟩ := ids_mem hb
    exact (hg.own b o (List.mem_append_right _ ho)).1
  have hid : ∀ b, b ∈ ids (L₁ ++ L₂) ↔ b ∈ ids L₁ ∨ b ∈ ids L₂ := fun b => by simp [ids]
  have hid' : ∀ b, b ∈ ids (L₁' ++ L₂) ↔ b ∈ ids L₁' ∨ b ∈ ids L₂ := fun b => by simp [ids]
  refine ⟨⟨?_, fun b o hb => ?_, fun b o hb => ?_⟩, h.size, fun b hb hn => h.keep b hb fun hm => hn ((hid b).2 (.inl hm)), fun b hb => ?_⟩
  · simp only [ids, List.map_append]
    refine List.nodup_append.2 ⟨h.good.nd, ?_, fun a ha b hb e => ?_⟩
    · have := hg.nd
      simp only [ids, List.map_append] at this
      exact (List.nodup_append.1 this).2.1
    · subst e
      rcases h.fresh a ha with h1 | h1
      · exact hdis a hb h1
      · have := hlt a hb; omega
  · rcases List.mem_append.1 hb with hb | hb
    · exact h.good.own b o hb
    · obtain ⟨h1, h2⟩ := hg.own b o (List.mem_append_right _ hb)
      exact ⟨Nat.lt_of_lt_of_le h1 h.size, by rw [h.keep b h1 (hdis b (mem_ids hb))]; exact h2⟩
  · obtain ⟨h1, h2, h3⟩ := hg.red b o hb
    refine ⟨Nat.lt_of_lt_of_le h1 h.size, ?_, fun hm => ?_⟩
    · rw [h.keep b h1 fun hm => h3 ((hid b).2 (.inl hm))]; exact h2
    · rcases (hid' b).1 hm with hm | hm
      · rcases h.fresh b hm with h4 | h4
        · exact h3 ((hid b).2 (.inl h4))
        · omega
      · exact h3 ((hid b).2 (.inr hm))
  · rcases (hid' b).1 hb with hb | hb
    · rcases h.fresh b hb with h4 | h4
      · exact .inl ((hid b).2 (.inl h4))
      · exact .inr h4
    · exact .inl ((hid b).2 (.inr hb))

/-- The blocks of M₁ are known: they are of M, or of what is not handed over. -/
theorem Good.reads {L₁ L₂ M M₁ : CL} {H : Heap} (hg : Good (L₁ ++ L₂) M H) (hM : ∀ p ∈ M₁, p ∈ L₂ ∨ p ∈ M) : Good L₁ M₁ H := by
  refine ⟨hg.left.nd, hg.left.own, fun b o hb => ?_⟩
  rcases hM _ hb with h | h
  · obtain ⟨h1, h2⟩ := hg.own b o (List.mem_append_right _ h)
    refine ⟨h1, h2, fun hm => ?_⟩
    have := hg.nd
    simp only [ids, List.map_append] at this
    exact (List.nodup_append.1 this).2.2 b hm b (mem_ids h) rfl
  · obtain ⟨h1, h2, h3⟩ := hg.red b o h
    exact ⟨h1, h2, fun hm => h3 (by simp only [ids, List.map_append, List.mem_append]; exact .inl hm)⟩

/-- A new block. -/
theorem To.push {L M : CL} {H : Heap} (h : Good L M H) (o : Obj) : To L M H ((H.size, o) :: L) (H.push o) := by
  have hlt : ∀ b, b ∈ ids L → b < H.size := fun b hb => by obtain ⟨x, hx⟩ := ids_mem hb; exact (h.own b x hx).1
  refine ⟨⟨?_, fun b x hb => ?_, fun b x hb => ?_⟩, by simp, fun b hb _ => Heap.get_push_ne _ _ (by omega), fun b hb => ?_⟩
  · show (H.size :: ids L).Nodup
    exact List.nodup_cons.2 ⟨fun hm => by have := hlt _ hm; omega, h.nd⟩
  · rcases List.mem_cons.1 hb with e | hb
    · cases e; exact ⟨by simp, by simp⟩
    · obtain ⟨h1, h2⟩ := h.own b x hb
      exact ⟨by simp; omega, by rw [Heap.get_push_ne _ _ (by omega)]; exact h2⟩
  · obtain ⟨h1, h2, h3⟩ := h.red b x hb
    refine ⟨by simp; omega, by rw [Heap.get_push_ne _ _ (by omega)]; exact h2, fun hm => ?_⟩
    have : b ∈ H.size :: ids L := hm
    rcases List.mem_cons.1 this with e | hm
    · omega
    · exact h3 hm
  · have : b ∈ H.size :: ids L := hb
    rcases List.mem_cons.1 this with e | hm
    · exact .inr (by omega)
    · exact .inl hm

/-- A block is changed. -/
theorem To.set {L L₁ M : CL} {H : Heap} {b : Nat} {o : Obj} (h : Good L M H) (hp : L.Perm ((b, o) :: L₁)) (o' : Obj) : To L M H ((b, o') :: L₁) (H.set b o') := by
  have h' := h.perm hp
  have hnd : b ∉ ids L₁ := (List.nodup_cons.1 h'.nd).1
  have hmem : ∀ c, c ∈ ids L ↔ c = b ∨ c ∈ ids L₁ := fun c => by
    have := (hp.map (·.1)).mem_iff (a := c)
    simpa [ids] using this
  refine ⟨⟨h'.nd, fun c x hc => ?_, fun c x hc => ?_⟩, by simp, fun c _ hn => ?_, fun c hc => ?_⟩
  · rcases List.mem_cons.1 hc with e | hc
    · cases e
      exact ⟨by rw [Heap.size_set]; exact (h'.own b o List.mem_cons_self).1, by simp⟩
    · obtain ⟨h1, h2⟩ := h'.own c x (List.mem_cons_of_mem _ hc)
      refine ⟨by rw [Heap.size_set]; exact h1, ?_⟩
      have hne : c ≠ b := fun e => hnd (e ▸ mem_ids hc)
      rw [Heap.get_set_ne _ _ hne]; exact h2
  · obtain ⟨h1, h2, h3⟩ := h'.red c x hc
    refine ⟨by rw [Heap.size_set]; exact h1, ?_, fun hm => h3 hm⟩
    have hne : c ≠ b := fun e => h3 (e ▸ mem_ids List.mem_cons_self)
    rw [Heap.get_set_ne _ _ hne]; exact h2
  · exact Heap.get_set_ne _ _ fun e => hn ((hmem c).2 (.inl e))
  · left
    have : c ∈ b :: ids L₁ := hc
    rcases List.mem_cons.1 this with e | hm
    · exact (hmem c).2 (.inl e)
    · exact (hmem c).2 (.inr hm)

/-- Less is known. -/
theorem To.forget {L L' L'' M : CL} {H H' : Heap} (h : To L M H L' H') (hs : Sub L'' L') : To L M H L'' H' := by
  obtain ⟨R, hR⟩ := hs.ex
  exact ⟨h.good.sub hs, h.size, h.keep, fun b hb => h.fresh b ((hR.map _).mem_iff.2 (by simp only [List.map_append, List.mem_append]; exact .inl hb))⟩

/-! ### Code -/
def ROk (R : Option Nat) (L : CL) (H : Heap) : Prop := ∀ l, R = some l → l < H.size ∧ l ∉ ids L ∧ ∃ Lp, H.get l = some (.loop Lp)
theorem ROk.to {R : Option Nat} {L L' M : CL} {H H' : Heap} (h : ROk R L H) (ht : To L M H L' H') : ROk R L' H' := fun l hl => by
  obtain ⟨h1, h2, Lp, h3⟩ := h l hl
  refine ⟨Nat.lt_of_lt_of_le h1 ht.size, fun hm => ?_, Lp, by rw [ht.keep l h1 h2]; exact h3⟩
  rcases ht.fresh l hm with h4 | h4
  · exact h2 h4
  · omega
theorem ROk.sub {R : Option Nat} {L L' : CL} {H : Heap} (h : ROk R L H) (hs : Sub L' L) : ROk R L' H := fun l hl => by
  obtain ⟨h1, h2, h3⟩ := h l hl
  obtain ⟨X, hX⟩ := hs.ex
  exact ⟨h1, fun hm => h2 ((hX.map _).mem_iff.2 (by simp only [List.map_append, List.mem_append]; exact .inl hm)), h3⟩
theorem ROk.none {L : CL} {H : Heap} : ROk none L H := fun _ h => by cases h

section code
variable (P : Program) (E : Env) (R : Option Nat) (n : Nat) (M : CL)

abbrev Post3 := Ex → FA → CL → Prop

def TX (c : Code) (F : FA) (L : CL) (Q : Post3) : Prop :=
  ∀ H f, Good L M H → FOk n F f → ROk R L H → ∃ e f' H' F' L', AX P R c f H e f' H' ∧ FOk n F' f' ∧ To L M H L' H' ∧ Q e F' L'

inductive KI where
  | seq (c : Code)
  | blk (id : Nat)

/-- What is to be shown where a piece of code ends: the rest. -/
def KQ (Q : Post3) : List KI → Post3
  | [], e, F, L => Q e F L
  | .seq c :: ks, e, F, L => match e with
    | .normal => TX P R n M c F L (KQ Q ks)
    | e => KQ Q ks e F L
  | .blk id :: ks, e, F, L => KQ Q ks (if e = .exit id then .normal else e) F L

def WS (c : Code) (ks : List KI) (F : FA) (L : CL) (Q : Post3) : Prop := TX P R n M c F L (KQ P R n M Q ks)

def WO (ops : Array Oper) (os : List Oper) (ks : List KI) (F : FA) (L : CL) (Q : Post3) : Prop :=
  ∀ H f, Good L M H → FOk n F f → ROk R L H → ∃ f' H' F' L', OpsS P E ops os f H f' H' ∧ FOk n F' f' ∧ To L M H L' H' ∧ KQ P R n M Q ks .normal F' L'
end code

section rules
variable {P : Program} {E : Env} {R : Option Nat} {n : Nat} {M : CL} {F F' : FA} {L L' : CL} {Q : Post3} {ks : List KI}

theorem TX.mono {c : Code} {Q' : Post3} (h : TX P R n M c F L Q) (hq : ∀ e F' L', Q e F' L' → Q' e F' L') : TX P R n M c F L Q' := fun H f hg hf hr =>
  let ⟨e, f', H', F', L', h1, h2, h3, h4⟩ := h H f hg hf hr
  ⟨e, f', H', F', L', h1, h2, h3, hq _ _ _ h4⟩
theorem TX.weak {c : Code} (hF : HasF F F') (hL : Sub L' L) (h : TX P R n M c F' L' Q) : TX P R n M c F L Q := fun H f hg hf hr =>
  let ⟨e, f', H', F'', L'', h1, h2, h3, h4⟩ := h H f (hg.sub hL) (hf.has hF) (hr.sub hL)
  ⟨e, f', H', F'', L'', h1, h2, h3.sub hL, h4⟩
theorem WS.weak {c : Code} (hF : HasF F F') (hL : Sub L' L) (h : WS P R n M c ks F' L' Q) : WS P R n M c ks F L Q := TX.weak hF hL h
theorem WO.weak {ops : Array Oper} {os : List Oper} (hF : HasF F F') (hL : Sub L' L) (h : WO P E R n M ops os ks F' L' Q) : WO P E R n M ops os ks F L Q := fun H f hg hf hr =>
  let ⟨f', H', F'', L'', h1, h2, h3, h4⟩ := h H f (hg.sub hL) (hf.has hF) (hr.sub hL)
  ⟨f', H', F'', L'', h1, h2, h3.sub hL, h4⟩

theorem WS.skip (h : KQ P R n M Q ks .normal F L) : WS P R n M .skip ks F L Q := fun H f hg hf _ => ⟨_, f, H, F, L, AX.skip, hf, .refl hg, h⟩
theorem WS.label {l : Nat} (h : KQ P R n M Q ks .normal F L) : WS P R n M (.label l) ks F L Q := fun H f hg hf _ => ⟨_, f, H, F, L, AX.label, hf, .refl hg, h⟩
theorem WS.exit {id : Nat} (h : KQ P R n M Q ks (.exit id) F L) : WS P R n M (.exit id) ks F L Q := fun H f hg hf _ => ⟨_, f, H, F, L, AX.exit, hf, .refl hg, h⟩
theorem WS.ret (h : KQ P R n M Q ks .ret F L) : WS P R n M .ret ks F L Q := fun H f hg hf _ => ⟨_, f, H, F, L, AX.ret, hf, .refl hg, h⟩

theorem KQ.seq {c : Code} (h : WS P R n M c ks F L Q) : KQ P R n M Q (.seq c :: ks) .normal F L := h
theorem KQ.seq_exit {c : Code} {id : Nat} (h : KQ P R n M Q ks (.exit id) F L) : KQ P R n M Q (.seq c :: ks) (.exit id) F L := h
theorem KQ.seq_ret {c : Code} (h : KQ P R n M Q ks .ret F L) : KQ P R n M Q (.seq c :: ks) .ret F L := h
theorem KQ.blk {id : Nat} (h : KQ P R n M Q ks .normal F L) : KQ P R n M Q (.blk id :: ks) .normal F L := by
  show KQ P R n M Q ks (if Ex.normal = .exit id then .normal else .normal) F L
  simpa using h
theorem KQ.blk_ret {id : Nat} (h : KQ P R n M Q ks .ret F L) : KQ P R n M Q (.blk id :: ks) .ret F L := by
  show KQ P R n M Q ks (if Ex.ret = .exit id then .normal else .ret) F L
  simpa using h
theorem KQ.blk_here {id : Nat} (h : KQ P R n M Q ks .normal F L) : KQ P R n M Q (.blk id :: ks) (.exit id) F L := by
  show KQ P R n M Q ks (if Ex.exit id = .exit id then .normal else .exit id) F L
  simpa using h
theorem KQ.blk_past {id id' : Nat} (hne : Nat.beq id' id = false) (h : KQ P R n M Q ks (.exit id') F L) : KQ P R n M Q (.blk id :: ks) (.exit id') F L := by
  show KQ P R n M Q ks (if Ex.exit id' = .exit id then .normal else .exit id') F L
  have : ¬ (Ex.exit id' = Ex.exit id) := by simpa using Nat.ne_of_beq_eq_false hne
  rw [if_neg this]; exact h
theorem KQ.done {e : Ex} (h : Q e F L) : KQ P R n M Q [] e F L := h

theorem WS.seq {a b : Code} (h : WS P R n M a (.seq b :: ks) F L Q) : WS P R n M (.seq a b) ks F L Q := by
  intro H f hg hf hr
  obtain ⟨e, f₁, H₁, F₁, L₁, h1, h2, h3, h4⟩ := h H f hg hf hr
  cases e with
  | normal =>
    obtain ⟨e2, f₂, H₂, F₂, L₂, k1, k2, k3, k4⟩ := h4 H₁ f₁ h3.good h2 (hr.to h3)
    exact ⟨e2, f₂, H₂, F₂, L₂, AX.seq h1 k1, k2, h3.trans k3, k4⟩
  | exit id => exact ⟨_, f₁, H₁, F₁, L₁, AX.seq_out (by simp) h1, h2, h3, h4⟩
  | ret => exact ⟨_, f₁, H₁, F₁, L₁, AX.seq_out (by simp) h1, h2, h3, h4⟩
theorem WS.block {id : Nat} {c : Code} (h : WS P R n M c (.blk id :: ks) F L Q) : WS P R n M (.block id c) ks F L Q := by
  intro H f hg hf hr
  obtain ⟨e, f₁, H₁, F₁, L₁, h1, h2, h3, h4⟩ := h H f hg hf hr
  exact ⟨_, f₁, H₁, F₁, L₁, AX.block h1, h2, h3, h4⟩
theorem WS.scope {c : Code} (h : WS P R n M c ks F L Q) : WS P R n M (.scope c) ks F L Q := by
  intro H f hg hf hr
  obtain ⟨e, f₁, H₁, F₁, L₁, h1, h2, h3, h4⟩ := h H f hg hf hr
  exact ⟨_, f₁, H₁, F₁, L₁, AX.scope h1, h2, h3, h4⟩
theorem WS.cond {x : Operand} {a b : Code} {t : Bool} (hx : opd F x = some (.bool t)) (h1 : t = true → WS P R n M a ks F L Q) (h2 : t = false → WS P R n M b ks F L Q) : WS P R n M (.cond x a b) ks F L Q := by
  intro H f hg hf hr
  cases t with
  | true => obtain ⟨e, f₁, H₁, F₁, L₁, g1, g2, g3, g4⟩ := h1 rfl H f hg hf hr; exact ⟨e, f₁, H₁, F₁, L₁, AX.cond (t := true) (opd_ev hf hx) g1, g2, g3, g4⟩
  | false => obtain ⟨e, f₁, H₁, F₁, L₁, g1, g2, g3, g4⟩ := h2 rfl H f hg hf hr; exact ⟨e, f₁, H₁, F₁, L₁, AX.cond (t := false) (opd_ev hf hx) g1, g2, g3, g4⟩
theorem WS.condT {x : Operand} {a b : Code} (hx : opd F x = some (.bool true)) (h : WS P R n M a ks F L Q) : WS P R n M (.cond x a b) ks F L Q := WS.cond hx (fun _ => h) fun e => by cases e
theorem WS.condF {x : Operand} {a b : Code} (hx : opd F x = some (.bool false)) (h : WS P R n M b ks F L Q) : WS P R n M (.cond x a b) ks F L Q := WS.cond hx (fun e => by cases e) fun _ => h

theorem WS.region (hE : EnvOk E P) {id : Nat} {ops : Array Oper} (h : WO P E R n M ops ops.toList ks F L Q) : WS P R n M (.region id ops false) ks F L Q := by
  intro H f hg hf hr
  obtain ⟨f₁, H₁, F₁, L₁, h1, h2, h3, h4⟩ := h H f hg hf hr
  exact ⟨_, f₁, H₁, F₁, L₁, AX.region hE h1, h2, h3, h4⟩

/-! ### Loops -/
/-- The end of a round: the next one, or out. -/
def LQ {S : Type} (FF : S → FA) (LL : S → CL) (I : S → Prop) (μ : S → Nat) (s : S) (K : Post3) : Post3 := fun e F' L' =>
  (e = .normal ∧ ∃ s', μ s' < μ s ∧ I s' ∧ HasF F' (FF s') ∧ Sub (LL s') L') ∨ (e ≠ .normal ∧ K e F' L')
theorem LQ.next {S : Type} {FF : S → FA} {LL : S → CL} {I : S → Prop} {μ : S → Nat} {s : S} {K : Post3} (s' : S) (h1 : μ s' < μ s) (h2 : I s') (h3 : HasF F (FF s')) (h4 : Sub (LL s') L) : LQ FF LL I μ s K .normal F L := .inl ⟨rfl, s', h1, h2, h3, h4⟩
theorem LQ.exit {S : Type} {FF : S → FA} {LL : S → CL} {I : S → Prop} {μ : S → Nat} {s : S} {K : Post3} {id : Nat} (h : K (.exit id) F L) : LQ FF LL I μ s K (.exit id) F L := .inr ⟨by simp, h⟩
theorem LQ.ret {S : Type} {FF : S → FA} {LL : S → CL} {I : S → Prop} {μ : S → Nat} {s : S} {K : Post3} (h : K .ret F L) : LQ FF LL I μ s K .ret F L := .inr ⟨by simp, h⟩

theorem WS.loop {c : Code} {S : Type} (FF : S → FA) (LL : S → CL) (I : S → Prop) (μ : S → Nat) (s0 : S) (h0 : I s0) (hF : HasF F (FF s0)) (hL : Sub (LL s0) L)
    (h : ∀ s, I s → WS P R n M c [] (FF s) (LL s) (LQ FF LL I μ s (KQ P R n M Q ks))) : WS P R n M (.loop c) ks F L Q := by
  refine WS.weak hF hL ?_
  have key : ∀ (m : Nat) (s : S), μ s ≤ m → I s → ∀ H f, Good (LL s) M H → FOk n (FF s) f → ROk R (LL s) H → ∃ e f' H' F' L', AXL P R c f H e f' H' ∧ FOk n F' f' ∧ To (LL s) M H L' H' ∧ KQ P R n M Q ks e F' L' := by
    intro m
    induction m with
    | zero =>
      intro s hs hI H f hg hf hr
      obtain ⟨e, f₁, H₁, F₁, L₁, h1, h2, h3, h4⟩ := h s hI H f hg hf hr
      rcases h4 with ⟨_, s', h5, _⟩ | ⟨h5, h6⟩
      · omega
      · exact ⟨e, f₁, H₁, F₁, L₁, .out h1 h5, h2, h3, h6⟩
    | succ m ih =>
      intro s hs hI H f hg hf hr
      obtain ⟨e, f₁, H₁, F₁, L₁, h1, h2, h3, h4⟩ := h s hI H f hg hf hr
      rcases h4 with ⟨he, s', h5, h6, h7, h8⟩ | ⟨h5, h6⟩
      · subst he
        have h3' := h3.forget h8
        obtain ⟨e2, f₂, H₂, F₂, L₂, k1, k2, k3, k4⟩ := ih s' (by omega) h6 H₁ f₁ h3'.good (h2.has h7) (hr.to h3')
        exact ⟨e2, f₂, H₂, F₂, L₂, .step h1 k1, k2, h3'.trans k3, k4⟩
      · exact ⟨e, f₁, H₁, F₁, L₁, .out h1 h5, h2, h3, h6⟩
  intro H f hg hf hr
  obtain ⟨e, f', H', F', L', h1, h2, h3, h4⟩ := key _ s0 (Nat.le_refl _) h0 H f hg hf hr
  exact ⟨e, f', H', F', L', AX.loop h1, h2, h3, h4⟩

end rules
end
end Go.Am
