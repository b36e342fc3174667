/-
  THE ABSTRACT MACHINE, 21: a closed run in parts.
-/
import Derived.Test.YtgkmdkhhaapolaaAm20
namespace Go.Am
noncomputable section
open Classical

section parts
variable {P : Program} {E : Env}

theorem VR.atom_any {ι ι' : Mp} {v : V} {r : Value} (hv : v = .undef ∨ ∃ b, v = .bool b) (h : VR ι v r) : VR ι' v r := by
  rcases hv with rfl | ⟨b, rfl⟩
  · simp [VR]
  · simpa [VR] using h

/-- Frames that hold nothing of the heap. -/
def Dry (f : List V) : Prop := ∀ v ∈ f, v = .undef ∨ ∃ b, v = .bool b
theorem Dry.vrs {ι ι' : Mp} {f : List V} (hd : Dry f) {rs : List Value} (h : VRs ι f rs) : VRs ι' f rs :=
  VRs.of_get h.length fun i v r hv hr => by
    obtain ⟨r', hr', hvr⟩ := h.get i v hv
    rw [hr] at hr'
    simp only [Option.some.injEq] at hr'
    subst hr'
    exact VR.atom_any (hd v (List.mem_of_getElem? hv)) hvr
theorem Dry.undef (n : Nat) : Dry (List.replicate n .undef) := fun v hv => .inl (List.eq_of_mem_replicate hv)

/-- What runs in nothing runs anywhere, and leaves what was there. -/
theorem AX.lift {c : Code} {f g : List V} {H2 : Heap} {e : Ex} (hf : Dry f) (hg : Dry g) (h : AX P none c f Heap.empty e g H2) (H : Heap) : AX P none c f H e g H := by
  intro B ι w a ro hB hr hv hm hc
  have hr0 : Rel (fun _ => .abs) Heap.empty w := ⟨fun _ _ => rfl, (fun _ _ _ _ h => by cases h), (fun _ h => by cases h), (fun _ _ _ _ _ _ _ h _ => by cases h)⟩
  have hm0 : MOk B (fun _ => .abs) w a.defers := by
    obtain ⟨rs, h1, h2, h3⟩ := hm
    exact ⟨rs, h1, h2, fun r hr => ⟨(h3 r hr).1, (h3 r hr).2.1, fun _ _ _ _ h => by cases h⟩⟩
  have hc0 : RC (fun _ => .abs) none ro := by
    cases ro with
    | none => trivial
    | some _ => exact hc
  refine wpIn_mono (h B (fun _ => .abs) w a ro hB hr0 (hf.vrs hv) hm0 hc0) fun ex a' w' ⟨ι', h1, hp, h3, h4⟩ => ?_
  have hold : ∀ r, r < w.heap.size → w'.heap[r]? = w.heap[r]? := fun r hr => hp.fr.2 r hr fun _ _ _ _ h => by cases h
  refine ⟨ι, h1, ?_, hg.vrs h3, ?_⟩
  · refine ⟨.refl _, ⟨hr.dom, fun b rb ro n hb => ?_, hr.dead, hr.inj⟩, ⟨hp.fr.1, fun r hr _ => hold r hr⟩, fun b rb ro n hb => .inl ⟨b, ro, n, hb⟩, fun _ h1 h2 => absurd h1 h2, Nat.le_refl _, fun b rb ro n q1 q2 => ⟨q1, q2, hold _ (hr.lt q1)⟩, hp.out⟩
    obtain ⟨o, o', h1, h2, h3⟩ := hr.live b rb ro n hb
    exact ⟨o, o', h1, by rw [hold _ (hr.lt hb)]; exact h2, h3⟩
  · obtain ⟨rs, h1, h2, h3⟩ := h4
    refine ⟨rs, h1, h2, fun r hr' => ⟨(h3 r hr').1, (h3 r hr').2.1, fun b rb ro n hb e => ?_⟩⟩
    subst e
    obtain ⟨o, o', g1, g2, g3⟩ := hr.live b rb ro n hb
    have := (h3 rb hr').2.1
    rw [hold _ (hr.lt hb), g2] at this
    simp only [Option.some.injEq] at this
    subst this
    cases o with
    | cells => obtain ⟨_, _, _, h, _⟩ := g3; cases h
    | map => obtain ⟨_, _, h, _⟩ := g3; cases h
    | loop => obtain ⟨_, h, _⟩ := g3; cases h
    | dead => exact g3

/-- Some codes, one behind the other. -/
def runL (E : Env) (k n : Nat) : List Code → TF → Heap → Bool
  | [], _, _ => true
  | c :: cs, f, H => match run E k (.code none n c f) H with
    | .code .normal f' H' => runL E k n cs f' H'
    | _ => false

def seqs : List Code → Code → Code
  | [], x => x
  | c :: cs, x => .seq c (seqs cs x)

theorem runL_good (hE : EnvOk E P) (hN : Enters E P) {k n : Nat} : ∀ (cs : List Code) (t : TF) (H : Heap), runL E k n cs t H = true → ∀ l, FR n l t → ∃ l' H', l'.length = n ∧ ∀ x e f2 H2, AX P none x l' H' e f2 H2 → AX P none (seqs cs x) l H e f2 H2
  | [], t, H, _, l, hl => ⟨l, H, hl.1, fun _ _ _ _ h => h⟩
  | c :: cs, t, H, h, l, hl => by
    have hg := run_good hE hN k (.code none n c t) H
    unfold runL at h
    cases hr : run E k (.code none n c t) H with
    | fail => rw [hr] at h; cases h
    | val _ _ => rw [hr] at h; cases h
    | code e f1 H1 =>
      rw [hr] at h hg
      cases e with
      | exit _ => cases h
      | ret => cases h
      | normal =>
        obtain ⟨l1, g1, g2⟩ := hg l hl
        obtain ⟨l', H', q1, q2⟩ := runL_good hE hN cs f1 H1 h l1 g1
        exact ⟨l', H', q1, fun x e f2 H2 hx => g2.seq (q2 x e f2 H2 hx)⟩

theorem FLe.undef {l : List V} {n : Nat} (h : l.length = n) : FLe l (List.replicate n .undef) :=
  ⟨by simpa using h, fun i v hv => .inl (List.eq_of_mem_replicate (List.mem_of_getElem? hv))⟩

/-- The first part: then the other one from the start. -/
theorem AX.part (hE : EnvOk E P) (hN : Enters E P) {k n : Nat} {cs : List Code} (h : runL E k n cs S2.empty Heap.empty = true) {x : Code} {e : Ex} {g : List V} (hg : Dry g)
    (hx : ∀ H, AX P none x (List.replicate n .undef) H e g H) (H : Heap) : AX P none (seqs cs x) (List.replicate n .undef) H e g H := by
  have hfr : FR n (List.replicate n .undef) S2.empty := by
    have := FR.args (n := n) (args := []) (Nat.zero_le _) (t := S2.empty) (fun j => by
      obtain ⟨t, h1, h2⟩ := ofK_get [] fun f => f
      have : t = S2.empty := h1.symm
      rw [← this]; exact h2 j)
    simpa using this
  obtain ⟨l', H', h1, h2⟩ := runL_good hE hN cs _ _ h _ hfr
  exact AX.lift (.undef n) hg (h2 x e g H' ((hx H').weaken (FLe.undef h1))) H

/-- It ends with a return of what is true in slot 0. -/
def endTrue : Out → Bool
  | .code .ret f _ => match TF.get f 0 with
    | .bool true => true
    | _ => false
  | _ => false

def yesF (n : Nat) : List V := .bool true :: List.replicate n .undef
theorem yesF_dry (n : Nat) : Dry (yesF n) := fun v hv => by
  rcases List.mem_cons.1 hv with rfl | hv
  · exact .inr ⟨_, rfl⟩
  · exact .inl (List.eq_of_mem_replicate hv)

theorem AX.last (hE : EnvOk E P) (hN : Enters E P) {k n : Nat} {c : Code} (h : endTrue (run E k (.code none (n + 1) c S2.empty) Heap.empty) = true) (H : Heap) :
    AX P none c (List.replicate (n + 1) .undef) H .ret (yesF n) H := by
  have hfr : FR (n + 1) (List.replicate (n + 1) .undef) S2.empty := by
    have := FR.args (n := n + 1) (args := []) (Nat.zero_le _) (t := S2.empty) (fun j => by
      obtain ⟨t, h1, h2⟩ := ofK_get [] fun f => f
      have : t = S2.empty := h1.symm
      rw [← this]; exact h2 j)
    simpa using this
  have hg := run_good hE hN k (.code none (n + 1) c S2.empty) Heap.empty
  cases hr : run E k (.code none (n + 1) c S2.empty) Heap.empty with
  | fail => rw [hr] at h; cases h
  | val _ _ => rw [hr] at h; cases h
  | code e f1 H1 =>
    rw [hr] at h hg
    cases e with
    | exit _ => cases h
    | normal => cases h
    | ret =>
      obtain ⟨l1, g1, g2⟩ := hg _ hfr
      have h0 : TF.get f1 0 = .bool true := by
        change (match TF.get f1 0 with | .bool true => true | _ => false) = true at h
        split at h
        · assumption
        · cases h
      refine AX.lift (.undef _) (yesF_dry n) (g2.weaken' ⟨by rw [g1.1]; simp [yesF], fun i v hv => ?_⟩) H
      cases i with
      | zero =>
        right
        simp only [yesF, List.getElem?_cons_zero, Option.some.injEq] at hv
        subst hv
        have := g1.2 0
        rw [h0] at this
        have hlt : 0 < l1.length := by rw [g1.1]; omega
        rw [List.getD_eq_getElem?_getD, List.getElem?_eq_getElem hlt] at this
        rw [List.getElem?_eq_getElem hlt]
        simpa using this
      | succ i =>
        left
        simp only [yesF, List.getElem?_cons_succ] at hv
        exact List.eq_of_mem_replicate (List.mem_of_getElem? hv)

/-- A call of a function whose code was run so. -/
theorem AC.parts (hE : EnvOk E P) (hN : Enters E P) {fid : FuncId} {fn : Func} {c : Code} {n : Nat} (hb : E.body fid = some fn) (hc : fn.body = some c) (hn : fn.ntmps = n + 1) (hrs : fn.results.toList = [.tmp 0])
    (h : ∀ H, AX P none c (List.replicate (n + 1) .undef) H .ret (yesF n) H) (H : Heap) : AC P fid [] H (.bool true) H :=
  AC.of_AX hE (hE.body fid fn hb) hc (hN fid fn c hb hc) (by simpa [hn] using h H) (by simp) (by rw [hrs]; rfl)
end parts
end
end Go.Am
