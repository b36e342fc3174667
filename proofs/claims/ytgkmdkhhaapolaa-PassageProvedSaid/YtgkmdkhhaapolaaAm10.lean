/-
  THE ABSTRACT MACHINE, 10: functions, rangings over functions, their rounds.
-/
import Derived.Test.YtgkmdkhhaapolaaAm9
namespace Go.Am
noncomputable section

section
variable {P : Program} {E : Env}

/-- A block of the world that is nothing of the abstract heap's is changed, or a new one is laid. -/
theorem Post.junk {ι ι' : Mp} {H H' : Heap} {w w' w'' : World} (h : Post ι H w ι' H' w') (hs : w'.heap.size ≤ w''.heap.size)
    (hk : ∀ k, k < w'.heap.size → w''.heap[k]? = w'.heap[k]? ∨ (w.heap.size ≤ k ∧ ∀ b rb ro n, ι' b = .at rb ro n → rb ≠ k)) (hx : Outs w' w'' := by exact ⟨rfl, rfl⟩) : Post ι H w ι' H' w'' := by
  refine ⟨h.ge, ⟨h.rel.dom, fun b rb ro n hb => ?_, h.rel.dead, h.rel.inj⟩, ⟨Nat.le_trans h.fr.1 hs, fun r hr hn => ?_⟩, h.img, h.new, h.size, fun b rb ro n q1 q2 => ?_, ⟨hx.1.trans h.out.1, hx.2.trans h.out.2⟩⟩
  · obtain ⟨o, o', h1, h2, h3⟩ := h.rel.live b rb ro n hb
    rcases hk rb (h.rel.lt hb) with e | ⟨_, e⟩
    · exact ⟨o, o', h1, e.trans h2, h3⟩
    · exact absurd rfl (e b rb ro n hb)
  · rcases hk r (Nat.lt_of_lt_of_le hr h.fr.1) with e | ⟨e, _⟩
    · exact e.trans (h.fr.2 r hr hn)
    · omega
  · obtain ⟨a1, a2, a3⟩ := h.stay b rb ro n q1 q2
    refine ⟨a1, a2, ?_⟩
    rcases hk rb (h.rel.lt a1) with e | ⟨_, e⟩
    · exact e.trans a3
    · exact absurd rfl (e b rb ro n a1)

/-! ### Results -/
def resOneA (E : Env) (H : Heap) (f : List V) : ResultVar → Option V
  | .tmp t => some (f.getD t .undef)
  | .cell a t => loadA E H t (f.getD a .undef)

def resA (E : Env) (H : Heap) (f : List V) (rs : List ResultVar) : Option V :=
  match mapO (resOneA E H f) rs with
  | some [v] => some v
  | some vs => some (.tup vs)
  | none => none

theorem resOneA_ok (hE : EnvOk E P) {ι : Mp} {H : Heap} {w : World} (hr : Rel ι H w) {f : List V} {tmps : Array Value} (hf : VRs ι f tmps.toList) {r : ResultVar} {v : V} (h : resOneA E H f r = some v) :
    ∃ rv, (match r with
      | .tmp t => pure (tmps.getD t Go.undef)
      | .cell a t => do loadVar t (← asAddr (tmps.getD a Go.undef)) : Sem Value).run P w = .ok rv w ∧ VR ι v rv := by
  cases r with
  | tmp t =>
    simp only [resOneA, Option.some.injEq] at h
    subst h
    exact ⟨_, rfl, hf.getD t⟩
  | cell a t =>
    simp only [resOneA] at h
    obtain ⟨rv, h1, h2⟩ := loadA_ok (P := P) hE hr h (hf.getD a)
    refine ⟨rv, ?_, h2⟩
    have hp : ∃ x, tmps.getD a Go.undef = .pointer (some x) := by
      unfold loadA at h
      split at h
      · rename_i l hl
        have := hf.getD a
        rw [hl] at this
        exact this.ptr_some
      · cases h
    obtain ⟨x, hx⟩ := hp
    show (do loadVar t (← asAddr (tmps.getD a Go.undef)) : Sem Value).run P w = _
    rw [hx] at h1 ⊢
    simpa [Instr.loadAt, Instr.sureAddr, asAddr] using h1

theorem resAs_ok (hE : EnvOk E P) {ι : Mp} {H : Heap} {w : World} (hr : Rel ι H w) {f : List V} {tmps : Array Value} (hf : VRs ι f tmps.toList) : ∀ {rs : List ResultVar} {vs : List V}, mapO (resOneA E H f) rs = some vs →
    ∃ rvs, (rs.mapM fun r => (match r with
      | .tmp t => pure (tmps.getD t Go.undef)
      | .cell a t => do loadVar t (← asAddr (tmps.getD a Go.undef)) : Sem Value)).run P w = .ok rvs w ∧ VRs ι vs rvs
  | [], vs, h => by simp [mapO] at h; subst h; exact ⟨[], by simp, VRs.nil⟩
  | r :: rs, vs, h => by
    simp only [mapO] at h
    cases h1 : resOneA E H f r with
    | none => simp [h1] at h
    | some v =>
      cases h2 : mapO (resOneA E H f) rs with
      | none => simp [h1, h2] at h
      | some us =>
        simp only [h1, h2, Option.some.injEq] at h
        subst h
        obtain ⟨rv, g1, g2⟩ := resOneA_ok hE hr hf h1
        obtain ⟨rvs, g3, g4⟩ := resAs_ok hE hr hf h2
        exact ⟨rv :: rvs, by rw [List.mapM_cons, Sem.run_bind, g1, Result.andThen_ok, Sem.run_bind, g3]; rfl, VRs.cons g2 g4⟩

theorem resA_ok (hE : EnvOk E P) {ι : Mp} {H : Heap} {w : World} (hr : Rel ι H w) {f : List V} {tmps : Array Value} (hf : VRs ι f tmps.toList) {fn : Func} {v : V} (h : resA E H f fn.results.toList = some v) :
    ∃ rv, (results fn tmps).run P w = .ok rv w ∧ VR ι v rv := by
  unfold resA at h
  cases hm : mapO (resOneA E H f) fn.results.toList with
  | none => simp [hm] at h
  | some vs =>
    obtain ⟨rvs, g1, g2⟩ := resAs_ok hE hr hf hm
    have hrun : (results fn tmps).run P w = .ok (if hh : rvs.toArray.size = 1 then rvs.toArray[0] else .tuple rvs.toArray) w := by
      unfold results
      rw [Array.mapM_eq_mapM_toList]
      simp only [Sem.run_bind, Sem.run_map]
      erw [g1]
      rfl
    simp only [hm] at h
    match vs, rvs, g2, h, hrun with
    | [u], _, g2, h, hrun =>
      simp only [Option.some.injEq] at h
      subst h
      simp only [VRs] at g2
      obtain ⟨r, rs', rfl, h1, rfl⟩ := g2
      exact ⟨r, by simpa using hrun, h1⟩
    | [], _, g2, h, hrun =>
      simp only [Option.some.injEq] at h
      subst h
      simp only [VRs] at g2
      subst g2
      exact ⟨_, by simpa using hrun, by simp only [VR]; exact ⟨_, rfl, VRs.nil⟩⟩
    | u :: u' :: us, rvs, g2, h, hrun =>
      simp only [Option.some.injEq] at h
      subst h
      have hl := g2.length
      have hne : ¬ rvs.toArray.size = 1 := by simp at hl ⊢; omega
      rw [dif_neg hne] at hrun
      exact ⟨_, hrun, by simp only [VR]; exact ⟨_, rfl, by simpa using g2⟩⟩

/-- The way out of a frame that bears marks. -/
theorem leaves_marks {fn : Func} {tmps : Array Value} {K : Ending → World → Prop} {ι ι' : Mp} {H H' : Heap} {w : World} : ∀ (rs : List Nat) (w' : World), rs.Nodup →
    (∀ r ∈ rs, w.heap.size ≤ r ∧ w'.heap[r]? = some (.deferred (some [])) ∧ ∀ b rb ro n, ι' b = .at rb ro n → rb ≠ r) → Post ι H w ι' H' w' →
    (∀ w'', Post ι H w ι' H' w'' → ∃ v, (results fn tmps).run P w'' = .ok v w'' ∧ K (.returned v) w'') → LeavesInM Fence.wide 0 P fn tmps K (rs.map mark1) .returning w' := by
  intro rs
  induction rs with
  | nil => intro w' _ _ hp hK; exact hK w' hp
  | cons r rs ih =>
    intro w' hnd hrs hp hK
    obtain ⟨h0, h1, h2⟩ := hrs r (by simp)
    have hlt : r < w'.heap.size := (Array.getElem?_eq_some_iff.1 h1).1
    simp only [List.map_cons, LeavesInM]
    refine ⟨by simp, .inl ⟨r, { w' with heap := w'.heap.setIfInBounds r (.deferred none) }, rfl, ?_, ih _ (List.nodup_cons.1 hnd).2 (fun q hq => ?_) ?_ hK⟩⟩
    · simp [Instr.takeDeferred, getObj, setObj, Sem.run, h1]
    · obtain ⟨g0, g1, g2⟩ := hrs q (by simp [hq])
      have hne : q ≠ r := fun e => (List.nodup_cons.1 hnd).1 (e ▸ hq)
      exact ⟨g0, by simp only [Array.getElem?_setIfInBounds_ne (Ne.symm hne)]; exact g1, g2⟩
    · refine hp.junk (by simp) fun k hk => ?_
      by_cases e : k = r
      · subst e; exact .inr ⟨h0, h2⟩
      · exact .inl (by simp only [Array.getElem?_setIfInBounds_ne (Ne.symm e)])

/-- A FUNCTION, from its body. -/
theorem AC.of_AX (hE : EnvOk E P) {fid : FuncId} {fn : Func} {c : Code} {args f' : List V} {H H' : Heap} {e : Ex} {v : V} (hf : P.funcs[fid]? = some fn) (hb : fn.body = some c)
    (hcall : ∀ (as : Array Value) (w : World), (callFunc fid as).run P w = .ok (.enter fid as) w)
    (h : AX P none c (args ++ List.replicate (fn.ntmps - args.length) .undef) H e f' H') (he : ∀ id, e ≠ .exit id) (hres : resA E H' f' fn.results.toList = some v) : AC P fid args H v H' := by
  refine ⟨hcall, fun ι w rargs hr ha => callsIn_of_wp_marks hf hb trivial (wpIn_mono (h w.heap.size ι w { tmps := rargs ++ Array.replicate (fn.ntmps - rargs.size) undef, defers := [] } none (Nat.le_refl _) hr ?_ (MOk.nil _ _ _) trivial) ?_) rfl⟩
  · have hl : args.length = rargs.size := by rw [ha.length]; simp
    simp only [Array.toList_append, Array.toList_replicate, hl]
    exact ha.append (VRs.replicate (by simp [VR]) _)
  · rintro ex a' w' ⟨ι', rfl, hp, hf', rs, hds, hnd, hrs⟩
    have fin : LeavesInM Fence.wide 0 P fn a'.tmps (fun e w' => ∃ rv ι', e = Ending.returned rv ∧ Post ι H w ι' H' w' ∧ VR ι' v rv) a'.defers .returning w' := by
      rw [hds]
      refine leaves_marks rs w' hnd hrs hp fun w'' hp'' => ?_
      obtain ⟨rv, h1, h2⟩ := resA_ok hE hp''.rel hf' hres
      exact ⟨rv, h1, rv, ι', rfl, hp'', h2⟩
    cases e with
    | normal => exact fin
    | ret => exact fin
    | exit id => exact absurd rfl (he id)

/-! ### A ranging over a function -/
def jumpEx : Option Code → Option Ex
  | none => some .normal
  | some .ret => some .ret
  | some (.exit id) => some (.exit id)
  | _ => none

theorem run_getLoop {w : World} {rl : Nat} {loop : Loop} (h : w.heap[rl]? = some (.loop loop)) : (Instr.getLoop rl).run P w = .ok loop w := by
  simp [Instr.getLoop, getObj, Sem.run, h]

theorem run_setLoop {w : World} {rl : Nat} {loop : Loop} (h : w.heap[rl]? = some (.loop loop)) (o : Go.Obj) : (setObj rl o).run P w = .ok () { w with heap := w.heap.setIfInBounds rl o } := by
  simp [setObj, Sem.run, h]

theorem Rel.loop {ι : Mp} {H : Heap} {w : World} (hr : Rel ι H w) {l : Nat} {L : LoopA} (hg : H.get l = some (.loop L)) (hb : ι l ≠ .abs) :
    ∃ rl ro n, ∃ loop : Loop, ι l = .at rl ro n ∧ w.heap[rl]? = some (.loop loop) ∧ ORel ι ro n (.loop L) (.loop loop) := by
  cases hs : ι l with
  | abs => exact absurd hs hb
  | dead => rw [hr.dead l hs] at hg; cases hg
  | «at» rl ro n =>
    obtain ⟨o, o', h1, h2, h3⟩ := hr.live l rl ro n hs
    rw [hg] at h1
    simp only [Option.some.injEq] at h1
    subst h1
    have h3' := h3
    obtain ⟨loop, rfl, _⟩ := h3
    exact ⟨rl, ro, n, loop, rfl, h2, h3'⟩

/-- A loop's record is set anew. -/
theorem Post.setLoop {ι : Mp} {H : Heap} {w : World} (hr : Rel ι H w) {l : Nat} {L : LoopA} (hg : H.get l = some (.loop L)) {rl ro n : Nat} (hs : ι l = .at rl ro n) {L' : LoopA} {loop' : Loop} (ho : ORel ι ro n (.loop L') (.loop loop')) :
    Post ι H w ι (H.set l (.loop L')) { w with heap := w.heap.setIfInBounds rl (.loop loop') } := by
  have hlt := hr.lt hs
  exact Post.set hr hs (by simp [hg, Obj.own]) _ _ (by simp) (by simp [hlt]) (fun k hk => by simp [Array.getElem?_setIfInBounds_ne (Ne.symm hk)]) ho

theorem AX.rangeFunc {R : Option Nat} {f : List V} {H H₂ : Heap} {g : Operand} {ps : Array Tmp} {assign body : Code} {gf : FuncId} {first cap : List V} {v : V} {L₂ : LoopA} {e : Ex}
    (hg : evA f g = .func gf first cap) (hR : ∀ l, R = some l → ∃ L, H.get l = some (.loop L))
    (hc : AC P gf (first ++ [.yld H.size] ++ cap) (H.push (.loop { state := .ready, pending := none, tmps := f, params := ps.toList, assign, body })) v H₂)
    (h2 : H₂.get H.size = some (.loop L₂)) (hb : L₂.state ≠ .busy) (hj : jumpEx L₂.pending = some e) :
    AX P R (.rangeFunc g ps assign body) f H e f (H₂.set H.size (.loop { L₂ with state := .exhausted })) := by
  intro B ι w a ro hB hr hf hm hrc
  have hge := evA_ok hf g
  rw [hg] at hge
  simp only [VR] at hge
  obtain ⟨first', cap', hgv, hv1, hv2⟩ := hge
  -- what is done behind the call
  have behind : ∀ (rl : Nat) (mark : List Deferred) (w₁ : World) (ι₁ : Mp), Post ι H w ι₁ (H.push (.loop { state := .ready, pending := none, tmps := f, params := ps.toList, assign, body })) w₁ → (∃ n, ι₁ H.size = .at rl 0 n) →
      MOk B ι₁ w₁ (mark ++ a.defers) → 
      CallsIn (fence ro) 0 P gf (first' ++ #[.func (.yield rl) #[] #[]] ++ cap') w₁ (rangePost (fence ro) 0 P rl (fun ex a' w' => ∃ ι', ex = e.toExit ∧ Post ι H w ι' (H₂.set H.size (.loop { L₂ with state := .exhausted })) w' ∧ VRs ι' f a'.tmps.toList ∧ MOk B ι' w' a'.defers) { a with defers := mark ++ a.defers }) := by
    intro rl mark w₁ ι₁ hp₁ hs₁ hm₁
    obtain ⟨n₁, hs₁⟩ := hs₁
    have hcall := hc.2 ι₁ w₁ (first' ++ #[.func (.yield rl) #[] #[]] ++ cap') hp₁.rel (by
      simp only [Array.toList_append]
      refine ((hv1.mono hp₁.ge).append (VRs.cons ?_ VRs.nil)).append (hv2.mono hp₁.ge)
      simp only [VR, hs₁])
    have hcall' : CallsIn (fence ro) 0 P gf (first' ++ #[.func (.yield rl) #[] #[]] ++ cap') w₁ (fun e w' => ∃ rv ι', e = .returned rv ∧ Post ι₁ (H.push (.loop { state := .ready, pending := none, tmps := f, params := ps.toList, assign, body })) w₁ ι' H₂ w' ∧ VR ι' v rv) := by cases ro <;> exact hcall
    refine hcall'.mono fun en w₃ hen => ?_
    obtain ⟨rv, ι₃, rfl, hp₃, _⟩ := hen
    have hne : ι₃ H.size ≠ .abs := by
      rcases hp₃.ge H.size with e | e | ⟨e, _⟩
      · rw [hs₁] at e; cases e
      · rw [e, hs₁]; simp
      · rw [e]; simp
    obtain ⟨rl', q, n₃, loop₃, hs₃, hw₃, ho₃⟩ := hp₃.rel.loop h2 hne
    have hrl : rl' = rl ∧ q = 0 := by
      rcases hp₃.ge H.size with e | e | ⟨e, _⟩
      · rw [hs₁] at e; cases e
      · rw [e, hs₁] at hs₃; simp only [St.at.injEq] at hs₃; exact ⟨hs₃.1.symm, hs₃.2.1.symm⟩
      · rw [e] at hs₃; cases hs₃
    obtain ⟨rfl, rfl⟩ := hrl
    obtain ⟨loop, hl0, hl1, hl2, hl3, hl4, hl5, hl6⟩ := ho₃
    simp only [Go.Obj.loop.injEq] at hl0
    subst hl0
    have hnb : ¬ loop₃.state = LoopState.busy := by rw [hl1]; exact hb
    have hp₄ := Post.setLoop hp₃.rel h2 hs₃ (L' := { L₂ with state := .exhausted }) (loop' := { loop₃ with state := .exhausted }) ⟨_, rfl, rfl, hl2, hl3, hl4, hl5, hl6⟩
    have hall := (hp₁.trans hp₃).trans hp₄
    refine ⟨loop₃.pending, { w₃ with heap := w₃.heap.setIfInBounds rl' (.loop { loop₃ with state := .exhausted }) }, ?_, ?_⟩
    · simp [Instr.endLoop, run_getLoop hw₃, hnb, run_setLoop hw₃]
    · have hfin : ∃ ι', Post ι H w ι' (H₂.set H.size (.loop { L₂ with state := .exhausted })) { w₃ with heap := w₃.heap.setIfInBounds rl' (.loop { loop₃ with state := .exhausted }) } ∧ VRs ι' f a.tmps.toList ∧ MOk B ι' { w₃ with heap := w₃.heap.setIfInBounds rl' (.loop { loop₃ with state := .exhausted }) } (mark ++ a.defers) :=
        ⟨ι₃, hall, hf.mono hall.ge, hm₁.post (hp₃.trans hp₄)⟩
      obtain ⟨ι', f1, f2, f3⟩ := hfin
      have hcase : (L₂.pending = none ∧ e = .normal) ∨ (L₂.pending = some .ret ∧ e = .ret) ∨ ∃ id, L₂.pending = some (.exit id) ∧ e = .exit id := by
        unfold jumpEx at hj
        split at hj <;> try simp only [Option.some.injEq] at hj
        · rename_i hq; exact .inl ⟨hq, hj.symm⟩
        · rename_i hq; exact .inr (.inl ⟨hq, hj.symm⟩)
        · rename_i hq; exact .inr (.inr ⟨_, hq, hj.symm⟩)
        · cases hj
      have key : ∀ (j : Option Code) (Q : Exit → Act → World → Prop) (a' : Act) (w' : World), j = L₂.pending → Q e.toExit a' w' → (match j with | none => Q .normal a' w' | some c => c.wpIn (fence ro) 0 P Q a' w') := by
        intro j Q a' w' hjj hq
        rcases hcase with ⟨hp, rfl⟩ | ⟨hp, rfl⟩ | ⟨id, hp, rfl⟩ <;> rw [hp] at hjj <;> subst hjj
        · exact hq
        · exact wpIn_ret hq
        · exact wpIn_exit hq
      exact key loop₃.pending (fun ex a' w' => ∃ ι', ex = e.toExit ∧ Post ι H w ι' (H₂.set H.size (.loop { L₂ with state := .exhausted })) w' ∧ VRs ι' f a'.tmps.toList ∧ MOk B ι' w' a'.defers) _ _ hl2 ⟨ι', rfl, f1, f2, f3⟩
  have hinv : ∀ (rl : Nat) (w₁ : World), (resolve a.eval (rangeCall g rl) 0).run P w₁ = .ok { target := .fn (.func gf) cap', args := first' ++ #[.func (.yield rl) #[] #[]] } w₁ ∧
      (invoke (.fn (.func gf) cap') (first' ++ #[.func (.yield rl) #[] #[]])).run P w₁ = .ok (.enter gf (first' ++ #[.func (.yield rl) #[] #[]] ++ cap')) w₁ := by
    intro rl w₁
    refine ⟨?_, ?_⟩
    · have hk : ∀ v, a.eval (.const v) = v := fun _ => rfl
      simp [resolve, hgv, hk, Deferred.ofValue]
    · simp only [invoke]; exact hc.1 _ w₁
  cases R with
  | none =>
    cases ro with
    | some rl => exact hrc.elim
    | none =>
      refine wpIn_rangeFunc fun fn _ => ⟨w.heap.size + 1, [mark1 w.heap.size], (w.alloc (.deferred (some []))).alloc (.loop { state := .ready, pending := none, fn, tmps := a.tmps, params := ps, assign, body, defers := w.heap.size }), _, _, gf, _, _, ?_, (hinv _ _).1, fun _ _ => trivial, (hinv _ _).2, fun h => by simp [fence] at h, ?_⟩
      · simp [Instr.enterLoop, fence, mark1]
      · have hp0 : Post ι H w ι H (w.alloc (.deferred (some []))) := (Post.refl hr).junk (by simp) fun k hk => .inl (heap_alloc_old w _ k hk)
        have hp1 := Post.push (w' := (w.alloc (.deferred (some []))).alloc (.loop { state := .ready, pending := none, fn, tmps := a.tmps, params := ps, assign, body, defers := w.heap.size })) hp0.rel
          (.loop { state := .ready, pending := none, tmps := f, params := ps.toList, assign, body }) (.loop { state := .ready, pending := none, fn, tmps := a.tmps, params := ps, assign, body, defers := w.heap.size }) 0 rfl
          ⟨_, rfl, rfl, rfl, rfl, rfl, rfl, hf⟩
        refine behind _ _ _ _ (hp0.trans hp1) ⟨0, by simp⟩ ?_
        obtain ⟨rs, g1, g2, g3⟩ := hm
        refine ⟨w.heap.size :: rs, by simp [g1], List.nodup_cons.2 ⟨fun hmem => ?_, g2⟩, fun r hr' => ?_⟩
        · have := (Array.getElem?_eq_some_iff.1 (g3 _ hmem).2.1).1
          omega
        · rcases List.mem_cons.1 hr' with rfl | hmem
          · refine ⟨hB, ?_, fun b rb q n hb => ?_⟩
            · rw [heap_alloc_old _ _ _ (by simp)]; exact heap_alloc_new w _
            · by_cases e : b = H.size
              · simp only [e, if_true, St.at.injEq] at hb
                have := hb.1
                simp at this
                omega
              · simp only [e, if_false] at hb
                exact Nat.ne_of_lt (hr.lt hb)
          · have hmk : MOk B ι w (rs.map mark1) := ⟨rs, rfl, g2, g3⟩
            obtain ⟨rs', e1, e2, e3⟩ := hmk.post (hp0.trans hp1)
            have : rs' = rs := by
              have := congrArg (List.map fun d : Deferred => match d.target with | .collected r => r | _ => 0) e1
              simpa [mark1, Function.comp_def] using this.symm
            subst this
            exact e3 r hmem
  | some l =>
    cases ro with
    | none => exact hrc.elim
    | some rl =>
      obtain ⟨L, hL⟩ := hR l rfl
      simp only [RC] at hrc
      have hs : ∃ q n, ι l = .at rl q n := by
        rcases hrc with h | h
        · exact h
        · rw [hr.dead l h] at hL; cases hL
      obtain ⟨q, n, hs⟩ := hs
      obtain ⟨rl', q', n', loop, hs', hw, _⟩ := hr.loop hL (by rw [hs]; simp)
      rw [hs] at hs'
      simp only [St.at.injEq] at hs'
      obtain ⟨rfl, rfl, rfl⟩ := hs'
      refine wpIn_rangeFunc fun fn _ => ⟨w.heap.size, [], w.alloc (.loop { state := .ready, pending := none, fn, tmps := a.tmps, params := ps, assign, body, defers := loop.defers }), _, _, gf, _, _, ?_, (hinv _ _).1, fun _ _ => trivial, (hinv _ _).2, fun h => by simp [fence] at h, ?_⟩
      · simp [Instr.enterLoop, fence, run_getLoop hw]
      · have hp1 := Post.push (w' := w.alloc (.loop { state := .ready, pending := none, fn, tmps := a.tmps, params := ps, assign, body, defers := loop.defers })) hr
          (.loop { state := .ready, pending := none, tmps := f, params := ps.toList, assign, body }) (.loop { state := .ready, pending := none, fn, tmps := a.tmps, params := ps, assign, body, defers := loop.defers }) 0 rfl
          ⟨_, rfl, rfl, rfl, rfl, rfl, rfl, hf⟩
        exact behind _ _ _ _ hp1 ⟨0, by simp⟩ (by simpa using hm.post hp1)

/-! ### A round -/
def zipPut : List Tmp → List V → List V → List V
  | t :: ts, a :: as, f => zipPut ts as (f.set t a)
  | _, _, f => f

theorem zipPut_ok {ι : Mp} : ∀ {ts : List Tmp} {as : List V} {ras : List Value} {f : List V} {tmps : Array Value}, VRs ι as ras → VRs ι f tmps.toList →
    VRs ι (zipPut ts as f) ((ts.zip ras).foldl (fun (tmps : Array Value) (p : Tmp × Value) => tmps.setIfInBounds p.1 p.2) tmps).toList
  | [], _, _, _, _, _, hf => by simpa [zipPut] using hf
  | t :: ts, [], ras, f, tmps, ha, hf => by simp only [VRs] at ha; subst ha; simpa [zipPut] using hf
  | t :: ts, a :: as, ras, f, tmps, ha, hf => by
    simp only [VRs] at ha
    obtain ⟨r, rs', rfl, h1, h2⟩ := ha
    simp only [zipPut, List.zip_cons_cons, List.foldl_cons]
    exact zipPut_ok h2 (by rw [Array.toList_setIfInBounds]; exact hf.set h1 t)

theorem AY.intro {l : Nat} {args f₁ f₂ : List V} {H H₁ H₂ : Heap} {L L₁ L₂ : LoopA} {e : Ex} (hL : H.get l = some (.loop L)) (hlen : args.length = L.params.length)
    (ha : AX P (some l) L.assign (zipPut L.params args L.tmps) H .normal f₁ H₁) (h1 : H₁.get l = some (.loop L₁)) (hs : L₁.state = .ready)
    (hb : AX P (some l) L.body f₁ (H₁.set l (.loop { L₁ with state := .busy })) e f₂ H₂) (h2 : H₂.get l = some (.loop L₂)) :
    AY P l args H (.bool (decide (e = .normal))) (H₂.set l (.loop { L₂ with state := if e = .normal then .ready else .done, pending := e.jump })) := by
  refine ⟨L, hL, hlen, fun ι w rl ro n loop rargs hr hsl hwl hargs => roundIn_of_wpIn trivial ?_⟩
  obtain ⟨rl', q', n', loop', hs', hw', ho⟩ := hr.loop hL (by rw [hsl]; simp)
  rw [hsl] at hs'
  simp only [St.at.injEq] at hs'
  obtain ⟨rfl, rfl, rfl⟩ := hs'
  rw [hwl] at hw'
  simp only [Option.some.injEq, Go.Obj.loop.injEq] at hw'
  subst hw'
  obtain ⟨loop'', hl0, hl1, hl2, hl3, hl4, hl5, hl6⟩ := ho
  simp only [Go.Obj.loop.injEq] at hl0
  subst hl0
  rw [hl4, hl5]
  have stay : ∀ {ι' : Mp} {H' : Heap} {w' : World} {L' : LoopA}, Post ι H w ι' H' w' → H'.get l = some (.loop L') → ∃ loop' : Loop, ι' l = .at rl ro n ∧ w'.heap[rl]? = some (.loop loop') ∧ ORel ι' ro n (.loop L') (.loop loop') := by
    intro ι' H' w' L' hp hg
    have hne : ι' l ≠ .abs := by
      rcases hp.ge l with e | e | ⟨e, _⟩
      · rw [hsl] at e; cases e
      · rw [e, hsl]; simp
      · rw [e]; simp
    obtain ⟨rl', q', n', loop', g1, g2, g3⟩ := hp.rel.loop hg hne
    rcases hp.ge l with e | e | ⟨e, _⟩
    · rw [hsl] at e; cases e
    · rw [e, hsl] at g1
      simp only [St.at.injEq] at g1
      obtain ⟨rfl, rfl, rfl⟩ := g1
      exact ⟨loop', e.trans hsl, g2, g3⟩
    · rw [e] at g1; cases g1
  have hf0 : VRs ι (zipPut L.params args L.tmps) ((loop.params.zip rargs).foldl (fun tmps (x : Tmp × Value) => tmps.setIfInBounds x.1 x.2) loop.tmps).toList := by
    have := zipPut_ok (ts := L.params) hargs hl6
    rw [← hl3] at this ⊢
    rw [← Array.foldl_toList, Array.toList_zip]
    exact this
  refine wpIn_mono (ha 0 ι w _ (some rl) (Nat.zero_le _) hr hf0 (MOk.nil _ _ _) (.inl ⟨ro, n, hsl⟩)) ?_
  rintro ex a₁ w₁ ⟨ι₁, rfl, hp₁, hf₁, hm₁⟩
  obtain ⟨loop₁, k1, k2, k3⟩ := stay hp₁ h1
  obtain ⟨loop1', m0, m1, m2, m3, m4, m5, m6⟩ := k3
  simp only [Go.Obj.loop.injEq] at m0
  subst m0
  have hpB := Post.setLoop hp₁.rel h1 k1 (L' := { L₁ with state := .busy }) (loop' := { loop₁ with state := .busy }) ⟨_, rfl, rfl, m2, m3, m4, m5, m6⟩
  have hrd : loop₁.state = .ready := m1.trans hs
  refine ⟨{ w₁ with heap := w₁.heap.setIfInBounds rl (.loop { loop₁ with state := .busy }) }, ?_, ?_⟩
  · simp [Instr.beginRound, run_getLoop k2, run_setLoop k2, hrd]
  · have hp₂ := hp₁.trans hpB
    refine wpIn_mono (hb 0 ι₁ _ a₁ (some rl) (Nat.zero_le _) hpB.rel hf₁ (hm₁.post hpB) (.inl ⟨ro, n, k1⟩)) ?_
    rintro ex a₂ w₂ ⟨ι₂, rfl, hp₃, hf₂, hm₂⟩
    have hp₄ := hp₂.trans hp₃
    obtain ⟨loop₂, j1, j2, j3⟩ := stay hp₄ h2
    obtain ⟨loop2', i0, i1, i2, i3, i4, i5, i6⟩ := j3
    simp only [Go.Obj.loop.injEq] at i0
    subst i0
    have hpE := Post.setLoop hp₄.rel h2 j1 (L' := { L₂ with state := if e = .normal then .ready else .done, pending := e.jump }) (loop' := { loop₂ with state := if e = .normal then .ready else .done, pending := e.jump }) ⟨_, rfl, rfl, rfl, i3, i4, i5, i6⟩
    have hend : ∀ jump : Option Code, (Instr.endRound rl jump).run P w₂ = .ok (.bool jump.isNone) { w₂ with heap := w₂.heap.setIfInBounds rl (.loop { loop₂ with state := if jump.isNone then .ready else .done, pending := jump }) } := by
      intro jump; simp [Instr.endRound, run_getLoop j2, run_setLoop j2]
    cases e with
    | normal => exact ⟨_, _, hend none, _, ι₂, rfl, hp₄.trans hpE, by simp [VR]⟩
    | ret => exact ⟨_, _, hend (some .ret), _, ι₂, rfl, hp₄.trans hpE, by simp [VR]⟩
    | exit id => exact ⟨_, _, hend (some (.exit id)), _, ι₂, rfl, hp₄.trans hpE, by simp [VR]⟩

end
end
end Go.Am
