/-
  THE ABSTRACT MACHINE, 9: code, calls, rounds.
-/
import Derived.Test.YtgkmdkhhaapolaaAm8
namespace Go.Am
noncomputable section

inductive Ex where
  | normal
  | exit (id : Nat)
  | ret
  deriving DecidableEq

def Ex.toExit : Ex → Exit
  | .normal => .normal
  | .exit id => .exit id
  | .ret => .ret

def Ex.jump : Ex → Option Code
  | .normal => none
  | .exit id => some (.exit id)
  | .ret => some .ret

def fence (ro : Option Nat) : Fence := { fn := fun _ => True, depth := none, alive := false, round := ro }

theorem fence_none : fence none = Fence.wide := rfl

def mark1 (r : Nat) : Deferred := { target := .collected r, args := #[] }

/-- The frame's deferred calls are marks of rangings alone; nothing of the abstract heap lies in their blocks. -/
def MOk (B : Nat) (ι : Mp) (w : World) (ds : List Deferred) : Prop :=
  ∃ rs : List Nat, ds = rs.map mark1 ∧ rs.Nodup ∧ ∀ r ∈ rs, B ≤ r ∧ w.heap[r]? = some (.deferred (some [])) ∧ ∀ b rb ro n, ι b = .at rb ro n → rb ≠ r

theorem MOk.post {B : Nat} {ι ι' : Mp} {H H' : Heap} {w w' : World} {ds : List Deferred} (h : MOk B ι w ds) (hp : Post ι H w ι' H' w') : MOk B ι' w' ds := by
  obtain ⟨rs, h1, h2, h3⟩ := h
  refine ⟨rs, h1, h2, fun r hr => ?_⟩
  obtain ⟨g0, g1, g2⟩ := h3 r hr
  have hlt : r < w.heap.size := (Array.getElem?_eq_some_iff.1 g1).1
  refine ⟨g0, by rw [hp.fr.2 r hlt g2]; exact g1, fun b rb ro n hb => ?_⟩
  rcases hp.img b rb ro n hb with ⟨b', ro', n', hb'⟩ | hge
  · exact g2 b' rb ro' n' hb'
  · omega

theorem MOk.nil (B : Nat) (ι : Mp) (w : World) : MOk B ι w [] := ⟨[], rfl, List.nodup_nil, fun r hr => by cases hr⟩

/-- The round that code runs in, if it runs in one: its loop's record lies where the abstract one says. -/
def RC (ι : Mp) : Option Nat → Option Nat → Prop
  | none, none => True
  | some l, some rl => (∃ ro n, ι l = .at rl ro n) ∨ ι l = .dead
  | _, _ => False

theorem RC.mono {ι ι' : Mp} (h : Ge ι ι') {R ro : Option Nat} (hr : RC ι R ro) : RC ι' R ro := by
  cases R with
  | none => cases ro <;> exact hr
  | some l =>
    cases ro with
    | none => exact hr.elim
    | some rl =>
      simp only [RC] at hr ⊢
      rcases hr with ⟨q, n, e⟩ | e
      · rcases h l with f | f | ⟨f, _⟩
        · rw [e] at f; cases f
        · exact .inl ⟨q, n, f.trans e⟩
        · exact .inr f
      · rcases h l with f | f | ⟨f, _, _, _, f'⟩
        · rw [e] at f; cases f
        · exact .inr (f.trans e)
        · rw [e] at f'; cases f'

/-- CODE, from one abstract state to another one: whatever it stands for. -/
def AX (P : Program) (R : Option Nat) (c : Code) (f : List V) (H : Heap) (e : Ex) (f' : List V) (H' : Heap) : Prop :=
  ∀ (B : Nat) (ι : Mp) (w : World) (a : Act) (ro : Option Nat), B ≤ w.heap.size → Rel ι H w → VRs ι f a.tmps.toList → MOk B ι w a.defers → RC ι R ro →
    c.wpIn (fence ro) 0 P (fun ex a' w' => ∃ ι', ex = e.toExit ∧ Post ι H w ι' H' w' ∧ VRs ι' f' a'.tmps.toList ∧ MOk B ι' w' a'.defers) a w

/-- A CALL of a function. -/
def AC (P : Program) (fid : FuncId) (args : List V) (H : Heap) (v : V) (H' : Heap) : Prop :=
  (∀ (as : Array Value) (w : World), (callFunc fid as).run P w = .ok (.enter fid as) w) ∧
  ∀ (ι : Mp) (w : World) (rargs : Array Value), Rel ι H w → VRs ι args rargs.toList →
    CallsIn Fence.wide 0 P fid rargs w (fun e w' => ∃ rv ι', e = .returned rv ∧ Post ι H w ι' H' w' ∧ VR ι' v rv)

/-- A ROUND of a ranging, by a call of its yield. -/
def AY (P : Program) (l : Nat) (args : List V) (H : Heap) (v : V) (H' : Heap) : Prop :=
  ∃ L, H.get l = some (.loop L) ∧ args.length = L.params.length ∧
  ∀ (ι : Mp) (w : World) (rl ro n : Nat) (loop : Loop) (rargs : Array Value), Rel ι H w → ι l = .at rl ro n → w.heap[rl]? = some (.loop loop) → VRs ι args rargs.toList →
    RoundIn Fence.wide 0 P rl loop.fn ((loop.params.zip rargs).foldl (fun tmps (t, a) => tmps.setIfInBounds t a) loop.tmps) loop.assign loop.body w (fun e w' => ∃ rv ι', e = .returned rv ∧ Post ι H w ι' H' w' ∧ VR ι' v rv)

/-- A call of a function value. -/
def AG (P : Program) : V → List V → Heap → V → Heap → Prop
  | .func f first cap, args, H, v, H' => AC P f (first ++ args ++ cap) H v H'
  | .yld l, args, H, v, H' => AY P l args H v H'
  | _, _, _, _, _ => False

section control
variable {P : Program} {R : Option Nat} {f f₁ f' : List V} {H H₁ H' : Heap} {e : Ex}

theorem AX.skip : AX P R .skip f H .normal f H :=
  fun _ _ _ _ _ _ hr hf hm _ => wpIn_skip ⟨_, rfl, Post.refl hr, hf, hm⟩

theorem AX.label {l : Nat} : AX P R (.label l) f H .normal f H :=
  fun _ _ _ _ _ _ hr hf hm _ => wpIn_label ⟨_, rfl, Post.refl hr, hf, hm⟩

theorem AX.exit {id : Nat} : AX P R (.exit id) f H (.exit id) f H :=
  fun _ _ _ _ _ _ hr hf hm _ => wpIn_exit ⟨_, rfl, Post.refl hr, hf, hm⟩

theorem AX.ret : AX P R .ret f H .ret f H :=
  fun _ _ _ _ _ _ hr hf hm _ => wpIn_ret ⟨_, rfl, Post.refl hr, hf, hm⟩

/-- Less is known of a frame. -/
def FLe (f g : List V) : Prop := f.length = g.length ∧ ∀ (i : Nat) (v : V), g[i]? = some v → v = V.undef ∨ f[i]? = some v

theorem FLe.vrs {ι : Mp} {f g : List V} (h : FLe f g) {rs : List Value} (hf : VRs ι f rs) : VRs ι g rs :=
  VRs.of_get (h.1.symm.trans hf.length) fun i v r hv hr => by
    rcases h.2 i v hv with rfl | hv'
    · simp [VR]
    · obtain ⟨r', hr', hvr⟩ := hf.get i v hv'
      rw [hr] at hr'
      simp only [Option.some.injEq] at hr'
      exact hr' ▸ hvr

theorem AX.weaken {c : Code} {g : List V} (hle : FLe f g) (h : AX P R c g H e f' H') : AX P R c f H e f' H' :=
  fun B ι w a ro hB hr hf hm hc => h B ι w a ro hB hr (hle.vrs hf) hm hc

theorem AX.weaken' {c : Code} {g : List V} (hle : FLe f' g) (h : AX P R c f H e f' H') : AX P R c f H e g H' :=
  fun B ι w a ro hB hr hf hm hc => wpIn_mono (h B ι w a ro hB hr hf hm hc) fun _ _ _ ⟨ι', h1, h2, h3, h4⟩ => ⟨ι', h1, h2, hle.vrs h3, h4⟩

theorem AX.seq {x y : Code} (h : AX P R x f H .normal f₁ H₁) (h' : AX P R y f₁ H₁ e f' H') : AX P R (.seq x y) f H e f' H' := by
  intro B ι w a ro hB hr hf hm hc
  refine wpIn_seq (wpIn_mono (h B ι w a ro hB hr hf hm hc) fun ex a₁ w₁ ⟨ι₁, h1, h2, h3, h4⟩ => ?_)
  subst h1
  exact wpIn_mono (h' B ι₁ w₁ a₁ ro (Nat.le_trans hB h2.fr.1) h2.rel h3 h4 (hc.mono h2.ge)) fun ex a₂ w₂ ⟨ι₂, g1, g2, g3, g4⟩ => ⟨ι₂, g1, h2.trans g2, g3, g4⟩

theorem AX.seq_out {x y : Code} (he : e ≠ .normal) (h : AX P R x f H e f' H') : AX P R (.seq x y) f H e f' H' := by
  intro B ι w a ro hB hr hf hm hc
  refine wpIn_seq (wpIn_mono (h B ι w a ro hB hr hf hm hc) fun ex a₁ w₁ ⟨ι₁, h1, h2, h3, h4⟩ => ?_)
  subst h1
  cases e with
  | normal => exact absurd rfl he
  | exit id => exact ⟨ι₁, rfl, h2, h3, h4⟩
  | ret => exact ⟨ι₁, rfl, h2, h3, h4⟩

theorem AX.cond {c : Operand} {x y : Code} {t : Bool} (ht : evA f c = .bool t) (h : AX P R (if t then x else y) f H e f' H') : AX P R (.cond c x y) f H e f' H' := by
  intro B ι w a ro hB hr hf hm hc
  have hv := evA_ok hf c
  rw [ht] at hv
  simp only [VR] at hv
  exact wpIn_cond hv (h B ι w a ro hB hr hf hm hc)

theorem AX.block {id : Nat} {c : Code} (h : AX P R c f H e f' H') : AX P R (.block id c) f H (if e = .exit id then .normal else e) f' H' := by
  intro B ι w a ro hB hr hf hm hc
  refine wpIn_block (wpIn_mono (h B ι w a ro hB hr hf hm hc) fun ex a₁ w₁ ⟨ι₁, h1, h2, h3, h4⟩ => ?_)
  subst h1
  cases e with
  | normal => exact ⟨ι₁, by simp [Ex.toExit], h2, h3, h4⟩
  | ret => exact ⟨ι₁, by simp [Ex.toExit], h2, h3, h4⟩
  | exit id' =>
    by_cases hid : id' = id
    · subst hid
      simp only [Ex.toExit, Exit.inBlock, if_true]
      exact ⟨ι₁, by simp, h2, h3, h4⟩
    · have : ¬ (Ex.exit id' = Ex.exit id) := by simpa using hid
      simp only [Ex.toExit, Exit.inBlock, hid, if_false, this]
      exact ⟨ι₁, by simp, h2, h3, h4⟩

theorem stepR_scope {b : Frame} {a : Act} {k : List Item} {cs : List Frame} {w : World} {c : Code} :
    step P (lone (b.atR a (.code (.scope c) :: k)) cs w) = .next (lone (b.atR a (.code c :: .inScope c :: k)) cs w) :=
  step_lone_go (by simp [stepG, stepG.exec, Frame.atR])

theorem stepR_inScope {b : Frame} {a : Act} {k : List Item} {cs : List Frame} {w : World} {c : Code} :
    step P (lone (b.atR a (.inScope c :: k)) cs w) = .next (lone (b.atR a k) cs w) :=
  step_lone_go (by simp [stepG, stepG.exec, Frame.atR])

theorem AX.scope {c : Code} (h : AX P R c f H e f' H') : AX P R (.scope c) f H e f' H' := by
  intro B ι w a ro hB hr hf hm hc b k cs hro hb hroom
  obtain ⟨ex, a₁, w₁, ⟨ι₁, h1, h2, h3, h4⟩, harr⟩ := h B ι w a ro hB hr hf hm hc b (.inScope c :: k) cs hro hb hroom
  subst h1
  have h0 : (lone (b.atR a (.code (.scope c) :: k)) cs w).fenced P (fence ro) := fenced_calm hb hroom rfl
  refine ⟨e.toExit, a₁, w₁, ⟨ι₁, rfl, h2, h3, h4⟩, ?_⟩
  cases e with
  | normal => exact .head h0 stepR_scope (StepsIn.trans harr (.one (fenced_calm hb hroom rfl) stepR_inScope))
  | exit id =>
    have hx : exitTo id (.inScope c :: k) = exitTo id k := by simp [exitTo]
    exact ⟨fun k' hk => .head h0 stepR_scope (harr.1 k' (by rw [hx]; exact hk)),
      fun hr' hk => let ⟨k₁, h1, h2⟩ := harr.2 hr' (by rw [hx]; exact hk); ⟨k₁, h1, .head h0 stepR_scope h2⟩⟩
  | ret => exact .of_steps (.one h0 stepR_scope) harr

/-- The rounds of a loop, to its end. -/
inductive AXL (P : Program) (R : Option Nat) (c : Code) : List V → Heap → Ex → List V → Heap → Prop
  | out {f f' : List V} {H H' : Heap} {e : Ex} (h : AX P R c f H e f' H') (he : e ≠ .normal) : AXL P R c f H e f' H'
  | step {f f₁ f' : List V} {H H₁ H' : Heap} {e : Ex} (h : AX P R c f H .normal f₁ H₁) (h' : AXL P R c f₁ H₁ e f' H') : AXL P R c f H e f' H'

theorem AX.loop {c : Code} (h : AXL P R c f H e f' H') : AX P R (.loop c) f H e f' H' := by
  intro B ι w a ro hB hr hf hm hc b k cs hro hb hroom
  have key : ∀ {f : List V} {H : Heap} {e : Ex} {f' : List V} {H' : Heap}, AXL P R c f H e f' H' → ∀ (ι : Mp) (w : World) (a : Act), B ≤ w.heap.size → Rel ι H w → VRs ι f a.tmps.toList → MOk B ι w a.defers → RC ι R ro →
      ∃ ex a' w', (∃ ι', ex = e.toExit ∧ Post ι H w ι' H' w' ∧ VRs ι' f' a'.tmps.toList ∧ MOk B ι' w' a'.defers) ∧
        ArrivesIn (Machine.fenced P (fence ro)) P (lone (b.atR a (.code c :: .inLoop c :: k)) cs w) b k cs ex a' w' := by
    intro f H e f' H' hl
    induction hl with
    | @out f f' H H' e h he =>
      intro ι w a hB hr hf hm hc
      obtain ⟨ex, a₁, w₁, ⟨ι₁, h1, h2, h3, h4⟩, harr⟩ := h B ι w a ro hB hr hf hm hc b (.inLoop c :: k) cs hro hb hroom
      subst h1
      refine ⟨_, a₁, w₁, ⟨ι₁, rfl, h2, h3, h4⟩, .pass (x := .inLoop c) rfl (fun _ _ => .inl ?_) harr⟩
      cases e <;> simp_all [Ex.toExit]
    | @step f f₁ f' H H₁ H' e h _ ih =>
      intro ι w a hB hr hf hm hc
      obtain ⟨ex, a₁, w₁, ⟨ι₁, h1, h2, h3, h4⟩, harr⟩ := h B ι w a ro hB hr hf hm hc b (.inLoop c :: k) cs hro hb hroom
      subst h1
      obtain ⟨ex, a₂, w₂, ⟨ι₂, g1, g2, g3, g4⟩, harr₂⟩ := ih ι₁ w₁ a₁ (Nat.le_trans hB h2.fr.1) h2.rel h3 h4 (hc.mono h2.ge)
      exact ⟨ex, a₂, w₂, ⟨ι₂, g1, h2.trans g2, g3, g4⟩, .of_steps (StepsIn.trans harr (.one (fenced_calm hb hroom rfl) stepR_inLoop)) harr₂⟩
  obtain ⟨ex, a', w', hq, harr⟩ := key h ι w a hB hr hf hm hc
  exact ⟨ex, a', w', hq, .of_steps (.one (fenced_calm hb hroom rfl) stepR_loop) harr⟩

/-! ### Operations in a row -/
def putA (f : List V) (dst : Option Tmp) (v : V) : List V :=
  match dst with
  | some d => f.set d v
  | none => f

theorem put_ok {ι : Mp} {f : List V} {a : Act} (hf : VRs ι f a.tmps.toList) {v : V} {r : Value} (hv : VR ι v r) (dst : Option Tmp) : VRs ι (putA f dst v) (a.put dst r).tmps.toList := by
  cases dst with
  | none => exact hf
  | some d => simp only [putA, Act.put, Array.toList_setIfInBounds]; exact hf.set hv d

theorem put_defers (a : Act) (dst : Option Tmp) (r : Value) : (a.put dst r).defers = a.defers := by cases dst <;> rfl

/-- Is an operation wanted? -/
def wantA (ops : Array Oper) (f : List V) (o : Oper) : Option Bool :=
  match o.guard with
  | none => some true
  | some (j, want) => match (ops[j]?).bind (·.dst) with
    | some t => match f.getD t .undef with
      | .bool b => some (b == want)
      | _ => none
    | none => none

theorem wantA_ok {ops : Array Oper} {f : List V} {o : Oper} {b : Bool} (h : wantA ops f o = some b) {ι : Mp} {a : Act} (hf : VRs ι f a.tmps.toList) : Region.wanted o (yielded ops a.tmps) = b := by
  unfold wantA at h
  unfold Region.wanted
  cases hg : o.guard with
  | none => simp [hg] at h ⊢; exact h
  | some g =>
    obtain ⟨j, want⟩ := g
    simp only [hg] at h ⊢
    cases ht : (ops[j]?).bind (·.dst) with
    | none => simp [ht] at h
    | some t =>
      simp only [ht] at h
      split at h
      · rename_i c hc
        simp only [Option.some.injEq] at h
        subst h
        have hget : f[t]? = some (.bool c) := by
          rw [List.getD_eq_getElem?_getD] at hc
          cases hft : f[t]? with
          | none => simp [hft] at hc
          | some u => simp [hft] at hc; rw [hc]
        obtain ⟨r, hr, hvr⟩ := hf.get t _ hget
        simp only [VR] at hvr
        subst hvr
        have hr' : a.tmps[t]? = some (.bool c) := by simpa using hr
        simp only [yielded, ht, Option.bind_some, hr']
        cases c <;> cases want <;> rfl
      · cases h

/-- One operation. -/
inductive OpS (P : Program) (E : Env) (ops : Array Oper) (o : Oper) (f : List V) (H : Heap) : List V → Heap → Prop
  | val {v : V} {H' : Heap} (hw : wantA ops f o = some true) (h : opA E H (evA f) o.op = some (.val v H')) : OpS P E ops o f H (putA f o.dst v) H'
  | skip {H' : Heap} (hw : wantA ops f o = some true) (h : opA E H (evA f) o.op = some (.skip H')) : OpS P E ops o f H (putA f o.dst .undef) H'
  | call {g v : V} {args : List V} {H' : Heap} (hw : wantA ops f o = some true) (h : opA E H (evA f) o.op = some (.call g args)) (hg : AG P g args H v H') : OpS P E ops o f H (putA f o.dst v) H'
  | pass (hw : wantA ops f o = some false) : OpS P E ops o f H (putA f o.dst .undef) H

theorem AG.enters {g v : V} {args : List V} {H H' : Heap} (hg : AG P g args H v H') {ι : Mp} {w : World} (hr : Rel ι H w) {rg : Value} (hv : VR ι g rg) {rargs : Array Value} (ha : VRs ι args rargs.toList) {ro : Option Nat} {c : Call} {gop : Operand} {ρ : Operand → Value}
    (hc : c.callee = .value gop) (hgop : ρ gop = rg) (hargs : c.args.map ρ = rargs) (ty : TypeId) :
    (∃ fid as, (do let d ← resolve ρ c ty; invoke d.target d.args : Sem Next).run P w = .ok (.enter fid as) w ∧
      CallsIn (fence ro) 0 P fid as w (fun e w' => ∃ rv ι', e = .returned rv ∧ Post ι H w ι' H' w' ∧ VR ι' v rv)) ∨
    (∃ l fn tmps assign body, (do let d ← resolve ρ c ty; invoke d.target d.args : Sem Next).run P w = .ok (.round l fn tmps assign body) w ∧
      RoundIn (fence ro) 0 P l fn tmps assign body w (fun e w' => ∃ rv ι', e = .returned rv ∧ Post ι H w ι' H' w' ∧ VR ι' v rv)) := by
  cases g <;> simp only [AG] at hg <;> try (exact hg.elim)
  case func fid first cap =>
    left
    simp only [VR] at hv
    obtain ⟨a', c', rfl, h1, h2⟩ := hv
    refine ⟨fid, a' ++ rargs ++ c', ?_, ?_⟩
    · simp only [Sem.run_bind, resolve, hc, hgop, hargs, Deferred.ofValue, Sem.run_pure, Result.andThen_ok, invoke]
      exact hg.1 _ w
    · have := hg.2 ι w (a' ++ rargs ++ c') hr (by simpa using (h1.append ha).append h2)
      cases ro <;> exact this
  case yld l =>
    right
    obtain ⟨L, hL, hlen, hg⟩ := hg
    simp only [VR] at hv
    have hlive : ∃ rl ro' n, ι l = .at rl ro' n := by
      cases hs : ι l with
      | abs => simp [hs] at hv
      | dead => rw [hr.dead l hs] at hL; cases hL
      | «at» rl q n => exact ⟨rl, q, n, rfl⟩
    obtain ⟨rl, q, n, hs⟩ := hlive
    simp only [hs] at hv
    obtain ⟨o, o', k1, k2, k3⟩ := hr.live l rl q n hs
    rw [hL] at k1
    simp only [Option.some.injEq] at k1
    subst k1
    obtain ⟨loop, rfl, l1, l2, l3, l4, l5, l6⟩ := k3
    have hR := hg ι w rl q n loop rargs hr hs k2 ha
    have hget : (getObj rl).run P w = .ok (.loop loop) w := by simp [getObj, Sem.run, k2]
    have hsz : rargs.size = loop.params.size := by
      have e1 := ha.length
      have e2 := congrArg List.length l3
      simp only [Array.length_toList] at e1 e2
      omega
    refine ⟨rl, loop.fn, _, loop.assign, loop.body, ?_, by cases ro <;> exact hR⟩
    simp only [Sem.run_bind, resolve, hc, hgop, hargs, hv, Deferred.ofValue, Sem.run_pure, Result.andThen_ok, invoke, Instr.yield, Instr.getLoop, hget, Array.empty_append]
    simp [hsz]

theorem letsOut_false {Q : Exit → Act → World → Prop} {A : World → Value → Prop} {w' : World} : (∃ rv : Value, (Ending.outgrown = .returned rv) ∧ A w' rv) → LetsOut Q := by
  rintro ⟨rv, h, _⟩; cases h

theorem OpS.sound {E : Env} (hE : EnvOk E P) {ops : Array Oper} {i : Nat} {o : Oper} (hi : ops[i]? = some o) (h : OpS P E ops o f H f' H') {ι : Mp} {w : World} {a : Act} {ro : Option Nat} {Q : Exit → Act → World → Prop} {K : Act → World → Prop}
    (hr : Rel ι H w) (hf : VRs ι f a.tmps.toList)
    (hK : ∀ ι' a' w', Post ι H w ι' H' w' → (∃ r v, a' = a.put o.dst r ∧ f' = putA f o.dst v ∧ VR ι' v r) → K a' w') : wpOpIn (fence ro) 0 P ops Q i K a w := by
  unfold wpOpIn
  simp only [hi]
  cases h with
  | pass hw =>
    rw [wantA_ok hw hf]
    simp only [Bool.false_eq_true, if_false]
    exact ⟨fun _ _ => trivial, hK ι _ w (Post.refl hr) ⟨_, _, rfl, rfl, by simp [VR]⟩⟩
  | @val v _ hw h =>
    rw [wantA_ok hw hf]
    simp only [if_true]
    have hs := opA_sound hE hr (evA_ok hf) (o := o) h
    obtain ⟨rv, w', ι', h1, h2, h3⟩ := hs
    refine ⟨fun _ _ => trivial, ?_⟩
    rw [Oper.semAt_eq _ _ _ (fun c hc => by rw [hc] at h; simp [opA, opT] at h), h1]
    exact hK ι' _ w' h2 ⟨_, _, rfl, rfl, h3⟩
  | skip hw h =>
    rw [wantA_ok hw hf]
    simp only [if_true]
    have hs := opA_sound hE hr (evA_ok hf) (o := o) h
    obtain ⟨w', ι', h1, h2⟩ := hs
    refine ⟨fun _ _ => trivial, ?_⟩
    rw [Oper.semAt_eq _ _ _ (fun c hc => by rw [hc] at h; simp [opA, opT] at h), h1]
    exact hK ι' _ w' h2 ⟨_, _, rfl, rfl, by simp [VR]⟩
  | @call g v args _ hw h hg =>
    rw [wantA_ok hw hf]
    simp only [if_true]
    have hs := opA_sound hE hr (evA_ok hf) (o := o) h
    obtain ⟨c, gop, rargs, h1, h2, h3, h4, h5⟩ := hs
    refine ⟨fun _ _ => trivial, ?_⟩
    rw [Oper.semAt_eq _ _ _ (fun c hc => by rw [hc] at h; simp [opA, opT] at h)]
    have hrun : execOp a.eval o = (do let d ← resolve a.eval c o.type; invoke d.target d.args : Sem Next) := by simp [execOp, h1]
    rw [hrun]
    rcases hg.enters hr h3 h5 (ro := ro) h2 rfl h4 o.type with ⟨fid, as, hrun, hcall⟩ | ⟨l, fn, tmps, assign, body, hrun, hround⟩
    · rw [hrun, Oper.uponIn_enter]
      refine ⟨fun h => by cases ro <;> simp [fence] at h, hcall.mono fun e w' he => ?_⟩
      obtain ⟨rv, ι', rfl, g1, g2⟩ := he
      exact hK ι' _ w' g1 ⟨_, _, rfl, rfl, g2⟩
    · rw [hrun, Oper.uponIn_round]
      refine ⟨fun h => by cases ro <;> simp [fence] at h, hround.mono fun e w' he => ?_⟩
      obtain ⟨rv, ι', rfl, g1, g2⟩ := he
      exact hK ι' _ w' g1 ⟨_, _, rfl, rfl, g2⟩

/-- Operations, one behind the other. -/
inductive OpsS (P : Program) (E : Env) (ops : Array Oper) : List Oper → List V → Heap → List V → Heap → Prop
  | nil {f : List V} {H : Heap} : OpsS P E ops [] f H f H
  | cons {o : Oper} {os : List Oper} {f f₁ f' : List V} {H H₁ H' : Heap} (h : OpS P E ops o f H f₁ H₁) (h' : OpsS P E ops os f₁ H₁ f' H') : OpsS P E ops (o :: os) f H f' H'

theorem AX.region {E : Env} (hE : EnvOk E P) {id : Nat} {ops : Array Oper} (h : OpsS P E ops ops.toList f H f' H') : AX P R (.region id ops false) f H .normal f' H' := by
  intro B ι w a ro hB hr hf hm hc
  refine wpIn_region ?_
  have main : ∀ {os : List Oper} {f₀ : List V} {H₀ : Heap} {f' : List V} {H' : Heap}, OpsS P E ops os f₀ H₀ f' H' → ∀ (k : Nat) (ι₁ : Mp) (w₁ : World) (a₁ : Act), ops.toList.drop k = os → k + os.length = ops.size →
      Post ι H w ι₁ H₀ w₁ → VRs ι₁ f₀ a₁.tmps.toList → MOk B ι₁ w₁ a₁.defers →
      wpOpsIn (fence ro) 0 P ops (fun ex a' w' => ∃ ι', ex = Exit.normal ∧ Post ι H w ι' H' w' ∧ VRs ι' f' a'.tmps.toList ∧ MOk B ι' w' a'.defers) (List.range' k os.length) a₁ w₁ := by
    intro os f₀ H₀ f' H' hs
    induction hs with
    | nil => intro k ι₁ w₁ a₁ _ _ hp hf hm; exact ⟨ι₁, rfl, hp, hf, hm⟩
    | @cons o os f₀ f₁ f' H₀ H₁ H' h _ ih =>
      intro k ι₁ w₁ a₁ hd hk hp hf hm
      have hi : ops[k]? = some o := by
        have : ops.toList[k]? = some o := by
          have := congrArg (·[0]?) hd
          simpa [List.getElem?_drop] using this
        simpa using this
      simp only [List.length_cons, List.range'_succ, wpOpsIn_cons]
      refine OpS.sound hE hi h hp.rel hf fun ι' a' w' hp' ⟨r, v, ha', hf', hv⟩ => ?_
      subst ha'
      refine ih (k + 1) ι' w' _ ?_ (by simp at hk; omega) (hp.trans hp') ?_ ?_
      · rw [← List.drop_drop, hd]; rfl
      · rw [hf']; exact put_ok (hf.mono hp'.ge) hv _
      · rw [put_defers]; exact hm.post hp'
  have := main h 0 ι w a rfl (by simp) (Post.refl hr) hf hm
  rw [List.range_eq_range', ← Array.length_toList]
  exact this

end control
end
end Go.Am
