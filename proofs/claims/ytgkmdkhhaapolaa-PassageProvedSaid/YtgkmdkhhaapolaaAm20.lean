/-
  THE ABSTRACT MACHINE, 20: what was run is so.
-/
import Derived.Test.YtgkmdkhhaapolaaAm19
namespace Go.Am
noncomputable section
open Classical

section runs
variable {P : Program} {E : Env}

/-- The functions that are known are entered by a call. -/
def Enters (E : Env) (P : Program) : Prop := ∀ fid fn c, E.body fid = some fn → fn.body = some c → ∀ (as : Array Value) (w : World), (callFunc fid as).run P w = .ok (.enter fid as) w
theorem Enters.of (hE : EnvOk E P) (h : (P.funcs.toList.all fun fn => !(fn.name == "runtime.NumGoroutine")) = true) : Enters E P := by
  intro fid fn c hb hc as w
  have hf := hE.body fid fn hb
  have hm : fn ∈ P.funcs.toList := by
    have : P.funcs.toList[fid]? = some fn := by simpa using hf
    exact List.mem_of_getElem? this
  have hn := List.all_eq_true.1 h fn hm
  simp only [Bool.not_eq_true'] at hn
  unfold callFunc
  simp [Sem.run_bind, program, Sem.run, hf, hc]
  simpa using hn

def RGood (P : Program) (E : Env) (t : Task) (H : Heap) (o : Out) : Prop :=
  match t, o with
  | .code R n c f, .code e f' H' => ∀ l, FR n l f → ∃ l', FR n l' f' ∧ AX P R c l H e l' H'
  | .loop R n c f, .code e f' H' => ∀ l, FR n l f → ∃ l', FR n l' f' ∧ AXL P R c l H e l' H'
  | .ops n ops os f, .code e f' H' => e = .normal ∧ ∀ l, FR n l f → ∃ l', FR n l' f' ∧ OpsS P E ops os l H l' H'
  | .draw n ops ancs todo seen f, .code e f' H' => e = .normal ∧ ∀ l, FR n l f → ∃ (F : Nat → List V) (G : Nat → Heap) (W : Nat → V) (C : Nat → Cd), F 0 = l ∧ G 0 = H ∧ FR n (F todo.length) f' ∧ G todo.length = H' ∧ Tr P E ops n ancs todo seen F G W C
  | .call g args, .val v H' => AG P g args H v H'
  | .fn fid args, .val v H' => AC P fid args H v H'
  | _, _ => True

theorem putK_eq {n : Nat} {l : List V} {f : TF} (h : FR n l f) (dst : Option Tmp) (v : V) (rec : Rec) (ops : Array Oper) (os : List Oper) (H : Heap) :
    ∃ f', FR n (putA l dst v) f' ∧ putK dst v rec n ops os f H = rec (.ops n ops os f') H := by
  cases dst with
  | none => exact ⟨f, h, rfl⟩
  | some d =>
    show ∃ f', FR n (l.set d v) f' ∧ putB (Nat.blt d n) d v rec n ops os f H = _
    cases hb : Nat.blt d n with
    | false =>
      rw [blt_iff] at hb
      refine ⟨f, ?_, rfl⟩
      rw [List.set_eq_of_length_le (by rw [h.1]; simpa using hb)]
      exact h
    | true =>
      rw [blt_iff] at hb
      exact ⟨_, h.put (by simpa using hb) v, S2.setK_eq _ _ _ _⟩

theorem resT_eq {n : Nat} {l : List V} {f : TF} (h : FR n l f) (H : Heap) (rs : List ResultVar) : resT E H f rs = resA E H l rs := by
  have h1 : resOneT E H f = resOneA E H l := by
    funext r
    cases r with
    | tmp t => simp only [resOneT, resOneA, h.2]
    | cell a t => simp only [resOneT, resOneA, h.2]
  unfold resT resA
  rw [h1]
  cases mapO (resOneA E H l) rs with
  | none => rfl
  | some vs =>
    match vs with
    | [] => rfl
    | [_] => rfl
    | _ :: _ :: _ => rfl

theorem zipPut_length : ∀ (ts : List Tmp) (as f : List V), (zipPut ts as f).length = f.length
  | [], as, f => by cases as <;> rfl
  | t :: ts, [], f => rfl
  | t :: ts, a :: as, f => by rw [zipPut, zipPut_length ts as]; simp

/-- The next operations, once the first one's way is known. -/
theorem good_next {n : Nat} {ops : Array Oper} {os : List Oper} {o : Oper} {f : TF} {H H' : Heap} {rec : Rec} (ih : ∀ t H, RGood P E t H (rec t H)) {dst : Option Tmp} {v : V}
    (hd : dst = o.dst) (h : ∀ l, FR n l f → OpS P E ops o l H (putA l o.dst v) H') : RGood P E (.ops n ops (o :: os) f) H (putK dst v rec n ops os f H') := by
  subst hd
  by_cases hex : ∃ l, FR n l f
  · obtain ⟨l0, h0⟩ := hex
    obtain ⟨f', g1, g2⟩ := putK_eq h0 o.dst v rec ops os H'
    rw [g2]
    have hi := ih (.ops n ops os f') H'
    cases hr : rec (.ops n ops os f') H' with
    | fail => trivial
    | val _ _ => trivial
    | code e f2 H2 =>
      rw [hr] at hi
      refine ⟨hi.1, fun l hl => ?_⟩
      have hll : l = l0 := by rw [← hl.list, ← h0.list]
      subst hll
      obtain ⟨l', k1, k2⟩ := hi.2 _ g1
      exact ⟨l', k1, .cons (h l hl) k2⟩
  · cases hr : putK o.dst v rec n ops os f H' with
    | fail => trivial
    | val _ _ => trivial
    | code e f2 H2 =>
      have hfr : FR n (TF.list n f) f ∨ ¬ FR n (TF.list n f) f := Classical.em _
      refine ⟨?_, fun l hl => absurd ⟨l, hl⟩ hex⟩
      -- nothing is known of such a frame; the end is the same
      have hput : ∃ f', putK o.dst v rec n ops os f H' = rec (.ops n ops os f') H' := by
        cases o.dst with
        | none => exact ⟨f, rfl⟩
        | some d =>
          show ∃ f', putB (Nat.blt d n) d v rec n ops os f H' = _
          cases Nat.blt d n with
          | false => exact ⟨f, rfl⟩
          | true => exact ⟨_, S2.setK_eq _ _ _ _⟩
      obtain ⟨f', hf'⟩ := hput
      have hi := ih (.ops n ops os f') H'
      rw [← hf', hr] at hi
      exact hi.1

theorem good_do {n : Nat} {ops : Array Oper} {os : List Oper} {o : Oper} {f : TF} {H : Heap} {rec : Rec} (ih : ∀ t H, RGood P E t H (rec t H))
    (hw : ∀ l, FR n l f → wantA ops l o = some true) : RGood P E (.ops n ops (o :: os) f) H (doIt E rec n ops os f H o) := by
  unfold doIt
  cases hr : opT o.op E H (evT f) with
  | none => trivial
  | some r =>
    cases r with
    | val v H' =>
      show RGood P E _ H (valK v fun v => putK o.dst v rec n ops os f H')
      rw [valK_eq]
      exact good_next ih rfl fun l hl => .val (hw l hl) (by rw [← hl.evT]; exact hr)
    | skip H' =>
      show RGood P E _ H (putK o.dst .undef rec n ops os f H')
      exact good_next ih rfl fun l hl => .skip (hw l hl) (by rw [← hl.evT]; exact hr)
    | call g args =>
      show RGood P E _ H (gotVal (listK valK args fun args => rec (.call g args) H) o.dst rec n ops os f)
      rw [listK_eq _ fun a k => valK_eq a k]
      have hi := ih (.call g args) H
      cases hc : rec (.call g args) H with
      | fail => trivial
      | code _ _ _ => trivial
      | val v H' =>
        rw [hc] at hi
        show RGood P E _ H (valK v fun v => putK o.dst v rec n ops os f H')
        rw [valK_eq]
        exact good_next ih rfl fun l hl => .call (hw l hl) (by rw [← hl.evT]; exact hr) hi

theorem good_ops {n : Nat} {ops : Array Oper} {os : List Oper} {f : TF} {H : Heap} {rec : Rec} (ih : ∀ t H, RGood P E t H (rec t H)) : RGood P E (.ops n ops os f) H (stepO os E rec n ops f H) := by
  cases os with
  | nil => exact ⟨rfl, fun l hl => ⟨l, hl, .nil⟩⟩
  | cons o os =>
    show RGood P E _ H (doOp (wantOf ops o.guard) E rec n ops os f H o)
    have hwt := fun l (hl : FR n l f) => hl.want ops o
    unfold wantT at hwt
    cases hg : wantOf ops o.guard with
    | none => trivial
    | some p =>
      rw [hg] at hwt
      cases p with
      | none => exact good_do ih fun l hl => (hwt l hl).symm
      | some q =>
        obtain ⟨t, want⟩ := q
        simp only at hwt
        show RGood P E _ H (doOB (sameBool (TF.get f t) want) E rec n ops os f H o)
        cases hs : sameBool (TF.get f t) want with
        | none => trivial
        | some b =>
          rw [hs] at hwt
          cases b with
          | true => exact good_do ih fun l hl => (hwt l hl).symm
          | false =>
            show RGood P E _ H (putK o.dst .undef rec n ops os f H)
            exact good_next ih rfl fun l hl => .pass (hwt l hl).symm

theorem good_draw {n : Nat} {ops : Array Oper} {ancs todo : List Nat} {seen : List Seen} {f : TF} {H : Heap} {rec : Rec} (ih : ∀ t H, RGood P E t H (rec t H)) : RGood P E (.draw n ops ancs todo seen f) H (stepD todo rec n ops ancs seen f H) := by
  cases todo with
  | nil =>
    refine ⟨rfl, fun l hl => ⟨fun _ => l, fun _ => H, fun _ => .undef, fun _ => .fu, rfl, rfl, hl, rfl, ?_, ?_, ?_⟩⟩
    · intro p i h; simp at h
    · intro p i h; simp at h
    · intro p q i j h; simp at h
  | cons i is =>
    show RGood P E _ H (drawOp (nthL ops.toList i) rec n ops ancs i is seen f H)
    rw [nthL_eq]
    cases ho : ops.toList[i]? with
    | none => trivial
    | some o =>
      show RGood P E _ H (cdK (cdOf ops o f H) fun cd => drawDid (rec (.ops n ops [o] f) H) rec n ops ancs i is cd seen H)
      rw [cdK_eq]
      have hi := ih (.ops n ops [o] f) H
      cases hr : rec (.ops n ops [o] f) H with
      | fail => trivial
      | val _ _ => trivial
      | code e f1 H1 =>
        rw [hr] at hi
        cases e with
        | exit _ => trivial
        | ret => trivial
        | normal =>
          show RGood P E _ H (Bool.rec .fail (rec (.draw n ops ancs is (⟨i, cdOf ops o f H, H, H1⟩ :: seen) f1) H1) (Nat.ble H.size H1.size && newOk ancs ⟨i, cdOf ops o f H, H, H1⟩ seen))
          cases hb : (Nat.ble H.size H1.size && newOk ancs ⟨i, cdOf ops o f H, H, H1⟩ seen) with
          | false => trivial
          | true =>
            simp only [Bool.and_eq_true, Nat.ble_eq] at hb
            have hi2 := ih (.draw n ops ancs is (⟨i, cdOf ops o f H, H, H1⟩ :: seen) f1) H1
            cases hr2 : rec (.draw n ops ancs is (⟨i, cdOf ops o f H, H, H1⟩ :: seen) f1) H1 with
            | fail => trivial
            | val _ _ => trivial
            | code e2 f2 H2 =>
              rw [hr2] at hi2
              refine ⟨hi2.1, fun l hl => ?_⟩
              obtain ⟨l1, g1, g2⟩ := hi.2 l hl
              cases g2 with
              | cons g2 g3 =>
                cases g3
                obtain ⟨v, hv, hp⟩ := g2.toV
                obtain ⟨F, G, W, C, k1, k2, k3, k4, k5⟩ := hi2.2 l1 g1
                refine ⟨_, _, _, _, rfl, rfl, k3, k4, Tr.cons (by simpa using ho) hl (v := v) (by rw [k2]; exact hv) (by rw [k1]; exact hp) (by rw [k2]; exact hb.1) (by rw [k2]; exact newOk_ok hb.2) (by rw [k2]; exact k5)⟩

theorem good_code (hE : EnvOk E P) {R : Option Nat} {n : Nat} {c : Code} {f : TF} {H : Heap} {rec : Rec} (ih : ∀ t H, RGood P E t H (rec t H)) : RGood P E (.code R n c f) H (stepC c rec R n f H) := by
  cases c with
  | skip => exact fun l hl => ⟨l, hl, AX.skip⟩
  | label _ => exact fun l hl => ⟨l, hl, AX.label⟩
  | exit id => exact fun l hl => ⟨l, hl, AX.exit⟩
  | ret => exact fun l hl => ⟨l, hl, AX.ret⟩
  | region id ops d =>
    show RGood P E _ H (regionB ops d rec n f H)
    cases d with
    | false =>
      show RGood P E _ H (rec (.ops n ops ops.toList f) H)
      have hi := ih (.ops n ops ops.toList f) H
      cases hr : rec (.ops n ops ops.toList f) H with
      | fail => trivial
      | val _ _ => trivial
      | code e f1 H1 =>
        rw [hr] at hi
        obtain ⟨rfl, hi⟩ := hi
        exact fun l hl => let ⟨l', g1, g2⟩ := hi l hl; ⟨l', g1, AX.region hE g2⟩
    | true =>
      show RGood P E _ H (drawP ops (planOf ops) rec n f H)
      cases hp : planOf ops with
      | none => trivial
      | some p =>
        obtain ⟨ancs, ord⟩ := p
        show RGood P E _ H (rec (.draw n ops ancs ord [] f) H)
        have hi := ih (.draw n ops ancs ord [] f) H
        cases hr : rec (.draw n ops ancs ord [] f) H with
        | fail => trivial
        | val _ _ => trivial
        | code e f1 H1 =>
          rw [hr] at hi
          obtain ⟨rfl, hi⟩ := hi
          refine fun l hl => ?_
          obtain ⟨F, G, W, C, k1, k2, k3, k4, k5⟩ := hi l hl
          have hP := planOf_ok hp
          have := Tr.AX hE hP k5 R id
          rw [k1, k2, ← hP.len, k4] at this
          exact ⟨_, k3, this⟩
  | seq a b =>
    show RGood P E _ H (thenCode (rec (.code R n a f) H) rec R n b)
    have hi := ih (.code R n a f) H
    cases hr : rec (.code R n a f) H with
    | fail => trivial
    | val _ _ => trivial
    | code e f1 H1 =>
      rw [hr] at hi
      cases e with
      | exit id => exact fun l hl => let ⟨l', g1, g2⟩ := hi l hl; ⟨l', g1, AX.seq_out (by simp) g2⟩
      | ret => exact fun l hl => let ⟨l', g1, g2⟩ := hi l hl; ⟨l', g1, AX.seq_out (by simp) g2⟩
      | normal =>
        show RGood P E _ H (rec (.code R n b f1) H1)
        have hi2 := ih (.code R n b f1) H1
        cases hr2 : rec (.code R n b f1) H1 with
        | fail => trivial
        | val _ _ => trivial
        | code e2 f2 H2 =>
          rw [hr2] at hi2
          exact fun l hl => let ⟨l1, g1, g2⟩ := hi l hl; let ⟨l2, g3, g4⟩ := hi2 l1 g1; ⟨l2, g3, AX.seq g2 g4⟩
  | cond c a b =>
    show RGood P E _ H (branch (evT f c) rec R n a b f H)
    cases hv : evT f c with
    | bool t =>
      cases t with
      | true =>
        show RGood P E _ H (rec (.code R n a f) H)
        have hi := ih (.code R n a f) H
        cases hr : rec (.code R n a f) H with
        | fail => trivial
        | val _ _ => trivial
        | code e f1 H1 =>
          rw [hr] at hi
          exact fun l hl => let ⟨l', g1, g2⟩ := hi l hl; ⟨l', g1, AX.cond (t := true) (by rw [← hl.evT]; exact hv) g2⟩
      | false =>
        show RGood P E _ H (rec (.code R n b f) H)
        have hi := ih (.code R n b f) H
        cases hr : rec (.code R n b f) H with
        | fail => trivial
        | val _ _ => trivial
        | code e f1 H1 =>
          rw [hr] at hi
          exact fun l hl => let ⟨l', g1, g2⟩ := hi l hl; ⟨l', g1, AX.cond (t := false) (by rw [← hl.evT]; exact hv) g2⟩
    | _ => trivial
  | block id b =>
    show RGood P E _ H (unblock (rec (.code R n b f) H) id)
    have hi := ih (.code R n b f) H
    cases hr : rec (.code R n b f) H with
    | fail => trivial
    | val _ _ => trivial
    | code e f1 H1 =>
      rw [hr] at hi
      have key : ∀ l, FR n l f → ∃ l', FR n l' f1 ∧ AX P R (.block id b) l H (if e = .exit id then .normal else e) l' H1 := fun l hl => let ⟨l', g1, g2⟩ := hi l hl; ⟨l', g1, AX.block g2⟩
      cases e with
      | normal => exact key
      | ret => exact key
      | exit id' =>
        show RGood P E _ H (Bool.casesOn (Nat.beq id' id) (.code (.exit id') f1 H1) (.code .normal f1 H1))
        cases hb : Nat.beq id' id with
        | true =>
          have : id' = id := Nat.eq_of_beq_eq_true hb
          subst this
          rw [if_pos rfl] at key
          exact key
        | false =>
          have : ¬ id' = id := Nat.ne_of_beq_eq_false hb
          have h2 : ¬ (Ex.exit id' = Ex.exit id) := by simpa using this
          simp only [h2, if_false] at key
          exact key
  | loop b =>
    show RGood P E _ H (rec (.loop R n b f) H)
    have hi := ih (.loop R n b f) H
    cases hr : rec (.loop R n b f) H with
    | fail => trivial
    | val _ _ => trivial
    | code e f1 H1 =>
      rw [hr] at hi
      exact fun l hl => let ⟨l', g1, g2⟩ := hi l hl; ⟨l', g1, AX.loop g2⟩
  | scope b =>
    show RGood P E _ H (rec (.code R n b f) H)
    have hi := ih (.code R n b f) H
    cases hr : rec (.code R n b f) H with
    | fail => trivial
    | val _ _ => trivial
    | code e f1 H1 =>
      rw [hr] at hi
      exact fun l hl => let ⟨l', g1, g2⟩ := hi l hl; ⟨l', g1, AX.scope g2⟩
  | rangeFunc g ps assign body =>
    show RGood P E _ H (rangeA rec R n f H ps.toList assign body (evT f g))
    cases hv : evT f g with
    | func gf first cap =>
      unfold rangeA
      simp only
      split
      · rename_i hR
        rw [heapK_eq]
        generalize hL : LoopA.mk .ready none (TF.list n f) ps.toList assign body = L
        have hi := ih (.fn gf (first ++ [.yld H.size] ++ cap)) (H.push (.loop L))
        cases hr : rec (.fn gf (first ++ [.yld H.size] ++ cap)) (H.push (.loop L)) with
        | fail => trivial
        | code _ _ _ => trivial
        | val v H2 =>
          rw [hr] at hi
          show RGood P E _ H (match H2.get H.size with
            | some (.loop L) => rangeEnd f H.size H2 L
            | _ => .fail)
          split
          · rename_i L2 hL2
            unfold rangeEnd
            split
            · trivial
            · rename_i hb
              cases hj : jumpEx L2.pending with
              | none => trivial
              | some e =>
                simp only [heapK_eq]
                refine fun l hl => ⟨l, hl, AX.rangeFunc (v := v) (by rw [← hl.evT]; exact hv) (fun l' hl' => ?_) ?_ hL2 (fun e => hb (by first | exact e | simpa using e)) hj⟩
                · subst hl'
                  simp only at hR
                  split at hR
                  · rename_i L' hL'; exact ⟨L', hL'⟩
                  · cases hR
                · rw [← hL, hl.list] at hi
                  exact hi
          · trivial
      · trivial
    | _ => trivial
  | _ => trivial

theorem good_loop {R : Option Nat} {n : Nat} {c : Code} {f : TF} {H : Heap} {rec : Rec} (ih : ∀ t H, RGood P E t H (rec t H)) : RGood P E (.loop R n c f) H (stepL (rec (.code R n c f) H) rec R n c) := by
  have hi := ih (.code R n c f) H
  cases hr : rec (.code R n c f) H with
  | fail => trivial
  | val _ _ => trivial
  | code e f1 H1 =>
    rw [hr] at hi
    cases e with
    | exit id => exact fun l hl => let ⟨l', g1, g2⟩ := hi l hl; ⟨l', g1, .out g2 (by simp)⟩
    | ret => exact fun l hl => let ⟨l', g1, g2⟩ := hi l hl; ⟨l', g1, .out g2 (by simp)⟩
    | normal =>
      show RGood P E _ H (rec (.loop R n c f1) H1)
      have hi2 := ih (.loop R n c f1) H1
      cases hr2 : rec (.loop R n c f1) H1 with
      | fail => trivial
      | val _ _ => trivial
      | code e2 f2 H2 =>
        rw [hr2] at hi2
        exact fun l hl => let ⟨l1, g1, g2⟩ := hi l hl; let ⟨l2, g3, g4⟩ := hi2 l1 g1; ⟨l2, g3, .step g2 g4⟩

theorem good_call {g : V} {args : List V} {H : Heap} {rec : Rec} (ih : ∀ t H, RGood P E t H (rec t H)) : RGood P E (.call g args) H (stepG g rec args H) := by
  cases g with
  | func fid first cap =>
    show RGood P E _ H (rec (.fn fid (first ++ args ++ cap)) H)
    have hi := ih (.fn fid (first ++ args ++ cap)) H
    cases hr : rec (.fn fid (first ++ args ++ cap)) H with
    | fail => trivial
    | code _ _ _ => trivial
    | val v H' => rw [hr] at hi; exact hi
  | yld l =>
    unfold stepG
    simp only
    split
    · rename_i L hL
      cases hb : Nat.beq args.length L.params.length with
      | false => trivial
      | true =>
        simp only
        obtain ⟨t, h1, h2⟩ := ofK_get (zipPut L.params args L.tmps) fun f => rec (.code (some l) L.tmps.length L.assign f) H
        rw [h1]
        have hfr := FR.ofList h2
        rw [zipPut_length] at hfr
        have hi := ih (.code (some l) L.tmps.length L.assign t) H
        cases hr : rec (.code (some l) L.tmps.length L.assign t) H with
        | fail => trivial
        | val _ _ => trivial
        | code e f1 H1 =>
          rw [hr] at hi
          cases e with
          | exit _ => trivial
          | ret => trivial
          | normal =>
            obtain ⟨l1, g1, g2⟩ := hi _ hfr
            show RGood P E _ H (match H1.get l with
              | some (.loop L1) => match L1.state with
                | .ready => roundEnd l (heapK (H1.set l (.loop { L1 with state := .busy })) fun H => rec (.code (some l) L.tmps.length L.body f1) H)
                | _ => .fail
              | _ => .fail)
            split
            · rename_i L1 hL1
              split
              · rename_i hst
                rw [heapK_eq]
                have hi2 := ih (.code (some l) L.tmps.length L.body f1) (H1.set l (.loop { L1 with state := .busy }))
                cases hr2 : rec (.code (some l) L.tmps.length L.body f1) (H1.set l (.loop { L1 with state := .busy })) with
                | fail => trivial
                | val _ _ => trivial
                | code e2 f2 H2 =>
                  rw [hr2] at hi2
                  obtain ⟨l2, g3, g4⟩ := hi2 _ g1
                  show RGood P E _ H (match H2.get l with
                    | some (.loop L) => heapK (H2.set l (.loop { L with state := if e2 = .normal then .ready else .done, pending := e2.jump })) fun H => .val (.bool (decide (e2 = .normal))) H
                    | _ => .fail)
                  split
                  · rename_i L2 hL2
                    rw [heapK_eq]
                    have := AY.intro hL (Nat.eq_of_beq_eq_true hb) g2 hL1 hst g4 hL2
                    exact this
                  · trivial
              · trivial
            · trivial
    · trivial
  | _ => trivial

theorem good_fn (hE : EnvOk E P) (hN : Enters E P) {fid : FuncId} {args : List V} {H : Heap} {rec : Rec} (ih : ∀ t H, RGood P E t H (rec t H)) : RGood P E (.fn fid args) H (stepF (E.body fid) E rec args H) := by
  cases hb : E.body fid with
  | none => trivial
  | some fn =>
    show RGood P E _ H (stepB fn.body E rec args H fn.ntmps fn.results.toList)
    cases hc : fn.body with
    | none => trivial
    | some c =>
      show RGood P E _ H (fnEnd (Bool.rec .fail (TF.ofK args fun f => rec (.code none fn.ntmps c f) H) (Nat.ble args.length fn.ntmps)) E fn.results.toList)
      cases hl : Nat.ble args.length fn.ntmps with
      | false => trivial
      | true =>
        simp only
        obtain ⟨t, h1, h2⟩ := ofK_get args fun f => rec (.code none fn.ntmps c f) H
        rw [h1]
        have hfr := FR.args (Nat.le_of_ble_eq_true hl) h2
        have hi := ih (.code none fn.ntmps c t) H
        have fin : ∀ (e : Ex) (f1 : TF) (H1 : Heap), (∀ id, e ≠ .exit id) → (∀ l, FR fn.ntmps l t → ∃ l', FR fn.ntmps l' f1 ∧ AX P none c l H e l' H1) → RGood P E (.fn fid args) H (outVal H1 (resT E H1 f1 fn.results.toList)) := by
          intro e f1 H1 he hx
          obtain ⟨l1, g1, g2⟩ := hx _ hfr
          rw [resT_eq g1]
          cases hres : resA E H1 l1 fn.results.toList with
          | none => trivial
          | some v =>
            show RGood P E _ H (valK v fun v => .val v H1)
            rw [valK_eq]
            exact AC.of_AX hE (hE.body fid fn hb) hc (hN fid fn c hb hc) g2 he hres
        cases hr : rec (.code none fn.ntmps c t) H with
        | fail => trivial
        | val _ _ => trivial
        | code e f1 H1 =>
          rw [hr] at hi
          cases e with
          | exit _ => trivial
          | normal => exact fin .normal f1 H1 (by simp) hi
          | ret => exact fin .ret f1 H1 (by simp) hi

theorem run_good (hE : EnvOk E P) (hN : Enters E P) : ∀ (n : Nat) (t : Task) (H : Heap), RGood P E t H (run E n t H) := by
  intro n
  induction n with
  | zero => intro t H; cases t <;> trivial
  | succ n ih =>
    intro t H
    show RGood P E t H (stepT t E (run E n) H)
    cases t with
    | code R n c f => exact good_code hE ih
    | loop R n c f => exact good_loop ih
    | ops n ops os f => exact good_ops ih
    | draw n ops ancs todo seen f => exact good_draw ih
    | call g args => exact good_call ih
    | fn fid args => exact good_fn hE hN ih

/-- A closed call that was run and gave true: in whatever heap. -/
theorem closed_true (hE : EnvOk E P) (hN : Enters E P) {n : Nat} {fid : FuncId} (h : isTrue (run E n (.fn fid []) Heap.empty) = true) (H : Heap) : AC P fid [] H (.bool true) H := by
  have hg := run_good hE hN n (.fn fid []) Heap.empty
  cases hr : run E n (.fn fid []) Heap.empty with
  | fail => rw [hr] at h; cases h
  | code _ _ _ => rw [hr] at h; cases h
  | val v H1 =>
    rw [hr] at h hg
    have hv : v = .bool true := by
      cases v with
      | bool b => cases b with
        | true => rfl
        | false => cases h
      | _ => cases h
    subst hv
    have hg : AC P fid [] Heap.empty (.bool true) H1 := hg
    refine ⟨hg.1, fun ι w rargs hr ha => (hg.2 (fun _ => .abs) w rargs ?_ ?_).mono fun e w' he => ?_⟩
    · exact ⟨fun _ _ => rfl, (fun _ _ _ _ h => by cases h), (fun _ h => by cases h), (fun _ _ _ _ _ _ _ h _ => by cases h)⟩
    · simpa [VRs] using ha
    · obtain ⟨rv, ι', rfl, hp, hv⟩ := he
      refine ⟨rv, ι, rfl, ?_, hv⟩
      have hold : ∀ r, r < w.heap.size → w'.heap[r]? = w.heap[r]? := fun r hr => hp.fr.2 r hr fun _ _ _ _ h => by cases h
      refine ⟨.refl _, ⟨hr.dom, fun b rb ro n hb => ?_, hr.dead, hr.inj⟩, ⟨hp.fr.1, fun r hr _ => hold r hr⟩, fun b rb ro n hb => .inl ⟨b, ro, n, hb⟩, fun _ h1 h2 => absurd h1 h2, Nat.le_refl _, fun b rb ro n q1 q2 => ⟨q1, q2, hold _ (hr.lt q1)⟩, hp.out⟩
      obtain ⟨o, o', h1, h2, h3⟩ := hr.live b rb ro n hb
      exact ⟨o, o', h1, by rw [hold _ (hr.lt hb)]; exact h2, h3⟩

end runs
end
end Go.Am
