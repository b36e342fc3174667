/-
  THE ABSTRACT MACHINE, 8: all operations.
-/
import Derived.Test.YtgkmdkhhaapolaaAm7
namespace Go.Am

theorem PRs.set {ι : Mp} {ps : List (V × V)} {es : List MapEntry} (h : PRs ι ps es) {p : V × V} {f : MapEntry → MapEntry} (hp : ∀ e, PR ι p (f e)) : ∀ i, PRs ι (ps.set i p) (es.modify i f) := by
  induction h with
  | nil => intro i; cases i <;> simp <;> exact .nil
  | @cons q e ps es hq hs ih =>
    intro i
    cases i with
    | zero => simp only [List.set_cons_zero, List.modify_zero_cons]; exact .cons (hp e) hs
    | succ i => simp only [List.set_cons_succ, List.modify_succ_cons]; exact .cons hq (ih i)

theorem PRs.snoc {ι : Mp} {ps : List (V × V)} {es : List MapEntry} (h : PRs ι ps es) {p : V × V} {e : MapEntry} (hp : PR ι p e) : PRs ι (ps ++ [p]) (es ++ [e]) := by
  induction h with
  | nil => exact .cons hp .nil
  | cons hq _ ih => exact .cons hq ih

theorem PRs.get {ι : Mp} {ps : List (V × V)} {es : List MapEntry} (h : PRs ι ps es) : ∀ {i : Nat} {p : V × V}, ps[i]? = some p → ∃ e, es[i]? = some e ∧ PR ι p e := by
  induction h with
  | nil => intro i p hp; simp at hp
  | @cons q e ps es hq hs ih =>
    intro i p hp
    cases i with
    | zero => simp at hp; subst hp; exact ⟨e, rfl, hq⟩
    | succ i => simpa using ih (by simpa using hp)

theorem findA_get {k : V} : ∀ {es : List (V × V)} {i j : Nat} {x : V}, findA k es i = some (j, x) → ∃ a m, j = i + m ∧ es[m]? = some (a, x) ∧ sameV k a = true
  | [], i, j, x, h => by simp [findA] at h
  | (a, y) :: es, i, j, x, h => by
    simp only [findA] at h
    split at h
    · rename_i hs
      simp only [Option.some.injEq, Prod.mk.injEq] at h
      obtain ⟨rfl, rfl⟩ := h
      exact ⟨a, 0, rfl, rfl, hs⟩
    · obtain ⟨a', m, rfl, h2, h3⟩ := findA_get h
      exact ⟨a', m + 1, by omega, by simpa using h2, h3⟩

theorem sameBits_ints {ι : Mp} : ∀ {xs ys : List V} {rx ry : List Value}, sameIs xs ys = true → VRs ι xs rx → VRs ι ys ry → rx.length = ry.length ∧ (ry.zip rx).all (fun (x, y) => Instr.sameBits 9999 x y) = true
  | [], ys, rx, ry, h, hx, hy => by
    cases ys with
    | nil => simp only [VRs] at hx hy; subst hx; subst hy; simp
    | cons y ys => simp [sameIs] at h
  | x :: xs, ys, rx, ry, h, hx, hy => by
    cases ys with
    | nil => simp [sameIs] at h
    | cons y ys =>
      cases x <;> try (simp [sameIs] at h; done)
      cases y <;> simp [sameIs] at h
      obtain ⟨⟨rfl, rfl⟩, h2⟩ := h
      simp only [VRs, VR] at hx hy
      obtain ⟨_, rx', rfl, rfl, hx⟩ := hx
      obtain ⟨_, ry', rfl, rfl, hy⟩ := hy
      obtain ⟨g1, g2⟩ := sameBits_ints h2 hx hy
      simp only [List.length_cons, g1, List.zip_cons_cons, List.all_cons, g2, Bool.and_true, true_and]
      simp [Instr.sameBits]

theorem sameBits_ok {ι : Mp} {k a : V} (h : sameV k a = true) {rk ra : Value} (hk : VR ι k rk) (ha : VR ι a ra) : Instr.sameBits 10000 ra rk = true := by
  unfold sameV at h
  split at h
  · simp only [Bool.and_eq_true, beq_iff_eq] at h
    obtain ⟨rfl, rfl⟩ := h
    simp only [VR] at hk ha; subst hk; subst ha
    simp [Instr.sameBits]
  · simp only [VR] at hk ha; subst hk; subst ha
    simp only [Instr.sameBits]
    rw [beq_toListBytes]
    simp only [beq_iff_eq] at h ⊢
    exact h.symm
  · simp only [VR] at hk ha
    obtain ⟨ck, rfl, hk⟩ := hk
    obtain ⟨ca, rfl, ha⟩ := ha
    obtain ⟨g1, g2⟩ := sameBits_ints h hk ha
    have : Instr.sameBits (9999 + 1) (.agg ca) (.agg ck) = true := by
      rw [Instr.sameBits]
      simp only [Array.length_toList] at g1
      simp only [g1, beq_self_eq_true, Bool.true_and]
      exact g2
    exact this
  · cases h

theorem mapUpdateA_ok {E : Env} {P : Program} (hE : EnvOk E P) {ι : Mp} {H H' : Heap} {w : World} (hr : Rel ι H w) {t : TypeId} {m k x : V} (h : mapUpdateA E H t m k x = some H') {rm rk rx : Value} (hm : VR ι m rm) (hk : VR ι k rk) (hx : VR ι x rx) :
    ∃ w', (Instr.mapUpdate t rm rk rx).run P w = .ok () w' ∧ Post ι H w ι H' w' := by
  unfold mapUpdateA at h
  split at h
  · rename_i kt e b hu
    split at h
    · rename_i hko
      split at h
      · rename_i es hg
        split at h
        · rename_i hall
          simp only [VR] at hm
          have hb : ι b ≠ .abs := fun e => by simp [e] at hm
          obtain ⟨rb, ro, n, res, clock, h1, h2, h3⟩ := hr.map hg hb
          simp only [h1] at hm
          subst hm
          have hck := keyOk_ok (w := w) hE hko hk false
          obtain ⟨r, hfk, hfr⟩ := findKey_ok (w := w) hE hko hk h3 hall
          unfold FoundR at hfr
          have hlt : rb < w.heap.size := (Array.getElem?_eq_some_iff.1 h2).1
          have setRun : ∀ o : Go.Obj, (setObj rb o).run P w = .ok () { w with heap := w.heap.setIfInBounds rb o } := by
            intro o; simp [setObj, Sem.run, h2]
          split at h
          · rename_i j y hf
            simp only [Option.some.injEq] at h; subst h
            rw [hf] at hfr
            obtain ⟨ry, rfl, _⟩ := hfr
            obtain ⟨a, mm, hj, hga, hsame⟩ := findA_get hf
            simp only [Nat.zero_add] at hj
            subst hj
            obtain ⟨e0, he0, hpr⟩ := h3.get hga
            have he0' : res[j]? = some e0 := by simpa using he0
            have hstay : (Instr.keyThatStays e0.key rk).run P w = .ok rk w := by simp [Instr.keyThatStays, sameBits_ok hsame hk hpr.1]
            refine ⟨{ w with heap := w.heap.setIfInBounds rb (.map (res.modify j fun e => { e with key := rk, val := rx }) clock) }, ?_, ?_⟩
            · simp [Instr.mapUpdate, run_und hE hu, run_getMap h2, hck, hfk, he0', hstay, setRun]
            · refine Post.set hr h1 (by simp [hg, Obj.own]) _ (.map (res.modify j fun e => { e with key := rk, val := rx }) clock) (by simp) (by simp [hlt]) (fun q hq => by simp [Array.getElem?_setIfInBounds_ne (Ne.symm hq)]) ⟨_, clock, rfl, ?_⟩
              rw [Array.toList_modify]
              exact h3.set (fun e => ⟨hk, hx⟩) j
          · rename_i hf
            simp only [Option.some.injEq] at h; subst h
            rw [hf] at hfr
            subst hfr
            refine ⟨{ w with heap := w.heap.setIfInBounds rb (.map (res.push { key := rk, val := rx, born := clock }) (clock + 1)) }, ?_, ?_⟩
            · simp [Instr.mapUpdate, run_und hE hu, run_getMap h2, hck, hfk, setRun]
            · refine Post.set hr h1 (by simp [hg, Obj.own]) _ (.map (res.push { key := rk, val := rx, born := clock }) (clock + 1)) (by simp) (by simp [hlt]) (fun q hq => by simp [Array.getElem?_setIfInBounds_ne (Ne.symm hq)]) ⟨_, _, rfl, ?_⟩
              rw [Array.toList_push]
              exact h3.snoc ⟨hk, hx⟩
        · cases h
      · cases h
    · cases h
  · cases h

/-- What an operation comes to, in the model: a value; or it stops for a call. -/
def OpSays (P : Program) (ι : Mp) (H : Heap) (w : World) (ρ : Operand → Value) (o : Oper) : Res → Prop
  | .val v H' => ∃ rv w' ι', (execOp ρ o).run P w = .ok (.value rv) w' ∧ Post ι H w ι' H' w' ∧ VR ι' v rv
  | .skip H' => ∃ w' ι', (execOp ρ o).run P w = .ok .skip w' ∧ Post ι H w ι' H' w'
  | .call g args => ∃ c gop rargs, o.op = .call c ∧ c.callee = .value gop ∧ VR ι g (ρ gop) ∧ c.args.map ρ = rargs ∧ VRs ι args rargs.toList

theorem VRs.map_ev {ι : Mp} {ev : Operand → V} {ρ : Operand → Value} (hev : ∀ x, VR ι (ev x) (ρ x)) : ∀ l : List Operand, VRs ι (l.map ev) (l.map ρ)
  | [] => VRs.nil
  | x :: l => VRs.cons (hev x) (VRs.map_ev hev l)

theorem PtR.map_ev {ι : Mp} {ev : Operand → V} {ρ : Operand → Value} (hev : ∀ x, VR ι (ev x) (ρ x)) : ∀ l : List (Nat × Operand), PtR ι (l.map fun p => (p.1, ev p.2)) (l.map fun p => (p.1, ρ p.2))
  | [] => .nil
  | p :: l => .cons (hev p.2) (PtR.map_ev hev l)

theorem builtinA_ok {E : Env} {P : Program} (hE : EnvOk E P) {ι : Mp} {H : Heap} {w : World} (hr : Rel ι H w) {b : Builtin} {ts : List TypeId} {vargs : List V} {r : Res} (h : builtinA E H b ts vargs = some r) {rargs : List Value} (ha : VRs ι vargs rargs) (type : TypeId) (consts : Array Bool) :
    ∃ v H' rv w' ι', r = .val v H' ∧ (builtin b ts.toArray type consts rargs.toArray).run P w = .ok (.value rv) w' ∧ Post ι H w ι' H' w' ∧ VR ι' v rv := by
  unfold builtinA at h
  split at h
  · rename_i t x
    simp only [VRs] at ha
    obtain ⟨rx, rs', rfl, hx, rfl⟩ := ha
    cases hb : lenA E H t x with
    | none => simp [hb] at h
    | some v =>
      simp only [hb, Option.map_some, Option.some.injEq] at h; subst h
      obtain ⟨rv, h1, h2⟩ := lenA_ok (P := P) (ty := type) hE hr hb hx
      exact ⟨_, _, rv, w, ι, rfl, by simp [builtin, h1], Post.refl hr, h2⟩
  · rename_i t u s x
    simp only [VRs] at ha
    obtain ⟨rs, q, rfl, hs, rx, q', rfl, hx, rfl⟩ := ha
    split at h
    · rename_i htu
      subst htu
      cases hb : appendA E H t s x with
      | none => simp [hb, okPair, okClear] at h
      | some v =>
        obtain ⟨v, H'⟩ := v
        simp only [hb, okPair, heapK_eq, Option.some.injEq] at h; subst h
        obtain ⟨rv, w', ι', h1, h2, h3⟩ := appendA_ok (P := P) (ty := type) hE hr hb hs hx
        exact ⟨_, _, rv, w', ι', rfl, by simp [builtin, h1], h2, h3⟩
    · cases h
  · rename_i t ts d s
    simp only [VRs] at ha
    obtain ⟨rd, q, rfl, hd, rs, q', rfl, hs, rfl⟩ := ha
    cases hb : copyA E H t d s with
    | none => simp [hb, okPair, okClear] at h
    | some v =>
      obtain ⟨v, H'⟩ := v
      simp only [hb, okPair, heapK_eq, Option.some.injEq] at h; subst h
      obtain ⟨rv, w', h1, h2, h3⟩ := copyA_ok (P := P) (ty := type) (ts := ts) hE hr hb hd hs
      exact ⟨_, _, rv, w', ι, rfl, by simp [builtin, h1], h2, h3⟩
  · rename_i t x
    simp only [VRs] at ha
    obtain ⟨rx, rs', rfl, hx, rfl⟩ := ha
    cases hb : clearA E H t x with
    | none => simp [hb, okPair, okClear] at h
    | some H' =>
      simp only [hb, okClear, heapK_eq, Option.some.injEq] at h; subst h
      obtain ⟨w', h1, h2⟩ := clearA_ok (P := P) (ty := type) hE hr hb hx
      exact ⟨_, _, .tuple #[], w', ι, rfl, by simp [builtin, h1], h2, by simp only [VR]; exact ⟨#[], rfl, VRs.nil⟩⟩
  · rename_i x xs
    simp only [VRs] at ha
    obtain ⟨rx, rs', rfl, hx, hxs⟩ := ha
    cases hb : foldO minA x xs with
    | none => simp [hb] at h
    | some v =>
      simp only [hb, Option.map_some, Option.some.injEq] at h; subst h
      obtain ⟨rv, h1, h2⟩ := foldO_ok (P := P) (w := w) (g := Builtin.min2) (fun x y z rx ry h hx hy => minA_ok x y z rx ry h hx hy) hb hx hxs
      exact ⟨_, _, rv, w, ι, rfl, by simp [builtin, Builtin.min_, h1], Post.refl hr, h2⟩
  · rename_i x xs
    simp only [VRs] at ha
    obtain ⟨rx, rs', rfl, hx, hxs⟩ := ha
    cases hb : foldO maxA x xs with
    | none => simp [hb] at h
    | some v =>
      simp only [hb, Option.map_some, Option.some.injEq] at h; subst h
      obtain ⟨rv, h1, h2⟩ := foldO_ok (P := P) (w := w) (g := Builtin.max2) (fun x y z rx ry h hx hy => maxA_ok x y z rx ry h hx hy) hb hx hxs
      exact ⟨_, _, rv, w, ι, rfl, by simp [builtin, Builtin.max_, h1], Post.refl hr, h2⟩
  · cases h

theorem opA_sound {E : Env} {P : Program} (hE : EnvOk E P) {ι : Mp} {H : Heap} {w : World} (hr : Rel ι H w) {ev : Operand → V} {ρ : Operand → Value} (hev : ∀ x, VR ι (ev x) (ρ x)) {o : Oper} {r : Res} (h : opA E H ev o.op = some r) :
    OpSays P ι H w ρ o r := by
  obtain ⟨dst, op, type, pos, after, guard⟩ := o
  simp only at h
  cases op <;> simp only [opA, opT] at h <;> try (cases h; done)
  case move x =>
    simp only [Option.some.injEq] at h; subst h
    exact ⟨ρ x, w, ι, by simp [execOp], Post.refl hr, hev x⟩
  case assign x =>
    simp only [Option.some.injEq] at h; subst h
    exact ⟨ρ x, w, ι, by simp [execOp], Post.refl hr, hev x⟩
  case pick c a b =>
    unfold opPick at h
    split at h
    · rename_i t ht
      simp only [Option.some.injEq] at h; subst h
      have hc := hev c
      rw [ht] at hc
      simp only [VR] at hc
      refine ⟨if t then ρ a else ρ b, w, ι, by simp [execOp, hc, asBool], Post.refl hr, ?_⟩
      cases t
      · simpa using hev b
      · simpa using hev a
    · cases h
  case alloc t =>
    cases hz : E.zeros t with
    | none => simp [hz, opAlloc] at h
    | some zs =>
      simp only [hz, opAlloc, heapK_eq, Option.some.injEq] at h; subst h
      obtain ⟨i, z, hi, hiz, hrz, hzr⟩ := run_zeros (P := P) (w := w) hE hz
      obtain ⟨ι', h1, h2⟩ := newA_ok hr (hzr ι) t
      refine ⟨.pointer (some ⟨w.heap.size, 0, none⟩), _, ι', ?_, h1, by simp [newA, VR, h2]⟩
      simp [execOp, Instr.alloc, hrz, newVar, newRow]
  case box t x =>
    cases hc : (ev x).cells? with
    | none => simp [hc, opAlloc] at h
    | some cs =>
      simp only [hc, opAlloc, heapK_eq, Option.some.injEq] at h; subst h
      obtain ⟨ι', h1, h2⟩ := newA_ok hr (cells?_ok hc (hev x)) t
      refine ⟨.pointer (some ⟨w.heap.size, 0, none⟩), _, ι', ?_, h1, by simp [newA, VR, h2]⟩
      simp [execOp, Instr.box, newVar, newRow]
  case build t ps =>
    cases hb : buildA E t (ps.toList.map fun p => (p.1, ev p.2)) with
    | none => simp [hb, okVal_none, okVal_some, okPair, okSkip] at h
    | some v =>
      simp only [hb, okVal_none, okVal_some, okPair, okSkip, Option.some.injEq] at h; subst h
      obtain ⟨rv, h1, h2⟩ := buildA_ok (P := P) (w := w) (ι := ι) (qs := ps.map fun p => (p.1, ρ p.2)) hE hb (by simpa using PtR.map_ev hev ps.toList)
      exact ⟨rv, w, ι, by simp [execOp, h1], Post.refl hr, h2⟩
  case buildSlice t n ps =>
    cases hb : buildSliceA E H t n (ps.toList.map fun p => (p.1, ev p.2)) with
    | none => simp [hb, okVal_none, okVal_some, okPair, okSkip] at h
    | some v =>
      obtain ⟨v, H'⟩ := v
      simp only [hb, okVal_none, okVal_some, okPair, okSkip, heapK_eq, Option.some.injEq] at h; subst h
      obtain ⟨rv, w', ι', h1, h2, h3⟩ := buildSliceA_ok (P := P) (qs := ps.map fun p => (p.1, ρ p.2)) hE hr hb (by simpa using PtR.map_ev hev ps.toList)
      exact ⟨rv, w', ι', by simp [execOp, h1], h2, h3⟩
  case load t a =>
    cases hl : loadA E H t (ev a) with
    | none => simp [hl, okVal_none, okVal_some, okSkip] at h
    | some v =>
      simp only [hl, okVal_none, okVal_some, okSkip, Option.some.injEq] at h; subst h
      obtain ⟨rv, h1, h2⟩ := loadA_ok (P := P) hE hr hl (hev a)
      exact ⟨rv, w, ι, by simp [execOp, h1], Post.refl hr, h2⟩
  case store t a x =>
    cases hl : storeA E H t (ev a) (ev x) with
    | none => simp [hl, okVal_none, okVal_some, okSkip] at h
    | some H' =>
      simp only [hl, okVal_none, okVal_some, okSkip, heapK_eq, Option.some.injEq] at h; subst h
      obtain ⟨w', h1, h2⟩ := storeA_ok (P := P) hE hr hl (hev a) (hev x)
      exact ⟨w', ι, by simp [execOp, h1], h2⟩
  case nilCheck x =>
    have hx := hev x
    unfold opNil at h
    split at h
    · rename_i l hl
      simp only [Option.some.injEq] at h; subst h
      rw [hl] at hx
      obtain ⟨a, ha⟩ := hx.ptr_some
      exact ⟨.pointer (some a), w, ι, by simp [execOp, ha], Post.refl hr, ha ▸ hx⟩
    · rename_i f a c hl
      simp only [Option.some.injEq] at h; subst h
      rw [hl] at hx
      have hx' := hx
      simp only [VR] at hx'
      obtain ⟨a', c', ha, _⟩ := hx'
      exact ⟨.func (.func f) a' c', w, ι, by simp [execOp, ha], Post.refl hr, ha ▸ hx⟩
    · cases h
  case binOp op t x y yt =>
    cases hb : binA E op t (ev x) (ev y) with
    | none => simp [hb, okVal_none, okVal_some, okPair, okSkip] at h
    | some v =>
      simp only [hb, okVal_none, okVal_some, okPair, okSkip, Option.some.injEq] at h; subst h
      obtain ⟨rv, h1, h2⟩ := binA_ok (P := P) (w := w) hE hb x y (hev x) (hev y)
      refine ⟨rv, w, ι, ?_, Post.refl hr, h2⟩
      simp only [execOp]
      rw [Sem.run_bind, h1]
      rfl
  case unOp op t x =>
    cases hb : unA op (ev x) with
    | none => simp [hb, okVal_none, okVal_some, okPair, okSkip] at h
    | some v =>
      simp only [hb, okVal_none, okVal_some, okPair, okSkip, Option.some.injEq] at h; subst h
      obtain ⟨rv, h1, h2⟩ := unA_ok (P := P) (w := w) hb (hev x)
      exact ⟨rv, w, ι, by simp [execOp, h1], Post.refl hr, h2⟩
  case convert s d x =>
    cases hb : convA E s d (ev x) with
    | none => simp [hb, okVal_none, okVal_some, okPair, okSkip] at h
    | some v =>
      simp only [hb, okVal_none, okVal_some, okPair, okSkip, Option.some.injEq] at h; subst h
      obtain ⟨rv, h1, h2⟩ := convA_ok (P := P) (w := w) hE hb (hev x)
      exact ⟨rv, w, ι, by simp [execOp, h1], Post.refl hr, h2⟩
  case makeFunc fn first cap =>
    unfold opFunc at h
    split at h
    case h_2 => cases h
    rename_i f
    simp only [Option.some.injEq] at h
    subst h
    refine ⟨.func (.func f) (first.map ρ) (cap.map ρ), w, ι, by simp [execOp, Instr.makeFunc], Post.refl hr, ?_⟩
    simp only [VR]
    exact ⟨_, _, rfl, by simpa using VRs.map_ev hev first.toList, by simpa using VRs.map_ev hev cap.toList⟩
  case makeMap t res =>
    cases res with
    | some x => cases h
    | none =>
      simp only [opMap, heapK_eq, Option.some.injEq] at h; subst h
      have hp := Post.push (w' := { w with heap := w.heap.push (.map #[] 0) }) hr (.map []) (.map #[] 0) 0 rfl ⟨#[], 0, rfl, .nil⟩
      exact ⟨.map (some w.heap.size), _, _, by simp [execOp, Instr.makeMap], hp, by simp [VR]⟩
  case makeSlice t l c =>
    cases hb : makeSliceA E H t (ev l) (ev c) with
    | none => simp [hb, okVal_none, okVal_some, okPair, okSkip] at h
    | some v =>
      obtain ⟨v, H'⟩ := v
      simp only [hb, okVal_none, okVal_some, okPair, okSkip, heapK_eq, Option.some.injEq] at h; subst h
      obtain ⟨rv, w', ι', h1, h2, h3⟩ := makeSliceA_ok (P := P) hE hr hb (hev l) (hev c)
      exact ⟨rv, w', ι', by simp [execOp, h1], h2, h3⟩
  case slice t x lo hi mx =>
    cases hb : sliceA E H t (ev x) (lo.map ev) (hi.map ev) (mx.map ev) with
    | none => simp [hb, okVal_none, okVal_some, okPair, okSkip] at h
    | some v =>
      simp only [hb, okVal_none, okVal_some, okPair, okSkip, Option.some.injEq] at h; subst h
      obtain ⟨rv, h1, h2⟩ := sliceA_ok (P := P) hE hr hb (hev x) (optV hev lo).1 (optV hev lo).2 (optV hev hi).1 (optV hev hi).2 (optV hev mx).1 (optV hev mx).2
      exact ⟨rv, w, ι, by simp [execOp, h1], Post.refl hr, h2⟩
  case fieldAddr t x i =>
    cases hb : fieldAddrA E t (ev x) i with
    | none => simp [hb, okVal_none, okVal_some, okPair, okSkip] at h
    | some v =>
      simp only [hb, okVal_none, okVal_some, okPair, okSkip, Option.some.injEq] at h; subst h
      obtain ⟨rv, h1, h2⟩ := fieldAddrA_ok (P := P) (w := w) hE hb (hev x)
      exact ⟨rv, w, ι, by simp [execOp, h1], Post.refl hr, h2⟩
  case field t x i =>
    cases hb : fieldA E t (ev x) i with
    | none => simp [hb, okVal_none, okVal_some, okPair, okSkip] at h
    | some v =>
      simp only [hb, okVal_none, okVal_some, okPair, okSkip, Option.some.injEq] at h; subst h
      obtain ⟨rv, h1, h2⟩ := fieldA_ok (P := P) (w := w) hE hb (hev x)
      exact ⟨rv, w, ι, by simp [execOp, h1], Post.refl hr, h2⟩
  case indexAddr t x i =>
    cases hb : indexAddrA E t (ev x) (ev i) with
    | none => simp [hb, okVal_none, okVal_some, okPair, okSkip] at h
    | some v =>
      simp only [hb, okVal_none, okVal_some, okPair, okSkip, Option.some.injEq] at h; subst h
      obtain ⟨rv, h1, h2⟩ := indexAddrA_ok (P := P) (w := w) hE hb (hev x) (hev i)
      exact ⟨rv, w, ι, by simp [execOp, h1], Post.refl hr, h2⟩
  case index t x i =>
    cases hb : indexA E t (ev x) (ev i) with
    | none => simp [hb, okVal_none, okVal_some, okPair, okSkip] at h
    | some v =>
      simp only [hb, okVal_none, okVal_some, okPair, okSkip, Option.some.injEq] at h; subst h
      obtain ⟨rv, h1, h2⟩ := indexA_ok (P := P) (w := w) hE hb (hev x) (hev i)
      exact ⟨rv, w, ι, by simp [execOp, h1], Post.refl hr, h2⟩
  case lookup t m k ok =>
    cases hb : lookupA E H t (ev m) (ev k) ok with
    | none => simp [hb, okVal_none, okVal_some, okPair, okSkip] at h
    | some v =>
      simp only [hb, okVal_none, okVal_some, okPair, okSkip, Option.some.injEq] at h; subst h
      obtain ⟨rv, h1, h2⟩ := lookupA_ok (P := P) hE hr hb (hev m) (hev k)
      exact ⟨rv, w, ι, by simp [execOp, h1], Post.refl hr, h2⟩
  case mapUpdate t m k x =>
    cases hb : mapUpdateA E H t (ev m) (ev k) (ev x) with
    | none => simp [hb, okVal_none, okVal_some, okPair, okSkip] at h
    | some H' =>
      simp only [hb, okVal_none, okVal_some, okPair, okSkip, heapK_eq, Option.some.injEq] at h; subst h
      obtain ⟨w', h1, h2⟩ := mapUpdateA_ok (P := P) hE hr hb (hev m) (hev k) (hev x)
      exact ⟨w', ι, by simp [execOp, h1], h2⟩
  case extract x i =>
    have hx := hev x
    unfold opExtract at h
    split at h
    · rename_i vs hl
      rw [hl] at hx
      simp only [VR] at hx
      obtain ⟨c, hc, hcs⟩ := hx
      cases hv : vs[i]? with
      | none => simp [hv, okVal_none, okVal_some] at h
      | some v =>
        simp only [hv, okVal_none, okVal_some, Option.some.injEq] at h; subst h
        obtain ⟨r, hr', hvr⟩ := hcs.get i v hv
        have : c[i]? = some r := by simpa using hr'
        exact ⟨r, w, ι, by simp [execOp, hc, Instr.extract, this], Post.refl hr, hvr⟩
    · cases h
  case call c =>
    obtain ⟨callee, args, argTypes⟩ := c
    unfold opCall at h
    cases callee with
    | value g =>
      simp only [Option.some.injEq] at h; subst h
      exact ⟨_, g, args.map ρ, rfl, rfl, hev g, rfl, by simpa using VRs.map_ev hev args.toList⟩
    | invoke x m => cases h
    | builtin b =>
      have hargs : VRs ι (args.toList.map ev) (args.map ρ).toList := by simpa using VRs.map_ev hev args.toList
      obtain ⟨v, H', rv, w', ι', rfl, h1, h2, h3⟩ := builtinA_ok hE hr h hargs type (args.map fun | .const _ => true | _ => false)
      refine ⟨rv, w', ι', ?_, h2, h3⟩
      simp only [execOp, resolve, Sem.run_bind, Sem.run_pure, Result.andThen_ok, invoke]
      exact h1

end Go.Am
