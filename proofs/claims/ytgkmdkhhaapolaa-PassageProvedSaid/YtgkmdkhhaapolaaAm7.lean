/-
  THE ABSTRACT MACHINE, 7: its operations stand for the model's (copies, maps; all of them).
-/
import Derived.Test.YtgkmdkhhaapolaaAm6
namespace Go.Am

theorem copyA_ok {E : Env} {P : Program} (hE : EnvOk E P) {ι : Mp} {H H' : Heap} {w : World} (hr : Rel ι H w) {t ty : TypeId} {ts : List TypeId} {d s v : V} (h : copyA E H t d s = some (v, H')) {rd rs : Value} (hd : VR ι d rd) (hs : VR ι s rs) :
    ∃ rv w', (Builtin.copy_ (t :: ts).toArray ty #[rd, rs]).run P w = .ok rv w' ∧ Post ι H w ι H' w' ∧ VR ι v rv := by
  unfold copyA at h
  split at h
  · rename_i e hu
    split at h
    · rename_i n hn
      split at h
      · rename_i da dl dsz dcap sa sl ssz scap
        split at h
        · rename_i hc
          have hds : ∃ base k, rd = .slice base dl k := by
            cases da with
            | none => simp only [VR] at hd; obtain ⟨rfl, rfl⟩ := hd; exact ⟨none, 0, rfl⟩
            | some l => obtain ⟨a, k, rfl⟩ := hd.slice_some; exact ⟨some a, k, rfl⟩
          have hss : ∃ base k, rs = .slice base sl k := by
            cases sa with
            | none => simp only [VR] at hs; obtain ⟨rfl, rfl⟩ := hs; exact ⟨none, 0, rfl⟩
            | some l => obtain ⟨a, k, rfl⟩ := hs.slice_some; exact ⟨some a, k, rfl⟩
          have zero : min sl dl = 0 → (v, H') = (.int .i64 0, H) → ∃ rv w', (Builtin.copy_ (t :: ts).toArray ty #[rd, rs]).run P w = .ok rv w' ∧ Post ι H w ι H' w' ∧ VR ι v rv := by
            intro hm hv
            simp only [Prod.mk.injEq] at hv
            obtain ⟨rfl, rfl⟩ := hv
            obtain ⟨bd, kd, rfl⟩ := hds
            obtain ⟨bs, ks, rfl⟩ := hss
            refine ⟨.int .i64 0, w, ?_, Post.refl hr, by simp [VR]⟩
            cases bd <;> cases bs <;> simp [Builtin.copy_, run_und hE hu, Builtin.lenOf, run_siz hE hn, Nat.min_def] <;> (have hm' := hm; simp only [Nat.min_def] at hm'; simp [hm', Builtin.firstCells, loadCells, loadCellsFrom, storeCells, goInt])
          split at h
          · rename_i dp sp
            split at h
            · rename_i hm
              simp only [Option.some.injEq] at h
              exact zero hm h.symm
            · rename_i hm
              split at h
              · rename_i vs hvs
                split at h
                · rename_i H1 hput
                  simp only [Option.some.injEq, Prod.mk.injEq] at h
                  obtain ⟨rfl, rfl⟩ := h
                  have hd' := hd
                  have hs' := hs
                  simp only [VR] at hd' hs'
                  have hbd : ι dp.blk ≠ .abs := fun e => by simp [e] at hd'
                  have hbs : ι sp.blk ≠ .abs := fun e => by simp [e] at hs'
                  obtain ⟨rb, ro, m, qs, g1, g2, g3, _, g4⟩ := hr.cells hvs hbs
                  obtain ⟨rb2, ro2, m2, w', k1, k2, k3⟩ := putCells_ok (P := P) hr hput hbd g2
                  simp only [g1] at hs'
                  simp only [k1] at hd'
                  obtain ⟨as, cs, rfl, hls, _, hos⟩ := hs'
                  obtain ⟨ad, cd, rfl, hld, _, hod⟩ := hd'
                  obtain ⟨rfl, _⟩ := hos.resolve_right (by omega)
                  obtain ⟨rfl, _⟩ := hod.resolve_right (by omega)
                  have hload := run_loadCells_list (P := P) w ⟨rb, ro + sp.off, none⟩ qs g4
                  rw [g3] at hload
                  refine ⟨.int .i64 ((min sl dl : Nat) : Int), w', ?_, k3, by simp [VR]⟩
                  have hmin : Nat.min sl dl = min sl dl := rfl
                  simp [Builtin.copy_, run_und hE hu, Builtin.lenOf, run_siz hE hn, hmin, Builtin.firstCells, hload, k2, goInt]
                · cases h
              · cases h
          · rename_i hno
            have hm : min sl dl = 0 := by
              cases da with
              | none => simp only [VR] at hd; omega
              | some dp =>
                cases sa with
                | none => simp only [VR] at hs; omega
                | some sp => exact absurd rfl (hno dp sp rfl)
            simp only [Option.some.injEq] at h
            exact zero hm h.symm
        · cases h
      · cases h
    · cases h
  · cases h

theorem toList_zeroCells (z : Array Value) (n : Nat) : (Builtin.zeroCells z n).toList = (List.range (n * z.size)).map fun i => z[i % z.size]! := by simp [Builtin.zeroCells]

theorem clearA_ok {E : Env} {P : Program} (hE : EnvOk E P) {ι : Mp} {H H' : Heap} {w : World} (hr : Rel ι H w) {t ty : TypeId} {x : V} (h : clearA E H t x = some H') {rx : Value} (hx : VR ι x rx) :
    ∃ w', (Builtin.clear_ #[t] ty #[rx]).run P w = .ok (.tuple #[]) w' ∧ Post ι H w ι H' w' := by
  unfold clearA at h
  split at h
  · rename_i e a n esz cap hu
    split at h
    · rename_i zs hz
      obtain ⟨i, z, hi, hiz, hrz, hzr⟩ := run_zeros (P := P) (w := w) hE hz
      split at h
      · rename_i hn
        subst hn
        simp only [Option.some.injEq] at h
        subst h
        refine ⟨w, ?_, Post.refl hr⟩
        cases a with
        | none => simp only [VR] at hx; obtain ⟨_, rfl⟩ := hx; simp [Builtin.clear_, run_und hE hu]
        | some l => obtain ⟨a, k, rfl⟩ := hx.slice_some; simp [Builtin.clear_, run_und hE hu]
      · rename_i hn
        split at h
        · rename_i l
          split at h
          · rename_i hsz
            have hx' := hx
            simp only [VR] at hx'
            have hb : ι l.blk ≠ .abs := fun e => by simp [e] at hx'
            have hzl : z.cells.size = zs.length := by rw [(hzr ι).length]; simp
            have hq : VRs ι (zcells zs (n * zs.length)) (Builtin.zeroCells z.cells n).toList := by
              rw [toList_zeroCells, hzl]
              by_cases h0 : zs.length = 0
              · simp [zcells, h0, VRs]
              · have := zcells_ok (hzr ι) (n * zs.length) (by omega)
                rw [hzl] at this
                exact this
            obtain ⟨rb, ro, m, w', k1, k2, k3⟩ := putCells_ok (P := P) hr h hb hq
            simp only [k1] at hx'
            obtain ⟨a, c, rfl, hle, _, hor⟩ := hx'
            obtain ⟨rfl, _⟩ := hor.resolve_right (by omega)
            refine ⟨w', ?_, k3⟩
            obtain ⟨n', rfl⟩ : ∃ n', n = n' + 1 := ⟨n - 1, by omega⟩
            simp [Builtin.clear_, run_und hE hu, hrz, k2]
          · cases h
        · cases h
    · cases h
  · cases h

theorem PRs.length {ι : Mp} {ps : List (V × V)} {es : List MapEntry} (h : PRs ι ps es) : ps.length = es.length := by
  induction h with
  | nil => rfl
  | cons _ _ ih => simp [ih]

theorem Rel.map {ι : Mp} {H : Heap} {w : World} (hr : Rel ι H w) {b : Nat} {es : List (V × V)} (hg : H.get b = some (.map es)) (hb : ι b ≠ .abs) :
    ∃ rb ro n res clock, ι b = .at rb ro n ∧ w.heap[rb]? = some (.map res clock) ∧ PRs ι es res.toList := by
  cases hs : ι b with
  | abs => exact absurd hs hb
  | dead => simp [hr.dead b hs] at hg
  | «at» rb ro n =>
    obtain ⟨o, o', h1, h2, h3⟩ := hr.live b rb ro n hs
    rw [hg] at h1
    simp only [Option.some.injEq] at h1
    subst h1
    obtain ⟨res, clock, rfl, h4⟩ := h3
    exact ⟨rb, ro, n, res, clock, rfl, h2, h4⟩

theorem run_getMap {P : Program} {w : World} {rb : Nat} {res : Array MapEntry} {clock : Nat} (h : w.heap[rb]? = some (.map res clock)) : (getObj rb).run P w = .ok (.map res clock) w := by
  simp [getObj, Sem.run, h]

theorem lenA_ok {E : Env} {P : Program} (hE : EnvOk E P) {ι : Mp} {H : Heap} {w : World} (hr : Rel ι H w) {t ty : TypeId} {x v : V} (h : lenA E H t x = some v) {rx : Value} (hx : VR ι x rx) :
    ∃ rv, (Builtin.len_ #[t] ty #[rx]).run P w = .ok rv w ∧ VR ι v rv := by
  unfold lenA at h
  split at h
  · rename_i s hu
    simp only [VR] at hx; subst hx
    simp only [Option.some.injEq] at h; subst h
    exact ⟨_, by simp [Builtin.len_, run_und hE hu]; rfl, by simp [VR, goInt]⟩
  · rename_i n e x' hu
    simp only [Option.some.injEq] at h; subst h
    exact ⟨_, by simp [Builtin.len_, run_und hE hu]; rfl, by simp [VR, goInt]⟩
  · rename_i e a n esz cap hu
    simp only [Option.some.injEq] at h; subst h
    refine ⟨.int .i64 n, ?_, by simp [VR]⟩
    cases a with
    | none => simp only [VR] at hx; obtain ⟨rfl, rfl⟩ := hx; simp [Builtin.len_, run_und hE hu, goInt]
    | some l => obtain ⟨a, k, rfl⟩ := hx.slice_some; simp [Builtin.len_, run_und hE hu, goInt]
  · rename_i hu
    simp only [VR] at hx; subst hx
    simp only [Option.some.injEq] at h; subst h
    exact ⟨_, by simp [Builtin.len_, run_und hE hu]; rfl, by simp [VR, goInt]⟩
  · rename_i k e b hu
    split at h
    · rename_i es hg
      simp only [Option.some.injEq] at h; subst h
      simp only [VR] at hx
      have hb : ι b ≠ .abs := fun e => by simp [e] at hx
      obtain ⟨rb, ro, n, res, clock, h1, h2, h3⟩ := hr.map hg hb
      simp only [h1] at hx
      subst hx
      refine ⟨.int .i64 es.length, ?_, by simp [VR]⟩
      simp [Builtin.len_, run_und hE hu, run_getMap h2, goInt, h3.length]
    · cases h
  · cases h

theorem foldO_ok {P : Program} {ι : Mp} {w : World} {f : V → V → Option V} {g : Value → Value → Sem Value} (hfg : ∀ x y z rx ry, f x y = some z → VR ι x rx → VR ι y ry → ∃ rz, (g rx ry).run P w = .ok rz w ∧ VR ι z rz) :
    ∀ {ys : List V} {rys : List Value} {x v : V} {rx : Value}, foldO f x ys = some v → VR ι x rx → VRs ι ys rys → ∃ rv, (rys.foldlM g rx).run P w = .ok rv w ∧ VR ι v rv
  | [], rys, x, v, rx, h, hx, hy => by
    simp only [VRs] at hy; subst hy
    simp only [foldO, Option.some.injEq] at h; subst h
    exact ⟨rx, by simp, hx⟩
  | y :: ys, rys, x, v, rx, h, hx, hy => by
    simp only [VRs] at hy
    obtain ⟨ry, rys', rfl, h1, h2⟩ := hy
    simp only [foldO] at h
    split at h
    · rename_i z hz
      obtain ⟨rz, g1, g2⟩ := hfg x y z rx ry hz hx h1
      obtain ⟨rv, g3, g4⟩ := foldO_ok hfg h g2 h2
      exact ⟨rv, by simp [List.foldlM_cons, g1, g3], g4⟩
    · cases h

theorem minA_ok {P : Program} {ι : Mp} {w : World} (x y z : V) (rx ry : Value) (h : minA x y = some z) (hx : VR ι x rx) (hy : VR ι y ry) : ∃ rz, (Builtin.min2 rx ry).run P w = .ok rz w ∧ VR ι z rz := by
  unfold minA at h
  split at h
  · simp only [VR] at hx hy; subst hx; subst hy
    simp only [Option.some.injEq] at h; subst h
    exact ⟨_, by simp [Builtin.min2]; rfl, by simp [VR]⟩
  · cases h
theorem maxA_ok {P : Program} {ι : Mp} {w : World} (x y z : V) (rx ry : Value) (h : maxA x y = some z) (hx : VR ι x rx) (hy : VR ι y ry) : ∃ rz, (Builtin.max2 rx ry).run P w = .ok rz w ∧ VR ι z rz := by
  unfold maxA at h
  split at h
  · simp only [VR] at hx hy; subst hx; subst hy
    simp only [Option.some.injEq] at h; subst h
    exact ⟨_, by simp [Builtin.max2]; rfl, by simp [VR]⟩
  · cases h

/-! ### Maps -/
theorem flatI_cons {E : Env} {f : Field} {fs : List Field} {cs : List V} {i : Nat} (h : flatI E (f :: fs) cs i = true) : ∃ k n cs' , cs = .int k n :: cs' ∧ f.name ≠ "_" ∧ f.offset = i ∧ E.und f.type = some (.int k) ∧ flatI E fs cs' (i + 1) = true := by
  cases cs with
  | nil => simp [flatI] at h
  | cons c cs =>
    cases c <;> simp [flatI] at h
    rename_i k n
    obtain ⟨⟨⟨h1, h2⟩, h3⟩, h4⟩ := h
    cases hu : E.und f.type with
    | none => simp [hu] at h3
    | some d =>
      cases d <;> simp [hu] at h3
      subst h3
      exact ⟨k, n, cs, rfl, h1, h2, rfl, h4⟩

theorem flat_part {E : Env} {t : TypeId} {k : IntKind} (hu : E.und t = some (.int k)) (cs : List V) (off : Nat) : partA E t cs off = cs[off]? := by
  unfold partA
  have h1 : E.isAgg t = some false := by simp [Env.isAgg, hu]
  rw [h1]
  exact nthL_eq cs off

theorem keyOk_ok {E : Env} {P : Program} (hE : EnvOk E P) {ι : Mp} {w : World} {t : TypeId} {k : V} (h : keyOk E t k = true) {rk : Value} (hk : VR ι k rk) (em : Bool) : (Instr.checkKey em 10000 t rk).run P w = .ok () w := by
  have main : ∀ n, (Instr.checkKey em (n + 1 + 1) t rk).run P w = .ok () w := by
    intro n
    unfold keyOk at h
    split at h
    · rename_i hu; simp only [VR] at hk; subst hk; simp [Instr.checkKey, run_und hE hu]
    · rename_i hu; simp only [VR] at hk; subst hk; simp [Instr.checkKey, run_und hE hu]
    · rename_i fs cs hu
      simp only [VR] at hk
      obtain ⟨rc, rfl, hc⟩ := hk
      simp only [Bool.and_eq_true] at h
      have hf := h.2
      rw [Instr.checkKey]
      simp only [Sem.run_bind, run_und hE hu, Result.andThen_ok]
      rw [← Array.forIn_toList]
      have go : ∀ (l : List Field) (xs : List V) (i : Nat), cs.drop i = xs → flatI E l xs i = true →
          (forIn (m := Sem) l PUnit.unit fun f _ => do
            if f.name ≠ "_" then Instr.checkKey em (n + 1) f.type (← part f.type rc f.offset)
            pure (.yield PUnit.unit)).run P w = .ok PUnit.unit w := by
        intro l
        induction l with
        | nil => intro xs i _ _; simp
        | cons f l ih =>
          intro xs i hd hfl
          obtain ⟨k, m, cs', rfl, h1, h2, h3, h4⟩ := flatI_cons hfl
          have hget : cs[i]? = some (.int k m) := by
            have := congrArg (·[0]?) hd
            simpa [List.getElem?_drop] using this
          obtain ⟨rv, hp, hv⟩ := partA_ok (P := P) (w := w) (off := f.offset) hE (by rw [flat_part h3, h2]; exact hget) hc
          simp only [VR] at hv
          subst hv
          have hck : (Instr.checkKey em (n + 1) f.type (.int k m)).run P w = .ok () w := by simp [Instr.checkKey, run_und hE h3]
          have := ih cs' (i + 1) (by rw [← List.drop_drop, hd]; rfl) h4
          simp [List.forIn_cons, h1, hp, hck]
          simpa using this
      have := go fs.toList cs 0 rfl hf
      simp only [ne_eq, ite_not] at this ⊢
      rw [this]
      rfl
    · cases h
  exact main 9998

theorem sameIs_flat {E : Env} {d : Nat} {cs as : List V} : ∀ {fs : List Field} {xs ys : List V} {i : Nat}, cs.drop i = xs → as.drop i = ys → flatI E fs xs i = true → flatI E fs ys i = true →
    eqFsA E (eqA E (d + 1)) cs as fs = some (sameIs xs ys)
  | [], xs, ys, i, _, _, hx, hy => by
    cases xs with
    | nil => cases ys with
      | nil => rfl
      | cons y ys => simp [flatI] at hy
    | cons x xs => simp [flatI] at hx
  | f :: fs, xs, ys, i, hdx, hdy, hx, hy => by
    obtain ⟨k, n, xs', rfl, h1, h2, h3, h4⟩ := flatI_cons hx
    obtain ⟨k', n', ys', rfl, g1, g2, g3, g4⟩ := flatI_cons hy
    rw [h3] at g3
    simp only [Option.some.injEq, TypeDesc.int.injEq] at g3
    subst g3
    have hgx : cs[i]? = some (.int k n) := by
      have := congrArg (·[0]?) hdx
      simpa [List.getElem?_drop] using this
    have hgy : as[i]? = some (.int k n') := by
      have := congrArg (·[0]?) hdy
      simpa [List.getElem?_drop] using this
    have ih := sameIs_flat (d := d) (fs := fs) (i := i + 1) (cs := cs) (as := as) (xs := xs') (ys := ys') (by rw [← List.drop_drop, hdx]; rfl) (by rw [← List.drop_drop, hdy]; rfl) h4 g4
    have he : eqA E (d + 1) f.type (.int k n) (.int k n') = some (n == n') := by unfold eqA; simp only [h3, if_true]
    simp only [eqFsA, ne_eq, h1, not_false_eq_true, if_true, flat_part h3, h2, hgx, hgy, he, sameIs, beq_self_eq_true, Bool.true_and]
    cases hn : (n == n') with
    | true => simpa using ih
    | false => simp

theorem keyEq_ok {E : Env} {P : Program} (hE : EnvOk E P) {ι : Mp} {w : World} {t : TypeId} {k a : V} (h : keyOk E t k = true) (ha : keyOk E t a = true) {rk ra : Value} (hk : VR ι k rk) (hka : VR ι a ra) :
    (Op.equal t rk ra).run P w = .ok (sameV k a) w := by
  have he : eqA E 10000 t k a = some (sameV k a) := by
    have main : ∀ d, eqA E (d + 1 + 1) t k a = some (sameV k a) := by
      intro d
      unfold keyOk at h ha
      split at h
      · rename_i kd k' n hu
        simp only [hu] at ha
        cases a <;> simp at ha
        simp only [beq_iff_eq] at h
        subst h; subst ha
        simp [eqA, hu, sameV]
      · rename_i s hu
        simp only [hu] at ha
        cases a <;> simp at ha
        simp [eqA, hu, sameV]
      · rename_i fs cs hu
        simp only [hu] at ha
        cases a <;> simp at ha
        rename_i as
        simp only [Bool.and_eq_true] at h
        unfold eqA
        simp only [hu, h.1, if_true, sameV]
        exact sameIs_flat (i := 0) rfl rfl h.2 ha.2
      · cases h
    exact main 9998
  exact eqA_ok hE 10000 t k a _ he rk ra hk hka

theorem sameNow_ok {E : Env} {P : Program} (hE : EnvOk E P) {ι : Mp} {t : TypeId} {k a : V} (h : keyOk E t k = true) (ha : keyOk E t a = true) {rk ra : Value} (hk : VR ι k rk) (hka : VR ι a ra) {d : TypeDesc} (hd : P.underlying t = some d) :
    Instr.sameNow d rk ra = some (sameV k a) ∨ Instr.sameNow d rk ra = none := by
  unfold keyOk at h ha
  split at h
  · rename_i kd k' n hu
    simp only [hu] at ha
    cases a <;> simp at ha
    rename_i k2 n2
    simp only [beq_iff_eq] at h
    subst h; subst ha
    simp only [VR] at hk hka; subst hk; subst hka
    rw [Env.und_ok hE hu] at hd
    simp only [Option.some.injEq] at hd
    subst hd
    exact .inl (by simp [Instr.sameNow, sameV])
  · rename_i s hu
    simp only [hu] at ha
    cases a <;> simp at ha
    simp only [VR] at hk hka; subst hk; subst hka
    rw [Env.und_ok hE hu] at hd
    simp only [Option.some.injEq] at hd
    subst hd
    exact .inl (by simp [Instr.sameNow, sameV, beq_toListBytes])
  · rename_i fs cs hu
    simp only [VR] at hk
    obtain ⟨rc, rfl, _⟩ := hk
    exact .inr (by cases d <;> simp [Instr.sameNow])
  · cases h

theorem keyOk_und {E : Env} {P : Program} (hE : EnvOk E P) {t : TypeId} {k : V} (h : keyOk E t k = true) : ∃ d, P.underlying t = some d := by
  unfold keyOk at h
  split at h
  · rename_i hu; exact ⟨_, Env.und_ok hE hu⟩
  · rename_i hu; exact ⟨_, Env.und_ok hE hu⟩
  · rename_i hu; exact ⟨_, Env.und_ok hE hu⟩
  · cases h

/-- What is found, as the model says it. -/
def FoundR (ι : Mp) (a : Option (Nat × V)) (r : Option (Nat × Value)) : Prop :=
  match a with
  | some (j, x) => ∃ rx, r = some (j, rx) ∧ VR ι x rx
  | none => r = none

theorem findNow_ok {E : Env} {P : Program} (hE : EnvOk E P) {ι : Mp} {t : TypeId} {k : V} (h : keyOk E t k = true) {rk : Value} (hk : VR ι k rk) {d : TypeDesc} (hd : P.underlying t = some d) {es : List (V × V)} {res : List MapEntry} (hs : PRs ι es res) :
    es.all (fun p => keyOk E t p.1) = true → ∀ i, Instr.findNow d rk res i = none ∨ ∃ r, Instr.findNow d rk res i = some r ∧ FoundR ι (findA k es i) r := by
  induction hs with
  | nil => intro _ i; exact .inr ⟨none, rfl, rfl⟩
  | @cons p e ps es hp _ ih =>
    intro hall i
    simp only [List.all_cons, Bool.and_eq_true] at hall
    obtain ⟨a, x⟩ := p
    rcases sameNow_ok hE h hall.1 hk hp.1 hd with hsn | hsn
    · simp only [Instr.findNow, hsn, findA]
      cases hsv : sameV k a with
      | true => exact .inr ⟨_, rfl, e.val, rfl, hp.2⟩
      | false =>
        rcases ih hall.2 (i + 1) with hn | ⟨r, h1, h2⟩
        · exact .inl hn
        · exact .inr ⟨r, h1, by simpa using h2⟩
    · exact .inl (by simp [Instr.findNow, hsn])

theorem findAsking_ok {E : Env} {P : Program} (hE : EnvOk E P) {ι : Mp} {w : World} {t : TypeId} {k : V} (h : keyOk E t k = true) {rk : Value} (hk : VR ι k rk) {es : List (V × V)} {res : List MapEntry} (hs : PRs ι es res) :
    es.all (fun p => keyOk E t p.1) = true → ∀ i, ∃ r, (Instr.findAsking t rk res i).run P w = .ok r w ∧ FoundR ι (findA k es i) r := by
  induction hs with
  | nil => intro _ i; exact ⟨none, rfl, rfl⟩
  | @cons p e ps es hp _ ih =>
    intro hall i
    simp only [List.all_cons, Bool.and_eq_true] at hall
    obtain ⟨a, x⟩ := p
    have he := keyEq_ok (w := w) hE h hall.1 hk hp.1
    simp only [Instr.findAsking, Sem.run_bind, he, Result.andThen_ok, findA]
    cases hsv : sameV k a with
    | true => exact ⟨_, by simp, e.val, rfl, hp.2⟩
    | false =>
      obtain ⟨r, h1, h2⟩ := ih hall.2 (i + 1)
      exact ⟨r, by simpa using h1, by simpa using h2⟩

theorem findKey_ok {E : Env} {P : Program} (hE : EnvOk E P) {ι : Mp} {w : World} {t : TypeId} {k : V} (h : keyOk E t k = true) {rk : Value} (hk : VR ι k rk) {es : List (V × V)} {res : List MapEntry} (hs : PRs ι es res) (hall : es.all (fun p => keyOk E t p.1) = true) :
    ∃ r, (Instr.findKey t rk res).run P w = .ok r w ∧ FoundR ι (findA k es 0) r := by
  obtain ⟨d, hd⟩ := keyOk_und hE h
  rcases findNow_ok hE h hk hd hs hall 0 with hn | ⟨r, h1, h2⟩
  · obtain ⟨r, h1, h2⟩ := findAsking_ok (w := w) hE h hk hs hall 0
    exact ⟨r, by simp [Instr.findKey, run_underlying hd, hn, h1], h2⟩
  · exact ⟨r, by simp [Instr.findKey, run_underlying hd, h1], h2⟩

theorem lookupA_ok {E : Env} {P : Program} (hE : EnvOk E P) {ι : Mp} {H : Heap} {w : World} (hr : Rel ι H w) {t : TypeId} {m k v : V} {ok : Bool} (h : lookupA E H t m k ok = some v) {rm rk : Value} (hm : VR ι m rm) (hk : VR ι k rk) :
    ∃ rv, (Instr.lookup t rm rk ok).run P w = .ok rv w ∧ VR ι v rv := by
  unfold lookupA at h
  split at h
  · rename_i kt e hu
    split at h
    · rename_i hko
      split at h
      · rename_i es hes
        split at h
        · rename_i hall
          have hobj : ∃ res : Array MapEntry, PRs ι es res.toList ∧ ((rm = .map none ∧ res = #[]) ∨ ∃ rb clock, rm = .map (some rb) ∧ w.heap[rb]? = some (.map res clock)) := by
            cases m with
            | map b =>
              cases b with
              | none =>
                simp only [Option.some.injEq] at hes; subst hes
                simp only [VR] at hm; subst hm
                exact ⟨#[], .nil, .inl ⟨rfl, rfl⟩⟩
              | some b =>
                simp only at hes
                split at hes
                · rename_i es' hg
                  simp only [Option.some.injEq] at hes; subst hes
                  simp only [VR] at hm
                  have hb : ι b ≠ .abs := fun e => by simp [e] at hm
                  obtain ⟨rb, ro, n, res, clock, h1, h2, h3⟩ := hr.map hg hb
                  simp only [h1] at hm
                  exact ⟨res, h3, .inr ⟨rb, clock, hm, h2⟩⟩
                · cases hes
            | _ => cases hes
          obtain ⟨res, hps, hobj⟩ := hobj
          have hck := keyOk_ok (w := w) hE hko hk
          obtain ⟨r, hfk, hfr⟩ := findKey_ok (w := w) hE hko hk hps hall
          unfold FoundR at hfr
          split at h
          · rename_i j x hf
            simp only [Option.some.injEq] at h; subst h
            rw [hf] at hfr
            obtain ⟨rx, rfl, hrx⟩ := hfr
            refine ⟨if ok then .tuple #[rx, .bool true] else rx, ?_, ?_⟩
            · rcases hobj with ⟨rfl, rfl⟩ | ⟨rb, clock, rfl, hg⟩
              · simp [Instr.lookup, run_und hE hu, hck, hfk]
              · simp [Instr.lookup, run_und hE hu, run_getMap hg, hck, hfk]
            · cases ok
              · simpa using hrx
              · simp only [if_true, VR]; exact ⟨_, rfl, VRs.cons hrx (VRs.cons (by simp [VR]) VRs.nil)⟩
          · rename_i hf
            split at h
            · rename_i z hz
              simp only [Option.some.injEq] at h; subst h
              rw [hf] at hfr
              subst hfr
              obtain ⟨rz, hrz, hzr⟩ := run_zero (P := P) (w := w) hE hz
              refine ⟨if ok then .tuple #[rz, .bool false] else rz, ?_, ?_⟩
              · rcases hobj with ⟨rfl, rfl⟩ | ⟨rb, clock, rfl, hg⟩
                · simp [Instr.lookup, run_und hE hu, hck, hfk, hrz]
                · simp [Instr.lookup, run_und hE hu, run_getMap hg, hck, hfk, hrz]
              · cases ok
                · simpa using hzr ι
                · simp only [if_true, VR]; exact ⟨_, rfl, VRs.cons (hzr ι) (VRs.cons (by simp [VR]) VRs.nil)⟩
            · cases h
        · cases h
      · cases h
    · cases h
  · cases h

end Go.Am
