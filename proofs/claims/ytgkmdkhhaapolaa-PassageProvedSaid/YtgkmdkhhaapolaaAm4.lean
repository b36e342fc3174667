/-
  THE ABSTRACT MACHINE, 4: its operations stand for the model's (aggregates, numbers, comparisons).
-/
import Derived.Test.YtgkmdkhhaapolaaAm3
namespace Go.Am

inductive PtR (ι : Mp) : List (Nat × V) → List (Nat × Value) → Prop
  | nil : PtR ι [] []
  | cons {i : Nat} {v : V} {r : Value} {ps : List (Nat × V)} {qs : List (Nat × Value)} (h : VR ι v r) (hs : PtR ι ps qs) : PtR ι ((i, v) :: ps) ((i, r) :: qs)

theorem foldl_set {α : Type} (off : Nat) : ∀ (vs : List α) (k : Nat) (cs : List α), off + k + vs.length ≤ cs.length →
    (vs.zipIdx k).foldl (fun cs p => cs.set (off + p.2) p.1) cs = splice cs (off + k) vs
  | [], k, cs, _ => by simp [splice]
  | v :: vs, k, cs, h => by
    simp only [List.length_cons] at h
    simp only [List.zipIdx_cons, List.foldl_cons]
    rw [foldl_set off vs (k + 1) _ (by simp; omega)]
    apply List.ext_getElem?
    intro i
    rw [splice_get _ _ _ (by simp; omega), splice_get _ _ _ (by simp; omega)]
    simp only [List.length_cons]
    by_cases h1 : i = off + k
    · subst h1
      have h2 : ¬ (off + (k + 1) ≤ off + k ∧ off + k < off + (k + 1) + vs.length) := by omega
      have h3 : off + k ≤ off + k ∧ off + k < off + k + (vs.length + 1) := by omega
      simp only [h2, h3, and_self, if_true, if_false]
      rw [List.getElem?_set_self (by omega)]
      simp
    · by_cases h2 : off + (k + 1) ≤ i ∧ i < off + (k + 1) + vs.length
      · have h3 : off + k ≤ i ∧ i < off + k + (vs.length + 1) := by omega
        simp only [h2, h3, and_self, if_true]
        obtain ⟨j, hj⟩ : ∃ j, i = off + k + (j + 1) := ⟨i - (off + k + 1), by omega⟩
        subst hj
        rw [show off + k + (j + 1) - (off + (k + 1)) = j by omega, show off + k + (j + 1) - (off + k) = j + 1 by omega]
        simp
      · have h3 : ¬ (off + k ≤ i ∧ i < off + k + (vs.length + 1)) := by omega
        simp only [h2, h3, if_false]
        exact List.getElem?_set_ne (fun e => h1 e.symm)

theorem foldl_setA (off : Nat) (vs cells : Array Value) (h : off + vs.size ≤ cells.size) :
    (vs.zipIdx.foldl (fun cs (p : Value × Nat) => cs.setIfInBounds (off + p.2) p.1) cells).toList = splice cells.toList off vs.toList := by
  have e := foldl_set off vs.toList 0 cells.toList (by simpa using h)
  simp only [Nat.add_zero] at e
  rw [← e, ← Array.foldl_toList, Array.toList_zipIdx]
  generalize vs.toList.zipIdx = l
  clear e h
  induction l generalizing cells with
  | nil => rfl
  | cons p l ih => simp only [List.foldl_cons]; rw [ih]; simp [Array.toList_setIfInBounds]

theorem fillA_ok {ι : Mp} (place : Nat → Option (Nat × Nat)) : ∀ {ps : List (Nat × V)} {qs : List (Nat × Value)} {cells cs : List V} {rc : Array Value},
    PtR ι ps qs → VRs ι cells rc.toList → fillA place cells ps = some cs → ∃ rcs, Instr.fill place rc qs = some rcs ∧ VRs ι cs rcs.toList := by
  intro ps qs cells cs rc hp
  induction hp generalizing cells rc with
  | nil => intro hc h; simp [fillA] at h; subst h; exact ⟨rc, rfl, hc⟩
  | @cons i v r ps qs hv _ ih =>
    intro hc h
    simp only [fillA] at h
    split at h
    · rename_i off size vs hpl hvs
      split at h
      · rename_i hle
        have hq := cells?_ok hvs hv
        have hl : r.cells.size = vs.length := by rw [hq.length]; simp
        have hcl : rc.size = cells.length := by rw [hc.length]; simp
        have hno : ¬ (r.cells.size ≠ size || off + r.cells.size > rc.size) = true := by
          simp only [Bool.or_eq_true, decide_eq_true_eq, not_or, hl, hcl]
          omega
        have hnew : VRs ι (splice cells off vs) (r.cells.zipIdx.foldl (fun cs (p : Value × Nat) => cs.setIfInBounds (off + p.2) p.1) rc).toList := by
          rw [foldl_setA off r.cells rc (by rw [hl, hcl]; exact hle.2)]
          exact hc.splice off hq
        obtain ⟨rcs, h1, h2⟩ := ih hnew h
        refine ⟨rcs, ?_, h2⟩
        simp only [Instr.fill, hpl, hno]
        exact h1
      · cases h
    · cases h

theorem placesA_ok {E : Env} {P : Program} (hE : EnvOk E P) : ∀ {fs : List Field} {ps : List (Nat × Nat)}, placesA E fs = some ps → fs.mapM (fun f => (P.info? f.type).map fun i => (f.offset, i.size)) = some ps
  | [], ps, h => by simp [placesA] at h; subst h; simp
  | f :: fs, ps, h => by
    simp only [placesA] at h
    cases hi : E.info f.type with
    | none => simp [hi] at h
    | some i =>
      cases hr : placesA E fs with
      | none => simp [hi, hr] at h
      | some rest =>
        simp only [hi, hr, Option.some.injEq] at h
        subst h
        simp [List.mapM_cons, hE.info _ _ hi, placesA_ok hE hr]

theorem buildA_ok {E : Env} {P : Program} (hE : EnvOk E P) {ι : Mp} {w : World} {t : TypeId} {ps : List (Nat × V)} {v : V} (h : buildA E t ps = some v) {qs : Array (Nat × Value)} (hp : PtR ι ps qs.toList) :
    ∃ rv, (Instr.build t qs).run P w = .ok rv w ∧ VR ι v rv := by
  unfold buildA at h
  split at h
  · rename_i fields zs hu hz
    obtain ⟨i, z, hi, hiz, _, hzr⟩ := run_zeros (P := P) (w := w) hE hz
    split at h
    · rename_i places hpl
      cases hf : fillA (places[·]?) zs ps with
      | none => simp [hf] at h
      | some cs =>
        simp only [hf, Option.map_some, Option.some.injEq] at h
        subst h
        obtain ⟨rcs, h1, h2⟩ := fillA_ok _ hp (hzr ι) hf
        refine ⟨.agg rcs, run_build w t qs rcs ?_, by simp only [VR]; exact ⟨_, rfl, h2⟩⟩
        unfold Program.built
        rw [hE.info t i hi, Env.und_ok hE hu]
        simp only [hiz, placesA_ok hE hpl]
        simpa using h1
    · cases h
  · rename_i n e zs hu hz
    obtain ⟨i, z, hi, hiz, _, hzr⟩ := run_zeros (P := P) (w := w) hE hz
    split at h
    · rename_i m hm
      cases hf : fillA (fun i => some (i * m, m)) zs ps with
      | none => simp [hf] at h
      | some cs =>
        simp only [hf, Option.map_some, Option.some.injEq] at h
        subst h
        obtain ⟨rcs, h1, h2⟩ := fillA_ok _ hp (hzr ι) hf
        refine ⟨.agg rcs, run_build w t qs rcs ?_, by simp only [VR]; exact ⟨_, rfl, h2⟩⟩
        unfold Env.size at hm
        cases hie : E.info e with
        | none => simp [hie] at hm
        | some ie =>
          simp only [hie, Option.map_some, Option.some.injEq] at hm
          subst hm
          unfold Program.built
          rw [hE.info t i hi, Env.und_ok hE hu]
          simp only [hiz, hE.info e ie hie]
          exact h1
    · cases h
  · cases h

theorem zcells_ok {ι : Mp} {zs : List V} {z : Array Value} (h : VRs ι zs z.toList) (n : Nat) (hz : 0 < zs.length) : VRs ι (zcells zs n) ((List.range n).map fun i => z[i % z.size]!) := by
  refine VRs.of_get (by simp [zcells]) fun i v r hv hr => ?_
  simp only [zcells, List.getElem?_map] at hv hr
  cases hi : (List.range n)[i]? with
  | none => simp [hi] at hv
  | some k =>
    simp only [hi, Option.map_some, Option.some.injEq] at hv hr
    subst hv
    subst hr
    have hl : z.size = zs.length := by rw [h.length]; simp
    have hlt : k % zs.length < zs.length := Nat.mod_lt _ hz
    obtain ⟨r, hr, hvr⟩ := h.get (k % zs.length) zs[k % zs.length] (List.getElem?_eq_getElem hlt)
    have e : z[k % z.size]! = r := by
      rw [hl]
      have : z[k % zs.length]? = some r := by simpa using hr
      simp [getElem!_def, this]
    rw [e, List.getD_eq_getElem?_getD, List.getElem?_eq_getElem hlt]
    exact hvr

theorem toList_range_map {α : Type} (n : Nat) (f : Nat → α) : ((Array.range n).map f).toList = (List.range n).map f := by simp

theorem buildSliceA_ok {E : Env} {P : Program} (hE : EnvOk E P) {ι : Mp} {H H' : Heap} {w : World} (hr : Rel ι H w) {t : TypeId} {len : Nat} {ps : List (Nat × V)} {v : V} (h : buildSliceA E H t len ps = some (v, H'))
    {qs : Array (Nat × Value)} (hp : PtR ι ps qs.toList) :
    ∃ rv w' ι', (Instr.buildSlice t len qs).run P w = .ok rv w' ∧ Post ι H w ι' H' w' ∧ VR ι' v rv := by
  unfold buildSliceA at h
  split at h
  · rename_i e hu
    split at h
    · rename_i n zs hn hz
      split at h
      · rename_i hc
        obtain ⟨hc1, hc2, hc3⟩ := hc
        obtain ⟨i, z, hi, hiz, hrz, hzr⟩ := run_zeros (P := P) (w := w) hE hz
        split at h
        · rename_i cs hf
          simp only [Option.some.injEq, Prod.mk.injEq] at h
          obtain ⟨rfl, rfl⟩ := h
          have hz0 := zcells_ok (hzr ι) (len * n) (by omega)
          have hz1 : VRs ι (zcells zs (len * n)) (((Array.range (len * n)).map fun i => z.cells[i % z.cells.size]!).toList) := by rw [toList_range_map]; exact hz0
          obtain ⟨rcs, h1, h2⟩ := fillA_ok _ hp hz1 hf
          obtain ⟨ι', h3, h4⟩ := newA_ok hr h2 e
          have hlen : cs.length = len * n := by
            have : ∀ {ps : List (Nat × V)} {a b : List V}, fillA (fun i => some (i * n, n)) a ps = some b → b.length = a.length := by
              intro ps
              induction ps with
              | nil => intro a b h; simp [fillA] at h; rw [h]
              | cons p ps ih =>
                intro a b h
                obtain ⟨i, v⟩ := p
                simp only [fillA] at h
                split at h
                · split at h
                  · rename_i hle; rw [ih h, splice_length _ _ _ hle.2]
                  · cases h
                · cases h
            rw [this hf]; simp [zcells]
          refine ⟨.slice (some ⟨w.heap.size, 0, none⟩) len len, _, ι', ?_, h3, ?_⟩
          · have hgt : ¬ len * n > 16777216 := by omega
            simp only [Instr.buildSlice, run_und hE hu, Sem.run_bind, Result.andThen_ok, run_siz hE hn, Sem.run_ite]
            have e24 : (2 : Nat) ^ 24 = 16777216 := by decide
            rw [e24, if_neg hgt]
            by_cases h0 : len * n = 0
            · have hr0 : ((Array.range (len * n)).map fun i => z.cells[i % z.cells.size]!) = #[] := by rw [h0]; simp
              rw [hr0] at h1
              have hr1 : ∀ q : Array Value, ((Array.range (len * n)).map fun i => q[i % q.size]!) = #[] := by intro q; rw [h0]; simp
              simp only [h0, if_true, Sem.run_pure, Result.andThen_ok]
              have h1' : Instr.fill (fun i => some (i * n, n)) ((Array.range (len * n)).map fun x => (#[] : Array Value)[x % (#[] : Array Value).size]!) qs.toList = some rcs := by rw [hr1]; exact h1
              rw [h0] at h1'
              simp only [h1', Sem.run_pure, Result.andThen_ok, newRow, Sem.run_bind, run_newObj]
            · simp only [h0, if_false, hrz, Result.andThen_ok, Sem.run_pure]
              simp only [h1, newRow, Sem.run_bind, run_newObj, Result.andThen_ok, Sem.run_pure]
          · simp only [VR, h4]
            have hs : rcs.size = len * n := by rw [← hlen, h2.length]; simp
            exact ⟨_, _, rfl, Nat.le_refl _, fun k hk => (Option.some.inj hk), .inl ⟨rfl, by rw [hs]; simp⟩⟩
        · cases h
      · cases h
    · cases h
  · cases h

/-! ### Numbers -/
theorem binInt_ok {P : Program} {w : World} {op : BinOp} {k : IntKind} {a b : Int} {v : V} (h : binInt op k a b = some v) (t : TypeId) :
    ∃ rv, (binOp op t (.int k a) (.int k b)).run P w = .ok rv w ∧ ∀ ι, VR ι v rv := by
  cases op <;> simp only [binInt, Option.some.injEq, int_sub, int_add, int_mul, wrapF_eq, leF_eq, neF_eq] at h <;> (try simp only [ltF_eq, eqF_eq] at h)
  case quo =>
    split at h
    · cases h
    · rename_i h0
      simp only [Option.some.injEq] at h
      subst h
      exact ⟨_, by simp [binOp, Op.intDiv, h0]; rfl, fun ι => by simp [VR]⟩
  case rem =>
    split at h
    · cases h
    · rename_i h0
      simp only [Option.some.injEq] at h
      subst h
      exact ⟨_, by simp [binOp, Op.intDiv, h0]; rfl, fun ι => by simp [VR]⟩
  all_goals first
    | (cases h; done)
    | (subst h; exact ⟨_, by simp [binOp, Op.intArith, Op.intBits, Op.intCmp]; rfl, fun ι => by simp [VR]⟩)

theorem partA_ok {E : Env} {P : Program} (hE : EnvOk E P) {ι : Mp} {w : World} {t : TypeId} {cs : List V} {off : Nat} {v : V} (h : partA E t cs off = some v) {rc : Array Value} (hc : VRs ι cs rc.toList) :
    ∃ rv, (part t rc off).run P w = .ok rv w ∧ VR ι v rv := by
  unfold partA at h
  split at h
  · rename_i n hg hn
    simp only [Option.some.injEq] at h
    subst h
    refine ⟨.agg (rc.extract off (off + n)), by simp [part, run_agg hE hg, run_siz hE hn], ?_⟩
    simp only [VR]
    refine ⟨_, rfl, ?_⟩
    rw [Array.toList_extract, List.extract_eq_take_drop]
    simpa using (hc.drop off).take n
  · rename_i hg
    rw [nthL_eq] at h
    obtain ⟨r, hr, hvr⟩ := hc.get off v h
    have : rc[off]? = some r := by simpa using hr
    exact ⟨r, by simp [part, run_agg hE hg, this], hvr⟩
  · cases h

theorem eqFsA_ok {E : Env} {P : Program} (hE : EnvOk E P) {ι : Mp} {w : World} {d : Nat} (ih : ∀ t x y b, eqA E d t x y = some b → ∀ rx ry, VR ι x rx → VR ι y ry → (Op.equalIn d t rx ry).run P w = .ok b w)
    {xs ys : List V} {rx ry : Array Value} (hx : VRs ι xs rx.toList) (hy : VRs ι ys ry.toList) : ∀ {fs : List Field} {b : Bool}, eqFsA E (eqA E d) xs ys fs = some b → (Op.eqFields d rx ry fs).run P w = .ok b w
  | [], b, h => by simp [eqFsA] at h; subst h; simp [Op.eqFields]
  | f :: fs, b, h => by
    simp only [eqFsA] at h
    by_cases hn : f.name ≠ "_"
    · rw [if_pos hn] at h
      split at h
      · rename_i a a' ha ha'
        obtain ⟨ra, hra, hva⟩ := partA_ok (P := P) (w := w) hE ha hx
        obtain ⟨ra', hra', hva'⟩ := partA_ok (P := P) (w := w) hE ha' hy
        split at h
        · rename_i he
          have := ih _ _ _ _ he ra ra' hva hva'
          have ih2 := eqFsA_ok hE ih hx hy h
          simp [Op.eqFields, hn, hra, hra', this, ih2]
        · rename_i he
          simp only [Option.some.injEq] at h
          subst h
          have := ih _ _ _ _ he ra ra' hva hva'
          simp [Op.eqFields, hn, hra, hra', this]
        · cases h
      · cases h
    · rw [if_neg hn] at h
      have ih2 := eqFsA_ok hE ih hx hy h
      simp only [ne_eq, Classical.not_not] at hn
      simp [Op.eqFields, hn, ih2]

theorem eqEsA_ok {E : Env} {P : Program} (hE : EnvOk E P) {ι : Mp} {w : World} {d e m : Nat} (ih : ∀ t x y b, eqA E d t x y = some b → ∀ rx ry, VR ι x rx → VR ι y ry → (Op.equalIn d t rx ry).run P w = .ok b w)
    {xs ys : List V} {rx ry : Array Value} (hx : VRs ι xs rx.toList) (hy : VRs ι ys ry.toList) : ∀ {is : List Nat} {b : Bool}, eqEsA E (eqA E d e) e m xs ys is = some b →
      (forIn (m := Sem) is ((none, ()) : Option Bool × Unit) fun i _ => do
        if !(← Op.equalIn d e (← part e rx (i * m)) (← part e ry (i * m))) then pure (.done (some false, ())) else pure (.yield (none, ()))).run P w = .ok (if b then none else some false, ()) w
  | [], b, h => by simp [eqEsA] at h; subst h; simp
  | i :: is, b, h => by
    simp only [eqEsA] at h
    split at h
    · rename_i a a' ha ha'
      obtain ⟨ra, hra, hva⟩ := partA_ok (P := P) (w := w) hE ha hx
      obtain ⟨ra', hra', hva'⟩ := partA_ok (P := P) (w := w) hE ha' hy
      split at h
      · rename_i he
        have h1 := ih _ _ _ _ he ra ra' hva hva'
        have ih2 := eqEsA_ok hE ih hx hy h
        simp [List.forIn_cons, hra, hra', h1]
        simpa using ih2
      · rename_i he
        simp only [Option.some.injEq] at h
        subst h
        have h1 := ih _ _ _ _ he ra ra' hva hva'
        simp [List.forIn_cons, hra, hra', h1]
      · cases h
    · cases h

end Go.Am
