/-
  THE ABSTRACT MACHINE, 3: its operations stand for the model's.
-/
import Derived.Test.YtgkmdkhhaapolaaAm2
import Derived.Laws.AppendOwn
import Derived.Laws.CopyRow
import Derived.Laws.MakeOwn
import Derived.Laws.StructEq
import Derived.Laws.Slices
namespace Go.Am

section env
variable {E : Env} {P : Program} {w : World}

theorem Env.und_ok (hE : EnvOk E P) {t : TypeId} {d : TypeDesc} (h : E.und t = some d) : P.underlying t = some d := by
  unfold Env.und at h
  unfold Program.underlying
  cases hi : E.info t with
  | none => simp [hi] at h
  | some i =>
    rw [hE.info t i hi]
    simp only [hi] at h
    obtain ⟨desc, str, size, bytes, hp, al, fal, zero, cmp, ms⟩ := i
    cases desc <;> simp only at h ⊢ <;> first | exact h | skip
    rename_i u
    cases hu : E.info u with
    | none => simp [hu] at h
    | some iu => rw [hE.info u iu hu]; simpa [hu] using h

theorem run_und (hE : EnvOk E P) {t : TypeId} {d : TypeDesc} (h : E.und t = some d) : (underlying t).run P w = .ok d w := run_underlying (Env.und_ok hE h) w

theorem run_inf (hE : EnvOk E P) {t : TypeId} {i : TypeInfo} (h : E.info t = some i) : (typeInfo t).run P w = .ok i w := by
  simp [typeInfo, hE.info t i h]

theorem run_siz (hE : EnvOk E P) {t : TypeId} {n : Nat} (h : E.size t = some n) : (sizeOf t).run P w = .ok n w := by
  unfold Env.size at h
  cases hi : E.info t with
  | none => simp [hi] at h
  | some i =>
    simp only [hi, Option.map_some, Option.some.injEq] at h
    subst h
    simp [sizeOf, run_inf hE hi]

theorem run_agg (hE : EnvOk E P) {t : TypeId} {b : Bool} (h : E.isAgg t = some b) : (isAgg t).run P w = .ok b w := by
  unfold Env.isAgg at h
  cases hd : E.und t with
  | none => simp [hd] at h
  | some d => cases d <;> simp only [hd, Option.some.injEq] at h <;> subst h <;> simp [Go.isAgg, run_und hE hd]

theorem mapO_length {α β : Type} {f : α → Option β} : ∀ {l : List α} {r : List β}, mapO f l = some r → r.length = l.length
  | [], r, h => by simp [mapO] at h; subst h; rfl
  | a :: as, r, h => by
    simp only [mapO] at h
    cases h1 : f a <;> cases h2 : mapO f as <;> simp [h1, h2] at h
    subst h
    simp [mapO_length h2]

theorem ofCell_ok {ι : Mp} {r : Value} {v : V} (h : ofCell r = some v) : VR ι v r := by
  unfold ofCell at h
  split at h <;> simp at h <;> subst h <;> simp [VR]

theorem mapO_ofCell {ι : Mp} : ∀ {l : List Value} {r : List V}, mapO ofCell l = some r → VRs ι r l
  | [], r, h => by simp [mapO] at h; subst h; exact VRs.nil
  | a :: as, r, h => by
    simp only [mapO] at h
    cases h1 : ofCell a <;> cases h2 : mapO ofCell as <;> simp [h1, h2] at h
    subst h
    exact VRs.cons (ofCell_ok h1) (mapO_ofCell h2)

theorem ofVal_ok {ι : Mp} {r : Value} {v : V} (h : ofVal r = some v) : VR ι v r := by
  unfold ofVal at h
  split at h
  · rename_i cs
    cases hm : mapO ofCell cs.toList with
    | none => simp [hm] at h
    | some vs =>
      simp [hm] at h
      subst h
      simp only [VR]
      exact ⟨cs, rfl, mapO_ofCell hm⟩
  · exact ofCell_ok h

theorem evA_ok {ι : Mp} {f : List V} {a : Act} (h : VRs ι f a.tmps.toList) (x : Operand) : VR ι (evA f x) (a.eval x) := by
  cases x with
  | tmp t => exact h.getD t
  | const v =>
    simp only [evA, Act.eval]
    cases hv : ofVal v with
    | none => simp [VR]
    | some u => simpa using ofVal_ok hv
  | global g => simp [evA, VR]
  | func f =>
    simp only [evA, Act.eval, VR]
    exact ⟨#[], #[], rfl, VRs.nil, VRs.nil⟩

theorem run_zeros (hE : EnvOk E P) {t : TypeId} {zs : List V} (h : E.zeros t = some zs) : ∃ i z, E.info t = some i ∧ i.zero = some z ∧ (zeroValue t).run P w = .ok z w ∧ ∀ ι, VRs ι zs z.cells.toList := by
  unfold Env.zeros at h
  cases hi : E.info t with
  | none => simp [hi] at h
  | some i =>
    cases hz : i.zero with
    | none => simp [hi, hz] at h
    | some z =>
      simp only [hi, hz] at h
      exact ⟨i, z, rfl, hz, by simp [zeroValue, run_inf hE hi, hz], fun ι => mapO_ofCell h⟩

theorem run_zero (hE : EnvOk E P) {t : TypeId} {v : V} (h : E.zero t = some v) : ∃ z, (zeroValue t).run P w = .ok z w ∧ ∀ ι, VR ι v z := by
  unfold Env.zero at h
  cases hi : E.info t with
  | none => simp [hi] at h
  | some i =>
    cases hz : i.zero with
    | none => simp [hi, hz] at h
    | some z =>
      simp only [hi, hz] at h
      exact ⟨z, by simp [zeroValue, run_inf hE hi, hz], fun ι => ofVal_ok h⟩

end env

/-! ### Cells -/
theorem cells?_ok {ι : Mp} {v : V} {r : Value} {cs : List V} (h : v.cells? = some cs) (hv : VR ι v r) : VRs ι cs r.cells.toList := by
  have one : ∀ q : Value, q.cells = #[q] → VR ι v q → VRs ι [v] q.cells.toList := fun q hq h => by rw [hq]; exact VRs.cons h VRs.nil
  cases v with
  | undef => simp [V.cells?] at h
  | tup vs => simp [V.cells?] at h
  | agg c =>
    simp [V.cells?] at h
    subst h
    simp only [VR] at hv
    obtain ⟨a, rfl, ha⟩ := hv
    exact ha
  | bool b => simp [V.cells?] at h; subst h; exact one r (by simp only [VR] at hv; subst hv; rfl) hv
  | int k n => simp [V.cells?] at h; subst h; exact one r (by simp only [VR] at hv; subst hv; rfl) hv
  | str s => simp [V.cells?] at h; subst h; exact one r (by simp only [VR] at hv; subst hv; rfl) hv
  | nilFunc => simp [V.cells?] at h; subst h; exact one r (by simp only [VR] at hv; subst hv; rfl) hv
  | ptr a =>
    simp [V.cells?] at h; subst h
    refine one r ?_ hv
    cases a with
    | none => simp only [VR] at hv; subst hv; rfl
    | some l =>
      simp only [VR] at hv
      split at hv
      · exact hv.elim
      · obtain ⟨a, rfl⟩ := hv; rfl
      · subst hv; rfl
  | slice a len esz cap =>
    simp [V.cells?] at h; subst h
    refine one r ?_ hv
    cases a with
    | none => simp only [VR] at hv; obtain ⟨_, rfl⟩ := hv; rfl
    | some l =>
      simp only [VR] at hv
      split at hv
      · exact hv.elim
      · obtain ⟨a, c, rfl, _⟩ := hv; rfl
      · obtain ⟨a, c, rfl, _⟩ := hv; rfl
  | map b =>
    simp [V.cells?] at h; subst h
    refine one r ?_ hv
    cases b with
    | none => simp only [VR] at hv; subst hv; rfl
    | some l =>
      simp only [VR] at hv
      split at hv
      · exact hv.elim
      · obtain ⟨a, rfl⟩ := hv; rfl
      · subst hv; rfl
  | func f a c =>
    simp [V.cells?] at h; subst h
    refine one r ?_ hv
    simp only [VR] at hv
    obtain ⟨a', c', rfl, _⟩ := hv
    rfl
  | yld l =>
    simp [V.cells?] at h; subst h
    refine one r ?_ hv
    simp only [VR] at hv
    split at hv
    · exact hv.elim
    · obtain ⟨a, rfl⟩ := hv; rfl
    · subst hv; rfl

theorem atom_ok {ι : Mp} {v : V} {r : Value} (h : v.atom = true) (hv : VR ι v r) : r.oneCell' = true := by
  cases v with
  | undef => simp [V.atom] at h
  | tup vs => simp [V.atom] at h
  | agg c => simp [V.atom] at h
  | bool b => simp only [VR] at hv; subst hv; rfl
  | int k n => simp only [VR] at hv; subst hv; rfl
  | str s => simp only [VR] at hv; subst hv; rfl
  | nilFunc => simp only [VR] at hv; subst hv; rfl
  | ptr a =>
    cases a with
    | none => simp only [VR] at hv; subst hv; rfl
    | some l =>
      simp only [VR] at hv
      split at hv
      · exact hv.elim
      · obtain ⟨a, rfl⟩ := hv; rfl
      · subst hv; rfl
  | slice a len esz cap =>
    cases a with
    | none => simp only [VR] at hv; obtain ⟨_, rfl⟩ := hv; rfl
    | some l =>
      simp only [VR] at hv
      split at hv
      · exact hv.elim
      · obtain ⟨a, c, rfl, _⟩ := hv; rfl
      · obtain ⟨a, c, rfl, _⟩ := hv; rfl
  | map b =>
    cases b with
    | none => simp only [VR] at hv; subst hv; rfl
    | some l =>
      simp only [VR] at hv
      split at hv
      · exact hv.elim
      · obtain ⟨a, rfl⟩ := hv; rfl
      · subst hv; rfl
  | func f a c => simp only [VR] at hv; obtain ⟨a', c', rfl, _⟩ := hv; rfl
  | yld l =>
    simp only [VR] at hv
    split at hv
    · exact hv.elim
    · obtain ⟨a, rfl⟩ := hv; rfl
    · subst hv; rfl

theorem atoms_ok {ι : Mp} : ∀ {vs : List V} {rs : List Value}, vs.all V.atom = true → VRs ι vs rs → ∀ r ∈ rs, r.oneCell' = true
  | [], rs, _, h, r, hr => by simp only [VRs] at h; subst h; simp at hr
  | v :: vs, rs, ha, h, r, hr => by
    simp only [VRs] at h
    obtain ⟨q, rs', rfl, h1, h2⟩ := h
    simp only [List.all_cons, Bool.and_eq_true] at ha
    rcases List.mem_cons.1 hr with rfl | hr
    · exact atom_ok ha.1 h1
    · exact atoms_ok ha.2 h2 r hr

/-- A live row: where it lies. -/
theorem Rel.row {ι : Mp} {H : Heap} {w : World} (hr : Rel ι H w) {b : Nat} {cs : List V} (hrow : row H b = some cs) (hb : ι b ≠ .abs) :
    ∃ rb ro n c elem fz, ι b = .at rb ro n ∧ w.heap[rb]? = some (.cells c elem fz) ∧ c.size = n ∧ ro + cs.length ≤ n ∧ VRs ι cs ((c.toList.drop ro).take cs.length) := by
  unfold Am.row at hrow
  cases hs : ι b with
  | abs => exact absurd hs hb
  | dead => simp [hr.dead b hs] at hrow
  | «at» rb ro n =>
    obtain ⟨o, o', h1, h2, h3⟩ := hr.live b rb ro n hs
    cases o with
    | cells cs' own =>
      simp [h1] at hrow
      subst hrow
      obtain ⟨c, elem, fz, rfl, h4, h5, _, h6⟩ := h3
      exact ⟨rb, ro, n, c, elem, fz, rfl, h2, h4, h5, h6⟩
    | map es => simp [h1] at hrow
    | loop l => simp [h1] at hrow
    | dead => simp [h1] at hrow

theorem cell_at {w : World} {rb : Nat} {c : Array Value} {elem : TypeId} {fz : Nat × Nat} (h : w.heap[rb]? = some (.cells c elem fz)) (i : Nat) : w.cell? ⟨rb, i, none⟩ = c[i]? := by
  simp [World.cell?, h]

/-- Cells of a live row, read. -/
theorem Rel.cells {ι : Mp} {H : Heap} {w : World} (hr : Rel ι H w) {l : Loc} {n : Nat} {vs : List V} (hc : cellsAt H l n = some vs) (hb : ι l.blk ≠ .abs) :
    ∃ rb ro m rs, ι l.blk = .at rb ro m ∧ VRs ι vs rs ∧ rs.length = n ∧ vs.length = n ∧ ∀ j v, rs[j]? = some v → w.cell? ((⟨rb, ro + l.off, none⟩ : Addr).add j) = some v := by
  rw [cellsAt_eq] at hc
  cases hrow : Am.row H l.blk with
  | none => simp [hrow] at hc
  | some cs =>
    simp only [hrow] at hc
    split at hc
    · rename_i hle
      simp only [Option.some.injEq] at hc
      subst hc
      obtain ⟨rb, ro, m, c, elem, fz, h1, h2, h3, h4, h5⟩ := hr.row hrow hb
      refine ⟨rb, ro, m, _, h1, (h5.drop l.off).take n, ?_, ?_, fun j v hj => ?_⟩
      · simp only [List.length_take, List.length_drop, Array.length_toList]
        omega
      · simp only [List.length_take, List.length_drop]
        omega
      · rw [Addr.add_lit, cell_at h2]
        simp only [List.getElem?_take, List.getElem?_drop] at hj
        split at hj
        · split at hj
          · rw [← hj]; simp only [Array.getElem?_toList]; congr 1; omega
          · cases hj
        · cases hj
    · cases hc

theorem run_loadVarAgg {P : Program} {w : World} {t : TypeId} {n : Nat} {rs : List Value} {a : Addr} (h1 : (isAgg t).run P w = .ok true w) (h2 : (sizeOf t).run P w = .ok n w) (hl : rs.length = n)
    (h : ∀ j v, rs[j]? = some v → w.cell? (a.add j) = some v) : (loadVar t a).run P w = .ok (.agg rs.toArray) w := by
  subst hl
  simp [loadVar, h1, h2, run_loadCells_list w a rs h]

theorem loadA_ok {E : Env} {P : Program} (hE : EnvOk E P) {ι : Mp} {H : Heap} {w : World} (hr : Rel ι H w) {t : TypeId} {a v : V} (h : loadA E H t a = some v) {ra : Value} (ha : VR ι a ra) :
    ∃ rv, (Instr.loadAt t ra).run P w = .ok rv w ∧ VR ι v rv := by
  unfold loadA at h
  split at h
  · rename_i l
    simp only [VR] at ha
    have hb : ι l.blk ≠ .abs := fun e => by simp [e] at ha
    cases hg : E.isAgg t with
    | none => simp [hg] at h
    | some b =>
      cases b with
      | true =>
        cases hn : E.size t with
        | none => simp [hg, hn] at h
        | some n =>
          simp only [hg, hn] at h
          cases hc : cellsAt H l n with
          | none => simp [hc] at h
          | some vs =>
            simp only [hc, Option.map_some, Option.some.injEq] at h
            subst h
            obtain ⟨rb, ro, m, rs, h1, h2, h3, _, h4⟩ := hr.cells hc hb
            simp only [h1] at ha
            subst ha
            refine ⟨.agg rs.toArray, ?_, by simp only [VR]; exact ⟨_, rfl, by simpa using h2⟩⟩
            simp [Instr.loadAt, Instr.sureAddr, run_loadVarAgg (run_agg hE hg) (run_siz hE hn) h3 h4]
      | false =>
        simp only [hg] at h
        cases hrow : row H l.blk with
        | none => simp [hrow] at h
        | some cs =>
          simp only [hrow] at h
          obtain ⟨rb, ro, m, c, elem, fz, h1, h2, h3, h4, h5⟩ := hr.row hrow hb
          simp only [h1] at ha
          subst ha
          rw [nthL_eq] at h
          obtain ⟨rv, hv, hvr⟩ := h5.get l.off v h
          have hc : c[ro + l.off]? = some rv := by
            simp only [List.getElem?_take, List.getElem?_drop] at hv
            split at hv
            · simpa using hv
            · cases hv
          refine ⟨rv, ?_, hvr⟩
          simp [Instr.loadAt, Instr.sureAddr, loadVar, run_agg hE hg, cell_at h2, hc]
  · cases h

theorem splice_length {α : Type} (cs vs : List α) (off : Nat) (h : off + vs.length ≤ cs.length) : (splice cs off vs).length = cs.length := by
  simp only [splice, List.length_append, List.length_take, List.length_drop]
  omega

theorem splice_get {α : Type} (cs vs : List α) (off : Nat) (h : off + vs.length ≤ cs.length) (i : Nat) :
    (splice cs off vs)[i]? = if off ≤ i ∧ i < off + vs.length then vs[i - off]? else cs[i]? := by
  simp only [splice, List.getElem?_append, List.length_append, List.length_take, List.getElem?_take, List.getElem?_drop]
  have hm : min off cs.length = off := by omega
  simp only [hm]
  by_cases h1 : i < off
  · have : i < off + vs.length := by omega
    have h2 : ¬ (off ≤ i ∧ i < off + vs.length) := by omega
    simp [h1, h2]
    omega
  · by_cases h2 : i < off + vs.length
    · have h3 : off ≤ i ∧ i < off + vs.length := by omega
      simp [h1, h2, h3]
    · have h3 : ¬ (off ≤ i ∧ i < off + vs.length) := by omega
      rw [if_neg h2, if_neg h3]
      congr 1
      omega

theorem VRs.splice {ι : Mp} {cs vs : List V} {rs qs : List Value} (off : Nat) (h : VRs ι cs rs) (h' : VRs ι vs qs) : VRs ι (Am.splice cs off vs) (Am.splice rs off qs) := by
  unfold Am.splice
  rw [h'.length]
  exact ((h.take off).append h').append (h.drop _)

/-- Cells are written in place. -/
theorem putCells_ok {P : Program} {ι : Mp} {H H' : Heap} {w : World} (hr : Rel ι H w) {l : Loc} {vs : List V} (h : putCells H l vs = some H') (hb : ι l.blk ≠ .abs) {qs : List Value} (hq : VRs ι vs qs) :
    ∃ rb ro n w', ι l.blk = .at rb ro n ∧ (storeCells ⟨rb, ro + l.off, none⟩ qs).run P w = .ok () w' ∧ Post ι H w ι H' w' := by
  rw [putCells_eq] at h
  cases hg : H.get l.blk with
  | none => simp [hg] at h
  | some o =>
    cases o with
    | cells cs own =>
      cases own with
      | false => simp [hg] at h
      | true =>
        simp only [hg] at h
        split at h
        · rename_i hc
          simp only [Bool.and_eq_true, decide_eq_true_eq] at hc
          simp only [Option.some.injEq] at h
          subst h
          cases hs : ι l.blk with
          | abs => exact absurd hs hb
          | dead => simp [hr.dead _ hs] at hg
          | «at» rb ro n =>
            obtain ⟨o, o', h1, h2, h3⟩ := hr.live _ rb ro n hs
            rw [hg] at h1
            simp only [Option.some.injEq] at h1
            subst h1
            obtain ⟨c, elem, fz, rfl, h4, h5, h6, h7⟩ := h3
            have := h6 rfl
            subst this
            have hl : qs.length = vs.length := hq.length.symm
            have hst := run_storeCells_at P rb (ro + l.off) elem qs 0 c w h2 (by omega) (atoms_ok hc.2 hq)
            simp only [Nat.add_zero] at hst
            refine ⟨rb, ro, n, _, rfl, hst, ?_⟩
            have hnew := setRow_heap w rb c (c.toList.take (ro + l.off) ++ qs ++ c.toList.drop (ro + l.off + qs.length)).toArray elem (0, 0) h2
            refine Post.set hr hs (by simp [hg, Obj.own]) _ _ (by simp) hnew (fun k hk => setRow_other w rb k _ hk) ?_
            have hsz : (c.toList.take (ro + l.off) ++ qs ++ c.toList.drop (ro + l.off + qs.length)).length = c.size := by
              simp only [List.length_append, List.length_take, List.length_drop, Array.length_toList]
              omega
            refine ⟨_, elem, (0, 0), rfl, by rw [List.size_toArray, hsz]; exact h4, by rw [splice_length _ _ _ hc.1]; exact h5, fun _ => rfl, ?_⟩
            have e : ((c.toList.take (ro + l.off) ++ qs ++ c.toList.drop (ro + l.off + qs.length)).drop ro).take (splice cs l.off vs).length = splice ((c.toList.drop ro).take cs.length) l.off qs := by
              rw [splice_length _ _ _ hc.1]
              apply List.ext_getElem?
              intro i
              have hlen : ((c.toList.drop ro).take cs.length).length = cs.length := by
                simp only [List.length_take, List.length_drop, Array.length_toList]; omega
              rw [splice_get _ _ _ (by rw [hlen, hl]; exact hc.1)]
              have e2 := splice_get c.toList qs (ro + l.off) (by simp only [Array.length_toList]; omega) (ro + i)
              simp only [splice] at e2
              simp only [List.getElem?_take, List.getElem?_drop, e2]
              by_cases hi : i < cs.length
              · simp only [hi, if_true]
                by_cases hin : l.off ≤ i ∧ i < l.off + qs.length
                · have : ro + l.off ≤ ro + i ∧ ro + i < ro + l.off + qs.length := by omega
                  simp only [this, hin, and_self, if_true]
                  congr 1
                  omega
                · have : ¬ (ro + l.off ≤ ro + i ∧ ro + i < ro + l.off + qs.length) := by omega
                  simp only [this, hin, if_false]
              · have : ¬ (l.off ≤ i ∧ i < l.off + qs.length) := by omega
                simp only [hi, this, if_false]
            simp only [e]
            exact h7.splice l.off hq
        · cases h
    | map es => simp [hg] at h
    | loop l => simp [hg] at h
    | dead => simp [hg] at h

theorem storeA_ok {E : Env} {P : Program} (hE : EnvOk E P) {ι : Mp} {H H' : Heap} {w : World} (hr : Rel ι H w) {t : TypeId} {a x : V} (h : storeA E H t a x = some H') {ra rx : Value} (ha : VR ι a ra) (hx : VR ι x rx) :
    ∃ w', (Instr.storeAt t ra rx).run P w = .ok () w' ∧ Post ι H w ι H' w' := by
  unfold storeA at h
  split at h
  · rename_i l vs n hvs hn
    split at h
    · rename_i hlen
      simp only [VR] at ha
      have hb : ι l.blk ≠ .abs := fun e => by simp [e] at ha
      have hq := cells?_ok hvs hx
      obtain ⟨rb, ro, m, w', h1, h2, h3⟩ := putCells_ok (P := P) hr h hb hq
      simp only [h1] at ha
      subst ha
      have hsz : rx.cells.size = n := by rw [← hlen, hq.length]; simp
      exact ⟨w', by simp [Instr.storeAt, Instr.sureAddr, storeVar, run_siz hE hn, hsz, h2], h3⟩
    · cases h
  · cases h

theorem newA_ok {ι : Mp} {H : Heap} {w : World} (hr : Rel ι H w) {cs : List V} {c : Array Value} (hc : VRs ι cs c.toList) (elem : TypeId) :
    ∃ ι', Post ι H w ι' (H.push (.cells cs true)) { w with heap := w.heap.push (.cells c elem) } ∧ ι' H.size = .at w.heap.size 0 c.size := by
  refine ⟨_, Post.push hr (.cells cs true) (.cells c elem) c.size rfl ⟨c, elem, (0, 0), rfl, rfl, by rw [hc.length]; simp, fun _ => rfl, ?_⟩, by simp⟩
  rw [List.drop_zero, hc.length, List.take_length]
  exact hc

end Go.Am
