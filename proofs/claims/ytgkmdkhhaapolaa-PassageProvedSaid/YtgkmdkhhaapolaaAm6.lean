/-
  THE ABSTRACT MACHINE, 6: its operations stand for the model's (slices, maps, builtins).
-/
import Derived.Test.YtgkmdkhhaapolaaAm5
namespace Go.Am

theorem optV {ι : Mp} {ev : Operand → V} {ρ : Operand → Value} (hev : ∀ x, VR ι (ev x) (ρ x)) (o : Option Operand) :
    (∀ v, o.map ev = some v → ∃ r, o.map ρ = some r ∧ VR ι v r) ∧ (o.map ev = none → o.map ρ = none) := by
  cases o with
  | none => exact ⟨by simp, by simp⟩
  | some x => exact ⟨fun v h => ⟨ρ x, rfl, by simp at h; rw [← h]; exact hev x⟩, by simp⟩

theorem sliceA_ok {E : Env} {P : Program} (hE : EnvOk E P) {ι : Mp} {H : Heap} {w : World} (hr : Rel ι H w) {t : TypeId} {x v : V} {lo hi mx : Option V} (h : sliceA E H t x lo hi mx = some v) {rx : Value} (hx : VR ι x rx)
    {rlo rhi rmx : Option Value} (hlo : ∀ v, lo = some v → ∃ r, rlo = some r ∧ VR ι v r) (hlo' : lo = none → rlo = none) (hhi : ∀ v, hi = some v → ∃ r, rhi = some r ∧ VR ι v r) (hhi' : hi = none → rhi = none)
    (hmx : ∀ v, mx = some v → ∃ r, rmx = some r ∧ VR ι v r) (hmx' : mx = none → rmx = none) : ∃ rv, (Instr.sliceAt t rx rlo rhi rmx).run P w = .ok rv w ∧ VR ι v rv := by
  unfold sliceA at h
  split at h
  · rename_i s hu
    simp only [VR] at hx; subst hx
    split at h
    · cases h
    · rename_i hm
      have hm' : mx = none := by cases mx <;> simp at hm ⊢
      have := hmx' hm'; subst this
      split at h
      · rename_i l hh m hb
        simp only [Option.some.injEq] at h; subst h
        obtain ⟨_, _, _, hrun⟩ := boundsA_ok (P := P) (w := w) hb (Nat.le_refl _) hlo hlo' hhi hhi' (mx := none) (rmx := none) (by simp) (by simp) false
        exact ⟨_, by simp [Instr.sliceAt, run_und hE hu, Instr.slice, hrun]; rfl, by simp [VR]⟩
      · cases h
  · rename_i e len esz cap hu
    split at h
    · rename_i n hn
      split at h
      · rename_i b hb
        obtain ⟨l, hh, m⟩ := b
        simp only [Option.some.injEq] at h; subst h
        simp only [VR] at hx
        obtain ⟨rfl, rfl⟩ := hx
        obtain ⟨h1, h2, h3, hrun⟩ := boundsA_ok (P := P) (w := w) hb (Nat.le_refl _) hlo hlo' hhi hhi' hmx hmx' true
        obtain rfl : m = 0 := by omega
        obtain rfl : hh = 0 := by omega
        obtain rfl : l = 0 := by omega
        refine ⟨.slice none 0 0, ?_, by simp [VR]⟩
        simp [Instr.sliceAt, run_und hE hu, Instr.slice, hrun, run_siz hE hn]
      · cases h
    · cases h
  · rename_i e a len esz cap hu
    split at h
    · rename_i n hn
      split at h
      · rename_i hsz
        subst hsz
        split at h
        · rename_i l hh m hb
          simp only [Option.some.injEq] at h; subst h
          simp only [VR] at hx ⊢
          split at hx
          · exact hx.elim
          · obtain ⟨ra, c, rfl, hle⟩ := hx
            obtain ⟨h1, h2, h3, hrun⟩ := boundsA_ok (P := P) (w := w) hb hle hlo hlo' hhi hhi' hmx hmx' true
            obtain ⟨mm, hmm⟩ : ∃ mm, (if mx.isSome = true then m else c) = mm := ⟨_, rfl⟩
            rw [hmm] at hrun
            have hb1 : hh ≤ mm := by rw [← hmm]; split <;> omega
            by_cases hml : mm = l
            · exact ⟨.slice (some ra) (hh - l) (mm - l), by simp [Instr.sliceAt, run_und hE hu, Instr.slice, hrun, run_siz hE hn, hml], _, _, rfl, by omega⟩
            · exact ⟨.slice (some (ra.add (l * n))) (hh - l) (mm - l), by simp [Instr.sliceAt, run_und hE hu, Instr.slice, hrun, run_siz hE hn, hml], _, _, rfl, by omega⟩
          · obtain ⟨ra, c, rfl, hle, hc, hor⟩ := hx
            obtain ⟨h1, h2, h3, hrun⟩ := boundsA_ok (P := P) (w := w) hb hle hlo hlo' hhi hhi' hmx hmx' true
            obtain ⟨mm, hmm⟩ : ∃ mm, (if mx.isSome = true then m else c) = mm := ⟨_, rfl⟩
            rw [hmm] at hrun
            have hb1 : hh ≤ mm := by rw [← hmm]; split <;> omega
            have hb2 : mm ≤ c := by rw [← hmm]; split <;> omega
            have hcapk : ∀ k, (if mx.isSome = true then some (m - l) else cap.map (· - l)) = some k → mm - l = k := by
              intro k hk
              by_cases hm : mx.isSome = true
              · simp only [hm, if_true, Option.some.injEq] at hk hmm; omega
              · simp only [hm, if_false, Bool.false_eq_true] at hk hmm
                cases cap with
                | none => simp at hk
                | some k0 => simp only [Option.map_some, Option.some.injEq] at hk; have := hc k0 rfl; omega
            by_cases hml : mm = l
            · exact ⟨.slice (some ra) (hh - l) (mm - l), by simp [Instr.sliceAt, run_und hE hu, Instr.slice, hrun, run_siz hE hn, hml], ra, _, rfl, by omega, hcapk, .inr (by omega)⟩
            · refine ⟨.slice (some (ra.add (l * n))) (hh - l) (mm - l), by simp [Instr.sliceAt, run_und hE hu, Instr.slice, hrun, run_siz hE hn, hml], _, _, rfl, by omega, hcapk, ?_⟩
              rcases hor with ⟨rfl, hfit⟩ | rfl
              · refine .inl ⟨by rw [Addr.add_lit]; simp [Nat.add_assoc], ?_⟩
                have : l * n + (mm - l) * n ≤ c * n := by
                  rw [← Nat.add_mul]
                  exact Nat.mul_le_mul_right _ (by omega)
                omega
              · exact .inr (by omega)
        · cases h
      · cases h
    · cases h
  · rename_i len e a hu
    split at h
    · rename_i n hn
      split at h
      · rename_i cs hrow
        split at h
        · rename_i hlen
          split at h
          · rename_i l hh m hb
            simp only [Option.some.injEq] at h; subst h
            obtain ⟨h1, h2, h3, hrun⟩ := boundsA_ok (P := P) (w := w) hb (Nat.le_refl _) hlo hlo' hhi hhi' hmx hmx' false
            have hm : (if mx.isSome = true then m else len) = m ∨ m = len := by
              by_cases hm : mx.isSome = true
              · exact .inl (by simp [hm])
              · right
                have hmn : mx = none := by cases mx <;> simp at hm ⊢
                subst hmn
                unfold boundsA at hb
                split at hb
                · rename_i hbm
                  split at hb
                  · simp only [Option.some.injEq, Prod.mk.injEq] at hb
                    simp only [boundA, Option.some.injEq] at hbm
                    omega
                  · cases hb
                · cases hb
            have hm' : (if mx.isSome = true then m else len) = m := by rcases hm with e | e; exact e; rw [e]; simp
            rw [hm'] at hrun
            obtain ⟨ra, rfl⟩ := hx.ptr_some
            refine ⟨.slice (some (if m = l then ra else ra.add (l * n))) (hh - l) (m - l), by simp [Instr.sliceAt, run_und hE hu, Instr.sureAddr, hrun, run_siz hE hn], ?_⟩
            simp only [VR] at hx ⊢
            split at hx
            · exact hx.elim
            · exact ⟨_, _, rfl, by omega⟩
            · rename_i rb ro N hst
              simp only [Value.pointer.injEq, Option.some.injEq] at hx
              subst hx
              refine ⟨_, _, rfl, by omega, fun k hk => Option.some.inj hk, ?_⟩
              by_cases hml : m = l
              · exact .inr (by omega)
              · rw [if_neg hml]
                refine .inl ⟨by rw [Addr.add_lit]; simp [Nat.add_assoc], ?_⟩
                obtain ⟨rb', ro', N', c, elem, fz, g1, g2, g3, g4, g5⟩ := hr.row hrow (by rw [hst]; simp)
                rw [hst] at g1
                simp only [St.at.injEq] at g1
                obtain ⟨rfl, rfl, rfl⟩ := g1
                have : l * n + (m - l) * n ≤ len * n := by
                  rw [← Nat.add_mul]
                  exact Nat.mul_le_mul_right _ (by omega)
                omega
          · cases h
        · cases h
      · cases h
    · cases h
  · cases h

theorem makeSliceA_ok {E : Env} {P : Program} (hE : EnvOk E P) {ι : Mp} {H H' : Heap} {w : World} (hr : Rel ι H w) {t : TypeId} {l c v : V} (h : makeSliceA E H t l c = some (v, H')) {rl rc : Value} (hl : VR ι l rl) (hc : VR ι c rc) :
    ∃ rv w' ι', (Instr.makeSlice t rl rc).run P w = .ok rv w' ∧ Post ι H w ι' H' w' ∧ VR ι' v rv := by
  unfold makeSliceA at h
  split at h
  · rename_i e kl l kc c hu
    simp only [VR] at hl hc; subst hl; subst hc
    split at h
    · rename_i i zs hi hz
      obtain ⟨i', z, hi', hiz, hrz, hzr⟩ := run_zeros (P := P) (w := w) hE hz
      rw [hi] at hi'
      simp only [Option.some.injEq] at hi'
      subst hi'
      split at h
      · rename_i hb
        obtain ⟨b1, b2, b3, b4, b5, b6⟩ := hb
        simp only [Option.some.injEq, Prod.mk.injEq] at h
        obtain ⟨rfl, rfl⟩ := h
        have hbytes : (i.bytes : Int) * c ≤ 281474976710656 := by
          have h1 : (i.bytes : Int) ≤ 1048576 := by omega
          have h2 : (i.bytes : Int) * c ≤ 1048576 * 1048576 := Int.mul_le_mul h1 b3 (by omega) (by omega)
          omega
        have hrun := run_make (P := P) w t e i z (Env.und_ok hE hu) (hE.info e i hi) hiz kl kc l c b1 b2 hbytes (by omega)
        have hsz : (madeCells z.cells (c.toNat * i.size)).size = c.toNat * i.size := size_madeCells _ _
        have hzl : z.cells.size = zs.length := by rw [(hzr ι).length]; simp
        have hcells : VRs ι (zcells zs (l.toNat * i.size)) (((madeCells z.cells (c.toNat * i.size)).toList.drop 0).take (zcells zs (l.toNat * i.size)).length) := by
          have hle : l.toNat * i.size ≤ c.toNat * i.size := Nat.mul_le_mul_right _ (by omega)
          have := zcells_ok (hzr ι) (l.toNat * i.size) (by omega)
          have e1 : ((madeCells z.cells (c.toNat * i.size)).toList.drop 0).take (zcells zs (l.toNat * i.size)).length = (List.range (l.toNat * i.size)).map fun k => z.cells[k % z.cells.size]! := by
            simp only [madeCells, List.drop_zero, toList_range_map, zcells, List.length_map, List.length_range, ← List.map_take, List.take_range, Nat.min_eq_left hle]
          rw [e1]; exact this
        have hp := Post.push (w' := w.alloc (.cells (madeCells z.cells (c.toNat * i.size)) e)) hr (.cells (zcells zs (l.toNat * i.size)) true) (.cells (madeCells z.cells (c.toNat * i.size)) e) (c.toNat * i.size) rfl
          ⟨_, e, (0, 0), rfl, hsz, by simp only [zcells, List.length_map, List.length_range, Nat.zero_add]; exact Nat.mul_le_mul_right _ (by omega), fun _ => rfl, hcells⟩
        refine ⟨_, _, _, hrun, hp, ?_⟩
        simp only [VR, if_true]
        refine ⟨_, _, rfl, by omega, fun k hk => ?_, .inl ⟨rfl, by simp⟩⟩
        split at hk
        · simp only [Option.some.injEq] at hk; omega
        · cases hk
      · cases h
    · cases h
  · cases h

/-- What a slice holds, in the world. -/
theorem elemsA_ok {ι : Mp} {H : Heap} {w : World} (hr : Rel ι H w) {a : Option Loc} {n sz : Nat} {cap : Option Nat} {vs : List V} (h : elemsA H (.slice a n sz cap) = some vs) {r : Value} (hv : VR ι (.slice a n sz cap) r) (h0 : 0 < n) :
    ∃ ra c rs, r = .slice (some ra) n c ∧ VRs ι vs rs ∧ rs.length = n * sz ∧ ∀ j v, rs[j]? = some v → w.cell? (ra.add j) = some v := by
  cases a with
  | none => simp only [VR] at hv; omega
  | some l =>
    simp only [elemsA] at h
    simp only [VR] at hv
    have hb : ι l.blk ≠ .abs := fun e => by simp [e] at hv
    obtain ⟨rb, ro, m, rs, h1, h2, h3, _, h4⟩ := hr.cells h hb
    simp only [h1] at hv
    obtain ⟨ra, c, rfl, hle, _, hor⟩ := hv
    obtain ⟨rfl, _⟩ := hor.resolve_right (by omega)
    exact ⟨_, c, rs, rfl, h2, h3, h4⟩

theorem run_append_room_at {P : Program} (w : World) (t ty e : TypeId) (i : TypeInfo) (ht : P.underlying t = some (.slice e)) (hi : P.info? e = some i)
    (g o sLen sCap : Nat) (cur : Array Value) (el : TypeId) (hg : w.heap[g]? = some (.cells cur el (0, 0)))
    (a : Addr) (m c : Nat) (news : List Value) (hl : news.length = m * i.size) (hnews : ∀ j u, news[j]? = some u → w.cell? (a.add j) = some u) (h1 : ∀ u ∈ news, u.oneCell' = true)
    (hroom : sLen + m ≤ sCap) (hfit : o + sLen * i.size + news.length ≤ cur.size) :
    (Builtin.append_ #[t, t] ty #[.slice (some ⟨g, o, none⟩) sLen sCap, .slice (some a) m c]).run P w =
      .ok (.slice (some ⟨g, o, none⟩) (sLen + m) sCap) (w.setRow g (cur.toList.take (o + sLen * i.size) ++ news ++ cur.toList.drop (o + sLen * i.size + news.length)).toArray) := by
  have hf := run_firstCells_some (P := P) w i.size m a m c news hl hnews
  have hst := run_storeCells_at P g (o + sLen * i.size) el news 0 cur w hg (by simpa using hfit) h1
  simp only [Nat.add_zero] at hst
  simp [Builtin.append_, run_underlying ht, sizeOf, typeInfo, hi, Builtin.lenOf, hroom, hf, Addr.add_lit, hst]


theorem run_append_zero {P : Program} (w : World) (t ty e : TypeId) (i : TypeInfo) (ht : P.underlying t = some (.slice e)) (hi : P.info? e = some i) (base xb : Option Addr) (sLen sCap c : Nat) (hle : sLen ≤ sCap) :
    (Builtin.append_ #[t, t] ty #[.slice base sLen sCap, .slice xb 0 c]).run P w = .ok (.slice base sLen sCap) w := by
  cases base <;> cases xb <;> simp [Builtin.append_, run_underlying ht, sizeOf, typeInfo, hi, Builtin.lenOf, hle, Builtin.firstCells, loadCells, loadCellsFrom, storeCells]

theorem size_grown {z : Array Value} {need cap sz : Nat} (news : List Value) (hz : z.size = sz) (hn : news.length = need * sz) (hc : need ≤ cap) : (news.toArray ++ Builtin.zeroCells z (cap - need)).size = cap * sz := by
  simp only [Array.size_append, List.size_toArray, size_zeroCells, hz, hn, ← Nat.add_mul]
  congr 1
  omega

theorem appendA_ok {E : Env} {P : Program} (hE : EnvOk E P) {ι : Mp} {H H' : Heap} {w : World} (hr : Rel ι H w) {t ty : TypeId} {s x v : V} (h : appendA E H t s x = some (v, H')) {rs rx : Value} (hs : VR ι s rs) (hx : VR ι x rx) :
    ∃ rv w' ι', (Builtin.append_ #[t, t] ty #[rs, rx]).run P w = .ok rv w' ∧ Post ι H w ι' H' w' ∧ VR ι' v rv := by
  unfold appendA at h
  split at h
  · rename_i e hu
    have ht := Env.und_ok hE hu
    split at h
    · rename_i i zs hi hz
      have hpi := hE.info e i hi
      obtain ⟨i', z, hi', hiz, hrz, hzr⟩ := run_zeros (P := P) (w := w) hE hz
      rw [hi] at hi'
      simp only [Option.some.injEq] at hi'
      subst hi'
      split at h
      · rename_i sa sl ssz cap xa xl xsz xcap news hnews
        split at h
        · rename_i hc
          obtain ⟨c1, c2, c3, c4, c5, c6, c7⟩ := hc
          have hzs : z.cells.size = i.size := by rw [← c3, (hzr ι).length]; simp
          have hbytes : (sl + xl) * i.bytes ≤ 140737488355328 := by
            have : (sl + xl) * i.bytes ≤ 1048576 * 1048576 := Nat.mul_le_mul c5 c4
            omega
          split at h
          · rename_i hx0
            subst hx0
            simp only [Option.some.injEq, Prod.mk.injEq] at h
            obtain ⟨rfl, rfl⟩ := h
            have hss : ∃ base k, rs = .slice base sl k ∧ sl ≤ k := by
              cases sa with
              | none => simp only [VR] at hs; obtain ⟨rfl, rfl⟩ := hs; exact ⟨none, 0, rfl, Nat.le_refl _⟩
              | some l =>
                simp only [VR] at hs
                split at hs
                · exact hs.elim
                · obtain ⟨a, k, hrs, hle⟩ := hs; exact ⟨some a, k, hrs, hle⟩
                · obtain ⟨a, k, hrs, hle, _⟩ := hs; exact ⟨some a, k, hrs, hle⟩
            have hxs : ∃ base k, rx = .slice base 0 k := by
              cases xa with
              | none => simp only [VR] at hx; obtain ⟨_, rfl⟩ := hx; exact ⟨none, 0, rfl⟩
              | some l => obtain ⟨a, k, rfl⟩ := hx.slice_some; exact ⟨some a, k, rfl⟩
            obtain ⟨base, k, rfl, hle⟩ := hss
            obtain ⟨xb, kx, rfl⟩ := hxs
            exact ⟨_, w, ι, run_append_zero w t ty e i ht hpi base xb sl k kx hle, Post.refl hr, hs⟩
          · rename_i hx0
            obtain ⟨ra, xc, rnews, rfl, hvn, hln, hcn⟩ := elemsA_ok hr hnews hx (by omega)
            have hxa : xa.isSome = true := by
              cases xa with
              | none => simp only [VR] at hx; omega
              | some l => rfl
            rw [c6 hxa] at hln
            have h1 := atoms_ok c1 hvn
            split at h
            · -- a nil slice
              simp only [Option.some.injEq, Prod.mk.injEq] at h
              obtain ⟨rfl, rfl⟩ := h
              simp only [VR] at hs
              obtain ⟨rfl, rfl⟩ := hs
              have hrun := run_append_nil (P := P) w t ty e i z ht hpi hiz ra xl xc rnews hln hcn (by omega) (by omega) (by simp only [Nat.zero_add] at hbytes; omega)
              have hge := grownCap_ge w xl 0 e
              have hsz := size_grown (z := z.cells) (cap := grownCap w xl 0 e) rnews hzs hln hge
              have hp := Post.push (w' := w.drew.alloc (.cells (rnews.toArray ++ Builtin.zeroCells z.cells (grownCap w xl 0 e - xl)) e)) hr (.cells news true) (.cells (rnews.toArray ++ Builtin.zeroCells z.cells (grownCap w xl 0 e - xl)) e) (grownCap w xl 0 e * i.size) rfl
                ⟨_, e, (0, 0), rfl, hsz, by rw [hvn.length, hln, Nat.zero_add]; exact Nat.mul_le_mul_right _ hge, fun _ => rfl, by
                  rw [List.drop_zero, Array.toList_append, hvn.length]
                  simpa using hvn⟩
              exact ⟨_, _, _, hrun, hp, by simp only [VR, if_true]; exact ⟨_, _, rfl, hge, by simp, .inl ⟨rfl, by simp⟩⟩⟩
            · rename_i l
              split at h
              · rename_i olds holds
                have hssz : ssz = i.size := c7 rfl
                subst hssz
                have hs' := hs
                simp only [VR] at hs'
                have hb : ι l.blk ≠ .abs := fun e => by simp [e] at hs'
                obtain ⟨rb, ro, n, rolds, g1, g2, g3, g3', g4⟩ := hr.cells holds hb
                simp only [g1] at hs'
                obtain ⟨sa', c, rfl, hle, hck, hor⟩ := hs'
                have holdsr : ∀ j u, rolds[j]? = some u → w.cell? (sa'.add j) = some u := by
                  rcases hor with ⟨rfl, _⟩ | rfl
                  · exact g4
                  · intro j u hj
                    obtain rfl : sl = 0 := by omega
                    have : rolds = [] := List.eq_nil_of_length_eq_zero (by rw [g3]; simp)
                    subst this
                    simp at hj
                have grow : c < sl + xl → ∀ {ι0 : Mp} {H0 : Heap}, Post ι H w ι0 H0 w → ∃ rv w' ι', (Builtin.append_ #[t, t] ty #[.slice (some sa') sl c, .slice (some ra) xl xc]).run P w = .ok rv w' ∧
                    Post ι H w ι' (H0.push (.cells (olds ++ news) true)) w' ∧ VR ι' (.slice (some ⟨H0.size, 0⟩) (sl + xl) i.size none) rv := by
                  intro hg ι0 H0 hp0
                  have hrun := run_append_grow (P := P) w t ty e i z ht hpi hiz sa' sl c rolds g3 holdsr ra xl xc rnews hln hcn hg (by omega) (growslice_fits hg hbytes)
                  have hge := grownCap_ge w (sl + xl) c e
                  have hl2 : (rolds ++ rnews).length = (sl + xl) * i.size := by rw [List.length_append, g3, hln, Nat.add_mul]
                  have hv2 : VRs ι0 (olds ++ news) (rolds ++ rnews) := (g2.mono hp0.ge).append (hvn.mono hp0.ge)
                  have hsz := size_grown (z := z.cells) (cap := grownCap w (sl + xl) c e) (rolds ++ rnews) hzs hl2 hge
                  have hp := Post.push (w' := w.drew.alloc (.cells (rolds.toArray ++ rnews.toArray ++ Builtin.zeroCells z.cells (grownCap w (sl + xl) c e - (sl + xl))) e)) hp0.rel (.cells (olds ++ news) true)
                    (.cells (rolds.toArray ++ rnews.toArray ++ Builtin.zeroCells z.cells (grownCap w (sl + xl) c e - (sl + xl))) e) (grownCap w (sl + xl) c e * i.size) rfl
                    ⟨_, e, (0, 0), rfl, by simpa using hsz, by rw [hv2.length, hl2, Nat.zero_add]; exact Nat.mul_le_mul_right _ hge, fun _ => rfl, by
                      rw [List.drop_zero, Array.toList_append, hv2.length, show (rolds.toArray ++ rnews.toArray).toList = rolds ++ rnews by simp, List.take_left]
                      exact hv2⟩
                  exact ⟨_, _, _, hrun, hp0.trans hp, by simp only [VR, if_true]; exact ⟨_, _, rfl, hge, by simp, .inl ⟨rfl, by simp⟩⟩⟩
                split at h
                · rename_i hcap
                  simp only [Option.some.injEq, Prod.mk.injEq] at h
                  obtain ⟨rfl, rfl⟩ := h
                  have : c < sl + xl := by
                    cases cap with
                    | none => simp at hcap
                    | some k => rw [hck k rfl]; simpa using hcap
                  exact grow this (Post.refl hr)
                · split at h
                  · rename_i cs hg
                    simp only [Option.some.injEq, Prod.mk.injEq] at h
                    obtain ⟨rfl, rfl⟩ := h
                    by_cases hroom : sl + xl ≤ c
                    · obtain ⟨rfl, hfit⟩ := hor.resolve_right (by omega)
                      obtain ⟨o, o', k1, k2, k3⟩ := hr.live _ rb ro n g1
                      rw [hg] at k1
                      simp only [Option.some.injEq] at k1
                      subst k1
                      obtain ⟨cur, el, fz, rfl, k4, k5, k6, k7⟩ := k3
                      have := k6 rfl
                      subst this
                      have hmul : (sl + xl) * i.size ≤ c * i.size := Nat.mul_le_mul_right _ hroom
                      rw [Nat.add_mul] at hmul
                      have hrun := run_append_room_at (P := P) w t ty e i ht hpi rb (ro + l.off) sl c cur el k2 ra xl xc rnews hln hcn h1 hroom (by omega)
                      have hnew := setRow_heap w rb cur (cur.toList.take (ro + l.off + sl * i.size) ++ rnews ++ cur.toList.drop (ro + l.off + sl * i.size + rnews.length)).toArray el (0, 0) k2
                      have hsz : (cur.toList.take (ro + l.off + sl * i.size) ++ rnews ++ cur.toList.drop (ro + l.off + sl * i.size + rnews.length)).length = cur.size := by
                        simp only [List.length_append, List.length_take, List.length_drop, Array.length_toList]
                        omega
                      have hge1 : Ge ι (fun k => if k = l.blk then .dead else ι k) := by
                        intro k
                        by_cases e : k = l.blk
                        · exact .inr (.inr ⟨by simp [e], rb, ro, n, e ▸ g1⟩)
                        · exact .inr (.inl (by simp [e]))
                      have hold : rolds = (cur.toList.drop (ro + l.off)).take (sl * i.size) := by
                        apply List.ext_getElem?
                        intro j
                        by_cases hj : j < sl * i.size
                        · have h2 := g4 j rolds[j] (List.getElem?_eq_getElem (by rw [g3]; exact hj))
                          rw [Addr.add_lit, cell_at k2] at h2
                          rw [List.getElem?_eq_getElem (by rw [g3]; exact hj)]
                          simp only [List.getElem?_take, hj, if_true, List.getElem?_drop, Array.getElem?_toList]
                          exact h2.symm
                        · rw [List.getElem?_eq_none (by rw [g3]; omega), List.getElem?_eq_none (by simp only [List.length_take]; omega)]
                      have hp := Post.move (w' := w.setRow rb (cur.toList.take (ro + l.off + sl * i.size) ++ rnews ++ cur.toList.drop (ro + l.off + sl * i.size + rnews.length)).toArray) hr g1 (by simp [hg, Obj.own]) (.cells (olds ++ news) true) _ (ro + l.off) n (by simp) hnew (fun k hk => setRow_other w rb k _ hk)
                        ⟨_, el, (0, 0), rfl, by rw [List.size_toArray, hsz]; exact k4, by rw [List.length_append, g3', hvn.length, hln]; omega, fun _ => rfl, by
                          have hv2 : VRs (fun k => if k = l.blk then .dead else ι k) (olds ++ news) (rolds ++ rnews) := (g2.mono hge1).append (hvn.mono hge1)
                          have e1 : ((cur.toList.take (ro + l.off + sl * i.size) ++ rnews ++ cur.toList.drop (ro + l.off + sl * i.size + rnews.length)).drop (ro + l.off)).take (olds ++ news).length = rolds ++ rnews := by
                            have hlen : (olds ++ news).length = (rolds ++ rnews).length := hv2.length
                            rw [hlen, List.append_assoc, List.drop_append_of_le_length (by simp only [List.length_take, Array.length_toList]; omega), List.drop_take, ← List.append_assoc]
                            rw [show ro + l.off + sl * i.size - (ro + l.off) = sl * i.size by omega, ← hold]
                            exact List.take_left
                          simp only [e1]
                          exact hv2⟩
                      refine ⟨_, _, _, hrun, hp, ?_⟩
                      simp only [VR, if_true]
                      exact ⟨_, _, rfl, hroom, by simp, .inl ⟨rfl, by omega⟩⟩
                    · have := grow (by omega) (Post.kill hr g1 (by simp [hg, Obj.own]))
                      simpa using this
                  · cases h
              · cases h
        · cases h
      · cases h
    · cases h
  · cases h

end Go.Am
