/-
  THE ABSTRACT MACHINE, 5: its operations stand for the model's (comparisons, places, slices).
-/
import Derived.Test.YtgkmdkhhaapolaaAm4
namespace Go.Am

theorem VR.ptr_some {ι : Mp} {l : Loc} {r : Value} (h : VR ι (.ptr (some l)) r) : ∃ a, r = .pointer (some a) := by
  simp only [VR] at h
  split at h
  · exact h.elim
  · exact h
  · exact ⟨_, h⟩

theorem VR.slice_some {ι : Mp} {l : Loc} {n e : Nat} {c : Option Nat} {r : Value} (h : VR ι (.slice (some l) n e c) r) : ∃ a k, r = .slice (some a) n k := by
  simp only [VR] at h
  split at h
  · exact h.elim
  · obtain ⟨a, k, hr, _⟩ := h; exact ⟨a, k, hr⟩
  · obtain ⟨a, k, hr, _⟩ := h; exact ⟨a, k, hr⟩

theorem eqA_ok {E : Env} {P : Program} (hE : EnvOk E P) {ι : Mp} {w : World} : ∀ (d : Nat) (t : TypeId) (x y : V) (b : Bool), eqA E d t x y = some b → ∀ rx ry, VR ι x rx → VR ι y ry →
    (Op.equalIn d t rx ry).run P w = .ok b w
  | 0, t, x, y, b, h, _, _, _, _ => by simp [eqA] at h
  | d + 1, t, x, y, b, h, rx, ry, hx, hy => by
    have ih := eqA_ok (w := w) (ι := ι) hE d
    unfold eqA at h
    split at h
    · rename_i hu
      simp only [VR] at hx hy; subst hx; subst hy
      simp only [Option.some.injEq] at h; subst h
      simp [Op.equalIn, run_und hE hu]
    · rename_i hu
      simp only [VR] at hx hy; subst hx; subst hy
      split at h
      · rename_i hk
        simp only [Option.some.injEq] at h; subst h
        simp [Op.equalIn, run_und hE hu, hk]
      · cases h
    · rename_i hu
      simp only [VR] at hx hy; subst hx; subst hy
      simp only [Option.some.injEq] at h; subst h
      simp [Op.equalIn, run_und hE hu, beq_toListBytes]
    · rename_i hu
      simp only [VR] at hx hy; subst hx; subst hy
      simp only [Option.some.injEq] at h; subst h
      simp [Op.equalIn, run_und hE hu]
    · rename_i hu
      simp only [VR] at hx; subst hx
      obtain ⟨a, rfl⟩ := hy.ptr_some
      simp only [Option.some.injEq] at h; subst h
      simp [Op.equalIn, run_und hE hu]
    · rename_i hu
      simp only [VR] at hy; subst hy
      obtain ⟨a, rfl⟩ := hx.ptr_some
      simp only [Option.some.injEq] at h; subst h
      simp [Op.equalIn, run_und hE hu]
    · rename_i hu
      simp only [VR] at hx hy; obtain ⟨_, rfl⟩ := hx; obtain ⟨_, rfl⟩ := hy
      simp only [Option.some.injEq] at h; subst h
      simp [Op.equalIn, run_und hE hu]
    · rename_i hu
      simp only [VR] at hx; obtain ⟨_, rfl⟩ := hx
      obtain ⟨a, k, rfl⟩ := hy.slice_some
      simp only [Option.some.injEq] at h; subst h
      simp [Op.equalIn, run_und hE hu]
    · rename_i hu
      simp only [VR] at hy; obtain ⟨_, rfl⟩ := hy
      obtain ⟨a, k, rfl⟩ := hx.slice_some
      simp only [Option.some.injEq] at h; subst h
      simp [Op.equalIn, run_und hE hu]
    · rename_i hu
      simp only [VR] at hx hy; subst hx; subst hy
      simp only [Option.some.injEq] at h; subst h
      simp [Op.equalIn, run_und hE hu]
    · rename_i hu
      simp only [VR] at hx hy; obtain ⟨_, _, rfl, _⟩ := hx; subst hy
      simp only [Option.some.injEq] at h; subst h
      simp [Op.equalIn, run_und hE hu]
    · rename_i hu
      simp only [VR] at hx hy; obtain ⟨_, _, rfl, _⟩ := hy; subst hx
      simp only [Option.some.injEq] at h; subst h
      simp [Op.equalIn, run_und hE hu]
    · rename_i fs xs ys hu
      simp only [VR] at hx hy
      obtain ⟨rx, rfl, hx⟩ := hx
      obtain ⟨ry, rfl, hy⟩ := hy
      split at h
      · rename_i hs
        have hf : P.fieldsOf t = fs := by simp [Program.fieldsOf, Env.und_ok hE hu]
        rw [run_equalIn_struct w d t rx ry (by rw [hf]; exact Env.und_ok hE hu) (hE.safe t hs).1, hf]
        exact eqFsA_ok hE (fun t x y b h rx ry hx hy => ih t x y b h rx ry hx hy) hx hy h
      · cases h
    · rename_i n e xs ys hu
      simp only [VR] at hx hy
      obtain ⟨rx, rfl, hx⟩ := hx
      obtain ⟨ry, rfl, hy⟩ := hy
      split at h
      · rename_i m hm
        have := eqEsA_ok hE (fun t x y b h rx ry hx hy => ih t x y b h rx ry hx hy) hx hy h
        simp only [Op.equalIn, Sem.run_bind, run_und hE hu, Result.andThen_ok, run_siz hE hm]
        rw [Std.Legacy.Range.forIn_eq_forIn_range']
        rw [List.range_eq_range'] at this
        simp only [Std.Legacy.Range.size, Nat.sub_zero, Nat.add_sub_cancel, Nat.div_one]
        rw [this]
        cases b <;> simp
      · cases h
    · cases h

theorem strA_ok {P : Program} {w : World} {op : BinOp} {a b : ByteArray} {v : V} (h : strA op a b = some v) (t : TypeId) :
    ∃ rv, (binOp op t (.string a) (.string b)).run P w = .ok rv w ∧ ∀ ι, VR ι v rv := by
  cases op <;> simp only [strA, Option.some.injEq] at h
  all_goals first
    | (cases h; done)
    | (subst h; exact ⟨_, by simp [binOp, Op.stringOp]; rfl, fun ι => by simp [VR]⟩)

/-- What a value that is no number looks like to the model's 'binOp': only '==' and '!=' are for it. -/
theorem binOp_eql {P : Program} {w : World} {t : TypeId} {x y : Value} {b : Bool} (h : (Op.equalIn 10000 t x y).run P w = .ok b w)
    (hx : ∀ k a, x ≠ .int k a) (hs : ∀ s, x ≠ .string s) (hf : ∀ k a, x ≠ .float k a) (hc : ∀ k a c, x ≠ .complex k a c) :
    (binOp .eql t x y).run P w = .ok (.bool b) w ∧ (binOp .neq t x y).run P w = .ok (.bool !b) w := by
  have h' : (Op.equal t x y).run P w = .ok b w := h
  constructor <;> (cases x <;> first | exact absurd rfl (hx _ _) | exact absurd rfl (hs _) | exact absurd rfl (hf _ _) | exact absurd rfl (hc _ _ _) | (cases y <;> simp [binOp, h']))

theorem eqA_shape {E : Env} {d : Nat} {t : TypeId} {x y : V} {b : Bool} (h : eqA E (d + 1) t x y = some b) :
    (∃ k a k' c, x = .int k a ∧ y = .int k' c) ∨ (∃ s s', x = .str s ∧ y = .str s') ∨ (∃ xs ys, x = .agg xs ∧ y = .agg ys) ∨
      (∃ c, x = .bool c) ∨ x = .nilFunc ∨ (∃ f a c, x = .func f a c) ∨ (∃ a, x = .ptr a) ∨ (∃ a n e c, x = .slice a n e c) := by
  unfold eqA at h
  split at h <;> first | (cases h; done) | simp

theorem eqOp_ok {E : Env} {P : Program} (hE : EnvOk E P) {ι : Mp} {w : World} {op : BinOp} {t : TypeId} {x y v : V} (h : eqOp E op t x y = some v) (ox oy : Operand) {rx ry : Value} (hx : VR ι x rx) (hy : VR ι y ry)
    (h1 : ∀ k a, rx ≠ .int k a) (h2 : ∀ s, rx ≠ .string s) (h3 : ∀ k a, rx ≠ .float k a) (h4 : ∀ k a c, rx ≠ .complex k a c) (hg : (eqGuard op t ox oy rx ry).run P w = .ok () w) :
    ∃ rv, (do eqGuard op t ox oy rx ry; binOp op t rx ry : Sem Value).run P w = .ok rv w ∧ VR ι v rv := by
  have main : ∀ b, eqA E 10000 t x y = some b → (binOp .eql t rx ry).run P w = .ok (.bool b) w ∧ (binOp .neq t rx ry).run P w = .ok (.bool !b) w :=
    fun b hb => binOp_eql (eqA_ok (w := w) hE 10000 t x y b hb rx ry hx hy) h1 h2 h3 h4
  unfold eqOp at h
  split at h
  · cases hb : eqA E 10000 t x y with
    | none => rw [hb] at h; cases h
    | some b =>
      rw [hb] at h
      simp only [Option.map_some, Option.some.injEq] at h; subst h
      exact ⟨.bool b, by rw [Sem.run_bind, hg, Result.andThen_ok, (main b hb).1], by simp [VR]⟩
  · cases hb : eqA E 10000 t x y with
    | none => rw [hb] at h; cases h
    | some b =>
      rw [hb] at h
      simp only [Option.map_some, Option.some.injEq] at h; subst h
      exact ⟨.bool !b, by rw [Sem.run_bind, hg, Result.andThen_ok, (main b hb).2], by simp [VR]⟩
  · cases h

theorem eqOp_some {E : Env} {op : BinOp} {t : TypeId} {x y v : V} (h : eqOp E op t x y = some v) : ∃ b, eqA E (9999 + 1) t x y = some b := by
  unfold eqOp at h
  split at h
  · cases hb : eqA E 10000 t x y with
    | none => rw [hb] at h; cases h
    | some b => exact ⟨b, rfl⟩
  · cases hb : eqA E 10000 t x y with
    | none => rw [hb] at h; cases h
    | some b => exact ⟨b, rfl⟩
  · cases h

theorem run_eqGuard_plain {P : Program} {w : World} {op : BinOp} {t : TypeId} {ox oy : Operand} {a b : Value} (hag : ∀ p q, ¬ (a = .agg p ∧ b = .agg q)) (hni : a ≠ .nilIface) : (eqGuard op t ox oy a b).run P w = .ok () w := by
  cases op <;> simp only [eqGuard, Bool.not_true, Bool.false_eq_true, if_false, Bool.not_false, if_true] <;> first | rfl | skip
  all_goals (cases a <;> first | exact absurd rfl hni | (cases b <;> first | exact absurd ⟨rfl, rfl⟩ (hag _ _) | rfl))

theorem binII_ok {P : Program} {w : World} {op : BinOp} {k k' : IntKind} {a b : Int} {v : V} (h : binII op k a k' b = some v) (t : TypeId) :
    ∃ rv, (binOp op t (.int k a) (.int k' b)).run P w = .ok rv w ∧ ∀ ι, VR ι v rv := by
  unfold binII at h
  split at h
  · split at h
    · cases h
    · rename_i hb
      simp only [Option.some.injEq] at h; subst h
      exact ⟨_, by simp [binOp, Op.shift, hb]; rfl, fun ι => by simp [VR]⟩
  · split at h
    · cases h
    · rename_i hb
      simp only [Option.some.injEq] at h; subst h
      exact ⟨_, by simp [binOp, Op.shift, hb]; rfl, fun ι => by simp [VR]⟩
  · split at h
    · rename_i hk
      subst hk
      exact binInt_ok h t
    · cases h

theorem binA_ok {E : Env} {P : Program} (hE : EnvOk E P) {ι : Mp} {w : World} {op : BinOp} {t : TypeId} {x y v : V} (h : binA E op t x y = some v) (ox oy : Operand) {rx ry : Value} (hx : VR ι x rx) (hy : VR ι y ry) :
    ∃ rv, (do eqGuard op t ox oy rx ry; binOp op t rx ry : Sem Value).run P w = .ok rv w ∧ VR ι v rv := by
  unfold binA at h
  split at h
  · simp only [VR] at hx hy
    subst hx; subst hy
    obtain ⟨rv, h1, h2⟩ := binII_ok (P := P) (w := w) h t
    exact ⟨rv, by rw [Sem.run_bind, run_eqGuard_plain (by simp) (by simp), Result.andThen_ok, h1], h2 ι⟩
  · simp only [VR] at hx hy
    subst hx; subst hy
    obtain ⟨rv, h1, h2⟩ := strA_ok (P := P) (w := w) h t
    exact ⟨rv, by rw [Sem.run_bind, run_eqGuard_plain (by simp) (by simp), Result.andThen_ok, h1], h2 ι⟩
  · split at h
    · rename_i hs
      have hx' := hx; have hy' := hy
      simp only [VR] at hx' hy'
      obtain ⟨a, rfl, _⟩ := hx'
      obtain ⟨b, rfl, _⟩ := hy'
      exact eqOp_ok hE h ox oy hx hy (by simp) (by simp) (by simp) (by simp) (run_eqGuard_agg w op t ox oy a b (hE.safe t hs).2)
    · cases h
  · rename_i hn1 hn2 hn3
    obtain ⟨b, hb⟩ := eqOp_some h
    rcases eqA_shape hb with ⟨k, a, k', c, rfl, rfl⟩ | ⟨s, s', rfl, rfl⟩ | ⟨xs, ys, rfl, rfl⟩ | ⟨c, rfl⟩ | rfl | ⟨f, a, c, rfl⟩ | ⟨a, rfl⟩ | ⟨a, n, e, c, rfl⟩
    · exact absurd rfl (hn1 _ _ _ _ rfl)
    · exact absurd rfl (hn2 _ _ rfl)
    · exact absurd rfl (hn3 _ _ rfl)
    · have hx' := hx; simp only [VR] at hx'; subst hx'
      exact eqOp_ok hE h ox oy hx hy (by simp) (by simp) (by simp) (by simp) (run_eqGuard_plain (by simp) (by simp))
    · have hx' := hx; simp only [VR] at hx'; subst hx'
      exact eqOp_ok hE h ox oy hx hy (by simp) (by simp) (by simp) (by simp) (run_eqGuard_plain (by simp) (by simp))
    · have hx' := hx; simp only [VR] at hx'; obtain ⟨_, _, rfl, _⟩ := hx'
      exact eqOp_ok hE h ox oy hx hy (by simp) (by simp) (by simp) (by simp) (run_eqGuard_plain (by simp) (by simp))
    · cases a with
      | none =>
        have hx' := hx; simp only [VR] at hx'; subst hx'
        exact eqOp_ok hE h ox oy hx hy (by simp) (by simp) (by simp) (by simp) (run_eqGuard_plain (by simp) (by simp))
      | some l =>
        obtain ⟨a, rfl⟩ := hx.ptr_some
        exact eqOp_ok hE h ox oy hx hy (by simp) (by simp) (by simp) (by simp) (run_eqGuard_plain (by simp) (by simp))
    · cases a with
      | none =>
        have hx' := hx; simp only [VR] at hx'; obtain ⟨_, rfl⟩ := hx'
        exact eqOp_ok hE h ox oy hx hy (by simp) (by simp) (by simp) (by simp) (run_eqGuard_plain (by simp) (by simp))
      | some l =>
        obtain ⟨a, k, rfl⟩ := hx.slice_some
        exact eqOp_ok hE h ox oy hx hy (by simp) (by simp) (by simp) (by simp) (run_eqGuard_plain (by simp) (by simp))

theorem unA_ok {P : Program} {ι : Mp} {w : World} {op : UnOp} {x v : V} (h : unA op x = some v) {rx : Value} (hx : VR ι x rx) : ∃ rv, (Op.unary op rx).run P w = .ok rv w ∧ VR ι v rv := by
  unfold unA at h
  split at h <;> first | (cases h; done) | skip
  all_goals
    simp only [VR] at hx; subst hx
    simp only [Option.some.injEq] at h; subst h
    exact ⟨_, by simp [Op.unary, Op.intArith, Op.intBits]; rfl, by simp [VR]⟩

theorem convA_ok {E : Env} {P : Program} (hE : EnvOk E P) {ι : Mp} {w : World} {s d : TypeId} {x v : V} (h : convA E s d x = some v) {rx : Value} (hx : VR ι x rx) : ∃ rv, (convert s d rx).run P w = .ok rv w ∧ VR ι v rv := by
  unfold convA at h
  split at h
  · rename_i hs hd
    simp only [VR] at hx; subst hx
    simp only [Option.some.injEq] at h; subst h
    exact ⟨_, by simp [convert, run_und hE hs, run_und hE hd, Conv.intToInt]; rfl, by simp [VR]⟩
  · rename_i hs hd
    simp only [VR] at hx; subst hx
    simp only [Option.some.injEq] at h; subst h
    exact ⟨_, by simp [convert, run_und hE hs, run_und hE hd]; rfl, by simp [VR]⟩
  · cases h

theorem fieldA_ok {E : Env} {P : Program} (hE : EnvOk E P) {ι : Mp} {w : World} {t : TypeId} {i : Nat} {x v : V} (h : fieldA E t x i = some v) {rx : Value} (hx : VR ι x rx) : ∃ rv, (Instr.field t rx i).run P w = .ok rv w ∧ VR ι v rv := by
  unfold fieldA at h
  split at h
  · rename_i fs cs hu
    simp only [VR] at hx
    obtain ⟨rc, rfl, hc⟩ := hx
    split at h
    · rename_i f hf
      obtain ⟨rv, h1, h2⟩ := partA_ok (P := P) (w := w) hE h hc
      exact ⟨rv, by simp [Instr.field, run_und hE hu, hf, asAgg, h1], h2⟩
    · cases h
  · cases h

theorem VR.ptr_add {ι : Mp} {l : Loc} {r : Value} (h : VR ι (.ptr (some l)) r) (n : Nat) : ∃ a, r = .pointer (some a) ∧ VR ι (.ptr (some ⟨l.blk, l.off + n⟩)) (.pointer (some (a.add n))) := by
  simp only [VR] at h ⊢
  split at h
  · exact h.elim
  · obtain ⟨a, rfl⟩ := h; exact ⟨a, rfl, _, rfl⟩
  · subst h
    exact ⟨_, rfl, by rw [Addr.add_lit]; simp [Nat.add_assoc]⟩

theorem fieldAddrA_ok {E : Env} {P : Program} (hE : EnvOk E P) {ι : Mp} {w : World} {t : TypeId} {i : Nat} {x v : V} (h : fieldAddrA E t x i = some v) {rx : Value} (hx : VR ι x rx) : ∃ rv, (Instr.fieldAt t rx i).run P w = .ok rv w ∧ VR ι v rv := by
  unfold fieldAddrA at h
  split at h
  · rename_i fs l hu
    split at h
    · rename_i f hf
      split at h
      · rename_i m hm
        simp only [Option.some.injEq] at h; subst h
        obtain ⟨a, rfl, ha⟩ := hx.ptr_add f.offset
        exact ⟨_, by simp [Instr.fieldAt, run_und hE hu, hf, Instr.sureAddr, fieldPlace, run_siz hE hm], ha⟩
      · cases h
    · cases h
  · cases h

theorem indexAddrA_ok {E : Env} {P : Program} (hE : EnvOk E P) {ι : Mp} {w : World} {t : TypeId} {x i v : V} (h : indexAddrA E t x i = some v) {rx ri : Value} (hx : VR ι x rx) (hi : VR ι i ri) : ∃ rv, (Instr.indexAt t rx ri).run P w = .ok rv w ∧ VR ι v rv := by
  unfold indexAddrA at h
  split at h
  · rename_i n e l k i hu
    simp only [VR] at hi; subst hi
    split at h
    · rename_i m j hm hj
      obtain ⟨hc0, hc1, rfl⟩ := idxF_some hj
      have hc : 0 ≤ i ∧ i < n := ⟨hc0, hc1⟩
      simp only [Option.some.injEq] at h; subst h
      obtain ⟨a, rfl, ha⟩ := hx.ptr_add (i.toNat * m)
      refine ⟨_, ?_, ha⟩
      simp [Instr.indexAt, asIntOf, run_und hE hu, Instr.sureAddr, hc, run_siz hE hm]
    · cases h
  · rename_i e l n esz cap k i hu
    simp only [VR] at hi; subst hi
    split at h
    · rename_i m j hm hj
      obtain ⟨hc0, hc1, rfl⟩ := idxF_some hj
      have hc : 0 ≤ i ∧ i < n := ⟨hc0, hc1⟩
      simp only [Option.some.injEq] at h; subst h
      simp only [VR] at hx ⊢
      split at hx
      · exact hx.elim
      · obtain ⟨a, c, rfl, _⟩ := hx
        exact ⟨.pointer (some (a.add (i.toNat * m))), by simp [Instr.indexAt, asIntOf, run_und hE hu, hc, run_siz hE hm], _, rfl⟩
      · obtain ⟨a, c, rfl, hle, _, h4⟩ := hx
        have : c ≠ 0 := by omega
        obtain ⟨rfl, _⟩ := h4.resolve_right this
        refine ⟨_, by simp [Instr.indexAt, asIntOf, run_und hE hu, hc, run_siz hE hm]; rfl, ?_⟩
        rw [Addr.add_lit]
        simp [Nat.add_assoc]
    · cases h
  · cases h

theorem indexA_ok {E : Env} {P : Program} (hE : EnvOk E P) {ι : Mp} {w : World} {t : TypeId} {x i v : V} (h : indexA E t x i = some v) {rx ri : Value} (hx : VR ι x rx) (hi : VR ι i ri) : ∃ rv, (Instr.index t rx ri).run P w = .ok rv w ∧ VR ι v rv := by
  unfold indexA at h
  split at h
  · rename_i n e cs k i hu
    simp only [VR] at hi hx; subst hi
    obtain ⟨rc, rfl, hc⟩ := hx
    split at h
    · rename_i m j hm hj
      obtain ⟨hb0, hb1, rfl⟩ := idxF_some hj
      have hb : 0 ≤ i ∧ i < n := ⟨hb0, hb1⟩
      obtain ⟨rv, h1, h2⟩ := partA_ok (P := P) (w := w) hE h hc
      have h1' : (part e rc (i.toNat * m)).run P w = .ok rv w := h1
      exact ⟨rv, by simp [Instr.index, asIntOf, run_und hE hu, hb, run_siz hE hm, h1'], h2⟩
    · cases h
  · rename_i s k i hu
    simp only [VR] at hi hx; subst hi; subst hx
    split at h
    · rename_i hb
      cases hs : s[i.toNat]? with
      | none => simp [hs] at h
      | some c =>
        simp only [hs, Option.map_some, Option.some.injEq] at h
        subst h
        exact ⟨_, by simp [Instr.index, asIntOf, run_und hE hu, hb, hs]; rfl, by simp [VR]⟩
    · cases h
  · cases h

theorem boundA_some {ι : Mp} {d : Nat} {v : V} {r : Value} {n : Int} (h : boundA d (some v) = some n) (hv : VR ι v r) : ∃ k, r = .int k n := by
  cases v <;> simp [boundA] at h
  subst h
  simp only [VR] at hv
  exact ⟨_, hv⟩

/-- The bounds of a slice expression, as the model reckons them: of any capacity that the length is within. -/
theorem boundsA_ok {P : Program} {w : World} {ι : Mp} {len cap : Nat} {lo hi mx : Option V} {l h m : Nat} (hb : boundsA len lo hi mx = some (l, h, m)) (hcap : len ≤ cap) {rlo rhi rmx : Option Value}
    (hlo : ∀ v, lo = some v → ∃ r, rlo = some r ∧ VR ι v r) (hlo' : lo = none → rlo = none) (hhi : ∀ v, hi = some v → ∃ r, rhi = some r ∧ VR ι v r) (hhi' : hi = none → rhi = none)
    (hmx : ∀ v, mx = some v → ∃ r, rmx = some r ∧ VR ι v r) (hmx' : mx = none → rmx = none) (isS : Bool) :
    l ≤ h ∧ h ≤ m ∧ m ≤ len ∧ (Instr.sliceBounds isS len cap rlo rhi rmx).run P w = .ok (l, h, if mx.isSome then m else cap) w := by
  unfold boundsA at hb
  split at hb
  · rename_i bl bh bm hbl hbh hbm
    split at hb
    · rename_i hc
      obtain ⟨c1, c2, c3, c4, c5⟩ := hc
      simp only [Option.some.injEq, Prod.mk.injEq] at hb
      obtain ⟨rfl, rfl, rfl⟩ := hb
      refine ⟨by omega, by omega, by omega, ?_⟩
      have rb : ∀ (k : IntKind) (i : Int) (y : Nat), 0 ≤ i ∧ i ≤ (y : Int) → ∀ code, (Instr.sliceBound (.int k i) y code).run P w = .ok i.toNat w := fun k i y h code => run_sliceBound w k i y code h.1 h.2
      cases mx with
      | none =>
        have := hmx' rfl; subst this
        cases hi with
        | none =>
          have := hhi' rfl; subst this
          simp only [boundA, Option.some.injEq] at hbh hbm
          cases lo with
          | none =>
            have := hlo' rfl; subst this
            simp only [boundA, Option.some.injEq] at hbl
            simp [Instr.sliceBounds, ← hbl, ← hbh]
          | some v =>
            obtain ⟨r, rfl, hr⟩ := hlo v rfl
            obtain ⟨k, rfl⟩ := boundA_some hbl hr
            have r1 := rb k bl len (by omega)
            have e3 : bh.toNat = len := by omega
            simp [Instr.sliceBounds, r1, e3]
        | some u =>
          obtain ⟨r, rfl, hr⟩ := hhi u rfl
          obtain ⟨k, rfl⟩ := boundA_some hbh hr
          simp only [boundA, Option.some.injEq] at hbm
          have r1 := rb k bh cap (by omega)
          cases lo with
          | none =>
            have := hlo' rfl; subst this
            simp only [boundA, Option.some.injEq] at hbl
            simp [Instr.sliceBounds, ← hbl, r1]
          | some v =>
            obtain ⟨r, rfl, hr⟩ := hlo v rfl
            obtain ⟨k2, rfl⟩ := boundA_some hbl hr
            have r2 := rb k2 bl bh.toNat (by omega)
            simp [Instr.sliceBounds, r1, r2]
      | some z =>
        obtain ⟨rz, rfl, hrz⟩ := hmx z rfl
        obtain ⟨kz, rfl⟩ := boundA_some hbm hrz
        have r0 := rb kz bm cap (by omega)
        cases hi with
        | none => simp at c5
        | some u =>
          obtain ⟨r, rfl, hr⟩ := hhi u rfl
          obtain ⟨k, rfl⟩ := boundA_some hbh hr
          have r1 := rb k bh bm.toNat (by omega)
          cases lo with
          | none =>
            have := hlo' rfl; subst this
            simp only [boundA, Option.some.injEq] at hbl
            simp [Instr.sliceBounds, ← hbl, r0, r1]
          | some v =>
            obtain ⟨r, rfl, hr⟩ := hlo v rfl
            obtain ⟨k2, rfl⟩ := boundA_some hbl hr
            have r2 := rb k2 bl bh.toNat (by omega)
            simp [Instr.sliceBounds, r0, r1, r2]
    · cases hb
  · cases hb

end Go.Am
