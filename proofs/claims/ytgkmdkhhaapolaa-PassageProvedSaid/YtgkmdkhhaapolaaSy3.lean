/-
  THE SYMBOLIC LAYER, 3: operations.
-/
import Derived.Test.YtgkmdkhhaapolaaSy2
namespace Go.Am
noncomputable section
open Classical

def eqBB (b w : Bool) : Bool := match b with
  | true => w
  | false => match w with
    | true => false
    | false => true
def wantF (ops : Array Oper) (F : FA) : Option (Nat × Bool) → Option Bool
  | none => some true
  | some (j, w) => match (ops[j]?).bind (·.dst) with
    | some t => match look F t with
      | some (.bool b) => some (eqBB b w)
      | _ => none
    | none => none
theorem wantF_ok {ops : Array Oper} {F : FA} {o : Oper} {b : Bool} (h : wantF ops F o.guard = some b) {n : Nat} {f : List V} (hf : FOk n F f) : wantA ops f o = some b := by
  unfold wantF at h
  unfold wantA
  cases hg : o.guard with
  | none => rw [hg] at h; exact h
  | some p =>
    obtain ⟨j, w⟩ := p
    rw [hg] at h
    simp only at h ⊢
    cases hd : (ops[j]?).bind (·.dst) with
    | none => simp [hd] at h
    | some t =>
      simp only [hd] at h ⊢
      cases hl : look F t with
      | none => simp [hl] at h
      | some v =>
        rw [hl] at h
        rw [hf.2 t v hl]
        cases v <;> simp only at h ⊢ <;> try (cases h; done)
        rename_i x
        rw [← h]
        cases x <;> cases w <;> rfl

/-- A list, cell by cell. -/
inductive Lit : List V → List V → Prop
  | nil : Lit [] []
  | cons {a : V} {as bs : List V} (h : Lit as bs) : Lit (a :: as) (a :: bs)
theorem Lit.eq {as bs : List V} (h : Lit as bs) : as = bs := by
  induction h with
  | nil => rfl
  | cons _ ih => rw [ih]

/-- A block that is known. -/
def Kn (b : Nat) (o : Obj) (L M : CL) : Prop := (b, o) ∈ L ∨ (b, o) ∈ M
theorem Kn.get {b : Nat} {o : Obj} {L M : CL} (h : Kn b o L M) {H : Heap} (hg : Good L M H) : b < H.size ∧ H.get b = some o := by
  rcases h with h | h
  · exact hg.own b o h
  · obtain ⟨h1, h2, _⟩ := hg.red b o h; exact ⟨h1, h2⟩

theorem Good.known {L M : CL} {H : Heap} (hg : Good L M H) : ∀ r ∈ ids (L ++ M), r < H.size := fun r hr => by
  obtain ⟨o, ho⟩ := ids_mem hr
  rcases List.mem_append.1 ho with ho | ho
  · exact (hg.own r o ho).1
  · exact (hg.red r o ho).1

theorem looks_none {ops : Array Oper} {o : Oper} (hno : ∀ x ∈ o.op.operands, ∀ t, x ≠ .tmp t) (hg : o.guard = none) {t : Tmp} (ht : t ∈ o.looksAt ops) : False := by
  unfold Oper.looksAt at ht
  rw [hg] at ht
  simp only [Option.bind_none, Option.toList_none, List.append_nil] at ht
  obtain ⟨x, hx, hx'⟩ := List.mem_filterMap.1 ht
  cases x with
  | tmp s => exact hno (.tmp s) (by simpa using hx) s rfl
  | const _ => cases hx'
  | global _ => cases hx'
  | func _ => cases hx'

section ops
variable {P : Program} {E : Env} {R : Option Nat} {n : Nat} {M : CL} {F : FA} {L L₁ : CL} {K : Cw → FA → CL → Prop} {ops : Array Oper}
variable {d : Nat} {op : Op} {ty : TypeId} {pos : String} {aft : Array Edge} {g : Option (Nat × Bool)}

theorem OX.pass (hw : wantF ops F g = some false) (hd : Nat.blt d n = true) (k : K (.rd []) ((d, .undef) :: F) L) : OX P E R n M ops ⟨some d, op, ty, pos, aft, g⟩ F L K := fun H f hg hf _ =>
  have hw' := wantF_ok (o := ⟨some d, op, ty, pos, aft, g⟩) hw hf
  ⟨.undef, H, _, L, .rd [], .pass hw', hf.put hd _, .refl hg, ⟨rfl, fun r hr => (List.not_mem_nil hr).elim, .inl ⟨hw', rfl⟩⟩, k⟩
theorem OX.pass0 (hw : wantF ops F g = some false) (k : K (.rd []) F L) : OX P E R n M ops ⟨none, op, ty, pos, aft, g⟩ F L K := fun H f hg hf _ =>
  have hw' := wantF_ok (o := ⟨none, op, ty, pos, aft, g⟩) hw hf
  ⟨.undef, H, _, L, .rd [], .pass hw', hf, .refl hg, ⟨rfl, fun r hr => (List.not_mem_nil hr).elim, .inl ⟨hw', rfl⟩⟩, k⟩

theorem OX.read {v : V} (rs : List Nat) (hw : wantF ops F g = some true) (hd : Nat.blt d n = true)
    (h : ∀ H f, Good L M H → FOk n F f → (∀ r ∈ rs, r < H.size) ∧ ∀ C : Heap, (∀ r ∈ rs, C.get r = H.get r) → opA E C (evA f) op = some (.val v C)) (k : K (.rd rs) ((d, v) :: F) L) :
    OX P E R n M ops ⟨some d, op, ty, pos, aft, g⟩ F L K := fun H f hg hf _ =>
  have hw' := wantF_ok (o := ⟨some d, op, ty, pos, aft, g⟩) hw hf
  have hh := h H f hg hf
  ⟨v, H, _, L, .rd rs, .val hw' (hh.2 H fun _ _ => rfl), hf.put hd _, .refl hg, ⟨rfl, hh.1, .inr ⟨hw', hh.2⟩⟩, k⟩
theorem OX.pure {v : V} (hw : wantF ops F g = some true) (hd : Nat.blt d n = true) (h : ∀ f, FOk n F f → ∀ C : Heap, opA E C (evA f) op = some (.val v C)) (k : K (.rd []) ((d, v) :: F) L) :
    OX P E R n M ops ⟨some d, op, ty, pos, aft, g⟩ F L K :=
  OX.read [] hw hd (fun _ f _ hf => ⟨fun _ hr => (List.not_mem_nil hr).elim, fun C _ => h f hf C⟩) k

/-- A block is made. -/
theorem OX.make {ob : Obj} {v : Nat → V} (hw : wantF ops F g = some true) (hd : Nat.blt d n = true)
    (h : ∀ H f, Good L M H → FOk n F f → opA E H (evA f) op = some (.val (v H.size) (H.push ob))) (k : ∀ b, K (.fu [] (ids (L ++ M))) ((d, v b) :: F) ((b, ob) :: L)) :
    OX P E R n M ops ⟨some d, op, ty, pos, aft, g⟩ F L K := fun H f hg hf _ =>
  have hw' := wantF_ok (o := ⟨some d, op, ty, pos, aft, g⟩) hw hf
  ⟨_, _, _, _, .fu [] (ids (L ++ M)), .val hw' (h H f hg hf), hf.put hd _, To.push hg ob, ⟨Good.known hg, (fun c hc _ => Heap.get_push_ne _ _ (by omega))⟩, k _⟩
theorem OX.makeA {ob : Obj} {v : Nat → V} (hw : wantF ops F g = some true) (hd : Nat.blt d n = true) (hno : ∀ x ∈ op.operands, ∀ t, x ≠ .tmp t) (hgn : g = none)
    (h : ∀ H f, Good L M H → FOk n F f → opA E H (evA f) op = some (.val (v H.size) (H.push ob))) (k : ∀ b, K (.al b) ((d, v b) :: F) ((b, ob) :: L)) :
    OX P E R n M ops ⟨some d, op, ty, pos, aft, g⟩ F L K := fun H f hg hf _ =>
  have hw' := wantF_ok (o := ⟨some d, op, ty, pos, aft, g⟩) hw hf
  ⟨_, _, _, _, .al H.size, .val hw' (h H f hg hf), hf.put hd _, To.push hg ob, ⟨fun t ht => (looks_none (o := ⟨some d, op, ty, pos, aft, g⟩) hno hgn ht).elim, rfl, by simp, fun c hc => Heap.get_push_ne _ _ (by omega)⟩, k _⟩

/-- A block is written. -/
theorem OX.write {dst : Option Nat} {b : Nat} {ob ob' : Obj} (hw : wantF ops F g = some true) (hdst : dst = none) (ht : L.Perm ((b, ob) :: L₁))
    (h : ∀ H f, Good L M H → FOk n F f → opA E H (evA f) op = some (.skip (H.set b ob'))) (k : K (.fu [b] (ids (L ++ M))) F ((b, ob') :: L₁)) :
    OX P E R n M ops ⟨dst, op, ty, pos, aft, g⟩ F L K := fun H f hg hf _ =>
  have hw' := wantF_ok (o := ⟨dst, op, ty, pos, aft, g⟩) hw hf
  ⟨_, _, _, _, .fu [b] (ids (L ++ M)), .skip hw' (h H f hg hf), by subst hdst; exact hf, To.set hg ht ob', ⟨Good.known hg, fun c _ hn => Heap.get_set_ne _ _ (by simpa using hn)⟩, k⟩

/-! ### Moves -/
theorem OX.move {x : Operand} {v : V} (hw : wantF ops F g = some true) (hd : Nat.blt d n = true) (hx : opd F x = some v) (k : K (.rd []) ((d, v) :: F) L) : OX P E R n M ops ⟨some d, .move x, ty, pos, aft, g⟩ F L K :=
  OX.pure hw hd (fun f hf C => by show some (Res.val (evA f x) C) = _; rw [opd_ev hf hx]) k
theorem OX.assign {x : Operand} {v : V} (hw : wantF ops F g = some true) (hd : Nat.blt d n = true) (hx : opd F x = some v) (k : K (.rd []) ((d, v) :: F) L) : OX P E R n M ops ⟨some d, .assign x, ty, pos, aft, g⟩ F L K :=
  OX.pure hw hd (fun f hf C => by show some (Res.val (evA f x) C) = _; rw [opd_ev hf hx]) k
/-- A move of what is not known. -/
theorem OX.moveU {x : Operand} (hw : wantF ops F g = some true) (hd : Nat.blt d n = true) (k : K (.rd []) ((d, .undef) :: F) L) (hu : ∀ f, FOk n F f → evA f x = .undef) : OX P E R n M ops ⟨some d, .move x, ty, pos, aft, g⟩ F L K :=
  OX.pure hw hd (fun f hf C => by show some (Res.val (evA f x) C) = _; rw [hu f hf]) k
theorem OX.pickT {c x y : Operand} {v : V} (hw : wantF ops F g = some true) (hd : Nat.blt d n = true) (hc : opd F c = some (.bool true)) (hx : opd F x = some v) (k : K (.rd []) ((d, v) :: F) L) : OX P E R n M ops ⟨some d, .pick c x y, ty, pos, aft, g⟩ F L K :=
  OX.pure hw hd (fun f hf C => by show opPick C (evA f c) (evA f x) (evA f y) = _; rw [opd_ev hf hx, opd_ev hf hc]; rfl) k
theorem OX.pickF {c x y : Operand} {v : V} (hw : wantF ops F g = some true) (hd : Nat.blt d n = true) (hc : opd F c = some (.bool false)) (hy : opd F y = some v) (k : K (.rd []) ((d, v) :: F) L) : OX P E R n M ops ⟨some d, .pick c x y, ty, pos, aft, g⟩ F L K :=
  OX.pure hw hd (fun f hf C => by show opPick C (evA f c) (evA f x) (evA f y) = _; rw [opd_ev hf hy, opd_ev hf hc]; rfl) k
theorem OX.nilCheck {x : Operand} {l : Loc} (hw : wantF ops F g = some true) (hd : Nat.blt d n = true) (hx : opd F x = some (.ptr (some l))) (k : K (.rd []) ((d, .ptr (some l)) :: F) L) : OX P E R n M ops ⟨some d, .nilCheck x, ty, pos, aft, g⟩ F L K :=
  OX.pure hw hd (fun f hf C => by show opNil C (evA f x) = _; rw [opd_ev hf hx]; rfl) k
theorem OX.extract {x : Operand} {i : Nat} {vs : List V} {v : V} (hw : wantF ops F g = some true) (hd : Nat.blt d n = true) (hx : opd F x = some (.tup vs)) (hv : vs[i]? = some v) (k : K (.rd []) ((d, v) :: F) L) : OX P E R n M ops ⟨some d, .extract x i, ty, pos, aft, g⟩ F L K :=
  OX.pure hw hd (fun f hf C => by show opExtract C (evA f x) i = _; rw [opd_ev hf hx]; show okVal C vs[i]? = _; rw [hv]; rfl) k

/-! ### Numbers and truths -/
theorem OX.bin {o : BinOp} {t u : TypeId} {x y : Operand} {a b v : V} (hw : wantF ops F g = some true) (hd : Nat.blt d n = true) (hx : opd F x = some a) (hy : opd F y = some b) (hv : binA E o t a b = some v) (k : K (.rd []) ((d, v) :: F) L) :
    OX P E R n M ops ⟨some d, .binOp o t x y u, ty, pos, aft, g⟩ F L K :=
  OX.pure hw hd (fun f hf C => by show okVal C (binA E o t (evA f x) (evA f y)) = _; rw [opd_ev hf hx, opd_ev hf hy, hv]; rfl) k
theorem binA_int (o : BinOp) (t : TypeId) (k : IntKind) (a b : Int) : binA E o t (.int k a) (.int k b) = binII o k a k b := rfl
theorem i64_id {a : Int} (h : -9223372036854775808 ≤ a ∧ a < 9223372036854775808) : IntKind.i64.wrap a = a := wrap_mid .i64 a (by simp [half, IntKind.signed]; omega)
theorem u32_id {a : Int} (h : 0 ≤ a ∧ a < 2147483648) : IntKind.u32.wrap a = a := wrap_mid .u32 a (by simp [half, IntKind.signed]; omega)
section nums
variable {t u : TypeId} {x y : Operand} {kd : IntKind} {a b : Int} (hw : wantF ops F g = some true) (hd : Nat.blt d n = true)
include hw hd
theorem OX.lt (hx : opd F x = some (.int kd a)) (hy : opd F y = some (.int kd b)) (k : K (.rd []) ((d, .bool (decide (a < b))) :: F) L) : OX P E R n M ops ⟨some d, .binOp .lss t x y u, ty, pos, aft, g⟩ F L K :=
  OX.bin hw hd hx hy (by rw [binA_int]; simp [binII, binInt, ltF_eq]) k
theorem OX.le (hx : opd F x = some (.int kd a)) (hy : opd F y = some (.int kd b)) (k : K (.rd []) ((d, .bool (decide (a ≤ b))) :: F) L) : OX P E R n M ops ⟨some d, .binOp .leq t x y u, ty, pos, aft, g⟩ F L K :=
  OX.bin hw hd hx hy (by rw [binA_int]; simp [binII, binInt, leF_eq]) k
theorem OX.gt (hx : opd F x = some (.int kd a)) (hy : opd F y = some (.int kd b)) (k : K (.rd []) ((d, .bool (decide (b < a))) :: F) L) : OX P E R n M ops ⟨some d, .binOp .gtr t x y u, ty, pos, aft, g⟩ F L K :=
  OX.bin hw hd hx hy (by rw [binA_int]; simp [binII, binInt, ltF_eq]) k
theorem OX.ge (hx : opd F x = some (.int kd a)) (hy : opd F y = some (.int kd b)) (k : K (.rd []) ((d, .bool (decide (b ≤ a))) :: F) L) : OX P E R n M ops ⟨some d, .binOp .geq t x y u, ty, pos, aft, g⟩ F L K :=
  OX.bin hw hd hx hy (by rw [binA_int]; simp [binII, binInt, leF_eq]) k
theorem OX.eq (hx : opd F x = some (.int kd a)) (hy : opd F y = some (.int kd b)) (k : K (.rd []) ((d, .bool (decide (a = b))) :: F) L) : OX P E R n M ops ⟨some d, .binOp .eql t x y u, ty, pos, aft, g⟩ F L K :=
  OX.bin hw hd hx hy (by rw [binA_int]; simp only [binII, binInt, if_true, eqF_eq]; rfl) k
theorem OX.ne (hx : opd F x = some (.int kd a)) (hy : opd F y = some (.int kd b)) (k : K (.rd []) ((d, .bool (decide (a ≠ b))) :: F) L) : OX P E R n M ops ⟨some d, .binOp .neq t x y u, ty, pos, aft, g⟩ F L K :=
  OX.bin hw hd hx hy (by rw [binA_int]; simp only [binII, binInt, if_true, neF_eq]; congr 2; rw [Bool.eq_iff_iff]; simp) k
theorem OX.addW (hx : opd F x = some (.int kd a)) (hy : opd F y = some (.int kd b)) (k : K (.rd []) ((d, .int kd (kd.wrap (a + b))) :: F) L) : OX P E R n M ops ⟨some d, .binOp .add t x y u, ty, pos, aft, g⟩ F L K :=
  OX.bin hw hd hx hy (by rw [binA_int]; simp only [binII, binInt, if_true, wrapF_eq, int_add]) k
theorem OX.subW (hx : opd F x = some (.int kd a)) (hy : opd F y = some (.int kd b)) (k : K (.rd []) ((d, .int kd (kd.wrap (a - b))) :: F) L) : OX P E R n M ops ⟨some d, .binOp .sub t x y u, ty, pos, aft, g⟩ F L K :=
  OX.bin hw hd hx hy (by rw [binA_int]; simp only [binII, binInt, if_true, wrapF_eq, int_sub]) k
theorem OX.mulW (hx : opd F x = some (.int kd a)) (hy : opd F y = some (.int kd b)) (k : K (.rd []) ((d, .int kd (kd.wrap (a * b))) :: F) L) : OX P E R n M ops ⟨some d, .binOp .mul t x y u, ty, pos, aft, g⟩ F L K :=
  OX.bin hw hd hx hy (by rw [binA_int]; simp only [binII, binInt, if_true, wrapF_eq, int_mul]) k
theorem OX.add (hx : opd F x = some (.int .i64 a)) (hy : opd F y = some (.int .i64 b)) (h : -9223372036854775808 ≤ a + b ∧ a + b < 9223372036854775808) (k : K (.rd []) ((d, .int .i64 (a + b)) :: F) L) : OX P E R n M ops ⟨some d, .binOp .add t x y u, ty, pos, aft, g⟩ F L K :=
  OX.addW hw hd hx hy (by rw [i64_id h]; exact k)
theorem OX.sub (hx : opd F x = some (.int .i64 a)) (hy : opd F y = some (.int .i64 b)) (h : -9223372036854775808 ≤ a - b ∧ a - b < 9223372036854775808) (k : K (.rd []) ((d, .int .i64 (a - b)) :: F) L) : OX P E R n M ops ⟨some d, .binOp .sub t x y u, ty, pos, aft, g⟩ F L K :=
  OX.subW hw hd hx hy (by rw [i64_id h]; exact k)
theorem OX.mul (hx : opd F x = some (.int .i64 a)) (hy : opd F y = some (.int .i64 b)) (h : -9223372036854775808 ≤ a * b ∧ a * b < 9223372036854775808) (k : K (.rd []) ((d, .int .i64 (a * b)) :: F) L) : OX P E R n M ops ⟨some d, .binOp .mul t x y u, ty, pos, aft, g⟩ F L K :=
  OX.mulW hw hd hx hy (by rw [i64_id h]; exact k)
theorem OX.remT (hx : opd F x = some (.int kd a)) (hy : opd F y = some (.int kd b)) (h : b ≠ 0) (k : K (.rd []) ((d, .int kd (a.tmod b)) :: F) L) : OX P E R n M ops ⟨some d, .binOp .rem t x y u, ty, pos, aft, g⟩ F L K :=
  OX.bin hw hd hx hy (by rw [binA_int]; simp only [binII, binInt, if_true, h, if_false]) k
theorem OX.rem (hx : opd F x = some (.int kd a)) (hy : opd F y = some (.int kd b)) (h : 0 ≤ a ∧ 0 < b) (k : K (.rd []) ((d, .int kd (a % b)) :: F) L) : OX P E R n M ops ⟨some d, .binOp .rem t x y u, ty, pos, aft, g⟩ F L K :=
  OX.remT hw hd hx hy (by omega) (by rw [Int.tmod_eq_emod_of_nonneg h.1]; exact k)
theorem OX.quoT (hx : opd F x = some (.int kd a)) (hy : opd F y = some (.int kd b)) (h : b ≠ 0) (k : K (.rd []) ((d, .int kd (kd.wrap (a.tdiv b))) :: F) L) : OX P E R n M ops ⟨some d, .binOp .quo t x y u, ty, pos, aft, g⟩ F L K :=
  OX.bin hw hd hx hy (by rw [binA_int]; simp only [binII, binInt, if_true, h, if_false, wrapF_eq]) k
theorem OX.quo (hx : opd F x = some (.int .i64 a)) (hy : opd F y = some (.int .i64 b)) (h : (0 ≤ a ∧ a < 9223372036854775808) ∧ 0 < b) (k : K (.rd []) ((d, .int .i64 (a / b)) :: F) L) : OX P E R n M ops ⟨some d, .binOp .quo t x y u, ty, pos, aft, g⟩ F L K :=
  OX.quoT hw hd hx hy (by omega) (by
    rw [Int.tdiv_eq_ediv_of_nonneg h.1.1, i64_id]
    · exact k
    · have h1 := Int.ediv_nonneg h.1.1 (Int.le_of_lt h.2)
      have h2 := Int.ediv_le_self b h.1.1
      omega)
theorem OX.not {w : TypeId} {p : Bool} (hx : opd F x = some (.bool p)) (k : K (.rd []) ((d, .bool (!p)) :: F) L) : OX P E R n M ops ⟨some d, .unOp .not w x, ty, pos, aft, g⟩ F L K :=
  OX.pure hw hd (fun f hf C => by show okVal C (unA .not (evA f x)) = _; rw [opd_ev hf hx]; rfl) k
theorem OX.un {o : UnOp} {w : TypeId} {v v' : V} (hx : opd F x = some v) (hv : unA o v = some v') (k : K (.rd []) ((d, v') :: F) L) : OX P E R n M ops ⟨some d, .unOp o w x, ty, pos, aft, g⟩ F L K :=
  OX.pure hw hd (fun f hf C => by show okVal C (unA o (evA f x)) = _; rw [opd_ev hf hx, hv]; rfl) k
theorem OX.conv {s r : TypeId} {v v' : V} (hx : opd F x = some v) (hv : convA E s r v = some v') (k : K (.rd []) ((d, v') :: F) L) : OX P E R n M ops ⟨some d, .convert s r x, ty, pos, aft, g⟩ F L K :=
  OX.pure hw hd (fun f hf C => by show okVal C (convA E s r (evA f x)) = _; rw [opd_ev hf hx, hv]; rfl) k
end nums

/-! ### Aggregates -/
theorem mapO_congr {α β : Type} {f f' : α → Option β} : ∀ {l : List α} {r : List β}, (∀ a ∈ l, ∀ b, f a = some b → f' a = some b) → mapO f l = some r → mapO f' l = some r
  | [], _, _, h => h
  | a :: l, r, hh, h => by
    simp only [mapO] at h ⊢
    cases h1 : f a with
    | none => simp [h1] at h
    | some b =>
      cases h2 : mapO f l with
      | none => simp [h1, h2] at h
      | some bs =>
        rw [hh a List.mem_cons_self b h1, mapO_congr (fun a' ha' => hh a' (List.mem_cons_of_mem _ ha')) h2]
        rw [h1, h2] at h; exact h
theorem mapO_some {α β : Type} (f : α → β) : ∀ l : List α, mapO (fun a => some (f a)) l = some (l.map f)
  | [] => rfl
  | a :: l => by simp only [mapO, mapO_some f l, List.map]
def partF (F : FA) (p : Nat × Operand) : Option (Nat × V) := match opd F p.2 with
  | some v => some (p.1, v)
  | none => none
theorem parts_ok {f : List V} (hf : FOk n F f) {ps : List (Nat × Operand)} {vs : List (Nat × V)} (h : mapO (partF F) ps = some vs) : (ps.map fun p => (p.1, evA f p.2)) = vs := by
  have := mapO_congr (f' := fun p => some (p.1, evA f p.2)) (fun p _ b hb => by
    unfold partF at hb
    split at hb
    · rename_i v hv
      simp only [Option.some.injEq] at hb
      rw [← hb, opd_ev hf hv]
    · cases hb) h
  rw [mapO_some] at this
  exact Option.some.inj this
theorem OX.build {t : TypeId} {ps : Array (Nat × Operand)} {vs : List (Nat × V)} {cs cs' : List V} (hw : wantF ops F g = some true) (hd : Nat.blt d n = true) (hp : mapO (partF F) ps.toList = some vs) (hb : buildA E t vs = some (.agg cs)) (hl : Lit cs cs')
    (k : K (.rd []) ((d, .agg cs') :: F) L) : OX P E R n M ops ⟨some d, .build t ps, ty, pos, aft, g⟩ F L K :=
  OX.pure hw hd (fun f hf C => by show okVal C (buildA E t (ps.toList.map fun p => (p.1, evA f p.2))) = _; rw [parts_ok hf hp, hb, hl.eq]; rfl) k
/-- As build, the cells as they are. -/
theorem OX.buildV {t : TypeId} {ps : Array (Nat × Operand)} {vs : List (Nat × V)} {v : V} (hw : wantF ops F g = some true) (hd : Nat.blt d n = true) (hp : mapO (partF F) ps.toList = some vs) (hb : buildA E t vs = some v)
    (k : K (.rd []) ((d, v) :: F) L) : OX P E R n M ops ⟨some d, .build t ps, ty, pos, aft, g⟩ F L K :=
  OX.pure hw hd (fun f hf C => by show okVal C (buildA E t (ps.toList.map fun p => (p.1, evA f p.2))) = _; rw [parts_ok hf hp, hb]; rfl) k
theorem OX.field {t : TypeId} {x : Operand} {i : Nat} {v v' : V} (hw : wantF ops F g = some true) (hd : Nat.blt d n = true) (hx : opd F x = some v) (hv : fieldA E t v i = some v') (k : K (.rd []) ((d, v') :: F) L) :
    OX P E R n M ops ⟨some d, .field t x i, ty, pos, aft, g⟩ F L K :=
  OX.pure hw hd (fun f hf C => by show okVal C (fieldA E t (evA f x) i) = _; rw [opd_ev hf hx, hv]; rfl) k
theorem OX.fieldG {t : TypeId} {x : Operand} {i : Nat} {v : V} {cs cs' : List V} (hw : wantF ops F g = some true) (hd : Nat.blt d n = true) (hx : opd F x = some v) (hv : fieldA E t v i = some (.agg cs)) (hl : Lit cs cs') (k : K (.rd []) ((d, .agg cs') :: F) L) :
    OX P E R n M ops ⟨some d, .field t x i, ty, pos, aft, g⟩ F L K := OX.field hw hd hx (by rw [hv, hl.eq]) k

/-! ### Places -/
def fieldOff (E : Env) (t : TypeId) (i : Nat) : Option Nat :=
  match E.und t with
  | some (.struct fs) => match fs[i]? with
    | some f => match E.size f.type with
      | some (_ + 1) => some f.offset
      | _ => none
    | none => none
  | _ => none
theorem OX.fieldAddr {t : TypeId} {x : Operand} {i b o r : Nat} (hw : wantF ops F g = some true) (hd : Nat.blt d n = true) (hx : opd F x = some (.ptr (some ⟨b, o⟩))) (hk : fieldOff E t i = some r) (k : K (.rd []) ((d, .ptr (some ⟨b, o + r⟩)) :: F) L) :
    OX P E R n M ops ⟨some d, .fieldAddr t x i, ty, pos, aft, g⟩ F L K :=
  OX.pure hw hd (fun f hf C => by
    show okVal C (fieldAddrA E t (evA f x) i) = _
    rw [opd_ev hf hx]
    unfold fieldOff at hk
    unfold fieldAddrA
    split at hk
    · rename_i fs hu
      rw [hu]
      simp only
      split at hk
      · rename_i fd hfd
        rw [hfd]
        simp only
        split at hk
        · rename_i m hm
          rw [hm]
          simp only [Option.some.injEq] at hk
          subst hk; rfl
        · cases hk
      · cases hk
    · cases hk) k
def elemSz (E : Env) (t : TypeId) : Option Nat :=
  match E.und t with
  | some (.slice e) => E.size e
  | _ => none
def arrSz (E : Env) (t : TypeId) : Option (Nat × Nat) :=
  match E.und t with
  | some (.array m e) => match E.size e with
    | some z => some (m, z)
    | none => none
  | _ => none
theorem idxF_of {i : Int} {m : Nat} (h : 0 ≤ i ∧ i < m) : idxF i m = some i.toNat := by
  cases i with
  | negSucc k => omega
  | ofNat k =>
    show (Bool.casesOn (motive := fun _ => Option Nat) (Nat.blt k m) none (some k)) = _
    have : Nat.blt k m = true := by rw [blt_iff]; simp; have := h.2; simp at this; omega
    rw [this]; rfl
theorem OX.indexAddr {t : TypeId} {x y : Operand} {b o m e z : Nat} {cp : Option Nat} {kd : IntKind} {i : Int} (hw : wantF ops F g = some true) (hd : Nat.blt d n = true) (hx : opd F x = some (.slice (some ⟨b, o⟩) m e cp)) (hy : opd F y = some (.int kd i)) (hz : elemSz E t = some z) (hi : 0 ≤ i ∧ i < m)
    (k : K (.rd []) ((d, .ptr (some ⟨b, o + i.toNat * z⟩)) :: F) L) : OX P E R n M ops ⟨some d, .indexAddr t x y, ty, pos, aft, g⟩ F L K :=
  OX.pure hw hd (fun f hf C => by
    show okVal C (indexAddrA E t (evA f x) (evA f y)) = _
    rw [opd_ev hf hx, opd_ev hf hy]
    unfold elemSz at hz
    unfold indexAddrA
    split at hz
    · rename_i el hu
      rw [hu]
      simp only [hz, idxF_of hi]
      rfl
    · cases hz) k
theorem OX.indexAddrN {t : TypeId} {x y : Operand} {b o m e z : Nat} {cp : Option Nat} {kd : IntKind} {i : Nat} (hw : wantF ops F g = some true) (hd : Nat.blt d n = true) (hx : opd F x = some (.slice (some ⟨b, o⟩) m e cp)) (hy : opd F y = some (.int kd (i : Int))) (hz : elemSz E t = some z) (hi : i < m)
    (k : K (.rd []) ((d, .ptr (some ⟨b, o + i * z⟩)) :: F) L) : OX P E R n M ops ⟨some d, .indexAddr t x y, ty, pos, aft, g⟩ F L K :=
  OX.indexAddr hw hd hx hy hz (by omega) (by simpa using k)
theorem OX.indexArr {t : TypeId} {x y : Operand} {b o m z : Nat} {kd : IntKind} {i : Int} (hw : wantF ops F g = some true) (hd : Nat.blt d n = true) (hx : opd F x = some (.ptr (some ⟨b, o⟩))) (hy : opd F y = some (.int kd i)) (hz : arrSz E t = some (m, z)) (hi : 0 ≤ i ∧ i < m)
    (k : K (.rd []) ((d, .ptr (some ⟨b, o + i.toNat * z⟩)) :: F) L) : OX P E R n M ops ⟨some d, .indexAddr t x y, ty, pos, aft, g⟩ F L K :=
  OX.pure hw hd (fun f hf C => by
    show okVal C (indexAddrA E t (evA f x) (evA f y)) = _
    rw [opd_ev hf hx, opd_ev hf hy]
    unfold arrSz at hz
    unfold indexAddrA
    split at hz
    · rename_i m' el hu
      split at hz
      · rename_i z' hz'
        simp only [Option.some.injEq, Prod.mk.injEq] at hz
        obtain ⟨rfl, rfl⟩ := hz
        rw [hu]
        simp only [hz', idxF_of hi]
        rfl
      · cases hz
    · cases hz) k

/-! ### Reading and writing -/
def takeAt (cs : List V) (o m : Nat) : Option (List V) := Option.casesOn (motive := fun _ => Option (List V)) (dropO cs o) none fun us => takeO us m
def loadV (E : Env) (t : TypeId) (cs : List V) (o : Nat) : Option V :=
  match E.isAgg t with
  | some true => match E.size t with
    | some m => (takeAt cs o m).map .agg
    | none => none
  | some false => nthL cs o
  | none => none
theorem OX.load {t : TypeId} {x : Operand} {b o : Nat} {cs : List V} {own : Bool} {v : V} (hw : wantF ops F g = some true) (hd : Nat.blt d n = true) (hx : opd F x = some (.ptr (some ⟨b, o⟩))) (hk : Kn b (.cells cs own) L M) (hv : loadV E t cs o = some v)
    (k : K (.rd [b]) ((d, v) :: F) L) : OX P E R n M ops ⟨some d, .load t x, ty, pos, aft, g⟩ F L K :=
  OX.read [b] hw hd (fun H f hg hf => ⟨fun r hr => by rw [List.mem_singleton.1 hr]; exact (hk.get hg).1, fun C hC => by
    show okVal C (loadA E C t (evA f x)) = _
    have hgb : C.get b = some (.cells cs own) := by rw [hC b (by simp)]; exact (hk.get hg).2
    have hrow : row C b = some cs := by unfold row; rw [hgb]
    rw [opd_ev hf hx]
    unfold loadV at hv
    unfold loadA
    simp only
    split at hv
    · rename_i ha
      split at hv
      · rename_i m hm
        have hv' : (cellsAt C ⟨b, o⟩ m).map V.agg = some v := by simp only [cellsAt, hrow]; exact hv
        simp only [ha, hm, hv', okVal_some]
      · cases hv
    · rename_i ha
      simp only [ha, hrow, hv, okVal_some]
    · cases hv⟩) k
theorem OX.loadG {t : TypeId} {x : Operand} {b o : Nat} {cs cs' cs'' : List V} {own : Bool} (hw : wantF ops F g = some true) (hd : Nat.blt d n = true) (hx : opd F x = some (.ptr (some ⟨b, o⟩))) (hk : Kn b (.cells cs own) L M) (hv : loadV E t cs o = some (.agg cs')) (hl : Lit cs' cs'')
    (k : K (.rd [b]) ((d, .agg cs'') :: F) L) : OX P E R n M ops ⟨some d, .load t x, ty, pos, aft, g⟩ F L K := OX.load hw hd hx hk (by rw [hv, hl.eq]) k

theorem OX.storeP {t : TypeId} {x y : Operand} {b o : Nat} {cs cs' vs : List V} {v : V} (hw : wantF ops F g = some true) (hx : opd F x = some (.ptr (some ⟨b, o⟩))) (hy : opd F y = some v) (hc : v.cells? = some vs) (hz : E.size t = some vs.length) (hat : vs.all V.atom = true)
    (ht : L.Perm ((b, .cells cs true) :: L₁)) (hs : spliceO vs cs o = some cs') (k : K (.fu [b] (ids (L ++ M))) F ((b, .cells cs' true) :: L₁)) : OX P E R n M ops ⟨none, .store t x y, ty, pos, aft, g⟩ F L K :=
  OX.write hw rfl ht (fun H f hg hf => by
    show okSkip (storeA E H t (evA f x) (evA f y)) = _
    have hgb : H.get b = some (.cells cs true) := (hg.own b _ (ht.mem_iff.2 List.mem_cons_self)).2
    rw [opd_ev hf hx, opd_ev hf hy]
    unfold storeA
    simp only [hc, hz, if_true, putCells, hgb, hat, hs, setO, okSkip, heapK_eq]) k
theorem OX.store {t : TypeId} {x y : Operand} {b o : Nat} {cs cs' vs : List V} {v : V} (hw : wantF ops F g = some true) (hx : opd F x = some (.ptr (some ⟨b, o⟩))) (hy : opd F y = some v) (hc : v.cells? = some vs) (hz : E.size t = some vs.length) (hat : vs.all V.atom = true)
    (ht : Take (b, .cells cs true) L L₁) (hs : spliceO vs cs o = some cs') (k : K (.fu [b] (ids (L ++ M))) F ((b, .cells cs' true) :: L₁)) : OX P E R n M ops ⟨none, .store t x y, ty, pos, aft, g⟩ F L K :=
  OX.storeP hw hx hy hc hz hat ht.perm hs k
theorem OX.storeL {t : TypeId} {x y : Operand} {b o : Nat} {cs cs' cs'' vs : List V} {v : V} (hw : wantF ops F g = some true) (hx : opd F x = some (.ptr (some ⟨b, o⟩))) (hy : opd F y = some v) (hc : v.cells? = some vs) (hz : E.size t = some vs.length) (hat : vs.all V.atom = true)
    (ht : Take (b, .cells cs true) L L₁) (hs : spliceO vs cs o = some cs') (hl : Lit cs' cs'') (k : K (.fu [b] (ids (L ++ M))) F ((b, .cells cs'' true) :: L₁)) : OX P E R n M ops ⟨none, .store t x y, ty, pos, aft, g⟩ F L K :=
  OX.store hw hx hy hc hz hat ht (by rw [hs, hl.eq]) k

/-! ### New blocks -/
theorem OX.alloc {t : TypeId} {zs zs' : List V} (hw : wantF ops F g = some true) (hd : Nat.blt d n = true) (hg : g = none) (hz : E.zeros t = some zs) (hl : Lit zs zs') (k : ∀ b, K (.al b) ((d, .ptr (some ⟨b, 0⟩)) :: F) ((b, .cells zs' true) :: L)) : OX P E R n M ops ⟨some d, .alloc t, ty, pos, aft, g⟩ F L K :=
  OX.makeA (v := fun b => .ptr (some ⟨b, 0⟩)) hw hd (fun x hx => by simp [Op.operands] at hx) hg (fun H f _ _ => by
    show opAlloc H (E.zeros t) = _
    rw [hz, hl.eq]; simp [opAlloc, newA]) k
theorem OX.box {t : TypeId} {x : Operand} {v : V} {cs : List V} (hw : wantF ops F g = some true) (hd : Nat.blt d n = true) (hx : opd F x = some v) (hc : v.cells? = some cs) (k : ∀ b, K (.fu [] (ids (L ++ M))) ((d, .ptr (some ⟨b, 0⟩)) :: F) ((b, .cells cs true) :: L)) :
    OX P E R n M ops ⟨some d, .box t x, ty, pos, aft, g⟩ F L K :=
  OX.make (v := fun b => .ptr (some ⟨b, 0⟩)) hw hd (fun H f _ hf => by
    show opAlloc H (evA f x).cells? = _
    rw [opd_ev hf hx, hc]; simp [opAlloc, newA]) k
theorem OX.makeMap {t : TypeId} (hw : wantF ops F g = some true) (hd : Nat.blt d n = true) (hg : g = none) (k : ∀ b, K (.al b) ((d, .map (some b)) :: F) ((b, .map []) :: L)) : OX P E R n M ops ⟨some d, .makeMap t none, ty, pos, aft, g⟩ F L K :=
  OX.makeA (v := fun b => .map (some b)) hw hd (fun x hx => by simp [Op.operands] at hx) hg (fun H f _ _ => by show opMap H none = _; simp [opMap]) k
/-- The cells of a slice that is written out. -/
def bsCells (E : Env) (t : TypeId) (len : Nat) (parts : List (Nat × V)) : Option (Nat × List V) :=
  match E.und t with
  | some (.slice e) => match E.size e, E.zeros e with
    | some m, some zs => match Nat.ble (len * m) 1048576 && Nat.beq zs.length m && Nat.blt 0 m with
      | true => match fillA (fun i => some (i * m, m)) (zcells zs (len * m)) parts with
        | some cs => some (m, cs)
        | none => none
      | false => none
    | _, _ => none
  | _ => none
theorem OX.buildSlice {t : TypeId} {len m : Nat} {ps : Array (Nat × Operand)} {vs : List (Nat × V)} {cs cs' : List V} (hw : wantF ops F g = some true) (hd : Nat.blt d n = true) (hp : mapO (partF F) ps.toList = some vs) (hb : bsCells E t len vs = some (m, cs)) (hl : Lit cs cs')
    (k : ∀ b, K (.fu [] (ids (L ++ M))) ((d, .slice (some ⟨b, 0⟩) len m (some len)) :: F) ((b, .cells cs' true) :: L)) : OX P E R n M ops ⟨some d, .buildSlice t len ps, ty, pos, aft, g⟩ F L K :=
  OX.make (v := fun b => .slice (some ⟨b, 0⟩) len m (some len)) hw hd (fun H f _ hf => by
    show okPair (buildSliceA E H t len (ps.toList.map fun p => (p.1, evA f p.2))) = _
    rw [parts_ok hf hp]
    unfold bsCells at hb
    unfold buildSliceA
    split at hb
    · rename_i e hu
      rw [hu]
      split at hb
      · rename_i m' zs hm hzs
        simp only [hm, hzs]
        split at hb
        · rename_i hc
          simp only [Bool.and_eq_true, Nat.ble_eq, blt_iff, decide_eq_true_eq] at hc
          have hc2 := Nat.eq_of_beq_eq_true hc.1.2
          rw [if_pos ⟨hc.1.1, hc2, hc.2⟩]
          split at hb
          · rename_i cs0 hf'
            simp only [Option.some.injEq, Prod.mk.injEq] at hb
            obtain ⟨rfl, rfl⟩ := hb
            rw [hf']
            simp [okPair, hl.eq]
          · cases hb
        · cases hb
      · cases hb
    · cases hb) k

end ops
end
end Go.Am
