/-
  THE SYMBOLIC LAYER, 4: built-in functions, slices, maps, calls, functions, rangings.
-/
import Derived.Test.YtgkmdkhhaapolaaSy3
namespace Go.Am
noncomputable section
open Classical

theorem perm_snoc (p : Nat × Obj) (l : CL) : (p :: l).Perm (l ++ [p]) := (List.perm_append_singleton p l).symm
/-- The cells of a slice that is known. -/
inductive Sl (L M : CL) : V → List V → Prop
  | nil {n z : Nat} {cp : Option Nat} : Sl L M (.slice none n z cp) []
  | some {b o n z : Nat} {cp : Option Nat} {cs us : List V} {own : Bool} (h : Kn b (.cells cs own) L M) (ht : takeAt cs o (n * z) = some us) : Sl L M (.slice (some ⟨b, o⟩) n z cp) us

theorem Sl.elems {L M : CL} {x : V} {us : List V} (h : Sl L M x us) {H : Heap} (hg : Good L M H) : elemsA H x = Option.some us := by
  cases h with
  | nil => rfl
  | some hk ht =>
    rename_i b o n z cp cs own
    show cellsAt H ⟨b, o⟩ (n * z) = _
    have : row H b = Option.some cs := by unfold row; rw [(hk.get hg).2]
    unfold cellsAt
    simp only [this]
    exact ht

theorem takeAt_eq (cs : List V) (o m : Nat) : takeAt cs o m = if o + m ≤ cs.length then some ((cs.drop o).take m) else none := by
  unfold takeAt
  rw [dropO_eq]
  by_cases h : o ≤ cs.length
  · simp only [h, if_true, takeO_eq, List.length_drop]
    by_cases h' : o + m ≤ cs.length
    · simp [h', show m ≤ cs.length - o by omega]
    · simp [h', show ¬ m ≤ cs.length - o by omega]
  · simp [h, show ¬ o + m ≤ cs.length by omega]
theorem takeAt_all (cs : List V) {m : Nat} (h : m = cs.length) : takeAt cs 0 m = some cs := by
  rw [takeAt_eq]; simp [h]

/-- What may be appended: slices of a type, their cells. -/
def elemZ (E : Env) (t : TypeId) : Option Nat :=
  match E.und t with
  | some (.slice e) => match E.info e, E.zeros e with
    | some i, some zs => match Nat.blt 0 i.size && Nat.beq zs.length i.size && Nat.ble i.bytes 1048576 with
      | true => some i.size
      | false => none
    | _, _ => none
  | _ => none
theorem elemZ_ok {E : Env} {t : TypeId} {z : Nat} (h : elemZ E t = some z) : ∃ e i zs, E.und t = some (.slice e) ∧ E.info e = some i ∧ E.zeros e = some zs ∧ i.size = z ∧ 0 < i.size ∧ zs.length = i.size ∧ i.bytes ≤ 1048576 := by
  unfold elemZ at h
  split at h
  · rename_i e hu
    split at h
    · rename_i i zs hi hz
      split at h
      · rename_i hc
        simp only [Bool.and_eq_true, Nat.ble_eq, blt_iff, decide_eq_true_eq] at hc
        simp only [Option.some.injEq] at h
        exact ⟨e, i, zs, hu, hi, hz, h, hc.1.1, Nat.eq_of_beq_eq_true hc.1.2, hc.2⟩
      · cases h
    · cases h
  · cases h

section ops
variable {P : Program} {E : Env} {R : Option Nat} {n : Nat} {M : CL} {F : FA} {L L₁ : CL} {K : Cw → FA → CL → Prop} {ops : Array Oper}
variable {d : Nat} {op : Op} {ty : TypeId} {pos : String} {aft : Array Edge} {g : Option (Nat × Bool)}

/-! ### len, min, max -/
def isSlice (E : Env) (t : TypeId) : Bool := match E.und t with
  | some (.slice _) => true
  | _ => false
theorem OX.len {t : TypeId} {x : Operand} {a : Option Loc} {m z : Nat} {cp : Option Nat} (hw : wantF ops F g = some true) (hd : Nat.blt d n = true) (hx : opd F x = some (.slice a m z cp)) (ht : isSlice E t = true)
    (k : K (.rd []) ((d, .int .i64 (m : Int)) :: F) L) : OX P E R n M ops ⟨some d, .call ⟨.builtin .len, #[x], #[t]⟩, ty, pos, aft, g⟩ F L K :=
  OX.pure hw hd (fun f hf C => by
    show (lenA E C t (evA f x)).map (fun v => Res.val v C) = _
    rw [opd_ev hf hx]
    unfold isSlice at ht
    unfold lenA
    split at ht
    · rename_i e hu
      rw [hu]; rfl
    · cases ht) k
theorem OX.max {ts : Array TypeId} {x y : Operand} {kd kd' : IntKind} {a b : Int} (hw : wantF ops F g = some true) (hd : Nat.blt d n = true) (hx : opd F x = some (.int kd a)) (hy : opd F y = some (.int kd' b))
    (k : K (.rd []) ((d, .int kd (if b > a then b else a)) :: F) L) : OX P E R n M ops ⟨some d, .call ⟨.builtin .max, #[x, y], ts⟩, ty, pos, aft, g⟩ F L K :=
  OX.pure hw hd (fun f hf C => by
    show (foldO maxA (evA f x) [evA f y]).map (fun v => Res.val v C) = _
    rw [opd_ev hf hx, opd_ev hf hy]; rfl) k
theorem OX.min {ts : Array TypeId} {x y : Operand} {kd kd' : IntKind} {a b : Int} (hw : wantF ops F g = some true) (hd : Nat.blt d n = true) (hx : opd F x = some (.int kd a)) (hy : opd F y = some (.int kd' b))
    (k : K (.rd []) ((d, .int kd (if b < a then b else a)) :: F) L) : OX P E R n M ops ⟨some d, .call ⟨.builtin .min, #[x, y], ts⟩, ty, pos, aft, g⟩ F L K :=
  OX.pure hw hd (fun f hf C => by
    show (foldO minA (evA f x) [evA f y]).map (fun v => Res.val v C) = _
    rw [opd_ev hf hx, opd_ev hf hy]; rfl) k

/-! ### append -/
theorem builtin_append {H : Heap} {ev : Operand → V} {x y : Operand} {t : TypeId} : opA E H ev (.call ⟨.builtin .append, #[x, y], #[t, t]⟩) = okPair (appendA E H t (ev x) (ev y)) := by
  show (if t = t then okPair (appendA E H t (ev x) (ev y)) else none) = _
  rw [if_pos rfl]

/-- To nothing: a new row. -/
theorem OX.appNil {t : TypeId} {x y : Operand} {sz z : Nat} {scp : Option Nat} {xa : Option Loc} {xl : Nat} {xcp : Option Nat} {us : List V} (hw : wantF ops F g = some true) (hd : Nat.blt d n = true) (hz : elemZ E t = some z)
    (hx : opd F x = some (.slice none 0 sz scp)) (hy : opd F y = some (.slice xa xl z xcp)) (hu : Sl L M (.slice xa xl z xcp) us) (hl : 0 < xl ∧ xl ≤ 1048576) (hat : us.all V.atom = true)
    (k : ∀ b, K (.fu [] (ids (L ++ M))) ((d, .slice (some ⟨b, 0⟩) xl z none) :: F) ((b, .cells us true) :: L)) : OX P E R n M ops ⟨some d, .call ⟨.builtin .append, #[x, y], #[t, t]⟩, ty, pos, aft, g⟩ F L K := by
  obtain ⟨e, i, zs, h1, h2, h3, h4, h5, h6, h7⟩ := elemZ_ok hz
  refine OX.make (v := fun b => .slice (some ⟨b, 0⟩) xl z none) hw hd (fun H f hg hf => ?_) k
  rw [builtin_append, opd_ev hf hx, opd_ev hf hy]
  unfold appendA
  simp only [h1, h2, h3, hu.elems hg]
  rw [if_pos ⟨hat, h5, h6, h7, by omega, fun _ => h4.symm, fun h => by cases h⟩, if_neg (by omega)]
  simp [okPair, h4]
/-- Nothing is appended. -/
theorem OX.appZero {t : TypeId} {x y : Operand} {sa : Option Loc} {sl sz z : Nat} {scp : Option Nat} {xa : Option Loc} {xz : Nat} {xcp : Option Nat} {us : List V} (hw : wantF ops F g = some true) (hd : Nat.blt d n = true) (hz : elemZ E t = some z)
    (hx : opd F x = some (.slice sa sl sz scp)) (hy : opd F y = some (.slice xa 0 xz xcp)) (hu : Sl L M (.slice xa 0 xz xcp) us) (hl : sl ≤ 1048576) (hsz : sa.isSome → sz = z) (hxz : xa.isSome → xz = z)
    (k : K (.fu [] []) ((d, .slice sa sl sz scp) :: F) L) : OX P E R n M ops ⟨some d, .call ⟨.builtin .append, #[x, y], #[t, t]⟩, ty, pos, aft, g⟩ F L K := by
  obtain ⟨e, i, zs, h1, h2, h3, h4, h5, h6, h7⟩ := elemZ_ok hz
  intro H f hg hf _
  have hw' := wantF_ok (o := ⟨some d, .call ⟨.builtin .append, #[x, y], #[t, t]⟩, ty, pos, aft, g⟩) hw hf
  have hus : us = [] := by
    cases hu with
    | nil => rfl
    | some hk ht => rw [takeAt_eq] at ht; split at ht <;> simp at ht; exact ht
  subst hus
  refine ⟨.slice sa sl sz scp, H, _, L, .fu [] [], .val hw' ?_, hf.put hd _, .refl hg, ⟨fun r hr => (List.not_mem_nil hr).elim, fun _ _ _ => rfl⟩, k⟩
  show opA E H (evA f) (.call ⟨.builtin .append, #[x, y], #[t, t]⟩) = _
  rw [builtin_append, opd_ev hf hx, opd_ev hf hy]
  unfold appendA
  simp only [h1, h2, h3, hu.elems hg]
  rw [if_pos ⟨rfl, h5, h6, h7, by omega, fun h => by rw [h4]; exact hxz h, fun h => by rw [h4]; exact hsz h⟩]
  simp only [if_true]
  rfl
/-- To a row of one's own: it is used up; a new row holds both. -/
theorem OX.append {t : TypeId} {x y : Operand} {b0 o0 sl z : Nat} {scp : Option Nat} {xa : Option Loc} {xl : Nat} {xcp : Option Nat} {cs olds us : List V} (hw : wantF ops F g = some true) (hd : Nat.blt d n = true) (hz : elemZ E t = some z)
    (hx : opd F x = some (.slice (some ⟨b0, o0⟩) sl z scp)) (hy : opd F y = some (.slice xa xl z xcp)) (ht : Take (b0, .cells cs true) L L₁) (ho : takeAt cs o0 (sl * z) = some olds) (hu : Sl L M (.slice xa xl z xcp) us) (hl : 0 < xl ∧ sl + xl ≤ 1048576)
    (hcp : ∀ c, scp = some c → c < sl + xl) (hat : us.all V.atom = true)
    (k : ∀ b, K (.fu [b0] (ids (L ++ M))) ((d, .slice (some ⟨b, 0⟩) (sl + xl) z none) :: F) ((b, .cells (olds ++ us) true) :: L₁)) : OX P E R n M ops ⟨some d, .call ⟨.builtin .append, #[x, y], #[t, t]⟩, ty, pos, aft, g⟩ F L K := by
  obtain ⟨e, i, zs, h1, h2, h3, h4, h5, h6, h7⟩ := elemZ_ok hz
  intro H f hg hf _
  have hw' := wantF_ok (o := ⟨some d, .call ⟨.builtin .append, #[x, y], #[t, t]⟩, ty, pos, aft, g⟩) hw hf
  have hb0 : H.get b0 = some (.cells cs true) := (hg.own b0 _ (ht.perm.mem_iff.2 List.mem_cons_self)).2
  have hb0l : b0 < H.size := (hg.own b0 _ (ht.perm.mem_iff.2 List.mem_cons_self)).1
  have hcells : cellsAt H ⟨b0, o0⟩ (sl * z) = some olds := by
    have : row H b0 = some cs := by unfold row; rw [hb0]
    unfold cellsAt
    simp only [this]; exact ho
  have hsub : Sub L₁ L := ⟨⟨[(b0, .cells cs true)], ht.perm.trans (perm_snoc _ _)⟩⟩
  have hval : ∀ H' : Heap, appendA E H t (.slice (some ⟨b0, o0⟩) sl z scp) (.slice xa xl z xcp) = some (.slice (some ⟨H.size, 0⟩) (sl + xl) z none, H') → opA E H (evA f) (.call ⟨.builtin .append, #[x, y], #[t, t]⟩) = some (.val (.slice (some ⟨H.size, 0⟩) (sl + xl) z none) H') := fun H' h => by
    rw [builtin_append, opd_ev hf hx, opd_ev hf hy, h]; rfl
  by_cases hc : scp.any (· < sl + xl) = true
  · refine ⟨_, _, _, _, .fu [b0] (ids (L ++ M)), .val hw' (hval (H.push (.cells (olds ++ us) true)) ?_), hf.put hd _, ((To.push (hg.sub hsub) _).sub hsub), ⟨Good.known hg, fun c hcl _ => Heap.get_push_ne _ _ (by omega)⟩, k _⟩
    unfold appendA
    simp only [h1, h2, h3, hu.elems hg]
    rw [if_pos ⟨hat, h5, h6, h7, hl.2, fun _ => h4.symm, fun _ => h4.symm⟩, if_neg (by omega)]
    simp only [h4, hcells, hc, if_true]
  · have hto : To L M H ((H.size, .cells (olds ++ us) true) :: L₁) ((H.set b0 .dead).push (.cells (olds ++ us) true)) := by
      have h1 := (To.set hg ht.perm .dead)
      have hs : Sub L₁ ((b0, Obj.dead) :: L₁) := ⟨⟨[(b0, .dead)], (perm_snoc _ _)⟩⟩
      have h2 := h1.forget hs
      have h3 := To.push h2.good (.cells (olds ++ us) true)
      rw [Heap.size_set] at h3
      exact h2.trans h3
    refine ⟨_, _, _, _, .fu [b0] (ids (L ++ M)), .val hw' (hval ((H.set b0 .dead).push (.cells (olds ++ us) true)) ?_), hf.put hd _, hto, ⟨Good.known hg, fun c hcl hn => ?_⟩, k _⟩
    · unfold appendA
      simp only [h1, h2, h3, hu.elems hg]
      rw [if_pos ⟨hat, h5, h6, h7, hl.2, fun _ => h4.symm, fun _ => h4.symm⟩, if_neg (by omega)]
      simp only [h4, hcells, hc, hb0]
      rfl
    · rw [Heap.get_push_ne _ _ (by rw [Heap.size_set]; omega), Heap.get_set_ne _ _ (by simpa using hn)]

/-! ### Parts of slices -/
theorem OX.slice {t : TypeId} {x : Operand} {lo hi : Option Operand} {vl vh : Option V} {b o m z : Nat} {cp : Option Nat} {l h : Nat} (hw : wantF ops F g = some true) (hd : Nat.blt d n = true) (hz : elemSz E t = some z)
    (hx : opd F x = some (.slice (some ⟨b, o⟩) m z cp)) (hlo : ∀ y, lo = some y → ∃ v, vl = some v ∧ opd F y = some v) (hlo' : lo = none → vl = none) (hhi : ∀ y, hi = some y → ∃ v, vh = some v ∧ opd F y = some v) (hhi' : hi = none → vh = none)
    (hb : boundsA m vl vh none = some (l, h, m))
    (k : K (.rd []) ((d, .slice (some ⟨b, o + l * z⟩) (h - l) z (cp.map (· - l))) :: F) L) : OX P E R n M ops ⟨some d, .slice t x lo hi none, ty, pos, aft, g⟩ F L K :=
  OX.pure hw hd (fun f hf C => by
    show okVal C (sliceA E C t (evA f x) (lo.map (evA f)) (hi.map (evA f)) none) = _
    have e1 : lo.map (evA f) = vl := by
      cases lo with
      | none => rw [hlo' rfl]; rfl
      | some y => obtain ⟨v, h1, h2⟩ := hlo y rfl; rw [h1, Option.map_some, opd_ev hf h2]
    have e2 : hi.map (evA f) = vh := by
      cases hi with
      | none => rw [hhi' rfl]; rfl
      | some y => obtain ⟨v, h1, h2⟩ := hhi y rfl; rw [h1, Option.map_some, opd_ev hf h2]
    rw [e1, e2, opd_ev hf hx]
    unfold elemSz at hz
    unfold sliceA
    split at hz
    · rename_i e hu
      rw [hu]
      simp only [hz, if_true, hb, Option.isSome_none, Bool.false_eq_true, if_false, okVal_some]
    · cases hz) k
theorem OX.sliceFrom {t : TypeId} {x y : Operand} {b o m z : Nat} {cp : Option Nat} {kd : IntKind} {i : Nat} (hw : wantF ops F g = some true) (hd : Nat.blt d n = true) (hz : elemSz E t = some z)
    (hx : opd F x = some (.slice (some ⟨b, o⟩) m z cp)) (hy : opd F y = some (.int kd (i : Int))) (hi : i ≤ m)
    (k : K (.rd []) ((d, .slice (some ⟨b, o + i * z⟩) (m - i) z (cp.map (· - i))) :: F) L) : OX P E R n M ops ⟨some d, .slice t x (some y) none none, ty, pos, aft, g⟩ F L K :=
  OX.slice (vl := some (.int kd i)) (vh := none) hw hd hz hx (fun y' e => by cases e; exact ⟨_, rfl, hy⟩) (fun e => by cases e) (fun y' e => by cases e) (fun _ => rfl)
    (by simp [boundsA, boundA]; omega) k
theorem OX.sliceTo {t : TypeId} {x y : Operand} {b o m z : Nat} {cp : Option Nat} {kd : IntKind} {i : Nat} (hw : wantF ops F g = some true) (hd : Nat.blt d n = true) (hz : elemSz E t = some z)
    (hx : opd F x = some (.slice (some ⟨b, o⟩) m z cp)) (hy : opd F y = some (.int kd (i : Int))) (hi : i ≤ m)
    (k : K (.rd []) ((d, .slice (some ⟨b, o + 0 * z⟩) (i - 0) z (cp.map (· - 0))) :: F) L) : OX P E R n M ops ⟨some d, .slice t x none (some y) none, ty, pos, aft, g⟩ F L K :=
  OX.slice (vl := none) (vh := some (.int kd i)) hw hd hz hx (fun y' e => by cases e) (fun _ => rfl) (fun y' e => by cases e; exact ⟨_, rfl, hy⟩) (fun e => by cases e)
    (by simp [boundsA, boundA]; omega) k
/-- An array as a slice. -/
theorem OX.sliceArr {t : TypeId} {x : Operand} {b o m z : Nat} {cs : List V} {own : Bool} (hw : wantF ops F g = some true) (hd : Nat.blt d n = true) (hz : arrSz E t = some (m, z)) (hx : opd F x = some (.ptr (some ⟨b, o⟩))) (hk : Kn b (.cells cs own) L M) (hl : o + m * z ≤ cs.length)
    (k : K (.rd [b]) ((d, .slice (some ⟨b, o + 0 * z⟩) (m - 0) z (some (m - 0))) :: F) L) : OX P E R n M ops ⟨some d, .slice t x none none none, ty, pos, aft, g⟩ F L K :=
  OX.read [b] hw hd (fun H f hg hf => ⟨fun r hr => by rw [List.mem_singleton.1 hr]; exact (hk.get hg).1, fun C hC => by
    show okVal C (sliceA E C t (evA f x) none none none) = _
    have hgb : C.get b = some (.cells cs own) := by rw [hC b (by simp)]; exact (hk.get hg).2
    have hrow : row C b = some cs := by unfold row; rw [hgb]
    rw [opd_ev hf hx]
    unfold arrSz at hz
    unfold sliceA
    split at hz
    · rename_i m' el hu
      split at hz
      · rename_i z' hz'
        simp only [Option.some.injEq, Prod.mk.injEq] at hz
        obtain ⟨rfl, rfl⟩ := hz
        rw [hu]
        simp only [hz', hrow, hl, if_true]
        simp [boundsA, boundA]
      · cases hz
    · cases hz⟩) k

/-! ### Functions as values, maps -/
theorem opds_ok {f : List V} (hf : FOk n F f) {xs : List Operand} {vs : List V} (h : mapO (opd F) xs = some vs) : xs.map (evA f) = vs := by
  have := mapO_congr (f' := fun x => some (evA f x)) (fun x _ b hb => by rw [opd_ev hf hb]) h
  rw [mapO_some] at this
  exact Option.some.inj this
theorem OX.makeFunc {fid : FuncId} {first cap : Array Operand} {vs us vs' us' : List V} (hw : wantF ops F g = some true) (hd : Nat.blt d n = true) (h1 : mapO (opd F) first.toList = some vs) (h2 : mapO (opd F) cap.toList = some us) (hl1 : Lit vs vs') (hl2 : Lit us us')
    (k : K (.rd []) ((d, .func fid vs' us') :: F) L) : OX P E R n M ops ⟨some d, .makeFunc (.func fid) first cap, ty, pos, aft, g⟩ F L K :=
  OX.pure hw hd (fun f hf C => by
    show some (Res.val (.func fid (first.toList.map (evA f)) (cap.toList.map (evA f))) C) = _
    rw [opds_ok hf h1, opds_ok hf h2, hl1.eq, hl2.eq]) k
/-- Keys that may be asked for. -/
def KeysOk (E : Env) (kt : TypeId) (es : List (V × V)) : Prop := es.all (fun p => keyOk E kt p.1) = true
def mapKey (E : Env) (t : TypeId) : Option TypeId := match E.und t with
  | some (.map kt _) => some kt
  | _ => none
theorem keys_set {kt : TypeId} {es : List (V × V)} (h : KeysOk E kt es) {k x : V} (hk : keyOk E kt k = true) (i : Nat) : KeysOk E kt (es.set i (k, x)) := by
  unfold KeysOk at h ⊢
  rw [List.all_eq_true] at h ⊢
  intro p hp
  rcases List.mem_or_eq_of_mem_set hp with h' | h'
  · exact h p h'
  · rw [h']; exact hk
theorem OX.mapUpdate {t kt : TypeId} {x y z : Operand} {b : Nat} {es : List (V × V)} {kv v : V} (hw : wantF ops F g = some true) (ht : mapKey E t = some kt) (hx : opd F x = some (.map (some b))) (hy : opd F y = some kv) (hz : opd F z = some v) (hkk : keyOk E kt kv = true)
    (hT : Take (b, .map es) L L₁) (hes : KeysOk E kt es) (k : ∀ es', KeysOk E kt es' → K (.fu [b] (ids (L ++ M))) F ((b, .map es') :: L₁)) : OX P E R n M ops ⟨none, .mapUpdate t x y z, ty, pos, aft, g⟩ F L K := by
  have key : ∃ es', KeysOk E kt es' ∧ ∀ H f, Good L M H → FOk n F f → opA E H (evA f) (.mapUpdate t x y z) = some (.skip (H.set b (.map es'))) := by
    have hall : es.all (fun p => keyOk E kt p.1) = true := hes
    cases hfi : findA kv es 0 with
    | none =>
      refine ⟨es ++ [(kv, v)], ?_, fun H f hg hf => ?_⟩
      · unfold KeysOk; rw [List.all_append, hall]; simp [hkk]
      · show okSkip (mapUpdateA E H t (evA f x) (evA f y) (evA f z)) = _
        rw [opd_ev hf hx, opd_ev hf hy, opd_ev hf hz]
        unfold mapKey at ht
        unfold mapUpdateA
        split at ht
        · rename_i kt' e hu
          simp only [Option.some.injEq] at ht
          subst ht
          have hb : H.get b = some (.map es) := (hg.own b _ (hT.perm.mem_iff.2 List.mem_cons_self)).2
          simp only [hu, hkk, if_true, hb, hall, hfi, okSkip, heapK_eq]
        · cases ht
    | some p =>
      obtain ⟨i, q⟩ := p
      refine ⟨es.set i (kv, v), keys_set hes hkk i, fun H f hg hf => ?_⟩
      show okSkip (mapUpdateA E H t (evA f x) (evA f y) (evA f z)) = _
      rw [opd_ev hf hx, opd_ev hf hy, opd_ev hf hz]
      unfold mapKey at ht
      unfold mapUpdateA
      split at ht
      · rename_i kt' e hu
        simp only [Option.some.injEq] at ht
        subst ht
        have hb : H.get b = some (.map es) := (hg.own b _ (hT.perm.mem_iff.2 List.mem_cons_self)).2
        simp only [hu, hkk, if_true, hb, hall, hfi, okSkip, heapK_eq]
      · cases ht
  obtain ⟨es', h1, h2⟩ := key
  exact OX.write hw rfl hT.perm h2 (k es' h1)
end ops

/-! ### Calls -/
/-- A call of a function: what it gives, and what becomes of the blocks that it is handed. -/
def FN (P : Program) (fid : FuncId) (args : List V) (L M : CL) (Φ : V → CL → Prop) : Prop :=
  ∀ H, Good L M H → ∃ v H' L', AC P fid args H v H' ∧ To L M H L' H' ∧ Φ v L'
def GN (P : Program) (gv : V) (args : List V) (L M : CL) (Φ : V → CL → Prop) : Prop :=
  ∀ H, Good L M H → ∃ v H' L', AG P gv args H v H' ∧ To L M H L' H' ∧ Φ v L'
theorem FN.mono {P : Program} {fid : FuncId} {args : List V} {L M : CL} {Φ Φ' : V → CL → Prop} (h : FN P fid args L M Φ) (hq : ∀ v L', Φ v L' → Φ' v L') : FN P fid args L M Φ' := fun H hg =>
  let ⟨v, H', L', h1, h2, h3⟩ := h H hg
  ⟨v, H', L', h1, h2, hq _ _ h3⟩
theorem GN.mono {P : Program} {gv : V} {args : List V} {L M : CL} {Φ Φ' : V → CL → Prop} (h : GN P gv args L M Φ) (hq : ∀ v L', Φ v L' → Φ' v L') : GN P gv args L M Φ' := fun H hg =>
  let ⟨v, H', L', h1, h2, h3⟩ := h H hg
  ⟨v, H', L', h1, h2, hq _ _ h3⟩
theorem FN.toG {P : Program} {fid : FuncId} {first args cap : List V} {L M : CL} {Φ : V → CL → Prop} (h : FN P fid (first ++ args ++ cap) L M Φ) : GN P (.func fid first cap) args L M Φ := h

/-- Blocks that are known. -/
inductive SubM : CL → CL → CL → Prop
  | nil {L M : CL} : SubM [] L M
  | cons {b : Nat} {o : Obj} {ps L M : CL} (h : Kn b o L M) (h' : SubM ps L M) : SubM ((b, o) :: ps) L M
theorem SubM.mem {ps L M : CL} (h : SubM ps L M) : ∀ p ∈ ps, p ∈ L ∨ p ∈ M := by
  induction h with
  | nil => intro p hp; cases hp
  | cons h _ ih =>
    intro p hp
    rcases List.mem_cons.1 hp with rfl | hp
    · exact h
    · exact ih p hp
theorem SubM.self {L M : CL} : ∀ {ps : CL}, (∀ p ∈ ps, p ∈ M) → SubM ps L M
  | [], _ => .nil
  | (_, _) :: _, h => .cons (.inr (h _ List.mem_cons_self)) (SubM.self fun p hp => h p (List.mem_cons_of_mem _ hp))

theorem GN.frame {P : Program} {gv : V} {args : List V} {L L₁ L₂ M M₁ : CL} {Φ : V → CL → Prop} (h : GN P gv args L₁ M₁ Φ) (ht : L.Perm (L₁ ++ L₂)) (hM : SubM M₁ L₂ M) : GN P gv args L M fun v L' => ∃ L₁', Φ v L₁' ∧ L' = L₁' ++ L₂ := fun H hg => by
  have hg' := hg.perm ht
  obtain ⟨v, H', L', h1, h2, h3⟩ := h H (hg'.reads hM.mem)
  exact ⟨v, H', _, h1, (To.frame hg' h2).sub (Sub.of_perm ht), L', h3, rfl⟩
theorem FN.frame {P : Program} {fid : FuncId} {args : List V} {L L₁ L₂ M M₁ : CL} {Φ : V → CL → Prop} (h : FN P fid args L₁ M₁ Φ) (ht : L.Perm (L₁ ++ L₂)) (hM : SubM M₁ L₂ M) : FN P fid args L M fun v L' => ∃ L₁', Φ v L₁' ∧ L' = L₁' ++ L₂ := fun H hg => by
  have hg' := hg.perm ht
  obtain ⟨v, H', L', h1, h2, h3⟩ := h H (hg'.reads hM.mem)
  exact ⟨v, H', _, h1, (To.frame hg' h2).sub (Sub.of_perm ht), L', h3, rfl⟩
/-- Less is told of what is left. -/
theorem FN.forget {P : Program} {fid : FuncId} {args : List V} {L M : CL} {Φ : V → CL → Prop} (h : FN P fid args L M fun v L' => ∃ L₂, Sub L₂ L' ∧ Φ v L₂) : FN P fid args L M Φ := fun H hg => by
  obtain ⟨v, H', L', h1, h2, L₂, h3, h4⟩ := h H hg
  exact ⟨v, H', L₂, h1, h2.forget h3, h4⟩
theorem GN.forget {P : Program} {gv : V} {args : List V} {L M : CL} {Φ : V → CL → Prop} (h : GN P gv args L M fun v L' => ∃ L₂, Sub L₂ L' ∧ Φ v L₂) : GN P gv args L M Φ := fun H hg => by
  obtain ⟨v, H', L', h1, h2, L₂, h3, h4⟩ := h H hg
  exact ⟨v, H', L₂, h1, h2.forget h3, h4⟩
theorem FN.sub {P : Program} {fid : FuncId} {args : List V} {L L₁ M : CL} {Φ : V → CL → Prop} (h : FN P fid args L₁ M Φ) (hs : Sub L₁ L) : FN P fid args L M Φ := fun H hg => by
  obtain ⟨v, H', L', h1, h2, h3⟩ := h H (hg.sub hs)
  exact ⟨v, H', L', h1, h2.sub hs, h3⟩

section calls
variable {P : Program} {E : Env} {R : Option Nat} {n : Nat} {M M₁ : CL} {F : FA} {L L₁ L₂ : CL} {K : Cw → FA → CL → Prop} {ops : Array Oper}
variable {d : Nat} {ty : TypeId} {pos : String} {aft : Array Edge} {g : Option (Nat × Bool)}

theorem OX.callG {x : Operand} {as : Array Operand} {ts : Array TypeId} {gv : V} {args : List V} {Φ : V → CL → Prop} (hw : wantF ops F g = some true) (hd : Nat.blt d n = true) (hx : opd F x = some gv) (ha : mapO (opd F) as.toList = some args)
    (h : GN P gv args L₁ M₁ Φ) (ht : L.Perm (L₁ ++ L₂)) (hM : SubM M₁ L₂ M) (k : ∀ v L', Φ v L' → K (.fu (ids L₁) (ids (L ++ M))) ((d, v) :: F) (L' ++ L₂)) : OX P E R n M ops ⟨some d, .call ⟨.value x, as, ts⟩, ty, pos, aft, g⟩ F L K := by
  intro H f hg hf _
  have hw' := wantF_ok (o := ⟨some d, .call ⟨.value x, as, ts⟩, ty, pos, aft, g⟩) hw hf
  have hg' := hg.perm ht
  obtain ⟨v, H', L', h1, h2, h3⟩ := h H (hg'.reads hM.mem)
  refine ⟨v, H', _, _, .fu (ids L₁) (ids (L ++ M)), .call hw' ?_ h1, hf.put hd _, (To.frame hg' h2).sub (Sub.of_perm ht), ⟨Good.known hg, h2.keep⟩, k v L' h3⟩
  show some (Res.call (evA f x) (as.toList.map (evA f))) = _
  rw [opd_ev hf hx, opds_ok hf ha]
/-- A call whose value nobody takes. -/
theorem OX.callG0 {x : Operand} {as : Array Operand} {ts : Array TypeId} {gv : V} {args : List V} {Φ : V → CL → Prop} (hw : wantF ops F g = some true) (hx : opd F x = some gv) (ha : mapO (opd F) as.toList = some args)
    (h : GN P gv args L₁ M₁ Φ) (ht : L.Perm (L₁ ++ L₂)) (hM : SubM M₁ L₂ M) (k : ∀ v L', Φ v L' → K (.fu (ids L₁) (ids (L ++ M))) F (L' ++ L₂)) : OX P E R n M ops ⟨none, .call ⟨.value x, as, ts⟩, ty, pos, aft, g⟩ F L K := by
  intro H f hg hf _
  have hw' := wantF_ok (o := ⟨none, .call ⟨.value x, as, ts⟩, ty, pos, aft, g⟩) hw hf
  have hg' := hg.perm ht
  obtain ⟨v, H', L', h1, h2, h3⟩ := h H (hg'.reads hM.mem)
  refine ⟨v, H', _, _, .fu (ids L₁) (ids (L ++ M)), .call hw' ?_ h1, hf, (To.frame hg' h2).sub (Sub.of_perm ht), ⟨Good.known hg, h2.keep⟩, k v L' h3⟩
  show some (Res.call (evA f x) (as.toList.map (evA f))) = _
  rw [opd_ev hf hx, opds_ok hf ha]
theorem OX.call {fid : FuncId} {as : Array Operand} {ts : Array TypeId} {args : List V} {Φ : V → CL → Prop} (hw : wantF ops F g = some true) (hd : Nat.blt d n = true) (ha : mapO (opd F) as.toList = some args)
    (h : FN P fid args L₁ M₁ Φ) (ht : L.Perm (L₁ ++ L₂)) (hM : SubM M₁ L₂ M) (k : ∀ v L', Φ v L' → K (.fu (ids L₁) (ids (L ++ M))) ((d, v) :: F) (L' ++ L₂)) : OX P E R n M ops ⟨some d, .call ⟨.value (.func fid), as, ts⟩, ty, pos, aft, g⟩ F L K :=
  OX.callG hw hd (gv := .func fid [] []) rfl ha (FN.toG (by simpa using h)) ht hM k
theorem OX.call0 {fid : FuncId} {as : Array Operand} {ts : Array TypeId} {args : List V} {Φ : V → CL → Prop} (hw : wantF ops F g = some true) (ha : mapO (opd F) as.toList = some args)
    (h : FN P fid args L₁ M₁ Φ) (ht : L.Perm (L₁ ++ L₂)) (hM : SubM M₁ L₂ M) (k : ∀ v L', Φ v L' → K (.fu (ids L₁) (ids (L ++ M))) F (L' ++ L₂)) : OX P E R n M ops ⟨none, .call ⟨.value (.func fid), as, ts⟩, ty, pos, aft, g⟩ F L K :=
  OX.callG0 hw (gv := .func fid [] []) rfl ha (FN.toG (by simpa using h)) ht hM k
end calls

/-! ### Functions -/
def argF : Nat → List V → FA
  | _, [] => []
  | i, v :: vs => (i, v) :: argF (i + 1) vs
theorem argF_look : ∀ (vs : List V) (i t : Nat) (v : V), look (argF i vs) t = some v → i ≤ t ∧ vs[t - i]? = some v
  | [], _, _, _, h => by cases h
  | u :: vs, i, t, v, h => by
    simp only [argF, look] at h
    cases hb : Nat.beq i t with
    | true =>
      rw [hb] at h
      simp only [Option.some.injEq] at h
      have := Nat.eq_of_beq_eq_true hb
      subst this; subst h; simp
    | false =>
      rw [hb] at h
      obtain ⟨h1, h2⟩ := argF_look vs (i + 1) t v h
      refine ⟨by omega, ?_⟩
      rw [show t - i = (t - (i + 1)) + 1 by omega]; simpa using h2
theorem FOk.args {n : Nat} {args : List V} (h : Nat.ble args.length n = true) : FOk n (argF 0 args) (args ++ List.replicate (n - args.length) .undef) := by
  have hl := Nat.le_of_ble_eq_true h
  refine ⟨by simp; omega, fun t v ht => ?_⟩
  obtain ⟨_, h2⟩ := argF_look args 0 t v ht
  have hlt : t < args.length := (List.getElem?_eq_some_iff.1 h2).1
  rw [List.getD_eq_getElem?_getD, List.getElem?_append_left hlt]
  have h3 : args[t]? = some v := h2
  rw [h3]; rfl

inductive ResOne (E : Env) (F : FA) (L M : CL) : ResultVar → V → Prop
  | tmp {t : Nat} {v : V} (h : look F t = some v) : ResOne E F L M (.tmp t) v
  | cell {a t b o : Nat} {cs : List V} {own : Bool} {v : V} (h : look F a = some (.ptr (some ⟨b, o⟩))) (hk : Kn b (.cells cs own) L M) (hv : loadV E t cs o = some v) : ResOne E F L M (.cell a t) v
  | cellG {a t b o : Nat} {cs us us' : List V} {own : Bool} (h : look F a = some (.ptr (some ⟨b, o⟩))) (hk : Kn b (.cells cs own) L M) (hv : loadV E t cs o = some (.agg us)) (hl : Lit us us') : ResOne E F L M (.cell a t) (.agg us')
inductive ResAll (E : Env) (F : FA) (L M : CL) : List ResultVar → List V → Prop
  | nil : ResAll E F L M [] []
  | cons {r : ResultVar} {v : V} {rs : List ResultVar} {vs : List V} (h : ResOne E F L M r v) (h' : ResAll E F L M rs vs) : ResAll E F L M (r :: rs) (v :: vs)

theorem loadA_of {E : Env} {H : Heap} {t b o : Nat} {cs : List V} {own : Bool} {v : V} (hg : H.get b = some (.cells cs own)) (hv : loadV E t cs o = some v) : loadA E H t (.ptr (some ⟨b, o⟩)) = some v := by
  have hrow : row H b = some cs := by unfold row; rw [hg]
  unfold loadV at hv
  unfold loadA
  simp only
  split at hv
  · rename_i ha
    split at hv
    · rename_i m hm
      have hv' : (cellsAt H ⟨b, o⟩ m).map V.agg = some v := by simp only [cellsAt, hrow]; exact hv
      simp only [ha, hm, hv']
    · cases hv
  · rename_i ha
    simp only [ha, hrow, hv]
  · cases hv
theorem ResOne.ok {E : Env} {F : FA} {L M : CL} {r : ResultVar} {v : V} (h : ResOne E F L M r v) {n : Nat} {f : List V} (hf : FOk n F f) {H : Heap} (hg : Good L M H) : resOneA E H f r = some v := by
  cases h with
  | tmp h => simp only [resOneA]; rw [hf.2 _ _ h]
  | cell h hk hv => simp only [resOneA]; rw [hf.2 _ _ h]; exact loadA_of (hk.get hg).2 hv
  | cellG h hk hv hl => simp only [resOneA]; rw [hf.2 _ _ h, ← hl.eq]; exact loadA_of (hk.get hg).2 hv
theorem ResAll.ok {E : Env} {F : FA} {L M : CL} {rs : List ResultVar} {vs : List V} (h : ResAll E F L M rs vs) {n : Nat} {f : List V} (hf : FOk n F f) {H : Heap} (hg : Good L M H) : mapO (resOneA E H f) rs = some vs := by
  induction h with
  | nil => rfl
  | cons h _ ih => simp only [mapO, h.ok hf hg, ih]

/-- The end of a function. -/
def FQ (E : Env) (M : CL) (rs : List ResultVar) (Φ : V → CL → Prop) : Post3 := fun e F L => (∀ id, e ≠ .exit id) ∧ ∃ vs, ResAll E F L M rs vs ∧ Φ (oneOf vs) L
theorem FQ.ret {E : Env} {M : CL} {rs : List ResultVar} {Φ : V → CL → Prop} {F : FA} {L : CL} {vs : List V} (h : ResAll E F L M rs vs) (hq : Φ (oneOf vs) L) : FQ E M rs Φ .ret F L := ⟨fun _ => by simp, vs, h, hq⟩
theorem FQ.normal {E : Env} {M : CL} {rs : List ResultVar} {Φ : V → CL → Prop} {F : FA} {L : CL} {vs : List V} (h : ResAll E F L M rs vs) (hq : Φ (oneOf vs) L) : FQ E M rs Φ .normal F L := ⟨fun _ => by simp, vs, h, hq⟩

theorem FN.intro {P : Program} {E : Env} (hE : EnvOk E P) (hN : Enters E P) {fid : FuncId} {fn : Func} {c : Code} {args : List V} {L M : CL} {Φ : V → CL → Prop} (hf : E.body fid = some fn) (hc : fn.body = some c) (hl : Nat.ble args.length fn.ntmps = true)
    (h : WS P none fn.ntmps M c [] (argF 0 args) L (FQ E M fn.results.toList Φ)) : FN P fid args L M Φ := by
  intro H hg
  obtain ⟨e, f', H', F', L', h1, h2, h3, h4⟩ := h H _ hg (FOk.args hl) ROk.none
  obtain ⟨he, vs, h5, h6⟩ := h4
  refine ⟨oneOf vs, H', L', AC.of_AX hE (hE.body fid fn hf) hc (hN fid fn c hf hc) h1 he ?_, h3, h6⟩
  unfold resA
  rw [h5.ok h2 h3.good]
  match vs with
  | [] => rfl
  | [_] => rfl
  | _ :: _ :: _ => rfl

/-- A closed call that gives true. -/
theorem FN.closed {P : Program} {fid : FuncId} (h : ∀ H, AC P fid [] H (.bool true) H) : FN P fid [] [] [] fun v L' => v = .bool true ∧ L' = [] := fun H hg => ⟨_, H, [], h H, .refl hg, rfl, rfl⟩

/-! ### Rangings over functions -/
section range
variable {P : Program} {E : Env} {R : Option Nat} {n : Nat} {M : CL} {F : FA} {L : CL} {Q : Post3} {ks : List KI}

theorem WS.range {gop : Operand} {ps : Array Tmp} {assign body : Code} {gf : FuncId} {first cap : List V} (hx : opd F gop = some (.func gf first cap))
    (h : ∀ f y, FOk n F f → FN P gf (first ++ [.yld y] ++ cap) ((y, .loop ⟨.ready, none, f, ps.toList, assign, body⟩) :: L) M fun _ L' => ∃ r e L'', Take (y, .loop r) L' L'' ∧ r.state ≠ .busy ∧ jumpEx r.pending = some e ∧ KQ P R n M Q ks e F L'') :
    WS P R n M (.rangeFunc gop ps assign body) ks F L Q := by
  intro H f hg hf hr
  have hpush := To.push hg (.loop ⟨.ready, none, f, ps.toList, assign, body⟩)
  obtain ⟨v, H₂, L', h1, h2, r, e, L'', h3, h4, h5, h6⟩ := h f H.size hf _ hpush.good
  have hget : H₂.get H.size = some (.loop r) := (h2.good.own _ _ (h3.perm.mem_iff.2 List.mem_cons_self)).2
  have hfin := To.set h2.good h3.perm (.loop { r with state := .exhausted })
  have hsub : Sub L'' ((H.size, Obj.loop { r with state := .exhausted }) :: L'') := ⟨⟨[_], (perm_snoc _ _)⟩⟩
  exact ⟨e, f, _, F, L'', AX.rangeFunc (opd_ev hf hx) (fun l hl => (hr l hl).2.2) h1 hget h4 h5, hf, (hpush.trans h2).trans (hfin.forget hsub), h6⟩

theorem WS.range' {gop : Operand} {ps : Array Tmp} {assign body : Code} {gf : FuncId} {first cap : List V} (hx : opd F gop = some (.func gf first cap))
    (h : ∀ f y asg bod, asg = assign → bod = body → FOk n F f → FN P gf (first ++ [.yld y] ++ cap) ((y, .loop ⟨.ready, none, f, ps.toList, asg, bod⟩) :: L) M fun _ L' => ∃ r e L'', Take (y, .loop r) L' L'' ∧ r.state ≠ .busy ∧ jumpEx r.pending = some e ∧ KQ P R n M Q ks e F L'') :
    WS P R n M (.rangeFunc gop ps assign body) ks F L Q := WS.range hx fun f y hf => h f y _ _ rfl rfl hf

def zipF : List Tmp → List V → FA → FA
  | t :: ts, a :: as, F => zipF ts as ((t, a) :: F)
  | _, _, F => F
theorem FOk.zip {n : Nat} : ∀ {ts : List Tmp} {as : List V} {F : FA} {f : List V}, (ts.all fun t => Nat.blt t n) = true → FOk n F f → FOk n (zipF ts as F) (zipPut ts as f)
  | [], as, F, f, _, hf => by cases as <;> exact hf
  | t :: ts, [], F, f, _, hf => hf
  | t :: ts, a :: as, F, f, h, hf => by
    simp only [List.all_cons, Bool.and_eq_true] at h
    exact FOk.zip (ts := ts) h.2 (hf.put h.1 a)

/-- A round of a ranging. -/
def YQ (P : Program) (y n : Nat) (M : CL) (body : Code) (B : Post3) : Post3 := fun e F L => e = .normal ∧ WS P (some y) n M body [] F L B
theorem YQ.go {y : Nat} {body : Code} {B : Post3} (h : WS P (some y) n M body [] F L B) : YQ P y n M body B .normal F L := ⟨rfl, h⟩
/-- The record behind a round. -/
def recOf (e : Ex) (f : List V) (ps : List Tmp) (assign body : Code) : LoopA := ⟨if e = .normal then .ready else .done, e.jump, f, ps, assign, body⟩
theorem GN.yld {y : Nat} {f : List V} {ps : List Tmp} {assign body : Code} {p0 : Option Code} {args : List V} {Φ : V → CL → Prop} (hf : FOk n F f) (hlen : args.length = ps.length) (hps : (ps.all fun t => Nat.blt t n) = true)
    (h : WS P (some y) n M assign [] (zipF ps args F) L (YQ P y n M body fun e _ L' => Φ (.bool (decide (e = .normal))) ((y, .loop (recOf e f ps assign body)) :: L'))) :
    GN P (.yld y) args ((y, .loop ⟨.ready, p0, f, ps, assign, body⟩) :: L) M Φ := by
  intro H hg
  have hn : n = f.length := hf.1.symm
  subst hn
  have hg1 : Good L M H := hg.sub ⟨⟨[_], (perm_snoc _ _)⟩⟩
  have hyn : y ∉ ids L := (List.nodup_cons.1 hg.nd).1
  have hyl : y < H.size := (hg.own y _ List.mem_cons_self).1
  have hyg : H.get y = some (.loop ⟨.ready, p0, f, ps, assign, body⟩) := (hg.own y _ List.mem_cons_self).2
  have hro : ROk (some y) L H := fun l hl => by cases hl; exact ⟨hyl, hyn, _, hyg⟩
  have comb : ∀ {r : LoopA} {L₁ L₂ : CL} {H₁ H₂ : Heap}, Good ((y, .loop r) :: L₁) M H₁ → To L₁ M H₁ L₂ H₂ → To ((y, .loop r) :: L₁) M H₁ ((y, .loop r) :: L₂) H₂ := fun {r L₁ L₂ H₁ H₂} hgg ht => by
    have hp1 : List.Perm ((y, Obj.loop r) :: L₁) (L₁ ++ [(y, .loop r)]) := (perm_snoc _ _)
    have hp2 : List.Perm (L₂ ++ [(y, Obj.loop r)]) ((y, .loop r) :: L₂) := (perm_snoc _ _).symm
    exact ((To.frame (hgg.perm hp1) ht).sub (Sub.of_perm hp1)).forget (Sub.of_perm hp2)
  obtain ⟨e1, f1, H1, F1, L1, a1, a2, a3, rfl, h⟩ := h H _ hg1 (FOk.zip hps hf) hro
  have t1 := comb hg a3
  have hg2 : H1.get y = some (.loop ⟨.ready, p0, f, ps, assign, body⟩) := (t1.good.own y _ List.mem_cons_self).2
  have t2 := To.set t1.good (.refl _) (.loop ⟨.busy, p0, f, ps, assign, body⟩)
  have hg3 : Good L1 M (H1.set y (.loop ⟨.busy, p0, f, ps, assign, body⟩)) := t2.good.sub ⟨⟨[_], (perm_snoc _ _)⟩⟩
  have hro2 : ROk (some y) L1 (H1.set y (.loop ⟨.busy, p0, f, ps, assign, body⟩)) := fun l hl => by
    cases hl
    exact ⟨(t2.good.own y _ List.mem_cons_self).1, (List.nodup_cons.1 t2.good.nd).1, _, (t2.good.own y _ List.mem_cons_self).2⟩
  obtain ⟨e2, f2, H2, F2, L2, b1, b2, b3, b4⟩ := h _ _ hg3 a2 hro2
  have t3 := comb t2.good b3
  have hg4 : H2.get y = some (.loop ⟨.busy, p0, f, ps, assign, body⟩) := (t3.good.own y _ List.mem_cons_self).2
  have t4 := To.set t3.good (.refl _) (.loop (recOf e2 f ps assign body))
  exact ⟨_, _, _, AY.intro hyg hlen a1 hg2 rfl b1 hg4, ((t1.trans t2).trans t3).trans t4, b4⟩
end range

end
end Go.Am
