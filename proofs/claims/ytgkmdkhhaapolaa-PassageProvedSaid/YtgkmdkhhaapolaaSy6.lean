/-
  THE SYMBOLIC LAYER, 6: slices that grow; ends of rounds.
-/
import Derived.Test.YtgkmdkhhaapolaaSy5
namespace Go.Am
noncomputable section
open Classical

/-- A slice of one's own with k elements of z cells: nothing, or a row. -/
def gV (z b k : Nat) : V := match k with
  | 0 => .slice none 0 0 none
  | k + 1 => .slice (some ⟨b, 0⟩) (k + 1) z none
def gL (b : Nat) (us : List V) (k : Nat) : CL := match k with
  | 0 => []
  | _ + 1 => [(b, .cells us true)]

theorem gV_atom (z b k : Nat) : V.atom (gV z b k) = true := by cases k <;> rfl

section ops
variable {P : Program} {E : Env} {R : Option Nat} {n : Nat} {M : CL} {F : FA} {L L₁ : CL} {K : Cw → FA → CL → Prop} {ops : Array Oper}
variable {d : Nat} {ty : TypeId} {pos : String} {aft : Array Edge} {g : Option (Nat × Bool)}

theorem OX.index {t : TypeId} {x y : Operand} {a b v : V} (hw : wantF ops F g = some true) (hd : Nat.blt d n = true) (hx : opd F x = some a) (hy : opd F y = some b) (hv : indexA E t a b = some v) (k : K (.rd []) ((d, v) :: F) L) : OX P E R n M ops ⟨some d, .index t x y, ty, pos, aft, g⟩ F L K :=
  OX.pure hw hd (fun f hf C => by show okVal C (indexA E t (evA f x) (evA f y)) = _; rw [opd_ev hf hx, opd_ev hf hy, hv]; rfl) k
/-- One more element. -/
theorem OX.grow {t : TypeId} {x y : Operand} {b k z c : Nat} {cp : Option Nat} {us es : List V} {own : Bool} (hw : wantF ops F g = some true) (hd : Nat.blt d n = true) (hz : elemZ E t = some z)
    (hx : opd F x = some (gV z b k)) (hy : opd F y = some (.slice (some ⟨c, 0⟩) 1 z cp)) (hu : Kn c (.cells es own) L M) (hl : es.length = z) (hat : es.all V.atom = true) (hus : us.length = k * z) (hk : k < 1000000)
    (hp : L.Perm (gL b us k ++ L₁)) (kk : ∀ b' ws, K (.fu ws (ids (L ++ M))) ((d, gV z b' (k + 1)) :: F) (gL b' (us ++ es) (k + 1) ++ L₁)) : OX P E R n M ops ⟨some d, .call ⟨.builtin .append, #[x, y], #[t, t]⟩, ty, pos, aft, g⟩ F L K := by
  have hsl : Sl L M (.slice (some ⟨c, 0⟩) 1 z cp) es := .some hu (takeAt_all _ (by omega))
  cases k with
  | zero =>
    have : us = [] := List.eq_nil_of_length_eq_zero (by simpa using hus)
    subst this
    have hsub : Sub L₁ L := ⟨⟨[], hp.trans (by simp [gL])⟩⟩
    intro H f hg hf hr
    obtain ⟨v, H', F', L', cw, h1, h2, h3, h4, h5⟩ := OX.appNil (K := fun cw F' L' => ∃ b', L' = (b', .cells es true) :: L ∧ F' = (d, gV z b' 1) :: F ∧ cw = .fu [] (ids (L ++ M))) hw hd hz hx hy hsl ⟨by omega, by omega⟩ hat (fun b' => ⟨b', rfl, rfl, rfl⟩) H f hg hf hr
    obtain ⟨b', rfl, rfl, rfl⟩ := h5
    refine ⟨v, H', _, gL b' ([] ++ es) 1 ++ L₁, _, h1, h2, h3.forget ?_, h4, kk b' []⟩
    refine ⟨⟨[], ?_⟩⟩
    rw [List.append_nil]
    exact List.Perm.cons (b', Am.Obj.cells es true) (by simpa [gL] using hp)
  | succ k =>
    intro H f hg hf hr
    have htk : ∃ L₂, Take (b, .cells us true) ((b, .cells us true) :: L₁) L₂ := ⟨_, .here⟩
    have hp' : L.Perm ((b, .cells us true) :: L₁) := hp
    have hg' := hg.perm hp'
    have hsl' : Sl ((b, .cells us true) :: L₁) M (.slice (some ⟨c, 0⟩) 1 z cp) es := .some (by
      rcases hu with h | h
      · exact .inl (hp'.mem_iff.1 h)
      · exact .inr h) (takeAt_all _ (by omega))
    obtain ⟨v, H', F', L', cw, h1, h2, h3, h4, h5⟩ := OX.append (P := P) (E := E) (R := R) (K := fun cw F' L' => ∃ b', L' = (b', .cells (us ++ es) true) :: L₁ ∧ F' = (d, gV z b' (k + 1 + 1)) :: F ∧ cw = .fu [b] (ids (((b, .cells us true) :: L₁) ++ M))) hw hd hz hx hy (.here) (takeAt_all _ (by omega)) hsl' ⟨by omega, by omega⟩ (fun c hc => by cases hc) hat (fun b' => ⟨b', rfl, rfl, rfl⟩) H f hg' hf (hr.sub (Sub.of_perm hp'))
    obtain ⟨b', rfl, rfl, rfl⟩ := h5
    refine ⟨v, H', _, gL b' (us ++ es) (k + 1 + 1) ++ L₁, .fu [b] (ids (L ++ M)), h1, h2, h3.sub (Sub.of_perm hp'), ?_, kk b' [b]⟩
    exact ⟨Good.known hg, h4.2⟩
end ops

/-- What is behind some blocks. -/
theorem Sub.drop {p : Nat × Obj} {T L : CL} (h : Sub T L) : Sub T (p :: L) := by
  obtain ⟨R, hR⟩ := h.ex
  exact ⟨⟨p :: R, (hR.cons p).trans (List.perm_middle.symm)⟩⟩
theorem Sub.dropL {A T L : CL} (h : Sub T L) : Sub T (A ++ L) := by
  obtain ⟨R, hR⟩ := h.ex
  exact ⟨⟨A ++ R, (hR.append_left A).trans (List.perm_append_comm_assoc A T R)⟩⟩
/-- The next round; what is known of the blocks first. -/
theorem LQ.nx {S : Type} {FF : S → FA} {LL : S → CL} {I : S → Prop} {μ : S → Nat} {s : S} {K : Post3} {F : FA} {L : CL} (s' : S) (h4 : Sub (LL s') L) (h3 : HasF F (FF s')) (h1 : μ s' < μ s) (h2 : I s') : LQ FF LL I μ s K .normal F L := LQ.next s' h1 h2 h3 h4

theorem WS.as {P : Program} {R : Option Nat} {n : Nat} {M : CL} {a b : Code} {ks : List KI} {F : FA} {L : CL} {Q : Post3} (h : a = b) (hw : WS P R n M b ks F L Q) : WS P R n M a ks F L Q := h ▸ hw
theorem FN.moreM {P : Program} {fid : FuncId} {args : List V} {L M M₁ : CL} {Φ : V → CL → Prop} (h : FN P fid args L M₁ Φ) (hM : ∀ p ∈ M₁, p ∈ M) : FN P fid args L M Φ := fun H hg => by
  obtain ⟨v, H', L', h1, h2, h3⟩ := h H ⟨hg.nd, hg.own, fun b o hb => hg.red b o (hM _ hb)⟩
  refine ⟨v, H', L', h1, ⟨⟨h2.good.nd, h2.good.own, fun b o hb => ?_⟩, h2.size, h2.keep, h2.fresh⟩, h3⟩
  obtain ⟨g1, g2, g3⟩ := hg.red b o hb
  refine ⟨Nat.lt_of_lt_of_le g1 h2.size, by rw [h2.keep b g1 g3]; exact g2, fun hm => ?_⟩
  rcases h2.fresh b hm with h | h
  · exact g3 h
  · omega

theorem GN.moreM {P : Program} {gv : V} {args : List V} {L M M₁ : CL} {Φ : V → CL → Prop} (h : GN P gv args L M₁ Φ) (hM : ∀ p ∈ M₁, p ∈ M) : GN P gv args L M Φ := fun H hg => by
  obtain ⟨v, H', L', h1, h2, h3⟩ := h H ⟨hg.nd, hg.own, fun b o hb => hg.red b o (hM _ hb)⟩
  refine ⟨v, H', L', h1, ⟨⟨h2.good.nd, h2.good.own, fun b o hb => ?_⟩, h2.size, h2.keep, h2.fresh⟩, h3⟩
  obtain ⟨g1, g2, g3⟩ := hg.red b o hb
  refine ⟨Nat.lt_of_lt_of_le g1 h2.size, by rw [h2.keep b g1 g3]; exact g2, fun hm => ?_⟩
  rcases h2.fresh b hm with h | h
  · exact g3 h
  · omega
theorem SubM.cons1 {b : Nat} {o : Obj} {L M : CL} (h : Kn b o L M) : SubM ((b, o) :: M) L M := .cons h (SubM.self fun _ h => h)
/-- Blocks of one's own that are only read. -/
theorem SubM.of {ps L M : CL} (h : ∀ p ∈ ps, p ∈ L ∨ p ∈ M) : SubM ps L M := by
  induction ps with
  | nil => exact .nil
  | cons p ps ih => obtain ⟨b, o⟩ := p; exact .cons (h _ List.mem_cons_self) (ih fun p hp => h p (List.mem_cons_of_mem _ hp))
end
end Go.Am
