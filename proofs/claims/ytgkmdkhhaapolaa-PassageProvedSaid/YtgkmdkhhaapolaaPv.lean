/-
  PASSAGE PROVED: the given statement.
-/
import Derived.Test.YtgkmdkhhaapolaaBr
import Derived.Test.YtgkmdkhhaapolaaPs8
import Derived.Test.YtgkmdkhhaapolaaAw2
namespace Go.Proofs.Ytgkmdkhhaapolaa
open Go.Am Go.Proofs
open Go.ChangeShapes Go.WideShapes Go.ChangeAt Go.RowKit

theorem CardsOk.more {M M' : CL} {cv : V} (h : CardsOk M cv) (hs : ∀ p ∈ M, p ∈ M') : CardsOk M' cv := by
  cases h with
  | nil => exact .nil
  | some h hc => exact .some (hs _ h) hc

theorem deal {W : World} {ι : Mp} {H : Am.Heap} {M : CL} {args : List V} {rargs : List Value} {v : Value} (h : Begun W ι H M args rargs)
    (hc : v = .slice none 0 0 ∨ ∃ cards rb ro n, CardIs .u8 W v cards rb ro n) :
    ∃ ι' H1 M' cv, Begun W ι' H1 M' (cv :: args) (v :: rargs) ∧ CardsOk M' cv ∧ ∀ p ∈ M, p ∈ M' := by
  rcases hc with rfl | ⟨cards, rb, ro, n, hc⟩
  · exact ⟨ι, H, M, _, h.flat (v := .slice none 0 0 none) (by simp [VR]), .nil, fun _ h => h⟩
  · obtain ⟨ι', H1, b, hb⟩ := h.card hc
    refine ⟨ι', H1, _, _, hb, .some (own := false) (cards := cards) (.head _) fun c hc' => ?_, fun _ h => .tail _ h⟩
    have := hc.wf c hc'
    simp [Lit.wf, IntKind.min, IntKind.max, IntKind.signed, IntKind.bits] at this
    omega

theorem cells_one : Try.prog.cellsOf 5 = 1 := by kernel_rfl
theorem knobs : ownKnob Try.prog.godebug = none := by kernel_rfl

set_option maxRecDepth 100000 in
theorem proved_contract (H : Type) (enc : TypeId × Value → H) (W : World) (base : Nat) (args : Array Value) (ds gs : List (DataW H)) (before : List MemPlace)
    (hval : ∀ (j : Nat) t v, Try.f3.params[j]? = some t → args[j]? = some v → Value.okWide Try.prog W .any base t v)
    (hW : DataW.Whole enc Try.prog Try.f3.params.toList Rows.passageProvedSpec.vars false W args.toList ds gs before) :
    Calls Try.prog 3 args W fun e W' => ∃ v, e = .returned v ∧ Rows.passageProvedSpec.post enc Try.prog Try.f3 false true false false W args v W' := by
  have hW' := hW
  obtain ⟨p, q, hA0, hV, rfl, hfz, hnd⟩ := hW
  have hA : DataW.TrodAll enc Try.prog W 0 (fun _ => true) true Try.f3.params.toList args.toList ds p := hA0
  rw [Try.params3] at hA hval
  obtain ⟨v0, v1, d0, d1, p0, p1, rfl, rfl, rfl, h0, h1⟩ := trodAll_two hA
  obtain ⟨rfl, rfl⟩ := trodVars_none hV
  obtain ⟨c0, b0⟩ := open_card Try.underlying22 Try.underlying5 cells_one (hval 0 22 v0 rfl rfl) h0
  obtain ⟨c1, b1⟩ := open_card Try.underlying22 Try.underlying5 cells_one (hval 1 22 v1 rfl rfl) h1
  clear hA0
  simp only [List.append_nil] at hW'
  obtain ⟨ι1, H1, M1, cv1, g1, k1, _⟩ := deal (Begun.nil W) c1
  obtain ⟨ι0, H0, M0, cv0, g0, k0, s0⟩ := deal g1 c0
  refine (Begun.calls (rargs := #[v0, v1]) g0 (b := true) (main_ok k0 (k1.more s0) awake_ok)).mono fun e W' ⟨he, hold⟩ => ?_
  subst he
  refine ⟨_, rfl, post_of_old (pa := p0 ++ p1) (pv := []) hW' (fun _ _ _ => trodAll_mk1 (shut_bool Try.underlying4 _)) (fun sp hsp => ?_) (fun _ _ => rfl) (by simp) hold (ok_one (by kernel_rfl) rfl (okWide_bool_mk Try.underlying4 _))⟩
  exact trodAll_mk2 (b0 W' hold sp fun q hq => hsp q (List.mem_append_left _ hq)) (b1 W' hold sp fun q hq => hsp q (List.mem_append_right _ hq))

set_option maxRecDepth 100000 in
theorem proved_lifted (os : Os) (started : os.Started) (H : Type) (enc : TypeId × Value → H) :
    ReturnsInHanded {} Try.checked os 3 .any (Rows.passageProvedSpec.pre6 enc Try.prog Try.f3 Rows.passageProvedRow.domain false) (Rows.passageProvedSpec.post enc Try.prog Try.f3 false true false false) := by
  refine returnsInHanded_of_change (C := Try.checked) knobs started (by kernel_rfl) Try.func3
    (ChangeSpec.witness6 (enc := enc) (C := Try.checked) false ⟨#[], #[.slice none 0 0, .slice none 0 0], []⟩ 8 (by kernel_rfl) (by kernel_rfl) (by kernel_rfl) (by kernel_rfl)) ?_
  intro W base args ds gs before hval hW _ _
  exact proved_contract H enc W base args ds gs before hval hW

theorem passageProved : Rows.PassageProvedSaid :=
  OpenClaim.holds_of_wide 3 Try.f3 rfl rfl rfl rfl rfl rfl rfl ⟨rfl, rfl, rfl, rfl, rfl⟩ rfl rfl rfl rfl rfl (by kernel_rfl) Try.func3 (by kernel_rfl)
    (of_decide_eq_true (by kernel_rfl)) (by unfold Func.isWrapper; first | (rw [if_pos (by decide +kernel)]; kernel_rfl) | (rw [if_neg (by decide +kernel)]; exact ⟨rfl, rfl⟩))
    (fun os started H enc _ => proved_lifted os started H enc)
end Go.Proofs.Ytgkmdkhhaapolaa
