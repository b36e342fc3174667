/-
  PASSAGE, 2: the deck, ways, numbers: what the functions do. Printed by spec1.py.
-/
import Derived.Test.YtgkmdkhhaapolaaPs1
namespace Go.Proofs.Ytgkmdkhhaapolaa
open Go.Am Go.Proofs
set_option maxRecDepth 20000
set_option maxHeartbeats 2000000
set_option linter.unusedVariables false
set_option linter.unusedSimpArgs false
theorem from_ok (a b c : Int) : FN P 30 [iv a, iv b, iv c] [] [] (fun v L' => v = .bool (decide (b ≤ a ∧ a ≤ c)) ∧ L' = []) := by
  refine FN.intro EOk ENt rfl rfl rfl ?_
  refine WS.seq ?_
  refine WS.region EOk ?_
  refine WO.cons (OX.assign rfl rfl rfl ?_)
  refine WO.nil ?_
  refine KQ.seq ?_
  refine WS.seq ?_
  refine WS.region EOk ?_
  refine WO.cons (OX.move rfl rfl rfl ?_)
  refine WO.cons (OX.move rfl rfl rfl ?_)
  refine WO.cons (OX.ge rfl rfl rfl rfl ?_)
  refine WO.cons (OX.move rfl rfl rfl ?_)
  first | refine WO.askD (t := 10) rfl (fun h10 => ?_) (fun h10 => ?_) | refine WO.askN (t := 10) rfl (fun h10 => ?_) (fun h10 => ?_) | refine WO.ask (t := 10) rfl (fun h10 => ?_) (fun h10 => ?_)
  ·
    refine WO.cons (OX.move rfl rfl rfl ?_)
    refine WO.cons (OX.move rfl rfl rfl ?_)
    refine WO.cons (OX.le rfl rfl rfl rfl ?_)
    refine WO.cons (OX.pickT rfl rfl rfl rfl ?_)
    refine WO.cons (OX.assign rfl rfl rfl ?_)
    refine WO.nil ?_
    refine KQ.seq ?_
    refine WS.ret ?_
    refine KQ.done ?_
    refine FQ.ret (.cons (.tmp rfl) (.nil)) ?_
    refine ⟨?_, rfl⟩
    simp only [oneOf, V.bool.injEq]; try simp_all; try omega
  ·
    refine WO.cons (OX.pass rfl rfl ?_)
    refine WO.cons (OX.pass rfl rfl ?_)
    refine WO.cons (OX.pass rfl rfl ?_)
    refine WO.cons (OX.pickF rfl rfl rfl rfl ?_)
    refine WO.cons (OX.assign rfl rfl rfl ?_)
    refine WO.nil ?_
    refine KQ.seq ?_
    refine WS.ret ?_
    refine KQ.done ?_
    refine FQ.ret (.cons (.tmp rfl) (.nil)) ?_
    refine ⟨?_, rfl⟩
    simp only [oneOf, V.bool.injEq]; try simp_all; try omega
theorem draw_nil {M : CL} {d : Nat} {dealt stir n : Int} (hd : DeckOk dealt stir) (hb : dealt ≤ 1000000000) : FN P 12 [.ptr (some ⟨d, 0⟩), iv n] [(d, deck (.slice none 0 0 none) dealt stir)] M (fun v L' => ∃ r dealt' stir', v = iv r ∧ L' = [(d, deck (.slice none 0 0 none) dealt' stir')] ∧ 0 ≤ r ∧ (r < n ∨ r = 0) ∧ DeckOk dealt' stir' ∧ dealt' ≤ dealt + 1) := by
  obtain ⟨hd1, hd2, hd3, hd4⟩ := hd
  refine FN.intro EOk ENt rfl rfl rfl ?_
  refine WS.seq ?_
  refine WS.region EOk ?_
  refine WO.cons (OX.assign rfl rfl rfl ?_)
  refine WO.nil ?_
  refine KQ.seq ?_
  refine WS.seq ?_
  refine WS.seq ?_
  refine WS.region EOk ?_
  refine WO.cons (OX.move rfl rfl rfl ?_)
  refine WO.cons (OX.le rfl rfl rfl rfl ?_)
  refine WO.cons (OX.move rfl rfl rfl ?_)
  first | refine WO.askD (t := 9) rfl (fun h9 => ?_) (fun h9 => ?_) | refine WO.askN (t := 9) rfl (fun h9 => ?_) (fun h9 => ?_) | refine WO.ask (t := 9) rfl (fun h9 => ?_) (fun h9 => ?_)
  ·
    refine WO.cons (OX.pass rfl rfl ?_)
    refine WO.cons (OX.pass rfl rfl ?_)
    refine WO.cons (OX.pass rfl rfl ?_)
    refine WO.cons (OX.pass rfl rfl ?_)
    refine WO.cons (OX.pass rfl rfl ?_)
    refine WO.cons (OX.pass rfl rfl ?_)
    refine WO.cons (OX.pickT rfl rfl rfl rfl ?_)
    refine WO.nil ?_
    refine KQ.seq ?_
    refine WS.condT rfl ?_
    refine WS.seq ?_
    refine WS.region EOk ?_
    refine WO.cons (OX.assign rfl rfl rfl ?_)
    refine WO.nil ?_
    refine KQ.seq ?_
    refine WS.ret ?_
    refine KQ.seq_ret ?_
    refine KQ.done ?_
    refine FQ.ret (.cons (.tmp rfl) (.nil)) ?_
    refine ⟨0, dealt, stir, rfl, rfl, by omega, by omega, ⟨hd1, hd2, hd3, hd4⟩, by omega⟩
  ·
    refine WO.cons (OX.move rfl rfl rfl ?_)
    refine WO.cons (OX.nilCheck rfl rfl rfl ?_)
    refine WO.cons (OX.fieldAddr (r := 0) rfl rfl rfl rfl ?_)
    refine WO.cons (OX.load rfl rfl rfl (by first | (refine .l ?_; (repeat first | exact .head _ | apply List.Mem.tail); done) | (refine .m ?_; (repeat first | exact .head _ | apply List.Mem.tail); done) | assumption) rfl ?_)
    refine WO.cons (OX.len rfl rfl rfl rfl ?_)
    refine WO.cons (OX.eq rfl rfl rfl rfl ?_)
    refine WO.cons (OX.pickF rfl rfl rfl rfl ?_)
    refine WO.nil ?_
    refine KQ.seq ?_
    first | refine WS.condD rfl (fun h16 => ?_) (fun h16 => ?_) | refine WS.condN rfl (fun h16 => ?_) (fun h16 => ?_) | refine WS.cond rfl (fun h16 => ?_) (fun h16 => ?_)
    ·
      refine WS.seq ?_
      refine WS.region EOk ?_
      refine WO.cons (OX.assign rfl rfl rfl ?_)
      refine WO.nil ?_
      refine KQ.seq ?_
      refine WS.ret ?_
      refine KQ.seq_ret ?_
      refine KQ.done ?_
      refine FQ.ret (.cons (.tmp rfl) (.nil)) ?_
      refine ⟨0, dealt, stir, rfl, rfl, by omega, by omega, ⟨hd1, hd2, hd3, hd4⟩, by omega⟩
    ·
      simp at h16
theorem draw_some {M : CL} {cb : Nat} {cards : List Int} {own : Bool} {cp : Option Nat} (hcm : (cb, .cells (cards.map uv) own) ∈ M) (hcr : ∀ c ∈ cards, 0 ≤ c ∧ c < 256) {d : Nat} {dealt stir n : Int} (hd : DeckOk dealt stir) (hb : dealt ≤ 1000000000) : FN P 12 [.ptr (some ⟨d, 0⟩), iv n] [(d, deck (.slice (some ⟨cb, 0⟩) cards.length 1 cp) dealt stir)] M (fun v L' => ∃ r dealt' stir', v = iv r ∧ L' = [(d, deck (.slice (some ⟨cb, 0⟩) cards.length 1 cp) dealt' stir')] ∧ 0 ≤ r ∧ (r < n ∨ r = 0) ∧ DeckOk dealt' stir' ∧ dealt' ≤ dealt + 1) := by
  obtain ⟨hd1, hd2, hd3, hd4⟩ := hd
  have hkn : ∀ L, Kn cb (.cells (cards.map uv) own) L M := fun L => .inr hcm
  refine FN.intro EOk ENt rfl rfl rfl ?_
  refine WS.seq ?_
  refine WS.region EOk ?_
  refine WO.cons (OX.assign rfl rfl rfl ?_)
  refine WO.nil ?_
  refine KQ.seq ?_
  refine WS.seq ?_
  refine WS.seq ?_
  refine WS.region EOk ?_
  refine WO.cons (OX.move rfl rfl rfl ?_)
  refine WO.cons (OX.le rfl rfl rfl rfl ?_)
  refine WO.cons (OX.move rfl rfl rfl ?_)
  first | refine WO.askD (t := 9) rfl (fun h9 => ?_) (fun h9 => ?_) | refine WO.askN (t := 9) rfl (fun h9 => ?_) (fun h9 => ?_) | refine WO.ask (t := 9) rfl (fun h9 => ?_) (fun h9 => ?_)
  ·
    refine WO.cons (OX.pass rfl rfl ?_)
    refine WO.cons (OX.pass rfl rfl ?_)
    refine WO.cons (OX.pass rfl rfl ?_)
    refine WO.cons (OX.pass rfl rfl ?_)
    refine WO.cons (OX.pass rfl rfl ?_)
    refine WO.cons (OX.pass rfl rfl ?_)
    refine WO.cons (OX.pickT rfl rfl rfl rfl ?_)
    refine WO.nil ?_
    refine KQ.seq ?_
    refine WS.condT rfl ?_
    refine WS.seq ?_
    refine WS.region EOk ?_
    refine WO.cons (OX.assign rfl rfl rfl ?_)
    refine WO.nil ?_
    refine KQ.seq ?_
    refine WS.ret ?_
    refine KQ.seq_ret ?_
    refine KQ.done ?_
    refine FQ.ret (.cons (.tmp rfl) (.nil)) ?_
    refine ⟨0, dealt, stir, rfl, rfl, by omega, by omega, ⟨hd1, hd2, hd3, hd4⟩, by omega⟩
  ·
    refine WO.cons (OX.move rfl rfl rfl ?_)
    refine WO.cons (OX.nilCheck rfl rfl rfl ?_)
    refine WO.cons (OX.fieldAddr (r := 0) rfl rfl rfl rfl ?_)
    refine WO.cons (OX.load rfl rfl rfl (by first | (refine .l ?_; (repeat first | exact .head _ | apply List.Mem.tail); done) | (refine .m ?_; (repeat first | exact .head _ | apply List.Mem.tail); done) | assumption) rfl ?_)
    refine WO.cons (OX.len rfl rfl rfl rfl ?_)
    refine WO.cons (OX.eq rfl rfl rfl rfl ?_)
    refine WO.cons (OX.pickF rfl rfl rfl rfl ?_)
    refine WO.nil ?_
    refine KQ.seq ?_
    first | refine WS.condD rfl (fun h16 => ?_) (fun h16 => ?_) | refine WS.condN rfl (fun h16 => ?_) (fun h16 => ?_) | refine WS.cond rfl (fun h16 => ?_) (fun h16 => ?_)
    ·
      refine WS.seq ?_
      refine WS.region EOk ?_
      refine WO.cons (OX.assign rfl rfl rfl ?_)
      refine WO.nil ?_
      refine KQ.seq ?_
      refine WS.ret ?_
      refine KQ.seq_ret ?_
      refine KQ.done ?_
      refine FQ.ret (.cons (.tmp rfl) (.nil)) ?_
      refine ⟨0, dealt, stir, rfl, rfl, by omega, by omega, ⟨hd1, hd2, hd3, hd4⟩, by omega⟩
    ·
      refine WS.skip ?_
      refine KQ.seq ?_
      refine WS.seq ?_
      have hlen : (0 : Int) < cards.length := by omega
      have hm1 := Int.emod_nonneg dealt (b := (cards.length : Int)) (by omega)
      have hm2 := Int.emod_lt_of_pos dealt hlen
      obtain ⟨c, hc1, hc2, hc3⟩ := card_at hcr ⟨hm1, hm2⟩
      refine WS.draw EOk (ancs := [0, 1, 3, 7, 0, 16, 48, 112, 0, 256, 768, 1792, 3840, 8176, 16383, 32767, 65535, 131071]) (ord := [0, 1, 2, 3, 4, 5, 6, 7, 8, 9, 10, 11, 12, 13, 14, 15, 16, 17]) (by kernel_rfl) ?_
      refine WD.cons rfl (OX.move rfl rfl rfl ⟨trivial, ?_⟩)
      refine WD.cons rfl (OX.nilCheck rfl rfl rfl ⟨⟨.inr trivial, trivial⟩, ?_⟩)
      refine WD.cons rfl (OX.fieldAddr (r := 0) rfl rfl rfl rfl ⟨⟨.inr trivial, ⟨.inr trivial, trivial⟩⟩, ?_⟩)
      refine WD.cons rfl (OX.load rfl rfl rfl (by first | (refine .l ?_; (repeat first | exact .head _ | apply List.Mem.tail); done) | (refine .m ?_; (repeat first | exact .head _ | apply List.Mem.tail); done) | assumption) rfl ⟨⟨.inr trivial, ⟨.inr trivial, ⟨.inr trivial, trivial⟩⟩⟩, ?_⟩)
      refine WD.cons rfl (OX.move rfl rfl rfl ⟨⟨.inr trivial, ⟨.inr trivial, ⟨.inr trivial, ⟨.inr trivial, trivial⟩⟩⟩⟩, ?_⟩)
      refine WD.cons rfl (OX.nilCheck rfl rfl rfl ⟨⟨.inr trivial, ⟨.inr trivial, ⟨.inr trivial, ⟨.inr trivial, ⟨.inr trivial, trivial⟩⟩⟩⟩⟩, ?_⟩)
      refine WD.cons rfl (OX.fieldAddr (r := 1) rfl rfl rfl rfl ⟨⟨.inr trivial, ⟨.inr trivial, ⟨.inr trivial, ⟨.inr trivial, ⟨.inr trivial, ⟨.inr trivial, trivial⟩⟩⟩⟩⟩⟩, ?_⟩)
      refine WD.cons rfl (OX.load rfl rfl rfl (by first | (refine .l ?_; (repeat first | exact .head _ | apply List.Mem.tail); done) | (refine .m ?_; (repeat first | exact .head _ | apply List.Mem.tail); done) | assumption) rfl ⟨⟨.inr trivial, ⟨.inr trivial, ⟨.inr trivial, ⟨.inr trivial, ⟨.inr trivial, ⟨.inr trivial, ⟨.inr trivial, trivial⟩⟩⟩⟩⟩⟩⟩, ?_⟩)
      refine WD.cons rfl (OX.move rfl rfl rfl ⟨⟨.inr trivial, ⟨.inr trivial, ⟨.inr trivial, ⟨.inr trivial, ⟨.inr trivial, ⟨.inr trivial, ⟨.inr trivial, ⟨.inr trivial, trivial⟩⟩⟩⟩⟩⟩⟩⟩, ?_⟩)
      refine WD.cons rfl (OX.nilCheck rfl rfl rfl ⟨⟨.inr trivial, ⟨.inr trivial, ⟨.inr trivial, ⟨.inr trivial, ⟨.inr trivial, ⟨.inr trivial, ⟨.inr trivial, ⟨.inr trivial, ⟨.inr trivial, trivial⟩⟩⟩⟩⟩⟩⟩⟩⟩, ?_⟩)
      refine WD.cons rfl (OX.fieldAddr (r := 0) rfl rfl rfl rfl ⟨⟨.inr trivial, ⟨.inr trivial, ⟨.inr trivial, ⟨.inr trivial, ⟨.inr trivial, ⟨.inr trivial, ⟨.inr trivial, ⟨.inr trivial, ⟨.inr trivial, ⟨.inr trivial, trivial⟩⟩⟩⟩⟩⟩⟩⟩⟩⟩, ?_⟩)
      refine WD.cons rfl (OX.load rfl rfl rfl (by first | (refine .l ?_; (repeat first | exact .head _ | apply List.Mem.tail); done) | (refine .m ?_; (repeat first | exact .head _ | apply List.Mem.tail); done) | assumption) rfl ⟨⟨.inr trivial, ⟨.inr trivial, ⟨.inr trivial, ⟨.inr trivial, ⟨.inr trivial, ⟨.inr trivial, ⟨.inr trivial, ⟨.inr trivial, ⟨.inr trivial, ⟨.inr trivial, ⟨.inr trivial, trivial⟩⟩⟩⟩⟩⟩⟩⟩⟩⟩⟩, ?_⟩)
      refine WD.cons rfl (OX.len rfl rfl rfl rfl ⟨⟨.inr trivial, ⟨.inr trivial, ⟨.inr trivial, ⟨.inr trivial, ⟨.inr trivial, ⟨.inr trivial, ⟨.inr trivial, ⟨.inr trivial, ⟨.inr trivial, ⟨.inr trivial, ⟨.inr trivial, ⟨.inr trivial, trivial⟩⟩⟩⟩⟩⟩⟩⟩⟩⟩⟩⟩, ?_⟩)
      refine WD.cons rfl (OX.rem rfl rfl rfl rfl (by omega) ⟨⟨.inr trivial, ⟨.inr trivial, ⟨.inr trivial, ⟨.inr trivial, ⟨.inr trivial, ⟨.inr trivial, ⟨.inr trivial, ⟨.inr trivial, ⟨.inr trivial, ⟨.inr trivial, ⟨.inr trivial, ⟨.inr trivial, ⟨.inr trivial, trivial⟩⟩⟩⟩⟩⟩⟩⟩⟩⟩⟩⟩⟩, ?_⟩)
      refine WD.cons rfl (OX.indexAddr (z := 1) rfl rfl rfl rfl rfl (by omega) ⟨⟨.inr trivial, ⟨.inr trivial, ⟨.inr trivial, ⟨.inr trivial, ⟨.inr trivial, ⟨.inr trivial, ⟨.inr trivial, ⟨.inr trivial, ⟨.inr trivial, ⟨.inr trivial, ⟨.inr trivial, ⟨.inr trivial, ⟨.inr trivial, ⟨.inr trivial, trivial⟩⟩⟩⟩⟩⟩⟩⟩⟩⟩⟩⟩⟩⟩, ?_⟩)
      refine WD.cons rfl (OX.load rfl rfl rfl (hkn _) hc1 ⟨⟨.inr trivial, ⟨.inr trivial, ⟨.inr trivial, ⟨.inr trivial, ⟨.inr trivial, ⟨.inr trivial, ⟨.inr trivial, ⟨.inr trivial, ⟨.inr trivial, ⟨.inr trivial, ⟨.inr trivial, ⟨.inr trivial, ⟨.inr trivial, ⟨.inr trivial, ⟨.inr trivial, trivial⟩⟩⟩⟩⟩⟩⟩⟩⟩⟩⟩⟩⟩⟩⟩, ?_⟩)
      refine WD.cons rfl (OX.conv rfl rfl rfl rfl ⟨⟨.inr trivial, ⟨.inr trivial, ⟨.inr trivial, ⟨.inr trivial, ⟨.inr trivial, ⟨.inr trivial, ⟨.inr trivial, ⟨.inr trivial, ⟨.inr trivial, ⟨.inr trivial, ⟨.inr trivial, ⟨.inr trivial, ⟨.inr trivial, ⟨.inr trivial, ⟨.inr trivial, ⟨.inr trivial, trivial⟩⟩⟩⟩⟩⟩⟩⟩⟩⟩⟩⟩⟩⟩⟩⟩, ?_⟩)
      refine WD.cons rfl (OX.assign rfl rfl rfl ⟨⟨.inr trivial, ⟨.inr trivial, ⟨.inr trivial, ⟨.inr trivial, ⟨.inr trivial, ⟨.inr trivial, ⟨.inr trivial, ⟨.inr trivial, ⟨.inr trivial, ⟨.inr trivial, ⟨.inr trivial, ⟨.inr trivial, ⟨.inr trivial, ⟨.inr trivial, ⟨.inr trivial, ⟨.inr trivial, ⟨.inr trivial, trivial⟩⟩⟩⟩⟩⟩⟩⟩⟩⟩⟩⟩⟩⟩⟩⟩⟩, ?_⟩)
      refine WD.nil ?_
      refine KQ.seq ?_
      refine WS.seq ?_
      refine WS.draw EOk (ancs := [0, 1, 3, 7, 0, 16, 48, 112, 240, 511, 1023, 2047]) (ord := [0, 1, 2, 3, 4, 5, 6, 7, 8, 9, 10, 11]) (by kernel_rfl) ?_
      refine WD.cons rfl (OX.move rfl rfl rfl ⟨trivial, ?_⟩)
      refine WD.cons rfl (OX.nilCheck rfl rfl rfl ⟨⟨.inr trivial, trivial⟩, ?_⟩)
      refine WD.cons rfl (OX.fieldAddr (r := 1) rfl rfl rfl rfl ⟨⟨.inr trivial, ⟨.inr trivial, trivial⟩⟩, ?_⟩)
      refine WD.cons rfl (OX.load rfl rfl rfl (by first | (refine .l ?_; (repeat first | exact .head _ | apply List.Mem.tail); done) | (refine .m ?_; (repeat first | exact .head _ | apply List.Mem.tail); done) | assumption) rfl ⟨⟨.inr trivial, ⟨.inr trivial, ⟨.inr trivial, trivial⟩⟩⟩, ?_⟩)
      refine WD.cons rfl (OX.move rfl rfl rfl ⟨⟨.inr trivial, ⟨.inr trivial, ⟨.inr trivial, ⟨.inr trivial, trivial⟩⟩⟩⟩, ?_⟩)
      refine WD.cons rfl (OX.nilCheck rfl rfl rfl ⟨⟨.inr trivial, ⟨.inr trivial, ⟨.inr trivial, ⟨.inr trivial, ⟨.inr trivial, trivial⟩⟩⟩⟩⟩, ?_⟩)
      refine WD.cons rfl (OX.fieldAddr (r := 0) rfl rfl rfl rfl ⟨⟨.inr trivial, ⟨.inr trivial, ⟨.inr trivial, ⟨.inr trivial, ⟨.inr trivial, ⟨.inr trivial, trivial⟩⟩⟩⟩⟩⟩, ?_⟩)
      refine WD.cons rfl (OX.load rfl rfl rfl (by first | (refine .l ?_; (repeat first | exact .head _ | apply List.Mem.tail); done) | (refine .m ?_; (repeat first | exact .head _ | apply List.Mem.tail); done) | assumption) rfl ⟨⟨.inr trivial, ⟨.inr trivial, ⟨.inr trivial, ⟨.inr trivial, ⟨.inr trivial, ⟨.inr trivial, ⟨.inr trivial, trivial⟩⟩⟩⟩⟩⟩⟩, ?_⟩)
      refine WD.cons rfl (OX.len rfl rfl rfl rfl ⟨⟨.inr trivial, ⟨.inr trivial, ⟨.inr trivial, ⟨.inr trivial, ⟨.inr trivial, ⟨.inr trivial, ⟨.inr trivial, ⟨.inr trivial, trivial⟩⟩⟩⟩⟩⟩⟩⟩, ?_⟩)
      refine WD.cons rfl (OX.quo rfl rfl rfl rfl (by omega) ⟨⟨.inr trivial, ⟨.inr trivial, ⟨.inr trivial, ⟨.inr trivial, ⟨.inr trivial, ⟨.inr trivial, ⟨.inr trivial, ⟨.inr trivial, ⟨.inr trivial, trivial⟩⟩⟩⟩⟩⟩⟩⟩⟩, ?_⟩)
      refine WD.cons rfl (OX.conv rfl rfl rfl rfl ⟨⟨.inr trivial, ⟨.inr trivial, ⟨.inr trivial, ⟨.inr trivial, ⟨.inr trivial, ⟨.inr trivial, ⟨.inr trivial, ⟨.inr trivial, ⟨.inr trivial, ⟨.inr trivial, trivial⟩⟩⟩⟩⟩⟩⟩⟩⟩⟩, ?_⟩)
      refine WD.cons rfl (OX.assign rfl rfl rfl ⟨⟨.inr trivial, ⟨.inr trivial, ⟨.inr trivial, ⟨.inr trivial, ⟨.inr trivial, ⟨.inr trivial, ⟨.inr trivial, ⟨.inr trivial, ⟨.inr trivial, ⟨.inr trivial, ⟨.inr trivial, trivial⟩⟩⟩⟩⟩⟩⟩⟩⟩⟩⟩, ?_⟩)
      refine WD.nil ?_
      refine KQ.seq ?_
      refine WS.seq ?_
      refine WS.region EOk ?_
      refine WO.cons (OX.move rfl rfl rfl ?_)
      refine WO.cons (OX.nilCheck rfl rfl rfl ?_)
      refine WO.cons (OX.fieldAddr (r := 1) rfl rfl rfl rfl ?_)
      refine WO.cons (OX.load rfl rfl rfl (by first | (refine .l ?_; (repeat first | exact .head _ | apply List.Mem.tail); done) | (refine .m ?_; (repeat first | exact .head _ | apply List.Mem.tail); done) | assumption) rfl ?_)
      refine WO.cons (OX.add rfl rfl rfl rfl (by omega) ?_)
      refine WO.cons (OX.nilCheck rfl rfl rfl ?_)
      refine WO.cons (OX.fieldAddr (r := 1) rfl rfl rfl rfl ?_)
      refine WO.cons (OX.storeL rfl rfl rfl rfl rfl rfl (by (repeat (first | exact .here | apply Take.there))) rfl (by first | exact (.cons .nil) | exact (.cons (.cons .nil)) | exact (.cons (.cons (.cons .nil))) | exact (.cons (.cons (.cons (.cons .nil)))) | exact (.cons (.cons (.cons (.cons (.cons .nil))))) | exact (.cons (.cons (.cons (.cons (.cons (.cons .nil)))))) | exact (.cons (.cons (.cons (.cons (.cons (.cons (.cons .nil))))))) | exact (.cons (.cons (.cons (.cons (.cons (.cons (.cons (.cons .nil)))))))) | exact (.cons (.cons (.cons (.cons (.cons (.cons (.cons (.cons (.cons .nil))))))))) | exact (.cons (.cons (.cons (.cons (.cons (.cons (.cons (.cons (.cons (.cons .nil)))))))))) | exact (.cons (.cons (.cons (.cons (.cons (.cons (.cons (.cons (.cons (.cons (.cons .nil))))))))))) | exact (.cons (.cons (.cons (.cons (.cons (.cons (.cons (.cons (.cons (.cons (.cons (.cons .nil))))))))))))) ?_)
      refine WO.nil ?_
      refine KQ.seq ?_
      refine WS.seq ?_
      refine WS.region EOk ?_
      refine WO.cons (OX.move rfl rfl rfl ?_)
      refine WO.cons (OX.move rfl rfl rfl ?_)
      refine WO.cons (OX.nilCheck rfl rfl rfl ?_)
      refine WO.cons (OX.fieldAddr (r := 2) rfl rfl rfl rfl ?_)
      refine WO.cons (OX.load rfl rfl rfl (by first | (refine .l ?_; (repeat first | exact .head _ | apply List.Mem.tail); done) | (refine .m ?_; (repeat first | exact .head _ | apply List.Mem.tail); done) | assumption) rfl ?_)
      refine WO.cons (OX.mulW rfl rfl rfl rfl ?_)
      refine WO.cons (OX.move rfl rfl rfl ?_)
      refine WO.cons (OX.addW rfl rfl rfl rfl ?_)
      refine WO.cons (OX.move rfl rfl rfl ?_)
      refine WO.cons (OX.mulW rfl rfl rfl rfl ?_)
      refine WO.cons (OX.addW rfl rfl rfl rfl ?_)
      refine WO.cons (OX.remT rfl rfl rfl rfl (by omega) ?_)
      refine WO.cons (OX.nilCheck rfl rfl rfl ?_)
      refine WO.cons (OX.fieldAddr (r := 2) rfl rfl rfl rfl ?_)
      refine WO.cons (OX.storeL rfl rfl rfl rfl rfl rfl (by (repeat (first | exact .here | apply Take.there))) rfl (by first | exact (.cons .nil) | exact (.cons (.cons .nil)) | exact (.cons (.cons (.cons .nil))) | exact (.cons (.cons (.cons (.cons .nil)))) | exact (.cons (.cons (.cons (.cons (.cons .nil))))) | exact (.cons (.cons (.cons (.cons (.cons (.cons .nil)))))) | exact (.cons (.cons (.cons (.cons (.cons (.cons (.cons .nil))))))) | exact (.cons (.cons (.cons (.cons (.cons (.cons (.cons (.cons .nil)))))))) | exact (.cons (.cons (.cons (.cons (.cons (.cons (.cons (.cons (.cons .nil))))))))) | exact (.cons (.cons (.cons (.cons (.cons (.cons (.cons (.cons (.cons (.cons .nil)))))))))) | exact (.cons (.cons (.cons (.cons (.cons (.cons (.cons (.cons (.cons (.cons (.cons .nil))))))))))) | exact (.cons (.cons (.cons (.cons (.cons (.cons (.cons (.cons (.cons (.cons (.cons (.cons .nil))))))))))))) ?_)
      refine WO.nil ?_
      refine KQ.seq ?_
      refine WS.seq ?_
      refine WS.seq ?_
      refine WS.region EOk ?_
      refine WO.cons (OX.move rfl rfl rfl ?_)
      refine WO.cons (OX.le rfl rfl rfl rfl ?_)
      refine WO.cons (OX.move rfl rfl rfl ?_)
      first | refine WO.askD (t := 68) rfl (fun h68 => ?_) (fun h68 => ?_) | refine WO.askN (t := 68) rfl (fun h68 => ?_) (fun h68 => ?_) | refine WO.ask (t := 68) rfl (fun h68 => ?_) (fun h68 => ?_)
      ·
        refine WO.cons (OX.move rfl rfl rfl ?_)
        refine WO.cons (OX.eq rfl rfl rfl rfl ?_)
        refine WO.cons (OX.pickT rfl rfl rfl rfl ?_)
        refine WO.nil ?_
        refine KQ.seq ?_
        first | refine WS.condD rfl (fun h71 => ?_) (fun h71 => ?_) | refine WS.condN rfl (fun h71 => ?_) (fun h71 => ?_) | refine WS.cond rfl (fun h71 => ?_) (fun h71 => ?_)
        ·
          refine WS.seq ?_
          refine WS.region EOk ?_
          refine WO.cons (OX.move rfl rfl rfl ?_)
          refine WO.cons (OX.conv rfl rfl rfl rfl ?_)
          refine WO.cons (OX.move rfl rfl rfl ?_)
          refine WO.cons (OX.remT rfl rfl rfl rfl (by omega) ?_)
          refine WO.cons (OX.assign rfl rfl rfl ?_)
          refine WO.nil ?_
          refine KQ.seq ?_
          refine WS.ret ?_
          refine KQ.seq_ret ?_
          refine KQ.done ?_
          refine FQ.ret (.cons (.tmp rfl) (.nil)) ?_
          refine ⟨_, _, _, rfl, rfl, (tmod_rng (w_nn _) (by omega)).1, .inl (tmod_rng (w_nn _) (by omega)).2, ⟨by omega, by omega, (tmod_rng (u32_rng _).1 (by omega)).1, (tmod_rng (u32_rng _).1 (by omega)).2⟩, by omega⟩
        ·
          refine WS.skip ?_
          refine KQ.seq ?_
          refine WS.seq ?_
          refine WS.region EOk ?_
          refine WO.cons (OX.move rfl rfl rfl ?_)
          refine WO.cons (OX.nilCheck rfl rfl rfl ?_)
          refine WO.cons (OX.fieldAddr (r := 2) rfl rfl rfl rfl ?_)
          refine WO.cons (OX.load rfl rfl rfl (by first | (refine .l ?_; (repeat first | exact .head _ | apply List.Mem.tail); done) | (refine .m ?_; (repeat first | exact .head _ | apply List.Mem.tail); done) | assumption) rfl ?_)
          refine WO.cons (OX.mulW rfl rfl rfl rfl ?_)
          refine WO.cons (OX.move rfl rfl rfl ?_)
          refine WO.cons (OX.addW rfl rfl rfl rfl ?_)
          refine WO.cons (OX.conv rfl rfl rfl rfl ?_)
          refine WO.cons (OX.move rfl rfl rfl ?_)
          refine WO.cons (OX.remT rfl rfl rfl rfl (by omega) ?_)
          refine WO.cons (OX.assign rfl rfl rfl ?_)
          refine WO.nil ?_
          refine KQ.seq ?_
          refine WS.ret ?_
          refine KQ.done ?_
          refine FQ.ret (.cons (.tmp rfl) (.nil)) ?_
          refine ⟨_, _, _, rfl, rfl, (tmod_rng (w_nn _) (by omega)).1, .inl (tmod_rng (w_nn _) (by omega)).2, ⟨by omega, by omega, (tmod_rng (u32_rng _).1 (by omega)).1, (tmod_rng (u32_rng _).1 (by omega)).2⟩, by omega⟩
      ·
        refine WO.cons (OX.pass rfl rfl ?_)
        refine WO.cons (OX.pass rfl rfl ?_)
        refine WO.cons (OX.pickF rfl rfl rfl rfl ?_)
        refine WO.nil ?_
        refine KQ.seq ?_
        refine WS.condF rfl ?_
        refine WS.skip ?_
        refine KQ.seq ?_
        refine WS.seq ?_
        refine WS.region EOk ?_
        refine WO.cons (OX.move rfl rfl rfl ?_)
        refine WO.cons (OX.nilCheck rfl rfl rfl ?_)
        refine WO.cons (OX.fieldAddr (r := 2) rfl rfl rfl rfl ?_)
        refine WO.cons (OX.load rfl rfl rfl (by first | (refine .l ?_; (repeat first | exact .head _ | apply List.Mem.tail); done) | (refine .m ?_; (repeat first | exact .head _ | apply List.Mem.tail); done) | assumption) rfl ?_)
        refine WO.cons (OX.mulW rfl rfl rfl rfl ?_)
        refine WO.cons (OX.move rfl rfl rfl ?_)
        refine WO.cons (OX.addW rfl rfl rfl rfl ?_)
        refine WO.cons (OX.conv rfl rfl rfl rfl ?_)
        refine WO.cons (OX.move rfl rfl rfl ?_)
        refine WO.cons (OX.remT rfl rfl rfl rfl (by omega) ?_)
        refine WO.cons (OX.assign rfl rfl rfl ?_)
        refine WO.nil ?_
        refine KQ.seq ?_
        refine WS.ret ?_
        refine KQ.done ?_
        refine FQ.ret (.cons (.tmp rfl) (.nil)) ?_
        refine ⟨_, _, _, rfl, rfl, (tmod_rng (w_nn _) (by omega)).1, .inl (tmod_rng (w_nn _) (by omega)).2, ⟨by omega, by omega, (tmod_rng (u32_rng _).1 (by omega)).1, (tmod_rng (u32_rng _).1 (by omega)).2⟩, by omega⟩
theorem draw_ok {M : CL} {cv : V} (hc : CardsOk M cv) {d : Nat} {dealt stir n : Int} (hd : DeckOk dealt stir) (hb : dealt ≤ 1000000000) : FN P 12 [.ptr (some ⟨d, 0⟩), iv n] [(d, deck cv dealt stir)] M (fun v L' => ∃ r dealt' stir', v = iv r ∧ L' = [(d, deck cv dealt' stir')] ∧ 0 ≤ r ∧ (r < n ∨ r = 0) ∧ DeckOk dealt' stir' ∧ dealt' ≤ dealt + 1) := by
  cases hc with
  | nil => exact draw_nil hd hb
  | some h hc => exact draw_some h hc hd hb
theorem between_ok {M : CL} {cv : V} (hc : CardsOk M cv) {d : Nat} {dealt stir a b : Int} (hd : DeckOk dealt stir) (hb : dealt ≤ 1000000000) (ha : 0 ≤ a ∧ a ≤ b ∧ b ≤ 1000000) : FN P 11 [.ptr (some ⟨d, 0⟩), iv a, iv b] [(d, deck cv dealt stir)] M (fun v L' => ∃ r dealt' stir', v = iv r ∧ L' = [(d, deck cv dealt' stir')] ∧ a ≤ r ∧ r ≤ b ∧ DeckOk dealt' stir' ∧ dealt' ≤ dealt + 1) := by
  refine FN.intro EOk ENt rfl rfl rfl ?_
  refine WS.seq ?_
  refine WS.region EOk ?_
  refine WO.cons (OX.assign rfl rfl rfl ?_)
  refine WO.nil ?_
  refine KQ.seq ?_
  refine WS.seq ?_
  refine WS.region EOk ?_
  refine WO.cons (OX.move rfl rfl rfl ?_)
  refine WO.cons (OX.move rfl rfl rfl ?_)
  refine WO.cons (OX.move rfl rfl rfl ?_)
  refine WO.cons (OX.move rfl rfl rfl ?_)
  refine WO.cons (OX.sub rfl rfl rfl rfl (by omega) ?_)
  refine WO.cons (OX.add rfl rfl rfl rfl (by omega) ?_)
  refine WO.cons (OX.call rfl rfl rfl (draw_ok hc hd hb) (TakeS.perm (by repeat (first | exact TakeS.nil | (apply TakeS.cons; (repeat (first | exact .here | apply Take.there)))))) (by first | exact SubM.nil | exact SubM.self (fun _ h => h) | (repeat (first | exact SubM.nil | (apply SubM.cons; exact (by first | (refine .l ?_; (repeat first | exact .head _ | apply List.Mem.tail); done) | (refine .m ?_; (repeat first | exact .head _ | apply List.Mem.tail); done) | assumption))))) ?kk)
  case kk =>
    rintro _ _ ⟨r, dealt', stir', rfl, rfl, hr1, hr2, hd', hb'⟩
    refine WO.cons (OX.add rfl rfl rfl rfl (by omega) ?_)
    refine WO.cons (OX.assign rfl rfl rfl ?_)
    refine WO.nil ?_
    refine KQ.seq ?_
    refine WS.ret ?_
    refine KQ.done ?_
    refine FQ.ret (.cons (.tmp rfl) (.nil)) ?_
    exact ⟨_, _, _, rfl, rfl, by omega, by omega, hd', hb'⟩
theorem coin_ok {M : CL} {cv : V} (hc : CardsOk M cv) {d : Nat} {dealt stir n : Int} (hd : DeckOk dealt stir) (hb : dealt ≤ 1000000000) : FN P 19 [.ptr (some ⟨d, 0⟩), iv n] [(d, deck cv dealt stir)] M (fun v L' => ∃ (r : Bool) (dealt' stir' : Int), v = .bool r ∧ L' = [(d, deck cv dealt' stir')] ∧ True ∧ DeckOk dealt' stir' ∧ dealt' ≤ dealt + 1) := by
  refine FN.intro EOk ENt rfl rfl rfl ?_
  refine WS.seq ?_
  refine WS.region EOk ?_
  refine WO.cons (OX.assign rfl rfl rfl ?_)
  refine WO.nil ?_
  refine KQ.seq ?_
  refine WS.seq ?_
  refine WS.region EOk ?_
  refine WO.cons (OX.move rfl rfl rfl ?_)
  refine WO.cons (OX.move rfl rfl rfl ?_)
  refine WO.cons (OX.call rfl rfl rfl (draw_ok hc hd hb) (TakeS.perm (by repeat (first | exact TakeS.nil | (apply TakeS.cons; (repeat (first | exact .here | apply Take.there)))))) (by first | exact SubM.nil | exact SubM.self (fun _ h => h) | (repeat (first | exact SubM.nil | (apply SubM.cons; exact (by first | (refine .l ?_; (repeat first | exact .head _ | apply List.Mem.tail); done) | (refine .m ?_; (repeat first | exact .head _ | apply List.Mem.tail); done) | assumption))))) ?kk)
  case kk =>
    rintro _ _ ⟨r, dealt', stir', rfl, rfl, hr1, hr2, hd', hb'⟩
    refine WO.cons (OX.eq rfl rfl rfl rfl ?_)
    refine WO.cons (OX.assign rfl rfl rfl ?_)
    refine WO.nil ?_
    refine KQ.seq ?_
    refine WS.ret ?_
    refine KQ.done ?_
    refine FQ.ret (.cons (.tmp rfl) (.nil)) ?_
    exact ⟨_, _, _, rfl, rfl, trivial, hd', hb'⟩
theorem led_ok (w : Wy) : FN P 18 w.cells [] [] (fun v L' => v = .agg w.cells ∧ L' = []) := by
  refine FN.forget ?_
  refine FN.intro EOk ENt rfl rfl rfl ?_
  refine WS.seq ?_
  refine WS.region EOk ?_
  refine WO.cons (OX.alloc rfl rfl rfl rfl ((.cons (.cons (.cons (.cons (.cons (.cons (.cons (.cons .nil))))))))) fun b16 => ?_)
  refine WO.nil ?_
  refine KQ.seq ?_
  refine WS.seq ?_
  refine WS.region EOk ?_
  refine WO.cons (OX.move rfl rfl rfl ?_)
  refine WO.cons (OX.move rfl rfl rfl ?_)
  refine WO.cons (OX.move rfl rfl rfl ?_)
  refine WO.cons (OX.move rfl rfl rfl ?_)
  refine WO.cons (OX.move rfl rfl rfl ?_)
  refine WO.cons (OX.move rfl rfl rfl ?_)
  refine WO.cons (OX.move rfl rfl rfl ?_)
  refine WO.cons (OX.move rfl rfl rfl ?_)
  refine WO.cons (OX.build rfl rfl rfl rfl ((.cons (.cons .nil))) ?_)
  refine WO.cons (OX.build rfl rfl rfl rfl ((.cons (.cons (.cons (.cons (.cons (.cons (.cons (.cons .nil))))))))) ?_)
  refine WO.cons (OX.storeL rfl rfl rfl rfl rfl rfl (by (repeat (first | exact .here | apply Take.there))) rfl ((.cons (.cons (.cons (.cons (.cons (.cons (.cons (.cons .nil))))))))) ?_)
  refine WO.nil ?_
  refine KQ.seq ?_
  refine WS.ret ?_
  refine KQ.done ?_
  refine FQ.ret (.cons (.cellG rfl (by first | (refine .l ?_; (repeat first | exact .head _ | apply List.Mem.tail); done) | (refine .m ?_; (repeat first | exact .head _ | apply List.Mem.tail); done) | assumption) rfl ((.cons (.cons (.cons (.cons (.cons (.cons (.cons (.cons .nil)))))))))) (.nil)) ?_
  exact ⟨[], Sub.nil _, rfl, rfl⟩
theorem of_ok {cv : V} {M : CL} (hc : CardsOk M cv) : FN P 5 [cv] [] [] (fun v L' => ∃ d, v = .ptr (some ⟨d, 0⟩) ∧ L' = [(d, deck cv 0 9)]) := by
  rcases hc with _ | ⟨_, _⟩
  all_goals
    refine FN.intro EOk ENt rfl rfl rfl ?_
    refine WS.seq ?_
    refine WS.region EOk ?_
    refine WO.cons (OX.assign rfl rfl rfl ?_)
    refine WO.nil ?_
    refine KQ.seq ?_
    refine WS.seq ?_
    refine WS.region EOk ?_
    refine WO.cons (OX.move rfl rfl rfl ?_)
    refine WO.cons (OX.build rfl rfl rfl rfl ((.cons (.cons (.cons .nil)))) ?_)
    refine WO.cons (OX.box rfl rfl rfl rfl fun b5 => ?_)
    refine WO.cons (OX.assign rfl rfl rfl ?_)
    refine WO.nil ?_
    refine KQ.seq ?_
    refine WS.ret ?_
    refine KQ.done ?_
    refine FQ.ret (.cons (.tmp rfl) (.nil)) ?_
    exact ⟨_, rfl, rfl⟩
theorem posted_ok {wv : V} (hcv : V.cells? wv = some [wv]) {posts p : Int} (hp : 0 ≤ posts ∧ posts ≤ 1000) : FN P 33 [.agg [iv posts, wv], iv p] [] [] (fun v L' => v = .bool (decide (0 ≤ p ∧ p ≤ posts - 1)) ∧ L' = []) := by
  refine FN.forget ?_
  refine FN.intro EOk ENt rfl rfl rfl ?_
  refine WS.seq ?_
  refine WS.region EOk ?_
  refine WO.cons (OX.box rfl rfl rfl rfl fun b2 => ?_)
  refine WO.cons (OX.assign rfl rfl rfl ?_)
  refine WO.nil ?_
  refine KQ.seq ?_
  refine WS.seq ?_
  refine WS.region EOk ?_
  refine WO.cons (OX.move rfl rfl rfl ?_)
  refine WO.cons (OX.fieldAddr (r := 0) rfl rfl rfl rfl ?_)
  refine WO.cons (OX.load rfl rfl rfl (by first | (refine .l ?_; (repeat first | exact .head _ | apply List.Mem.tail); done) | (refine .m ?_; (repeat first | exact .head _ | apply List.Mem.tail); done) | assumption) rfl ?_)
  refine WO.cons (OX.sub rfl rfl rfl rfl (by omega) ?_)
  refine WO.cons (OX.call rfl rfl rfl (from_ok _ _ _) (TakeS.perm (by repeat (first | exact TakeS.nil | (apply TakeS.cons; (repeat (first | exact .here | apply Take.there)))))) (by first | exact SubM.nil | exact SubM.self (fun _ h => h) | (repeat (first | exact SubM.nil | (apply SubM.cons; exact (by first | (refine .l ?_; (repeat first | exact .head _ | apply List.Mem.tail); done) | (refine .m ?_; (repeat first | exact .head _ | apply List.Mem.tail); done) | assumption))))) ?kk)
  case kk =>
    rintro _ _ ⟨rfl, rfl⟩
    refine WO.cons (OX.assign rfl rfl rfl ?_)
    refine WO.nil ?_
    refine KQ.seq ?_
    refine WS.ret ?_
    refine KQ.done ?_
    refine FQ.ret (.cons (.tmp rfl) (.nil)) ?_
    exact ⟨[], Sub.nil _, rfl, rfl⟩
theorem right_ok {posts : Int} {w : Wy} (h : w.Ok posts) : FN P 69 [.agg w.cells] [] [] (fun v L' => v = .bool true ∧ L' = []) := by
  refine FN.forget ?_
  obtain ⟨h1, h2, h3, h4, h5, h6, h7, h8, h9⟩ := h
  refine FN.intro EOk ENt rfl rfl rfl ?_
  refine WS.seq ?_
  refine WS.region EOk ?_
  refine WO.cons (OX.box rfl rfl rfl rfl fun b1 => ?_)
  refine WO.cons (OX.assign rfl rfl rfl ?_)
  refine WO.nil ?_
  refine KQ.seq ?_
  refine WS.seq ?_
  refine WS.region EOk ?_
  refine WO.cons (OX.fieldAddr (r := 2) rfl rfl rfl rfl ?_)
  refine WO.cons (OX.load rfl rfl rfl (by first | (refine .l ?_; (repeat first | exact .head _ | apply List.Mem.tail); done) | (refine .m ?_; (repeat first | exact .head _ | apply List.Mem.tail); done) | assumption) rfl ?_)
  refine WO.cons (OX.call rfl rfl rfl (from_ok _ _ _) (TakeS.perm (by repeat (first | exact TakeS.nil | (apply TakeS.cons; (repeat (first | exact .here | apply Take.there)))))) (by first | exact SubM.nil | exact SubM.self (fun _ h => h) | (repeat (first | exact SubM.nil | (apply SubM.cons; exact (by first | (refine .l ?_; (repeat first | exact .head _ | apply List.Mem.tail); done) | (refine .m ?_; (repeat first | exact .head _ | apply List.Mem.tail); done) | assumption))))) ?kk)
  case kk =>
    rintro _ _ ⟨rfl, rfl⟩
    refine WO.cons (OX.move rfl rfl rfl ?_)
    first | refine WO.askD (t := 6) rfl (fun h6 => ?_) (fun h6 => ?_) | refine WO.askN (t := 6) rfl (fun h6 => ?_) (fun h6 => ?_) | refine WO.ask (t := 6) rfl (fun h6 => ?_) (fun h6 => ?_)
    ·
      refine WO.cons (OX.fieldAddr (r := 3) rfl rfl rfl rfl ?_)
      refine WO.cons (OX.load rfl rfl rfl (by first | (refine .l ?_; (repeat first | exact .head _ | apply List.Mem.tail); done) | (refine .m ?_; (repeat first | exact .head _ | apply List.Mem.tail); done) | assumption) rfl ?_)
      refine WO.cons (OX.call rfl rfl rfl (from_ok _ _ _) (TakeS.perm (by repeat (first | exact TakeS.nil | (apply TakeS.cons; (repeat (first | exact .here | apply Take.there)))))) (by first | exact SubM.nil | exact SubM.self (fun _ h => h) | (repeat (first | exact SubM.nil | (apply SubM.cons; exact (by first | (refine .l ?_; (repeat first | exact .head _ | apply List.Mem.tail); done) | (refine .m ?_; (repeat first | exact .head _ | apply List.Mem.tail); done) | assumption))))) ?kk)
      case kk =>
        rintro _ _ ⟨rfl, rfl⟩
        refine WO.cons (OX.pickT rfl rfl rfl rfl ?_)
        refine WO.cons (OX.move rfl rfl rfl ?_)
        first | refine WO.askD (t := 11) rfl (fun h11 => ?_) (fun h11 => ?_) | refine WO.askN (t := 11) rfl (fun h11 => ?_) (fun h11 => ?_) | refine WO.ask (t := 11) rfl (fun h11 => ?_) (fun h11 => ?_)
        ·
          refine WO.cons (OX.fieldAddr (r := 4) rfl rfl rfl rfl ?_)
          refine WO.cons (OX.load rfl rfl rfl (by first | (refine .l ?_; (repeat first | exact .head _ | apply List.Mem.tail); done) | (refine .m ?_; (repeat first | exact .head _ | apply List.Mem.tail); done) | assumption) rfl ?_)
          refine WO.cons (OX.call rfl rfl rfl (from_ok _ _ _) (TakeS.perm (by repeat (first | exact TakeS.nil | (apply TakeS.cons; (repeat (first | exact .here | apply Take.there)))))) (by first | exact SubM.nil | exact SubM.self (fun _ h => h) | (repeat (first | exact SubM.nil | (apply SubM.cons; exact (by first | (refine .l ?_; (repeat first | exact .head _ | apply List.Mem.tail); done) | (refine .m ?_; (repeat first | exact .head _ | apply List.Mem.tail); done) | assumption))))) ?kk)
          case kk =>
            rintro _ _ ⟨rfl, rfl⟩
            refine WO.cons (OX.pickT rfl rfl rfl rfl ?_)
            refine WO.cons (OX.move rfl rfl rfl ?_)
            first | refine WO.askD (t := 16) rfl (fun h16 => ?_) (fun h16 => ?_) | refine WO.askN (t := 16) rfl (fun h16 => ?_) (fun h16 => ?_) | refine WO.ask (t := 16) rfl (fun h16 => ?_) (fun h16 => ?_)
            ·
              refine WO.cons (OX.fieldAddr (r := 5) rfl rfl rfl rfl ?_)
              refine WO.cons (OX.load rfl rfl rfl (by first | (refine .l ?_; (repeat first | exact .head _ | apply List.Mem.tail); done) | (refine .m ?_; (repeat first | exact .head _ | apply List.Mem.tail); done) | assumption) rfl ?_)
              refine WO.cons (OX.call rfl rfl rfl (from_ok _ _ _) (TakeS.perm (by repeat (first | exact TakeS.nil | (apply TakeS.cons; (repeat (first | exact .here | apply Take.there)))))) (by first | exact SubM.nil | exact SubM.self (fun _ h => h) | (repeat (first | exact SubM.nil | (apply SubM.cons; exact (by first | (refine .l ?_; (repeat first | exact .head _ | apply List.Mem.tail); done) | (refine .m ?_; (repeat first | exact .head _ | apply List.Mem.tail); done) | assumption))))) ?kk)
              case kk =>
                rintro _ _ ⟨rfl, rfl⟩
                refine WO.cons (OX.pickT rfl rfl rfl rfl ?_)
                refine WO.cons (OX.move rfl rfl rfl ?_)
                first | refine WO.askD (t := 21) rfl (fun h21 => ?_) (fun h21 => ?_) | refine WO.askN (t := 21) rfl (fun h21 => ?_) (fun h21 => ?_) | refine WO.ask (t := 21) rfl (fun h21 => ?_) (fun h21 => ?_)
                ·
                  refine WO.cons (OX.fieldAddr (r := 6) rfl rfl rfl rfl ?_)
                  refine WO.cons (OX.fieldAddr (r := 0) rfl rfl rfl rfl ?_)
                  refine WO.cons (OX.load rfl rfl rfl (by first | (refine .l ?_; (repeat first | exact .head _ | apply List.Mem.tail); done) | (refine .m ?_; (repeat first | exact .head _ | apply List.Mem.tail); done) | assumption) rfl ?_)
                  refine WO.cons (OX.fieldAddr (r := 6) rfl rfl rfl rfl ?_)
                  refine WO.cons (OX.fieldAddr (r := 1) rfl rfl rfl rfl ?_)
                  refine WO.cons (OX.load rfl rfl rfl (by first | (refine .l ?_; (repeat first | exact .head _ | apply List.Mem.tail); done) | (refine .m ?_; (repeat first | exact .head _ | apply List.Mem.tail); done) | assumption) rfl ?_)
                  refine WO.cons (OX.call rfl rfl rfl (from_ok _ _ _) (TakeS.perm (by repeat (first | exact TakeS.nil | (apply TakeS.cons; (repeat (first | exact .here | apply Take.there)))))) (by first | exact SubM.nil | exact SubM.self (fun _ h => h) | (repeat (first | exact SubM.nil | (apply SubM.cons; exact (by first | (refine .l ?_; (repeat first | exact .head _ | apply List.Mem.tail); done) | (refine .m ?_; (repeat first | exact .head _ | apply List.Mem.tail); done) | assumption))))) ?kk)
                  case kk =>
                    rintro _ _ ⟨rfl, rfl⟩
                    refine WO.cons (OX.pickT rfl rfl rfl rfl ?_)
                    refine WO.cons (OX.move rfl rfl rfl ?_)
                    first | refine WO.askD (t := 30) rfl (fun h30 => ?_) (fun h30 => ?_) | refine WO.askN (t := 30) rfl (fun h30 => ?_) (fun h30 => ?_) | refine WO.ask (t := 30) rfl (fun h30 => ?_) (fun h30 => ?_)
                    ·
                      refine WO.cons (OX.fieldAddr (r := 6) rfl rfl rfl rfl ?_)
                      refine WO.cons (OX.fieldAddr (r := 1) rfl rfl rfl rfl ?_)
                      refine WO.cons (OX.load rfl rfl rfl (by first | (refine .l ?_; (repeat first | exact .head _ | apply List.Mem.tail); done) | (refine .m ?_; (repeat first | exact .head _ | apply List.Mem.tail); done) | assumption) rfl ?_)
                      refine WO.cons (OX.call rfl rfl rfl (from_ok _ _ _) (TakeS.perm (by repeat (first | exact TakeS.nil | (apply TakeS.cons; (repeat (first | exact .here | apply Take.there)))))) (by first | exact SubM.nil | exact SubM.self (fun _ h => h) | (repeat (first | exact SubM.nil | (apply SubM.cons; exact (by first | (refine .l ?_; (repeat first | exact .head _ | apply List.Mem.tail); done) | (refine .m ?_; (repeat first | exact .head _ | apply List.Mem.tail); done) | assumption))))) ?kk)
                      case kk =>
                        rintro _ _ ⟨rfl, rfl⟩
                        refine WO.cons (OX.pickT rfl rfl rfl rfl ?_)
                        refine WO.cons (OX.assign rfl rfl rfl ?_)
                        refine WO.nil ?_
                        refine KQ.seq ?_
                        refine WS.ret ?_
                        refine KQ.done ?_
                        refine FQ.ret (.cons (.tmp rfl) (.nil)) ?_
                        exact ⟨[], Sub.nil _, by show V.bool _ = _; congr 1; exact decide_eq_true (by omega), rfl⟩
                    ·
                      exfalso; omega
                ·
                  exfalso; omega
            ·
              exfalso; omega
        ·
          exfalso; omega
    ·
      exfalso; omega
theorem gone_ok (w : Wy) {post day papers : Int} (hw : 0 ≤ w.lo ∧ w.lo ≤ 100000 ∧ 0 ≤ w.days ∧ w.days ≤ 100000) (hd : 0 ≤ day ∧ day ≤ 100000) : FN P 32 [.agg w.cells, .agg [iv post, iv day, iv papers]] [] [] (fun v L' => ∃ c : Bool, v = .tup [.agg [iv w.dst, iv (goneDay w day), iv (bor papers w.gives)], .bool c] ∧ (c = true ↔ CanGo w post day papers) ∧ L' = []) := by
  refine FN.forget ?_
  refine FN.intro EOk ENt rfl rfl rfl ?_
  refine WS.seq ?_
  refine WS.region EOk ?_
  refine WO.cons (OX.box rfl rfl rfl rfl fun b2 => ?_)
  refine WO.cons (OX.box rfl rfl rfl rfl fun b3 => ?_)
  refine WO.cons (OX.alloc rfl rfl rfl rfl ((.cons (.cons (.cons .nil)))) fun b4 => ?_)
  refine WO.cons (OX.assign rfl rfl rfl ?_)
  refine WO.nil ?_
  refine KQ.seq ?_
  refine WS.seq ?_
  refine WS.region EOk ?_
  refine WO.cons (OX.fieldAddr (r := 1) rfl rfl rfl rfl ?_)
  refine WO.cons (OX.load rfl rfl rfl (by first | (refine .l ?_; (repeat first | exact .head _ | apply List.Mem.tail); done) | (refine .m ?_; (repeat first | exact .head _ | apply List.Mem.tail); done) | assumption) rfl ?_)
  refine WO.cons (OX.fieldAddr (r := 6) rfl rfl rfl rfl ?_)
  refine WO.cons (OX.fieldAddr (r := 0) rfl rfl rfl rfl ?_)
  refine WO.cons (OX.load rfl rfl rfl (by first | (refine .l ?_; (repeat first | exact .head _ | apply List.Mem.tail); done) | (refine .m ?_; (repeat first | exact .head _ | apply List.Mem.tail); done) | assumption) rfl ?_)
  refine WO.cons (OX.max rfl rfl rfl rfl ?_)
  refine WO.cons (OX.fieldAddr (r := 2) rfl rfl rfl rfl ?_)
  refine WO.cons (OX.load rfl rfl rfl (by first | (refine .l ?_; (repeat first | exact .head _ | apply List.Mem.tail); done) | (refine .m ?_; (repeat first | exact .head _ | apply List.Mem.tail); done) | assumption) rfl ?_)
  refine WO.cons (OX.add rfl rfl rfl rfl (by split <;> omega) ?_)
  refine WO.cons (OX.assign rfl rfl rfl ?_)
  refine WO.nil ?_
  refine KQ.seq ?_
  refine WS.seq ?_
  refine WS.region EOk ?_
  refine WO.cons (OX.fieldAddr (r := 0) rfl rfl rfl rfl ?_)
  refine WO.cons (OX.load rfl rfl rfl (by first | (refine .l ?_; (repeat first | exact .head _ | apply List.Mem.tail); done) | (refine .m ?_; (repeat first | exact .head _ | apply List.Mem.tail); done) | assumption) rfl ?_)
  refine WO.cons (OX.fieldAddr (r := 0) rfl rfl rfl rfl ?_)
  refine WO.cons (OX.load rfl rfl rfl (by first | (refine .l ?_; (repeat first | exact .head _ | apply List.Mem.tail); done) | (refine .m ?_; (repeat first | exact .head _ | apply List.Mem.tail); done) | assumption) rfl ?_)
  refine WO.cons (OX.eq rfl rfl rfl rfl ?_)
  refine WO.cons (OX.move rfl rfl rfl ?_)
  first | refine WO.askD (t := 22) rfl (fun h22 => ?_) (fun h22 => ?_) | refine WO.askN (t := 22) rfl (fun h22 => ?_) (fun h22 => ?_) | refine WO.ask (t := 22) rfl (fun h22 => ?_) (fun h22 => ?_)
  ·
    refine WO.cons (OX.fieldAddr (r := 2) rfl rfl rfl rfl ?_)
    refine WO.cons (OX.load rfl rfl rfl (by first | (refine .l ?_; (repeat first | exact .head _ | apply List.Mem.tail); done) | (refine .m ?_; (repeat first | exact .head _ | apply List.Mem.tail); done) | assumption) rfl ?_)
    refine WO.cons (OX.fieldAddr (r := 4) rfl rfl rfl rfl ?_)
    refine WO.cons (OX.load rfl rfl rfl (by first | (refine .l ?_; (repeat first | exact .head _ | apply List.Mem.tail); done) | (refine .m ?_; (repeat first | exact .head _ | apply List.Mem.tail); done) | assumption) rfl ?_)
    refine WO.cons (OX.band rfl rfl rfl rfl ?_)
    refine WO.cons (OX.fieldAddr (r := 4) rfl rfl rfl rfl ?_)
    refine WO.cons (OX.load rfl rfl rfl (by first | (refine .l ?_; (repeat first | exact .head _ | apply List.Mem.tail); done) | (refine .m ?_; (repeat first | exact .head _ | apply List.Mem.tail); done) | assumption) rfl ?_)
    refine WO.cons (OX.eq rfl rfl rfl rfl ?_)
    refine WO.cons (OX.pickT rfl rfl rfl rfl ?_)
    refine WO.cons (OX.move rfl rfl rfl ?_)
    first | refine WO.askD (t := 32) rfl (fun h32 => ?_) (fun h32 => ?_) | refine WO.askN (t := 32) rfl (fun h32 => ?_) (fun h32 => ?_) | refine WO.ask (t := 32) rfl (fun h32 => ?_) (fun h32 => ?_)
    ·
      refine WO.cons (OX.fieldAddr (r := 1) rfl rfl rfl rfl ?_)
      refine WO.cons (OX.load rfl rfl rfl (by first | (refine .l ?_; (repeat first | exact .head _ | apply List.Mem.tail); done) | (refine .m ?_; (repeat first | exact .head _ | apply List.Mem.tail); done) | assumption) rfl ?_)
      refine WO.cons (OX.fieldAddr (r := 6) rfl rfl rfl rfl ?_)
      refine WO.cons (OX.fieldAddr (r := 1) rfl rfl rfl rfl ?_)
      refine WO.cons (OX.load rfl rfl rfl (by first | (refine .l ?_; (repeat first | exact .head _ | apply List.Mem.tail); done) | (refine .m ?_; (repeat first | exact .head _ | apply List.Mem.tail); done) | assumption) rfl ?_)
      refine WO.cons (OX.le rfl rfl rfl rfl ?_)
      refine WO.cons (OX.pickT rfl rfl rfl rfl ?_)
      refine WO.cons (OX.move rfl rfl rfl ?_)
      first | refine WO.askD (t := 40) rfl (fun h40 => ?_) (fun h40 => ?_) | refine WO.askN (t := 40) rfl (fun h40 => ?_) (fun h40 => ?_) | refine WO.ask (t := 40) rfl (fun h40 => ?_) (fun h40 => ?_)
      ·
        refine WO.cons (OX.move rfl rfl rfl ?_)
        refine WO.cons (OX.le rfl rfl rfl rfl ?_)
        refine WO.cons (OX.pickT rfl rfl rfl rfl ?_)
        refine WO.cons (OX.assign rfl rfl rfl ?_)
        refine WO.nil ?_
        refine KQ.seq ?_
        refine WS.seq ?_
        refine WS.region EOk ?_
        refine WO.cons (OX.fieldAddr (r := 1) rfl rfl rfl rfl ?_)
        refine WO.cons (OX.load rfl rfl rfl (by first | (refine .l ?_; (repeat first | exact .head _ | apply List.Mem.tail); done) | (refine .m ?_; (repeat first | exact .head _ | apply List.Mem.tail); done) | assumption) rfl ?_)
        refine WO.cons (OX.move rfl rfl rfl ?_)
        refine WO.cons (OX.fieldAddr (r := 2) rfl rfl rfl rfl ?_)
        refine WO.cons (OX.load rfl rfl rfl (by first | (refine .l ?_; (repeat first | exact .head _ | apply List.Mem.tail); done) | (refine .m ?_; (repeat first | exact .head _ | apply List.Mem.tail); done) | assumption) rfl ?_)
        refine WO.cons (OX.fieldAddr (r := 5) rfl rfl rfl rfl ?_)
        refine WO.cons (OX.load rfl rfl rfl (by first | (refine .l ?_; (repeat first | exact .head _ | apply List.Mem.tail); done) | (refine .m ?_; (repeat first | exact .head _ | apply List.Mem.tail); done) | assumption) rfl ?_)
        refine WO.cons (OX.bor rfl rfl rfl rfl ?_)
        refine WO.cons (OX.build rfl rfl rfl rfl ((.cons (.cons (.cons .nil)))) ?_)
        refine WO.cons (OX.move rfl rfl rfl ?_)
        refine WO.cons (OX.storeL rfl rfl rfl rfl rfl rfl (by (repeat (first | exact .here | apply Take.there))) rfl ((.cons (.cons (.cons .nil)))) ?_)
        refine WO.cons (OX.assign rfl rfl rfl ?_)
        refine WO.nil ?_
        refine KQ.seq ?_
        refine WS.ret ?_
        refine KQ.done ?_
        refine FQ.ret (.cons (.cellG rfl (by first | (refine .l ?_; (repeat first | exact .head _ | apply List.Mem.tail); done) | (refine .m ?_; (repeat first | exact .head _ | apply List.Mem.tail); done) | assumption) rfl ((.cons (.cons (.cons .nil))))) (.cons (.tmp rfl) (.nil))) ?_
        exact ⟨[], Sub.nil _, _, rfl, by simp only [CanGo, goneDay, decide_eq_true_eq] at *; first | omega | (simp_all <;> intros <;> omega), rfl⟩
      ·
        refine WO.cons (OX.pass rfl rfl ?_)
        refine WO.cons (OX.pass rfl rfl ?_)
        refine WO.cons (OX.pickF rfl rfl rfl rfl ?_)
        refine WO.cons (OX.assign rfl rfl rfl ?_)
        refine WO.nil ?_
        refine KQ.seq ?_
        refine WS.seq ?_
        refine WS.region EOk ?_
        refine WO.cons (OX.fieldAddr (r := 1) rfl rfl rfl rfl ?_)
        refine WO.cons (OX.load rfl rfl rfl (by first | (refine .l ?_; (repeat first | exact .head _ | apply List.Mem.tail); done) | (refine .m ?_; (repeat first | exact .head _ | apply List.Mem.tail); done) | assumption) rfl ?_)
        refine WO.cons (OX.move rfl rfl rfl ?_)
        refine WO.cons (OX.fieldAddr (r := 2) rfl rfl rfl rfl ?_)
        refine WO.cons (OX.load rfl rfl rfl (by first | (refine .l ?_; (repeat first | exact .head _ | apply List.Mem.tail); done) | (refine .m ?_; (repeat first | exact .head _ | apply List.Mem.tail); done) | assumption) rfl ?_)
        refine WO.cons (OX.fieldAddr (r := 5) rfl rfl rfl rfl ?_)
        refine WO.cons (OX.load rfl rfl rfl (by first | (refine .l ?_; (repeat first | exact .head _ | apply List.Mem.tail); done) | (refine .m ?_; (repeat first | exact .head _ | apply List.Mem.tail); done) | assumption) rfl ?_)
        refine WO.cons (OX.bor rfl rfl rfl rfl ?_)
        refine WO.cons (OX.build rfl rfl rfl rfl ((.cons (.cons (.cons .nil)))) ?_)
        refine WO.cons (OX.move rfl rfl rfl ?_)
        refine WO.cons (OX.storeL rfl rfl rfl rfl rfl rfl (by (repeat (first | exact .here | apply Take.there))) rfl ((.cons (.cons (.cons .nil)))) ?_)
        refine WO.cons (OX.assign rfl rfl rfl ?_)
        refine WO.nil ?_
        refine KQ.seq ?_
        refine WS.ret ?_
        refine KQ.done ?_
        refine FQ.ret (.cons (.cellG rfl (by first | (refine .l ?_; (repeat first | exact .head _ | apply List.Mem.tail); done) | (refine .m ?_; (repeat first | exact .head _ | apply List.Mem.tail); done) | assumption) rfl ((.cons (.cons (.cons .nil))))) (.cons (.tmp rfl) (.nil))) ?_
        exact ⟨[], Sub.nil _, _, rfl, by simp only [CanGo, goneDay, decide_eq_true_eq] at *; first | omega | (simp_all <;> intros <;> omega), rfl⟩
    ·
      refine WO.cons (OX.pass rfl rfl ?_)
      refine WO.cons (OX.pass rfl rfl ?_)
      refine WO.cons (OX.pass rfl rfl ?_)
      refine WO.cons (OX.pass rfl rfl ?_)
      refine WO.cons (OX.pass rfl rfl ?_)
      refine WO.cons (OX.pass rfl rfl ?_)
      refine WO.cons (OX.pickF rfl rfl rfl rfl ?_)
      refine WO.cons (OX.move rfl rfl rfl ?_)
      refine WO.cons (OX.pass rfl rfl ?_)
      refine WO.cons (OX.pass rfl rfl ?_)
      refine WO.cons (OX.pickF rfl rfl rfl rfl ?_)
      refine WO.cons (OX.assign rfl rfl rfl ?_)
      refine WO.nil ?_
      refine KQ.seq ?_
      refine WS.seq ?_
      refine WS.region EOk ?_
      refine WO.cons (OX.fieldAddr (r := 1) rfl rfl rfl rfl ?_)
      refine WO.cons (OX.load rfl rfl rfl (by first | (refine .l ?_; (repeat first | exact .head _ | apply List.Mem.tail); done) | (refine .m ?_; (repeat first | exact .head _ | apply List.Mem.tail); done) | assumption) rfl ?_)
      refine WO.cons (OX.move rfl rfl rfl ?_)
      refine WO.cons (OX.fieldAddr (r := 2) rfl rfl rfl rfl ?_)
      refine WO.cons (OX.load rfl rfl rfl (by first | (refine .l ?_; (repeat first | exact .head _ | apply List.Mem.tail); done) | (refine .m ?_; (repeat first | exact .head _ | apply List.Mem.tail); done) | assumption) rfl ?_)
      refine WO.cons (OX.fieldAddr (r := 5) rfl rfl rfl rfl ?_)
      refine WO.cons (OX.load rfl rfl rfl (by first | (refine .l ?_; (repeat first | exact .head _ | apply List.Mem.tail); done) | (refine .m ?_; (repeat first | exact .head _ | apply List.Mem.tail); done) | assumption) rfl ?_)
      refine WO.cons (OX.bor rfl rfl rfl rfl ?_)
      refine WO.cons (OX.build rfl rfl rfl rfl ((.cons (.cons (.cons .nil)))) ?_)
      refine WO.cons (OX.move rfl rfl rfl ?_)
      refine WO.cons (OX.storeL rfl rfl rfl rfl rfl rfl (by (repeat (first | exact .here | apply Take.there))) rfl ((.cons (.cons (.cons .nil)))) ?_)
      refine WO.cons (OX.assign rfl rfl rfl ?_)
      refine WO.nil ?_
      refine KQ.seq ?_
      refine WS.ret ?_
      refine KQ.done ?_
      refine FQ.ret (.cons (.cellG rfl (by first | (refine .l ?_; (repeat first | exact .head _ | apply List.Mem.tail); done) | (refine .m ?_; (repeat first | exact .head _ | apply List.Mem.tail); done) | assumption) rfl ((.cons (.cons (.cons .nil))))) (.cons (.tmp rfl) (.nil))) ?_
      exact ⟨[], Sub.nil _, _, rfl, by simp only [CanGo, goneDay, decide_eq_true_eq] at *; first | omega | (simp_all <;> intros <;> omega), rfl⟩
  ·
    refine WO.cons (OX.pass rfl rfl ?_)
    refine WO.cons (OX.pass rfl rfl ?_)
    refine WO.cons (OX.pass rfl rfl ?_)
    refine WO.cons (OX.pass rfl rfl ?_)
    refine WO.cons (OX.pass rfl rfl ?_)
    refine WO.cons (OX.pass rfl rfl ?_)
    refine WO.cons (OX.pass rfl rfl ?_)
    refine WO.cons (OX.pass rfl rfl ?_)
    refine WO.cons (OX.pickF rfl rfl rfl rfl ?_)
    refine WO.cons (OX.move rfl rfl rfl ?_)
    refine WO.cons (OX.pass rfl rfl ?_)
    refine WO.cons (OX.pass rfl rfl ?_)
    refine WO.cons (OX.pass rfl rfl ?_)
    refine WO.cons (OX.pass rfl rfl ?_)
    refine WO.cons (OX.pass rfl rfl ?_)
    refine WO.cons (OX.pass rfl rfl ?_)
    refine WO.cons (OX.pickF rfl rfl rfl rfl ?_)
    refine WO.cons (OX.move rfl rfl rfl ?_)
    refine WO.cons (OX.pass rfl rfl ?_)
    refine WO.cons (OX.pass rfl rfl ?_)
    refine WO.cons (OX.pickF rfl rfl rfl rfl ?_)
    refine WO.cons (OX.assign rfl rfl rfl ?_)
    refine WO.nil ?_
    refine KQ.seq ?_
    refine WS.seq ?_
    refine WS.region EOk ?_
    refine WO.cons (OX.fieldAddr (r := 1) rfl rfl rfl rfl ?_)
    refine WO.cons (OX.load rfl rfl rfl (by first | (refine .l ?_; (repeat first | exact .head _ | apply List.Mem.tail); done) | (refine .m ?_; (repeat first | exact .head _ | apply List.Mem.tail); done) | assumption) rfl ?_)
    refine WO.cons (OX.move rfl rfl rfl ?_)
    refine WO.cons (OX.fieldAddr (r := 2) rfl rfl rfl rfl ?_)
    refine WO.cons (OX.load rfl rfl rfl (by first | (refine .l ?_; (repeat first | exact .head _ | apply List.Mem.tail); done) | (refine .m ?_; (repeat first | exact .head _ | apply List.Mem.tail); done) | assumption) rfl ?_)
    refine WO.cons (OX.fieldAddr (r := 5) rfl rfl rfl rfl ?_)
    refine WO.cons (OX.load rfl rfl rfl (by first | (refine .l ?_; (repeat first | exact .head _ | apply List.Mem.tail); done) | (refine .m ?_; (repeat first | exact .head _ | apply List.Mem.tail); done) | assumption) rfl ?_)
    refine WO.cons (OX.bor rfl rfl rfl rfl ?_)
    refine WO.cons (OX.build rfl rfl rfl rfl ((.cons (.cons (.cons .nil)))) ?_)
    refine WO.cons (OX.move rfl rfl rfl ?_)
    refine WO.cons (OX.storeL rfl rfl rfl rfl rfl rfl (by (repeat (first | exact .here | apply Take.there))) rfl ((.cons (.cons (.cons .nil)))) ?_)
    refine WO.cons (OX.assign rfl rfl rfl ?_)
    refine WO.nil ?_
    refine KQ.seq ?_
    refine WS.ret ?_
    refine KQ.done ?_
    refine FQ.ret (.cons (.cellG rfl (by first | (refine .l ?_; (repeat first | exact .head _ | apply List.Mem.tail); done) | (refine .m ?_; (repeat first | exact .head _ | apply List.Mem.tail); done) | assumption) rfl ((.cons (.cons (.cons .nil))))) (.cons (.tmp rfl) (.nil))) ?_
    exact ⟨[], Sub.nil _, _, rfl, by simp only [CanGo, goneDay, decide_eq_true_eq] at *; first | omega | (simp_all <;> intros <;> omega), rfl⟩
end Go.Proofs.Ytgkmdkhhaapolaa
