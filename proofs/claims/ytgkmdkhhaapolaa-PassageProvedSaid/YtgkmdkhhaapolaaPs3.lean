/-
  PASSAGE, 3: ways that lead from a post; nets that are checked; nets and herds that are made. Printed by spec2.py.
-/
import Derived.Test.YtgkmdkhhaapolaaPs2
namespace Go.Proofs.Ytgkmdkhhaapolaa
open Go.Am Go.Proofs
set_option maxRecDepth 20000
set_option maxHeartbeats 2000000
set_option linter.unusedVariables false
set_option linter.unusedSimpArgs false
theorem led8_ok (a b c d e f g h : Int) : FN P 18 [iv a, iv b, iv c, iv d, iv e, iv f, iv g, iv h] [] [] (fun v L' => v = .agg [iv a, iv b, iv c, iv d, iv e, iv f, iv g, iv h] ∧ L' = []) := led_ok ⟨a, b, c, d, e, f, g, h⟩
theorem leading_ok {wv : V} (hcv : V.cells? wv = some [wv]) {posts post : Int} : FN P 31 [.agg [iv posts, wv], iv post] [] [] (fun v L' => ∃ b2 b3, v = .func 54 [] [.ptr (some ⟨b2, 0⟩), .ptr (some ⟨b3, 0⟩)] ∧ L' = [(b3, .cells [iv post] true), (b2, .cells [iv posts, wv] true)]) := by
  refine FN.intro EOk ENt rfl rfl rfl ?_
  refine WS.seq ?_
  refine WS.region EOk ?_
  refine WO.cons (OX.box rfl rfl rfl rfl fun b2 => ?_)
  refine WO.cons (OX.box rfl rfl rfl rfl fun b3 => ?_)
  refine WO.cons (OX.assign rfl rfl rfl ?_)
  refine WO.nil ?_
  refine KQ.seq ?_
  refine WS.seq ?_
  refine WS.region EOk ?_
  refine WO.cons (OX.makeFunc rfl rfl rfl rfl (.nil) ((.cons (.cons .nil))) ?_)
  refine WO.cons (OX.assign rfl rfl rfl ?_)
  refine WO.nil ?_
  refine KQ.seq ?_
  refine WS.ret ?_
  refine KQ.done ?_
  refine FQ.ret (.cons (.tmp rfl) (.nil)) ?_
  exact ⟨_, _, rfl, rfl⟩
theorem leads_nil {S : Type} {A : S → CL} {Inv : Nat → S → Prop} {Stop : S → Prop} {M : CL} {y b2 b3 : Nat} {posts post : Int} 
    (h2 : (b2, .cells [iv posts, .slice none 0 0 none] true) ∈ M) (h3 : (b3, .cells [iv post] true) ∈ M)
    (hy : ∀ k s w, Inv k s → ([] : List Wy)[k]? = some w → w.src = post → GN P (.yld y) [iv k, .agg w.cells] (A s) M (fun v L' => ∃ b s', v = .bool b ∧ L' = A s' ∧ (b = true → Inv (k + 1) s') ∧ (b = false → Stop s')))
    (hn : ∀ k s w, Inv k s → ([] : List Wy)[k]? = some w → w.src ≠ post → Inv (k + 1) s) {s0 : S} (h0 : Inv 0 s0)  :
    FN P 54 [.yld y, .ptr (some ⟨b2, 0⟩), .ptr (some ⟨b3, 0⟩)] (A s0) M (fun _ L' => ∃ s', L' = A s' ∧ (Inv 0 s' ∨ Stop s')) := by
  refine FN.forget ?_
  refine FN.intro EOk ENt rfl rfl rfl ?_
  refine WS.seq ?_
  refine WS.region EOk ?_
  refine WO.cons (OX.fieldAddr (r := 1) rfl rfl rfl rfl ?_)
  refine WO.cons (OX.load rfl rfl rfl (.m h2) rfl ?_)
  refine WO.cons (OX.len rfl rfl rfl rfl ?_)
  refine WO.cons (OX.move rfl rfl rfl ?_)
  refine WO.nil ?_
  refine KQ.seq ?_
  refine WS.block ?_
  refine WS.loop (S := Unit) (FF := fun _ => [(0, .yld y), (9, iv 0), (8, iv 0)]) (LL := fun _ => A s0) (I := fun _ => True) (μ := fun _ => 0) (s0 := ()) (trivial) (by exact ⟨rfl, rfl, rfl, trivial⟩) (Sub.refl _) ?_
  intro s _
  refine WS.seq ?_
  refine WS.region EOk ?_
  refine WO.cons (OX.lt rfl rfl rfl rfl ?_)
  refine WO.nil ?_
  refine KQ.seq ?_
  refine WS.seq ?_
  first | refine WS.condD rfl (fun h10 => ?_) (fun h10 => ?_) | refine WS.condN rfl (fun h10 => ?_) (fun h10 => ?_) | refine WS.cond rfl (fun h10 => ?_) (fun h10 => ?_)
  ·
    exact absurd h10 (by simp)
  ·
    refine WS.exit ?_
    refine KQ.seq_exit ?_
    refine KQ.done ?_
    refine LQ.exit ?_
    refine KQ.blk_here ?_
    refine KQ.done ?_
    refine FQ.normal (.nil) ?_
    exact ⟨_, Sub.refl _, _, rfl, .inl h0⟩
theorem leads_row {S : Type} {A : S → CL} {Inv : Nat → S → Prop} {Stop : S → Prop} {M : CL} {y b2 b3 : Nat} {posts post : Int} {ws : List Wy} {wb : Nat} {own : Bool} {wcp : Option Nat} (hw : (wb, .cells (wcells ws) own) ∈ M)
    (h2 : (b2, .cells [iv posts, .slice (some ⟨wb, 0⟩) ws.length 8 wcp] true) ∈ M) (h3 : (b3, .cells [iv post] true) ∈ M)
    (hy : ∀ k s w, Inv k s → ws[k]? = some w → w.src = post → GN P (.yld y) [iv k, .agg w.cells] (A s) M (fun v L' => ∃ b s', v = .bool b ∧ L' = A s' ∧ (b = true → Inv (k + 1) s') ∧ (b = false → Stop s')))
    (hn : ∀ k s w, Inv k s → ws[k]? = some w → w.src ≠ post → Inv (k + 1) s) {s0 : S} (h0 : Inv 0 s0) (hlen : ws.length ≤ 1000) :
    FN P 54 [.yld y, .ptr (some ⟨b2, 0⟩), .ptr (some ⟨b3, 0⟩)] (A s0) M (fun _ L' => ∃ s', L' = A s' ∧ (Inv ws.length s' ∨ Stop s')) := by
  refine FN.forget ?_
  refine FN.intro EOk ENt rfl rfl rfl ?_
  refine WS.seq ?_
  refine WS.region EOk ?_
  refine WO.cons (OX.fieldAddr (r := 1) rfl rfl rfl rfl ?_)
  refine WO.cons (OX.load rfl rfl rfl (.m h2) rfl ?_)
  refine WO.cons (OX.len rfl rfl rfl rfl ?_)
  refine WO.cons (OX.move rfl rfl rfl ?_)
  refine WO.nil ?_
  refine KQ.seq ?_
  refine WS.block ?_
  refine WS.loop (S := Nat × S) (FF := fun s => [(0, .yld y), (1, .ptr (some ⟨b2, 0⟩)), (2, .ptr (some ⟨b3, 0⟩)), (7, .slice (some ⟨wb, 0⟩) ws.length 8 wcp), (8, iv ws.length), (9, iv s.1)]) (LL := fun s => A s.2) (I := fun s => Inv s.1 s.2 ∧ s.1 ≤ ws.length) (μ := fun s => ws.length - s.1) (s0 := (0, s0)) (⟨h0, Nat.zero_le _⟩) (by exact ⟨rfl, rfl, rfl, rfl, rfl, rfl, trivial⟩) (Sub.refl _) ?_
  rintro ⟨k, s⟩ ⟨hI, hk⟩
  dsimp only at hI hk ⊢
  refine WS.seq ?_
  refine WS.region EOk ?_
  refine WO.cons (OX.lt rfl rfl rfl rfl ?_)
  refine WO.nil ?_
  refine KQ.seq ?_
  refine WS.seq ?_
  first | refine WS.condD rfl (fun h10 => ?_) (fun h10 => ?_) | refine WS.condN rfl (fun h10 => ?_) (fun h10 => ?_) | refine WS.cond rfl (fun h10 => ?_) (fun h10 => ?_)
  ·
    have hkl : k < ws.length := by omega
    have hw2 : ws[k]? = some ws[k] := List.getElem?_eq_getElem hkl
    refine WS.skip ?_
    refine KQ.seq ?_
    refine WS.seq ?_
    refine WS.block ?_
    refine WS.seq ?_
    refine WS.region EOk ?_
    refine WO.cons (OX.move rfl rfl rfl ?_)
    refine WO.cons (OX.indexAddrN (z := 8) rfl rfl rfl rfl rfl (by omega) ?_)
    refine WO.cons (OX.load rfl rfl rfl (.m hw) (way_load hkl) ?_)
    refine WO.cons (OX.alloc rfl rfl rfl rfl ((.cons (.cons (.cons (.cons (.cons (.cons (.cons (.cons .nil))))))))) fun b5 => ?_)
    refine WO.cons (OX.assign rfl rfl rfl ?_)
    refine WO.cons (OX.storeL rfl rfl rfl rfl rfl rfl (by (repeat (first | exact .here | apply Take.there))) rfl ((.cons (.cons (.cons (.cons (.cons (.cons (.cons (.cons .nil))))))))) ?_)
    refine WO.nil ?_
    refine KQ.seq ?_
    refine WS.seq ?_
    refine WS.region EOk ?_
    refine WO.cons (OX.fieldAddr (r := 0) rfl rfl rfl rfl ?_)
    refine WO.cons (OX.load rfl rfl rfl (by first | (refine .l ?_; (repeat first | exact .head _ | apply List.Mem.tail); done) | (refine .m ?_; (repeat first | exact .head _ | apply List.Mem.tail); done) | assumption) rfl ?_)
    refine WO.cons (OX.load rfl rfl rfl (.m h3) rfl ?_)
    refine WO.cons (OX.eq rfl rfl rfl rfl ?_)
    refine WO.cons (OX.move rfl rfl rfl ?_)
    first | refine WO.askD (t := 18) rfl (fun h18 => ?_) (fun h18 => ?_) | refine WO.askN (t := 18) rfl (fun h18 => ?_) (fun h18 => ?_) | refine WO.ask (t := 18) rfl (fun h18 => ?_) (fun h18 => ?_)
    ·
      refine WO.cons (OX.move rfl rfl rfl ?_)
      refine WO.cons (OX.move rfl rfl rfl ?_)
      refine WO.cons (OX.loadG rfl rfl rfl (by first | (refine .l ?_; (repeat first | exact .head _ | apply List.Mem.tail); done) | (refine .m ?_; (repeat first | exact .head _ | apply List.Mem.tail); done) | assumption) rfl ((.cons (.cons (.cons (.cons (.cons (.cons (.cons (.cons .nil))))))))) ?_)
      refine WO.cons (OX.callG rfl rfl rfl rfl (hy k s _ hI hw2 h18) (perm_snoc _ _) (by first | exact SubM.nil | exact SubM.self (fun _ h => h) | (repeat (first | exact SubM.nil | (apply SubM.cons; exact (by first | (refine .l ?_; (repeat first | exact .head _ | apply List.Mem.tail); done) | (refine .m ?_; (repeat first | exact .head _ | apply List.Mem.tail); done) | assumption))))) ?kk)
      case kk =>
        rintro _ _ ⟨b, s1, rfl, rfl, hs1, hs2⟩
        refine WO.cons (OX.not rfl rfl rfl ?_)
        refine WO.cons (OX.pickT rfl rfl rfl rfl ?_)
        refine WO.nil ?_
        refine KQ.seq ?_
        first | refine WS.condD rfl (fun h24 => ?_) (fun h24 => ?_) | refine WS.condN rfl (fun h24 => ?_) (fun h24 => ?_) | refine WS.cond rfl (fun h24 => ?_) (fun h24 => ?_)
        ·
          refine WS.ret ?_
          refine KQ.blk_ret ?_
          refine KQ.seq_ret ?_
          refine KQ.done ?_
          refine LQ.ret ?_
          refine KQ.blk_ret ?_
          refine KQ.done ?_
          refine FQ.ret (.nil) ?_
          exact ⟨_, ⟨⟨_, .refl _⟩⟩, s1, rfl, .inr (hs2 (by simpa using h24))⟩
        ·
          refine WS.skip ?_
          refine KQ.blk ?_
          refine KQ.seq ?_
          refine WS.region EOk ?_
          refine WO.cons (OX.add rfl rfl rfl rfl (by omega) ?_)
          refine WO.cons (OX.move rfl rfl rfl ?_)
          refine WO.nil ?_
          refine KQ.done ?_
          first | exact LQ.next (k + 1, s1) (by show ws.length - (k + 1) < ws.length - k; omega) ⟨hs1 (by simpa using h24), by show k + 1 ≤ ws.length; omega⟩ ⟨rfl, rfl, rfl, rfl, rfl, rfl, trivial⟩ ⟨⟨_, .refl _⟩⟩ | exact LQ.next (k + 1, s) (by show ws.length - (k + 1) < ws.length - k; omega) ⟨hn k s _ hI hw2 h18, by show k + 1 ≤ ws.length; omega⟩ ⟨rfl, rfl, rfl, rfl, rfl, rfl, trivial⟩ ⟨⟨[_], perm_snoc _ _⟩⟩
    ·
      refine WO.cons (OX.pass rfl rfl ?_)
      refine WO.cons (OX.pass rfl rfl ?_)
      refine WO.cons (OX.pass rfl rfl ?_)
      refine WO.cons (OX.pass rfl rfl ?_)
      refine WO.cons (OX.pass rfl rfl ?_)
      refine WO.cons (OX.pickF rfl rfl rfl rfl ?_)
      refine WO.nil ?_
      refine KQ.seq ?_
      refine WS.condF rfl ?_
      refine WS.skip ?_
      refine KQ.blk ?_
      refine KQ.seq ?_
      refine WS.region EOk ?_
      refine WO.cons (OX.add rfl rfl rfl rfl (by omega) ?_)
      refine WO.cons (OX.move rfl rfl rfl ?_)
      refine WO.nil ?_
      refine KQ.done ?_
      first | exact LQ.next (k + 1, s1) (by show ws.length - (k + 1) < ws.length - k; omega) ⟨hs1 (by simpa using h24), by show k + 1 ≤ ws.length; omega⟩ ⟨rfl, rfl, rfl, rfl, rfl, rfl, trivial⟩ ⟨⟨_, .refl _⟩⟩ | exact LQ.next (k + 1, s) (by show ws.length - (k + 1) < ws.length - k; omega) ⟨hn k s _ hI hw2 h18, by show k + 1 ≤ ws.length; omega⟩ ⟨rfl, rfl, rfl, rfl, rfl, rfl, trivial⟩ ⟨⟨[_], perm_snoc _ _⟩⟩
  ·
    refine WS.exit ?_
    refine KQ.seq_exit ?_
    refine KQ.done ?_
    refine LQ.exit ?_
    refine KQ.blk_here ?_
    refine KQ.done ?_
    refine FQ.normal (.nil) ?_
    exact ⟨_, Sub.refl _, s, rfl, .inl (by rw [show ws.length = k from by omega]; exact hI)⟩
theorem check_nil {posts : Int} (hp : 1 ≤ posts ∧ posts ≤ 10) : FN P 48 [.agg [iv posts, .slice none 0 0 none]] [] [] (fun v L' => v = err 0 ∧ L' = []) := by
  refine FN.forget ?_
  refine FN.intro EOk ENt rfl rfl rfl ?_
  refine WS.seq ?_
  refine WS.region EOk ?_
  refine WO.cons (OX.box rfl rfl rfl rfl fun b1 => ?_)
  refine WO.cons (OX.assign rfl rfl rfl ?_)
  refine WO.nil ?_
  refine KQ.seq ?_
  refine WS.seq ?_
  refine WS.seq ?_
  refine WS.region EOk ?_
  refine WO.cons (OX.fieldAddr (r := 0) rfl rfl rfl rfl ?_)
  refine WO.cons (OX.load rfl rfl rfl (by first | (refine .l ?_; (repeat first | exact .head _ | apply List.Mem.tail); done) | (refine .m ?_; (repeat first | exact .head _ | apply List.Mem.tail); done) | assumption) rfl ?_)
  refine WO.cons (OX.call rfl rfl rfl (from_ok _ _ _) (TakeS.perm (by repeat (first | exact TakeS.nil | (apply TakeS.cons; (repeat (first | exact .here | apply Take.there)))))) (by first | exact SubM.nil | exact SubM.self (fun _ h => h) | (repeat (first | exact SubM.nil | (apply SubM.cons; exact (by first | (refine .l ?_; (repeat first | exact .head _ | apply List.Mem.tail); done) | (refine .m ?_; (repeat first | exact .head _ | apply List.Mem.tail); done) | assumption))))) ?kk)
  case kk =>
    rintro _ _ ⟨rfl, rfl⟩
    refine WO.cons (OX.not rfl rfl rfl ?_)
    refine WO.cons (OX.move rfl rfl rfl ?_)
    first | refine WO.askD (t := 9) rfl (fun h9 => ?_) (fun h9 => ?_) | refine WO.askN (t := 9) rfl (fun h9 => ?_) (fun h9 => ?_) | refine WO.ask (t := 9) rfl (fun h9 => ?_) (fun h9 => ?_)
    ·
      exfalso; omega
    ·
      refine WO.cons (OX.fieldAddr (r := 1) rfl rfl rfl rfl ?_)
      refine WO.cons (OX.load rfl rfl rfl (by first | (refine .l ?_; (repeat first | exact .head _ | apply List.Mem.tail); done) | (refine .m ?_; (repeat first | exact .head _ | apply List.Mem.tail); done) | assumption) rfl ?_)
      refine WO.cons (OX.len rfl rfl rfl rfl ?_)
      refine WO.cons (OX.gt rfl rfl rfl rfl ?_)
      refine WO.cons (OX.pickF rfl rfl rfl rfl ?_)
      refine WO.nil ?_
      refine KQ.seq ?_
      first | refine WS.condD rfl (fun h14 => ?_) (fun h14 => ?_) | refine WS.condN rfl (fun h14 => ?_) (fun h14 => ?_) | refine WS.cond rfl (fun h14 => ?_) (fun h14 => ?_)
      ·
        exfalso; omega
      ·
        refine WS.skip ?_
        refine KQ.seq ?_
        refine WS.seq ?_
        refine WS.seq ?_
        refine WS.region EOk ?_
        refine WO.cons (OX.fieldAddr (r := 1) rfl rfl rfl rfl ?_)
        refine WO.cons (OX.load rfl rfl rfl (by first | (refine .l ?_; (repeat first | exact .head _ | apply List.Mem.tail); done) | (refine .m ?_; (repeat first | exact .head _ | apply List.Mem.tail); done) | assumption) rfl ?_)
        refine WO.cons (OX.len rfl rfl rfl rfl ?_)
        refine WO.cons (OX.move rfl rfl rfl ?_)
        refine WO.nil ?_
        refine KQ.seq ?_
        refine WS.block ?_
        refine WS.loop (S := Unit) (FF := fun _ => [(18, iv 0), (17, iv 0)]) (LL := fun _ => []) (I := fun _ => True) (μ := fun _ => 0) (s0 := ()) (trivial) (by exact ⟨rfl, rfl, trivial⟩) (Sub.nil _) ?_
        intro s _
        refine WS.seq ?_
        refine WS.region EOk ?_
        refine WO.cons (OX.lt rfl rfl rfl rfl ?_)
        refine WO.nil ?_
        refine KQ.seq ?_
        refine WS.seq ?_
        first | refine WS.condD rfl (fun h19 => ?_) (fun h19 => ?_) | refine WS.condN rfl (fun h19 => ?_) (fun h19 => ?_) | refine WS.cond rfl (fun h19 => ?_) (fun h19 => ?_)
        ·
          exact absurd h19 (by simp)
        ·
          refine WS.exit ?_
          refine KQ.seq_exit ?_
          refine KQ.done ?_
          refine LQ.exit ?_
          refine KQ.blk_here ?_
          refine KQ.seq ?_
          refine WS.seq ?_
          refine WS.region EOk ?_
          refine WO.cons (OX.assign rfl rfl rfl ?_)
          refine WO.nil ?_
          refine KQ.seq ?_
          refine WS.ret ?_
          refine KQ.done ?_
          refine FQ.ret (.cons (.tmp rfl) (.nil)) ?_
          exact ⟨[], Sub.nil _, rfl, rfl⟩
theorem check_row {posts : Int} {ws : List Wy} {wb : Nat} {own : Bool} {wcp : Option Nat} {M : CL} (hw : (wb, .cells (wcells ws) own) ∈ M) (hp : 1 ≤ posts ∧ posts ≤ 10) (hl : ws.length ≤ 24) (hws : ∀ w ∈ ws, w.Ok posts) : FN P 48 [.agg [iv posts, .slice (some ⟨wb, 0⟩) ws.length 8 wcp]] [] M (fun v L' => v = err 0 ∧ L' = []) := by
  refine FN.forget ?_
  refine FN.intro EOk ENt rfl rfl rfl ?_
  refine WS.seq ?_
  refine WS.region EOk ?_
  refine WO.cons (OX.box rfl rfl rfl rfl fun b1 => ?_)
  refine WO.cons (OX.assign rfl rfl rfl ?_)
  refine WO.nil ?_
  refine KQ.seq ?_
  refine WS.seq ?_
  refine WS.seq ?_
  refine WS.region EOk ?_
  refine WO.cons (OX.fieldAddr (r := 0) rfl rfl rfl rfl ?_)
  refine WO.cons (OX.load rfl rfl rfl (by first | (refine .l ?_; (repeat first | exact .head _ | apply List.Mem.tail); done) | (refine .m ?_; (repeat first | exact .head _ | apply List.Mem.tail); done) | assumption) rfl ?_)
  refine WO.cons (OX.call rfl rfl rfl (from_ok _ _ _) (TakeS.perm (by repeat (first | exact TakeS.nil | (apply TakeS.cons; (repeat (first | exact .here | apply Take.there)))))) (by first | exact SubM.nil | exact SubM.self (fun _ h => h) | (repeat (first | exact SubM.nil | (apply SubM.cons; exact (by first | (refine .l ?_; (repeat first | exact .head _ | apply List.Mem.tail); done) | (refine .m ?_; (repeat first | exact .head _ | apply List.Mem.tail); done) | assumption))))) ?kk)
  case kk =>
    rintro _ _ ⟨rfl, rfl⟩
    refine WO.cons (OX.not rfl rfl rfl ?_)
    refine WO.cons (OX.move rfl rfl rfl ?_)
    first | refine WO.askD (t := 9) rfl (fun h9 => ?_) (fun h9 => ?_) | refine WO.askN (t := 9) rfl (fun h9 => ?_) (fun h9 => ?_) | refine WO.ask (t := 9) rfl (fun h9 => ?_) (fun h9 => ?_)
    ·
      exfalso; omega
    ·
      refine WO.cons (OX.fieldAddr (r := 1) rfl rfl rfl rfl ?_)
      refine WO.cons (OX.load rfl rfl rfl (by first | (refine .l ?_; (repeat first | exact .head _ | apply List.Mem.tail); done) | (refine .m ?_; (repeat first | exact .head _ | apply List.Mem.tail); done) | assumption) rfl ?_)
      refine WO.cons (OX.len rfl rfl rfl rfl ?_)
      refine WO.cons (OX.gt rfl rfl rfl rfl ?_)
      refine WO.cons (OX.pickF rfl rfl rfl rfl ?_)
      refine WO.nil ?_
      refine KQ.seq ?_
      first | refine WS.condD rfl (fun h14 => ?_) (fun h14 => ?_) | refine WS.condN rfl (fun h14 => ?_) (fun h14 => ?_) | refine WS.cond rfl (fun h14 => ?_) (fun h14 => ?_)
      ·
        exfalso; omega
      ·
        refine WS.skip ?_
        refine KQ.seq ?_
        refine WS.seq ?_
        refine WS.seq ?_
        refine WS.region EOk ?_
        refine WO.cons (OX.fieldAddr (r := 1) rfl rfl rfl rfl ?_)
        refine WO.cons (OX.load rfl rfl rfl (by first | (refine .l ?_; (repeat first | exact .head _ | apply List.Mem.tail); done) | (refine .m ?_; (repeat first | exact .head _ | apply List.Mem.tail); done) | assumption) rfl ?_)
        refine WO.cons (OX.len rfl rfl rfl rfl ?_)
        refine WO.cons (OX.move rfl rfl rfl ?_)
        refine WO.nil ?_
        refine KQ.seq ?_
        refine WS.block ?_
        refine WS.loop (S := Nat) (FF := fun k => [(1, .ptr (some ⟨b1, 0⟩)), (16, .slice (some ⟨wb, 0⟩) ws.length 8 wcp), (17, iv ws.length), (18, iv k)]) (LL := fun _ => [(b1, .cells [iv posts, .slice (some ⟨wb, 0⟩) ws.length 8 wcp] true)]) (I := fun k => k ≤ ws.length) (μ := fun k => ws.length - k) (s0 := 0) (Nat.zero_le _) (by exact ⟨rfl, rfl, rfl, rfl, trivial⟩) (by repeat (first | exact Sub.nil _ | (apply Sub.cons; (repeat (first | exact .here | apply Take.there))))) ?_
        intro k hk
        refine WS.seq ?_
        refine WS.region EOk ?_
        refine WO.cons (OX.lt rfl rfl rfl rfl ?_)
        refine WO.nil ?_
        refine KQ.seq ?_
        refine WS.seq ?_
        first | refine WS.condD rfl (fun h19 => ?_) (fun h19 => ?_) | refine WS.condN rfl (fun h19 => ?_) (fun h19 => ?_) | refine WS.cond rfl (fun h19 => ?_) (fun h19 => ?_)
        ·
          have hkl : k < ws.length := by omega
          refine WS.skip ?_
          refine KQ.seq ?_
          refine WS.seq ?_
          refine WS.block ?_
          refine WS.seq ?_
          refine WS.region EOk ?_
          refine WO.cons (OX.indexAddrN (z := 8) rfl rfl rfl rfl rfl (by omega) ?_)
          refine WO.cons (OX.load rfl rfl rfl (.m hw) (way_load hkl) ?_)
          refine WO.cons (OX.alloc rfl rfl rfl rfl ((.cons (.cons (.cons (.cons (.cons (.cons (.cons (.cons .nil))))))))) fun b4 => ?_)
          refine WO.cons (OX.storeL rfl rfl rfl rfl rfl rfl (by (repeat (first | exact .here | apply Take.there))) rfl ((.cons (.cons (.cons (.cons (.cons (.cons (.cons (.cons .nil))))))))) ?_)
          refine WO.nil ?_
          refine KQ.seq ?_
          refine WS.block ?_
          refine WS.seq ?_
          refine WS.region EOk ?_
          refine WO.cons (OX.loadG rfl rfl rfl (by first | (refine .l ?_; (repeat first | exact .head _ | apply List.Mem.tail); done) | (refine .m ?_; (repeat first | exact .head _ | apply List.Mem.tail); done) | assumption) rfl ((.cons (.cons .nil))) ?_)
          refine WO.cons (OX.fieldAddr (r := 0) rfl rfl rfl rfl ?_)
          refine WO.cons (OX.load rfl rfl rfl (by first | (refine .l ?_; (repeat first | exact .head _ | apply List.Mem.tail); done) | (refine .m ?_; (repeat first | exact .head _ | apply List.Mem.tail); done) | assumption) rfl ?_)
          refine WO.cons (OX.call rfl rfl rfl (posted_ok rfl (by omega)) (TakeS.perm (by repeat (first | exact TakeS.nil | (apply TakeS.cons; (repeat (first | exact .here | apply Take.there)))))) (by first | exact SubM.nil | exact SubM.self (fun _ h => h) | (repeat (first | exact SubM.nil | (apply SubM.cons; exact (by first | (refine .l ?_; (repeat first | exact .head _ | apply List.Mem.tail); done) | (refine .m ?_; (repeat first | exact .head _ | apply List.Mem.tail); done) | assumption))))) ?kk)
          case kk =>
            rintro _ _ ⟨rfl, rfl⟩
            refine WO.cons (OX.not rfl rfl rfl ?_)
            refine WO.cons (OX.move rfl rfl rfl ?_)
            first | refine WO.askD (t := 28) rfl (fun h28 => ?_) (fun h28 => ?_) | refine WO.askN (t := 28) rfl (fun h28 => ?_) (fun h28 => ?_) | refine WO.ask (t := 28) rfl (fun h28 => ?_) (fun h28 => ?_)
            ·
              exfalso; obtain ⟨hw1, hw2, hw3, _⟩ := hws _ (List.getElem_mem hkl); omega
            ·
              refine WO.cons (OX.loadG rfl rfl rfl (by first | (refine .l ?_; (repeat first | exact .head _ | apply List.Mem.tail); done) | (refine .m ?_; (repeat first | exact .head _ | apply List.Mem.tail); done) | assumption) rfl ((.cons (.cons .nil))) ?_)
              refine WO.cons (OX.fieldAddr (r := 1) rfl rfl rfl rfl ?_)
              refine WO.cons (OX.load rfl rfl rfl (by first | (refine .l ?_; (repeat first | exact .head _ | apply List.Mem.tail); done) | (refine .m ?_; (repeat first | exact .head _ | apply List.Mem.tail); done) | assumption) rfl ?_)
              refine WO.cons (OX.call rfl rfl rfl (posted_ok rfl (by omega)) (TakeS.perm (by repeat (first | exact TakeS.nil | (apply TakeS.cons; (repeat (first | exact .here | apply Take.there)))))) (by first | exact SubM.nil | exact SubM.self (fun _ h => h) | (repeat (first | exact SubM.nil | (apply SubM.cons; exact (by first | (refine .l ?_; (repeat first | exact .head _ | apply List.Mem.tail); done) | (refine .m ?_; (repeat first | exact .head _ | apply List.Mem.tail); done) | assumption))))) ?kk)
              case kk =>
                rintro _ _ ⟨rfl, rfl⟩
                refine WO.cons (OX.not rfl rfl rfl ?_)
                refine WO.cons (OX.pickF rfl rfl rfl rfl ?_)
                refine WO.cons (OX.move rfl rfl rfl ?_)
                first | refine WO.askD (t := 35) rfl (fun h35 => ?_) (fun h35 => ?_) | refine WO.askN (t := 35) rfl (fun h35 => ?_) (fun h35 => ?_) | refine WO.ask (t := 35) rfl (fun h35 => ?_) (fun h35 => ?_)
                ·
                  exfalso; obtain ⟨hw1, hw2, hw3, _⟩ := hws _ (List.getElem_mem hkl); omega
                ·
                  refine WO.cons (OX.fieldAddr (r := 0) rfl rfl rfl rfl ?_)
                  refine WO.cons (OX.load rfl rfl rfl (by first | (refine .l ?_; (repeat first | exact .head _ | apply List.Mem.tail); done) | (refine .m ?_; (repeat first | exact .head _ | apply List.Mem.tail); done) | assumption) rfl ?_)
                  refine WO.cons (OX.fieldAddr (r := 1) rfl rfl rfl rfl ?_)
                  refine WO.cons (OX.load rfl rfl rfl (by first | (refine .l ?_; (repeat first | exact .head _ | apply List.Mem.tail); done) | (refine .m ?_; (repeat first | exact .head _ | apply List.Mem.tail); done) | assumption) rfl ?_)
                  refine WO.cons (OX.eq rfl rfl rfl rfl ?_)
                  refine WO.cons (OX.pickF rfl rfl rfl rfl ?_)
                  refine WO.cons (OX.assign rfl rfl rfl ?_)
                  refine WO.nil ?_
                  refine KQ.seq ?_
                  first | refine WS.condD rfl (fun h22 => ?_) (fun h22 => ?_) | refine WS.condN rfl (fun h22 => ?_) (fun h22 => ?_) | refine WS.cond rfl (fun h22 => ?_) (fun h22 => ?_)
                  ·
                    exfalso; obtain ⟨hw1, hw2, hw3, _⟩ := hws _ (List.getElem_mem hkl); first | omega | exact absurd h22 hw3
                  ·
                    refine WS.seq ?_
                    refine WS.region EOk ?_
                    refine WO.cons (OX.loadG rfl rfl rfl (by first | (refine .l ?_; (repeat first | exact .head _ | apply List.Mem.tail); done) | (refine .m ?_; (repeat first | exact .head _ | apply List.Mem.tail); done) | assumption) rfl ((.cons (.cons (.cons (.cons (.cons (.cons (.cons (.cons .nil))))))))) ?_)
                    refine WO.cons (OX.call rfl rfl rfl (right_ok (hws _ (List.getElem_mem hkl))) (TakeS.perm (by repeat (first | exact TakeS.nil | (apply TakeS.cons; (repeat (first | exact .here | apply Take.there)))))) (by first | exact SubM.nil | exact SubM.self (fun _ h => h) | (repeat (first | exact SubM.nil | (apply SubM.cons; exact (by first | (refine .l ?_; (repeat first | exact .head _ | apply List.Mem.tail); done) | (refine .m ?_; (repeat first | exact .head _ | apply List.Mem.tail); done) | assumption))))) ?kk)
                    case kk =>
                      rintro _ _ ⟨rfl, rfl⟩
                      refine WO.cons (OX.not rfl rfl rfl ?_)
                      refine WO.cons (OX.assign rfl rfl rfl ?_)
                      refine WO.nil ?_
                      refine KQ.seq ?_
                      first | refine WS.condD rfl (fun h42 => ?_) (fun h42 => ?_) | refine WS.condN rfl (fun h42 => ?_) (fun h42 => ?_) | refine WS.cond rfl (fun h42 => ?_) (fun h42 => ?_)
                      ·
                        exact absurd h42 (by simp)
                      ·
                        refine WS.skip ?_
                        refine KQ.blk ?_
                        refine KQ.blk ?_
                        refine KQ.seq ?_
                        refine WS.region EOk ?_
                        refine WO.cons (OX.add rfl rfl rfl rfl (by omega) ?_)
                        refine WO.cons (OX.move rfl rfl rfl ?_)
                        refine WO.nil ?_
                        refine KQ.done ?_
                        exact LQ.next (k + 1) (by omega) (by omega) ⟨rfl, rfl, rfl, rfl, trivial⟩ (by repeat (first | exact Sub.nil _ | (apply Sub.cons; (repeat (first | exact .here | apply Take.there)))))
        ·
          refine WS.exit ?_
          refine KQ.seq_exit ?_
          refine KQ.done ?_
          refine LQ.exit ?_
          refine KQ.blk_here ?_
          refine KQ.seq ?_
          refine WS.seq ?_
          refine WS.region EOk ?_
          refine WO.cons (OX.assign rfl rfl rfl ?_)
          refine WO.nil ?_
          refine KQ.seq ?_
          refine WS.ret ?_
          refine KQ.done ?_
          refine FQ.ret (.cons (.tmp rfl) (.nil)) ?_
          exact ⟨[], Sub.nil _, rfl, rfl⟩
theorem check_ok {posts : Int} {ws : List Wy} {wa : Option Am.Loc} {m wz : Nat} {wcp : Option Nat} {M : CL} (hW : WaysOk M wa m wz wcp ws) (hp : 1 ≤ posts ∧ posts ≤ 10) (hl : ws.length ≤ 24) (hws : ∀ w ∈ ws, w.Ok posts) : FN P 48 [.agg [iv posts, .slice wa m wz wcp]] [] M (fun v L' => v = err 0 ∧ L' = []) := by
  cases hW with
  | nil => exact (check_nil hp).moreM fun _ h => by cases h
  | row h => exact check_row h hp hl hws
theorem leads_ok {S : Type} {A : S → CL} {Inv : Nat → S → Prop} {Stop : S → Prop} {M : CL} {y b2 b3 : Nat} {posts post : Int} {ws : List Wy} {wa : Option Am.Loc} {m wz : Nat} {wcp : Option Nat} (hW : WaysOk M wa m wz wcp ws)
    (h2 : (b2, .cells [iv posts, .slice wa m wz wcp] true) ∈ M) (h3 : (b3, .cells [iv post] true) ∈ M)
    (hy : ∀ k s w, Inv k s → ws[k]? = some w → w.src = post → GN P (.yld y) [iv k, .agg w.cells] (A s) M (fun v L' => ∃ b s', v = .bool b ∧ L' = A s' ∧ (b = true → Inv (k + 1) s') ∧ (b = false → Stop s')))
    (hn : ∀ k s w, Inv k s → ws[k]? = some w → w.src ≠ post → Inv (k + 1) s) {s0 : S} (h0 : Inv 0 s0) (hlen : ws.length ≤ 1000) :
    FN P 54 [.yld y, .ptr (some ⟨b2, 0⟩), .ptr (some ⟨b3, 0⟩)] (A s0) M (fun _ L' => ∃ s', L' = A s' ∧ (Inv ws.length s' ∨ Stop s')) := by
  cases hW with
  | nil => exact (leads_nil h2 h3 (fun k s w hI hk => by simp at hk) (fun k s w hI hk => by simp at hk) h0)
  | row h => exact leads_row h h2 h3 hy hn h0 hlen
theorem herded_ok {posts post day papers : Int} {ws : List Wy} {wa : Option Am.Loc} {m wz : Nat} {wcp : Option Nat} {M : CL} (hW : WaysOk M wa m wz wcp ws) (hp : 1 ≤ posts ∧ posts ≤ 10) (hl : ws.length ≤ 24) (hws : ∀ w ∈ ws, w.Ok posts) (hh : (0 ≤ post ∧ post < posts) ∧ (0 ≤ day ∧ day ≤ 1000) ∧ 0 ≤ papers ∧ papers ≤ 15) : FN P 20 [.agg [iv posts, .slice wa m wz wcp], .agg [iv post, iv day, iv papers]] [] M (fun v L' => v = err 0 ∧ L' = []) := by
  refine FN.forget ?_
  obtain ⟨hh1, hh2, hh3⟩ := hh
  refine FN.intro EOk ENt rfl rfl rfl ?_
  refine WS.seq ?_
  refine WS.region EOk ?_
  refine WO.cons (OX.box rfl rfl rfl rfl fun b2 => ?_)
  refine WO.cons (OX.box rfl rfl rfl rfl fun b3 => ?_)
  refine WO.cons (OX.assign rfl rfl rfl ?_)
  refine WO.nil ?_
  refine KQ.seq ?_
  refine WS.seq ?_
  refine WS.region EOk ?_
  refine WO.cons (OX.loadG rfl rfl rfl (by first | (refine .l ?_; (repeat first | exact .head _ | apply List.Mem.tail); done) | (refine .m ?_; (repeat first | exact .head _ | apply List.Mem.tail); done) | assumption) rfl ((.cons (.cons .nil))) ?_)
  refine WO.cons (OX.call rfl rfl rfl (check_ok hW hp hl hws) (TakeS.perm (by repeat (first | exact TakeS.nil | (apply TakeS.cons; (repeat (first | exact .here | apply Take.there)))))) (by first | exact SubM.nil | exact SubM.self (fun _ h => h) | (repeat (first | exact SubM.nil | (apply SubM.cons; exact (by first | (refine .l ?_; (repeat first | exact .head _ | apply List.Mem.tail); done) | (refine .m ?_; (repeat first | exact .head _ | apply List.Mem.tail); done) | assumption))))) ?kk)
  case kk =>
    rintro _ _ ⟨rfl, rfl⟩
    refine WO.cons (OX.assign rfl rfl rfl ?_)
    refine WO.nil ?_
    refine KQ.seq ?_
    refine WS.seq ?_
    refine WS.block ?_
    refine WS.seq ?_
    refine WS.region EOk ?_
    refine WO.cons (OX.move rfl rfl rfl ?_)
    refine WO.cons (OX.ne rfl rfl rfl rfl ?_)
    refine WO.cons (OX.assign rfl rfl rfl ?_)
    refine WO.nil ?_
    refine KQ.seq ?_
    first | refine WS.condD rfl (fun h8 => ?_) (fun h8 => ?_) | refine WS.condN rfl (fun h8 => ?_) (fun h8 => ?_) | refine WS.cond rfl (fun h8 => ?_) (fun h8 => ?_)
    ·
      exact absurd h8 (by simp)
    ·
      refine WS.seq ?_
      refine WS.region EOk ?_
      refine WO.cons (OX.loadG rfl rfl rfl (by first | (refine .l ?_; (repeat first | exact .head _ | apply List.Mem.tail); done) | (refine .m ?_; (repeat first | exact .head _ | apply List.Mem.tail); done) | assumption) rfl ((.cons (.cons .nil))) ?_)
      refine WO.cons (OX.fieldAddr (r := 0) rfl rfl rfl rfl ?_)
      refine WO.cons (OX.load rfl rfl rfl (by first | (refine .l ?_; (repeat first | exact .head _ | apply List.Mem.tail); done) | (refine .m ?_; (repeat first | exact .head _ | apply List.Mem.tail); done) | assumption) rfl ?_)
      refine WO.cons (OX.call rfl rfl rfl (posted_ok rfl (by omega)) (TakeS.perm (by repeat (first | exact TakeS.nil | (apply TakeS.cons; (repeat (first | exact .here | apply Take.there)))))) (by first | exact SubM.nil | exact SubM.self (fun _ h => h) | (repeat (first | exact SubM.nil | (apply SubM.cons; exact (by first | (refine .l ?_; (repeat first | exact .head _ | apply List.Mem.tail); done) | (refine .m ?_; (repeat first | exact .head _ | apply List.Mem.tail); done) | assumption))))) ?kk)
      case kk =>
        rintro _ _ ⟨rfl, rfl⟩
        refine WO.cons (OX.not rfl rfl rfl ?_)
        refine WO.cons (OX.assign rfl rfl rfl ?_)
        refine WO.nil ?_
        refine KQ.seq ?_
        first | refine WS.condD rfl (fun h12 => ?_) (fun h12 => ?_) | refine WS.condN rfl (fun h12 => ?_) (fun h12 => ?_) | refine WS.cond rfl (fun h12 => ?_) (fun h12 => ?_)
        ·
          exfalso; omega
        ·
          refine WS.seq ?_
          refine WS.region EOk ?_
          refine WO.cons (OX.fieldAddr (r := 1) rfl rfl rfl rfl ?_)
          refine WO.cons (OX.load rfl rfl rfl (by first | (refine .l ?_; (repeat first | exact .head _ | apply List.Mem.tail); done) | (refine .m ?_; (repeat first | exact .head _ | apply List.Mem.tail); done) | assumption) rfl ?_)
          refine WO.cons (OX.call rfl rfl rfl (from_ok _ _ _) (TakeS.perm (by repeat (first | exact TakeS.nil | (apply TakeS.cons; (repeat (first | exact .here | apply Take.there)))))) (by first | exact SubM.nil | exact SubM.self (fun _ h => h) | (repeat (first | exact SubM.nil | (apply SubM.cons; exact (by first | (refine .l ?_; (repeat first | exact .head _ | apply List.Mem.tail); done) | (refine .m ?_; (repeat first | exact .head _ | apply List.Mem.tail); done) | assumption))))) ?kk)
          case kk =>
            rintro _ _ ⟨rfl, rfl⟩
            refine WO.cons (OX.not rfl rfl rfl ?_)
            refine WO.cons (OX.move rfl rfl rfl ?_)
            first | refine WO.askD (t := 23) rfl (fun h23 => ?_) (fun h23 => ?_) | refine WO.askN (t := 23) rfl (fun h23 => ?_) (fun h23 => ?_) | refine WO.ask (t := 23) rfl (fun h23 => ?_) (fun h23 => ?_)
            ·
              exfalso; omega
            ·
              refine WO.cons (OX.fieldAddr (r := 2) rfl rfl rfl rfl ?_)
              refine WO.cons (OX.load rfl rfl rfl (by first | (refine .l ?_; (repeat first | exact .head _ | apply List.Mem.tail); done) | (refine .m ?_; (repeat first | exact .head _ | apply List.Mem.tail); done) | assumption) rfl ?_)
              refine WO.cons (OX.call rfl rfl rfl (from_ok _ _ _) (TakeS.perm (by repeat (first | exact TakeS.nil | (apply TakeS.cons; (repeat (first | exact .here | apply Take.there)))))) (by first | exact SubM.nil | exact SubM.self (fun _ h => h) | (repeat (first | exact SubM.nil | (apply SubM.cons; exact (by first | (refine .l ?_; (repeat first | exact .head _ | apply List.Mem.tail); done) | (refine .m ?_; (repeat first | exact .head _ | apply List.Mem.tail); done) | assumption))))) ?kk)
              case kk =>
                rintro _ _ ⟨rfl, rfl⟩
                refine WO.cons (OX.not rfl rfl rfl ?_)
                refine WO.cons (OX.pickF rfl rfl rfl rfl ?_)
                refine WO.cons (OX.assign rfl rfl rfl ?_)
                refine WO.nil ?_
                refine KQ.seq ?_
                first | refine WS.condD rfl (fun h18 => ?_) (fun h18 => ?_) | refine WS.condN rfl (fun h18 => ?_) (fun h18 => ?_) | refine WS.cond rfl (fun h18 => ?_) (fun h18 => ?_)
                ·
                  exfalso; first | omega | exact absurd h18 (by simp)
                ·
                  refine WS.skip ?_
                  refine KQ.blk ?_
                  refine KQ.seq ?_
                  refine WS.seq ?_
                  refine WS.region EOk ?_
                  refine WO.cons (OX.assign rfl rfl rfl ?_)
                  refine WO.nil ?_
                  refine KQ.seq ?_
                  refine WS.ret ?_
                  refine KQ.done ?_
                  refine FQ.ret (.cons (.tmp rfl) (.nil)) ?_
                  exact ⟨[], Sub.nil _, rfl, rfl⟩
theorem mkherd_ok {M : CL} {cv wv : V} (hc : CardsOk M cv) (hcv : V.cells? wv = some [wv]) {d : Nat} {dealt stir posts : Int} (hd : DeckOk dealt stir) (hb : dealt ≤ 900000000) (hp : 2 ≤ posts ∧ posts ≤ 10) : FN P 7 [.ptr (some ⟨d, 0⟩), .agg [iv posts, wv]] [(d, deck cv dealt stir)] M (fun v L' => ∃ post day papers dealt' stir', v = .agg [iv post, iv day, iv papers] ∧ L' = [(d, deck cv dealt' stir')] ∧ (0 ≤ post ∧ post < posts) ∧ (0 ≤ day ∧ day < 20) ∧ (0 ≤ papers ∧ papers ≤ 15) ∧ DeckOk dealt' stir' ∧ dealt' ≤ dealt + 4) := by
  refine FN.forget ?_
  refine FN.intro EOk ENt rfl rfl rfl ?_
  refine WS.seq ?_
  refine WS.region EOk ?_
  refine WO.cons (OX.box rfl rfl rfl rfl fun b3 => ?_)
  refine WO.cons (OX.alloc rfl rfl rfl rfl ((.cons (.cons (.cons .nil)))) fun b4 => ?_)
  refine WO.nil ?_
  refine KQ.seq ?_
  refine WS.seq ?_
  refine WS.region EOk ?_
  refine WO.cons (OX.move rfl rfl rfl ?_)
  refine WO.cons (OX.fieldAddr (r := 0) rfl rfl rfl rfl ?_)
  refine WO.cons (OX.load rfl rfl rfl (by first | (refine .l ?_; (repeat first | exact .head _ | apply List.Mem.tail); done) | (refine .m ?_; (repeat first | exact .head _ | apply List.Mem.tail); done) | assumption) rfl ?_)
  refine WO.cons (OX.call rfl rfl rfl (draw_ok hc hd (by omega)) (TakeS.perm (by repeat (first | exact TakeS.nil | (apply TakeS.cons; (repeat (first | exact .here | apply Take.there)))))) (by first | exact SubM.nil | exact SubM.self (fun _ h => h) | (repeat (first | exact SubM.nil | (apply SubM.cons; exact (by first | (refine .l ?_; (repeat first | exact .head _ | apply List.Mem.tail); done) | (refine .m ?_; (repeat first | exact .head _ | apply List.Mem.tail); done) | assumption))))) ?kk)
  case kk =>
    rintro _ _ ⟨r8, dl8, st8, rfl, rfl, hr8, hs8, hd8, hb8⟩
    refine WO.cons (OX.move rfl rfl rfl ?_)
    refine WO.cons (OX.call rfl rfl rfl (draw_ok hc hd8 (by omega)) (TakeS.perm (by repeat (first | exact TakeS.nil | (apply TakeS.cons; (repeat (first | exact .here | apply Take.there)))))) (by first | exact SubM.nil | exact SubM.self (fun _ h => h) | (repeat (first | exact SubM.nil | (apply SubM.cons; exact (by first | (refine .l ?_; (repeat first | exact .head _ | apply List.Mem.tail); done) | (refine .m ?_; (repeat first | exact .head _ | apply List.Mem.tail); done) | assumption))))) ?kk)
    case kk =>
      rintro _ _ ⟨r10, dl10, st10, rfl, rfl, hr10, hs10, hd10, hb10⟩
      refine WO.cons (OX.move rfl rfl rfl ?_)
      refine WO.cons (OX.call rfl rfl rfl (draw_ok hc hd10 (by omega)) (TakeS.perm (by repeat (first | exact TakeS.nil | (apply TakeS.cons; (repeat (first | exact .here | apply Take.there)))))) (by first | exact SubM.nil | exact SubM.self (fun _ h => h) | (repeat (first | exact SubM.nil | (apply SubM.cons; exact (by first | (refine .l ?_; (repeat first | exact .head _ | apply List.Mem.tail); done) | (refine .m ?_; (repeat first | exact .head _ | apply List.Mem.tail); done) | assumption))))) ?kk)
      case kk =>
        rintro _ _ ⟨r12, dl12, st12, rfl, rfl, hr12, hs12, hd12, hb12⟩
        refine WO.cons (OX.move rfl rfl rfl ?_)
        refine WO.cons (OX.call rfl rfl rfl (draw_ok hc hd12 (by omega)) (TakeS.perm (by repeat (first | exact TakeS.nil | (apply TakeS.cons; (repeat (first | exact .here | apply Take.there)))))) (by first | exact SubM.nil | exact SubM.self (fun _ h => h) | (repeat (first | exact SubM.nil | (apply SubM.cons; exact (by first | (refine .l ?_; (repeat first | exact .head _ | apply List.Mem.tail); done) | (refine .m ?_; (repeat first | exact .head _ | apply List.Mem.tail); done) | assumption))))) ?kk)
        case kk =>
          rintro _ _ ⟨r14, dl14, st14, rfl, rfl, hr14, hs14, hd14, hb14⟩
          refine WO.cons (OX.band rfl rfl rfl rfl ?_)
          refine WO.cons (OX.build rfl rfl rfl rfl ((.cons (.cons (.cons .nil)))) ?_)
          refine WO.cons (OX.storeL rfl rfl rfl rfl rfl rfl (by (repeat (first | exact .here | apply Take.there))) rfl ((.cons (.cons (.cons .nil)))) ?_)
          refine WO.nil ?_
          refine KQ.seq ?_
          refine WS.ret ?_
          refine KQ.done ?_
          refine FQ.ret (.cons (.cellG rfl (by first | (refine .l ?_; (repeat first | exact .head _ | apply List.Mem.tail); done) | (refine .m ?_; (repeat first | exact .head _ | apply List.Mem.tail); done) | assumption) rfl ((.cons (.cons (.cons .nil))))) (.nil)) ?_
          refine ⟨[(d, deck cv dl14 st14)], ?_, _, _, _, _, _, rfl, rfl, by omega, by omega, ?_, hd14, by omega⟩
          · repeat (first | exact Sub.nil _ | (apply Sub.cons; (repeat (first | exact .here | apply Take.there))))
          · have := band_rng (a := r12) (b := r14) (by omega) (by omega); omega
theorem made_ok {M : CL} {cv : V} (hc : CardsOk M cv) {d : Nat} {dealt stir : Int} (hd : DeckOk dealt stir) (hb : dealt ≤ 1000000) : FN P 6 [.ptr (some ⟨d, 0⟩), iv 8, iv 20] [(d, deck cv dealt stir)] M (fun v L' => ∃ posts ws wa m wz wcp Lw dealt' stir', v = .agg [iv posts, .slice wa m wz wcp] ∧ L' = (d, deck cv dealt' stir') :: Lw ∧ WaysOk Lw wa m wz wcp ws ∧ (2 ≤ posts ∧ posts ≤ 8) ∧ ws.length ≤ 20 ∧ (∀ w ∈ ws, w.Ok posts) ∧ DeckOk dealt' stir' ∧ dealt' ≤ 2000000) := by
  refine FN.forget ?_
  refine FN.intro EOk ENt rfl rfl rfl ?_
  refine WS.seq ?_
  refine WS.region EOk ?_
  refine WO.cons (OX.alloc rfl rfl rfl rfl ((.cons (.cons .nil))) fun b6 => ?_)
  refine WO.nil ?_
  refine KQ.seq ?_
  refine WS.seq ?_
  refine WS.region EOk ?_
  refine WO.cons (OX.move rfl rfl rfl ?_)
  refine WO.cons (OX.move rfl rfl rfl ?_)
  refine WO.cons (OX.call rfl rfl rfl (between_ok hc hd (by omega) (by omega)) (TakeS.perm (by repeat (first | exact TakeS.nil | (apply TakeS.cons; (repeat (first | exact .here | apply Take.there)))))) (by first | exact SubM.nil | exact SubM.self (fun _ h => h) | (repeat (first | exact SubM.nil | (apply SubM.cons; exact (by first | (refine .l ?_; (repeat first | exact .head _ | apply List.Mem.tail); done) | (refine .m ?_; (repeat first | exact .head _ | apply List.Mem.tail); done) | assumption))))) ?kk)
  case kk =>
    rintro _ _ ⟨r13, dl13, st13, rfl, rfl, hr13, hs13, hd13, hb13⟩
    refine WO.cons (OX.build rfl rfl rfl rfl ((.cons (.cons .nil))) ?_)
    refine WO.cons (OX.alloc rfl rfl rfl rfl ((.cons (.cons .nil))) fun b7 => ?_)
    refine WO.cons (OX.storeL rfl rfl rfl rfl rfl rfl (by (repeat (first | exact .here | apply Take.there))) rfl ((.cons (.cons .nil))) ?_)
    refine WO.nil ?_
    refine KQ.seq ?_
    refine WS.seq ?_
    refine WS.seq ?_
    refine WS.region EOk ?_
    refine WO.cons (OX.move rfl rfl rfl ?_)
    refine WO.cons (OX.move rfl rfl rfl ?_)
    refine WO.cons (OX.add rfl rfl rfl rfl (by omega) ?_)
    refine WO.cons (OX.call rfl rfl rfl (draw_ok hc hd13 (by omega)) (TakeS.perm (by repeat (first | exact TakeS.nil | (apply TakeS.cons; (repeat (first | exact .here | apply Take.there)))))) (by first | exact SubM.nil | exact SubM.self (fun _ h => h) | (repeat (first | exact SubM.nil | (apply SubM.cons; exact (by first | (refine .l ?_; (repeat first | exact .head _ | apply List.Mem.tail); done) | (refine .m ?_; (repeat first | exact .head _ | apply List.Mem.tail); done) | assumption))))) ?kk)
    case kk =>
      rintro _ _ ⟨r18, dl18, st18, rfl, rfl, hr18, hs18, hd18, hb18⟩
      refine WO.cons (OX.move rfl rfl rfl ?_)
      refine WO.nil ?_
      refine KQ.seq ?_
      refine WS.block ?_
      refine WS.loop (S := Nat × List Wy × Nat × Int × Int) (FF := fun s => [(0, .ptr (some ⟨d, 0⟩)), (6, .ptr (some ⟨b6, 0⟩)), (7, .ptr (some ⟨b7, 0⟩)), (18, iv r18), (19, iv s.1)]) (LL := fun s => (b7, .cells [iv r13, gV 8 s.2.2.1 s.1] true) :: (b6, .cells [iv 0, .slice none 0 0 none] true) :: (d, deck cv s.2.2.2.1 s.2.2.2.2) :: gL s.2.2.1 (wcells s.2.1) s.1) (I := fun s => s.1 ≤ 20 ∧ s.2.1.length = s.1 ∧ (∀ w ∈ s.2.1, w.Ok r13) ∧ DeckOk s.2.2.2.1 s.2.2.2.2 ∧ s.2.2.2.1 ≤ 1000002 + 20 * s.1) (μ := fun s => 21 - s.1) (s0 := (0, [], 0, dl18, st18)) (⟨by omega, rfl, (fun w hw => by cases hw), hd18, by show dl18 ≤ 1000002 + 20 * ((0 : Nat) : Int); omega⟩) (by exact ⟨rfl, rfl, rfl, rfl, rfl, trivial⟩) (by repeat (first | exact Sub.nil _ | (apply Sub.cons; (repeat (first | exact .here | apply Take.there))))) ?_
      rintro ⟨k, ws, wb, dl0, st0⟩ ⟨hk1, hk2, hk3, hd0, hk4⟩
      dsimp only at hk1 hk2 hk3 hd0 hk4 ⊢
      refine WS.seq ?_
      refine WS.region EOk ?_
      refine WO.cons (OX.lt rfl rfl rfl rfl ?_)
      refine WO.nil ?_
      refine KQ.seq ?_
      refine WS.seq ?_
      first | refine WS.condD rfl (fun h20 => ?_) (fun h20 => ?_) | refine WS.condN rfl (fun h20 => ?_) (fun h20 => ?_) | refine WS.cond rfl (fun h20 => ?_) (fun h20 => ?_)
      ·
        refine WS.skip ?_
        refine KQ.seq ?_
        refine WS.seq ?_
        refine WS.block ?_
        refine WS.seq ?_
        refine WS.region EOk ?_
        refine WO.cons (OX.move rfl rfl rfl ?_)
        refine WO.cons (OX.fieldAddr (r := 0) rfl rfl rfl rfl ?_)
        refine WO.cons (OX.load rfl rfl rfl (by first | (refine .l ?_; (repeat first | exact .head _ | apply List.Mem.tail); done) | (refine .m ?_; (repeat first | exact .head _ | apply List.Mem.tail); done) | assumption) rfl ?_)
        refine WO.cons (OX.call rfl rfl rfl (draw_ok hc hd0 (by omega)) (TakeS.perm (by repeat (first | exact TakeS.nil | (apply TakeS.cons; (repeat (first | exact .here | apply Take.there)))))) (by first | exact SubM.nil | exact SubM.self (fun _ h => h) | (repeat (first | exact SubM.nil | (apply SubM.cons; exact (by first | (refine .l ?_; (repeat first | exact .head _ | apply List.Mem.tail); done) | (refine .m ?_; (repeat first | exact .head _ | apply List.Mem.tail); done) | assumption))))) ?kk)
        case kk =>
          rintro _ _ ⟨r24, dl24, st24, rfl, rfl, hr24, hs24, hd24, hb24⟩
          refine WO.cons (OX.assign rfl rfl rfl ?_)
          refine WO.nil ?_
          refine KQ.seq ?_
          refine WS.seq ?_
          refine WS.region EOk ?_
          refine WO.cons (OX.move rfl rfl rfl ?_)
          refine WO.cons (OX.call rfl rfl rfl (draw_ok hc hd24 (by omega)) (TakeS.perm (by repeat (first | exact TakeS.nil | (apply TakeS.cons; (repeat (first | exact .here | apply Take.there)))))) (by first | exact SubM.nil | exact SubM.self (fun _ h => h) | (repeat (first | exact SubM.nil | (apply SubM.cons; exact (by first | (refine .l ?_; (repeat first | exact .head _ | apply List.Mem.tail); done) | (refine .m ?_; (repeat first | exact .head _ | apply List.Mem.tail); done) | assumption))))) ?kk)
          case kk =>
            rintro _ _ ⟨r26, dl26, st26, rfl, rfl, hr26, hs26, hd26, hb26⟩
            refine WO.cons (OX.assign rfl rfl rfl ?_)
            refine WO.nil ?_
            refine KQ.seq ?_
            refine WS.seq ?_
            refine WS.draw EOk (ancs := [0, 0, 0, 0, 8, 24, 60, 126, 0, 256, 1022, 0, 2172, 0, 14460, 0, 0, 0, 161916, 489596, 1048575, 0, 4194303]) (ord := [0, 1, 2, 3, 4, 5, 8, 9, 11, 13, 15, 16, 17, 21, 6, 7, 10, 12, 14, 18, 19, 20, 22]) (by kernel_rfl) ?_
            refine WD.cons rfl (OX.move rfl rfl rfl ⟨trivial, ?_⟩)
            refine WD.cons rfl (OX.move rfl rfl rfl ⟨⟨.inr trivial, trivial⟩, ?_⟩)
            refine WD.cons rfl (OX.move rfl rfl rfl ⟨⟨.inr trivial, ⟨.inr trivial, trivial⟩⟩, ?_⟩)
            refine WD.cons rfl (OX.fieldAddr (r := 0) rfl rfl rfl rfl ⟨⟨.inr trivial, ⟨.inr trivial, ⟨.inr trivial, trivial⟩⟩⟩, ?_⟩)
            refine WD.cons rfl (OX.load rfl rfl rfl (by first | (refine .l ?_; (repeat first | exact .head _ | apply List.Mem.tail); done) | (refine .m ?_; (repeat first | exact .head _ | apply List.Mem.tail); done) | assumption) rfl ⟨⟨.inr trivial, ⟨.inr trivial, ⟨.inr trivial, ⟨.inr trivial, trivial⟩⟩⟩⟩, ?_⟩)
            refine WD.cons rfl (OX.sub rfl rfl rfl rfl (by omega) ⟨⟨.inr trivial, ⟨.inr trivial, ⟨.inr trivial, ⟨.inr trivial, ⟨.inr trivial, trivial⟩⟩⟩⟩⟩, ?_⟩)
            refine WD.cons rfl (OX.fieldAddr (r := 0) rfl rfl rfl rfl ⟨⟨.inr trivial, ⟨.inr trivial, ⟨.inr trivial, ⟨.inr trivial, ⟨.inr trivial, ⟨.inr trivial, trivial⟩⟩⟩⟩⟩⟩, ?_⟩)
            refine WD.cons rfl (OX.load rfl rfl rfl (by first | (refine .l ?_; (repeat first | exact .head _ | apply List.Mem.tail); done) | (refine .m ?_; (repeat first | exact .head _ | apply List.Mem.tail); done) | assumption) rfl ⟨⟨.inr trivial, ⟨.inr trivial, ⟨.inr trivial, ⟨.inr trivial, ⟨.inr trivial, ⟨.inr trivial, ⟨.inr trivial, trivial⟩⟩⟩⟩⟩⟩⟩, ?_⟩)
            refine WD.cons rfl (OX.move rfl rfl rfl ⟨⟨.inr trivial, ⟨.inr trivial, ⟨.inr trivial, ⟨.inr trivial, ⟨.inr trivial, ⟨.inr trivial, ⟨.inr trivial, ⟨.inr trivial, trivial⟩⟩⟩⟩⟩⟩⟩⟩, ?_⟩)
            refine WD.cons rfl (OX.move rfl rfl rfl ⟨⟨.inr trivial, ⟨.inr trivial, ⟨.inr trivial, ⟨.inr trivial, ⟨.inr trivial, ⟨.inr trivial, ⟨.inr trivial, ⟨.inr trivial, ⟨.inr trivial, trivial⟩⟩⟩⟩⟩⟩⟩⟩⟩, ?_⟩)
            refine WD.cons rfl (OX.move rfl rfl rfl ⟨⟨.inr trivial, ⟨.inr trivial, ⟨.inr trivial, ⟨.inr trivial, ⟨.inr trivial, ⟨.inr trivial, ⟨.inr trivial, ⟨.inr trivial, ⟨.inr trivial, ⟨.inr trivial, trivial⟩⟩⟩⟩⟩⟩⟩⟩⟩⟩, ?_⟩)
            refine WD.cons rfl (OX.move rfl rfl rfl ⟨⟨.inr trivial, ⟨.inr trivial, ⟨.inr trivial, ⟨.inr trivial, ⟨.inr trivial, ⟨.inr trivial, ⟨.inr trivial, ⟨.inr trivial, ⟨.inr trivial, ⟨.inr trivial, ⟨.inr trivial, trivial⟩⟩⟩⟩⟩⟩⟩⟩⟩⟩⟩, ?_⟩)
            refine WD.cons rfl (OX.move rfl rfl rfl ⟨⟨.inr trivial, ⟨.inr trivial, ⟨.inr trivial, ⟨.inr trivial, ⟨.inr trivial, ⟨.inr trivial, ⟨.inr trivial, ⟨.inr trivial, ⟨.inr trivial, ⟨.inr trivial, ⟨.inr trivial, ⟨.inr trivial, trivial⟩⟩⟩⟩⟩⟩⟩⟩⟩⟩⟩⟩, ?_⟩)
            refine WD.cons rfl (OX.alloc rfl rfl rfl rfl ((.cons (.cons (.cons (.cons (.cons (.cons (.cons (.cons .nil))))))))) fun b10 => ⟨⟨.inr trivial, ⟨.inr trivial, ⟨.inr trivial, ⟨.inr trivial, ⟨.inr trivial, ⟨.inr trivial, ⟨.inr trivial, ⟨.inr trivial, ⟨.inr trivial, ⟨.inr trivial, ⟨.inr trivial, ⟨.inr trivial, ⟨.inr trivial, trivial⟩⟩⟩⟩⟩⟩⟩⟩⟩⟩⟩⟩⟩, ?_⟩)
            refine WD.nd fun hnd _ => ?_
            obtain ⟨hne1, hne2⟩ : b10 ≠ d ∧ b7 ≠ d := by simp [ids] at hnd; exact ⟨by omega, by omega⟩
            clear hnd
            refine WD.cons rfl (OX.call rfl rfl rfl (between_ok hc hd26 (by omega) (by omega)) (TakeS.perm (by repeat (first | exact TakeS.nil | (apply TakeS.cons; (repeat (first | exact .here | apply Take.there)))))) (by first | exact SubM.nil | exact SubM.self (fun _ h => h) | (repeat (first | exact SubM.nil | (apply SubM.cons; exact (by first | (refine .l ?_; (repeat first | exact .head _ | apply List.Mem.tail); done) | (refine .m ?_; (repeat first | exact .head _ | apply List.Mem.tail); done) | assumption))))) ?kk)
            case kk =>
              rintro _ _ ⟨r33, dl33, st33, rfl, rfl, hr33, hs33, hd33, hb33⟩
              refine ⟨⟨.inr (by simp [PairW, ids, hne1, hne1.symm, hne2, hne2.symm]), ⟨.inr (by simp [PairW, ids, hne1, hne1.symm, hne2, hne2.symm]), ⟨.inr (by simp [PairW, ids, hne1, hne1.symm, hne2, hne2.symm]), ⟨.inr (by simp [PairW, ids, hne1, hne1.symm, hne2, hne2.symm]), ⟨.inr (by simp [PairW, ids, hne1, hne1.symm, hne2, hne2.symm]), ⟨.inr (by simp [PairW, ids, hne1, hne1.symm, hne2, hne2.symm]), ⟨.inr (by simp [PairW, ids, hne1, hne1.symm, hne2, hne2.symm]), ⟨.inr (by simp [PairW, ids, hne1, hne1.symm, hne2, hne2.symm]), ⟨.inl (by kernel_rfl), ⟨.inl (by kernel_rfl), ⟨.inl (by kernel_rfl), ⟨.inl (by kernel_rfl), ⟨.inr (by simp [PairW, ids, hne1, hne1.symm, hne2, hne2.symm]), ⟨.inr (by simp [PairW, ids, hne1, hne1.symm, hne2, hne2.symm]), trivial⟩⟩⟩⟩⟩⟩⟩⟩⟩⟩⟩⟩⟩⟩, ?_⟩
              refine WD.cons rfl (OX.add rfl rfl rfl rfl (by omega) ⟨⟨.inl (by kernel_rfl), ⟨.inr (by simp [PairW, ids, hne1, hne1.symm, hne2, hne2.symm]), ⟨.inr trivial, ⟨.inr trivial, ⟨.inr trivial, ⟨.inr trivial, ⟨.inr trivial, ⟨.inr trivial, ⟨.inr trivial, ⟨.inr trivial, ⟨.inr trivial, ⟨.inr trivial, ⟨.inr trivial, ⟨.inr trivial, ⟨.inr trivial, trivial⟩⟩⟩⟩⟩⟩⟩⟩⟩⟩⟩⟩⟩⟩⟩, ?_⟩)
              have hm1 := Int.emod_nonneg (r24 + r33) (b := r13) (by omega)
              have hm2 := Int.emod_lt_of_pos (r24 + r33) (b := r13) (by omega)
              have hm3 : r24 ≠ (r24 + r33) % r13 := other_post (by omega) (by omega)
              refine WD.cons rfl (OX.rem rfl rfl rfl rfl (by omega) ⟨⟨.inr trivial, ⟨.inl (by kernel_rfl), ⟨.inr (by simp [PairW, ids, hne1, hne1.symm, hne2, hne2.symm]), ⟨.inr trivial, ⟨.inr trivial, ⟨.inr trivial, ⟨.inr trivial, ⟨.inr trivial, ⟨.inr trivial, ⟨.inr trivial, ⟨.inr trivial, ⟨.inr trivial, ⟨.inr trivial, ⟨.inr trivial, ⟨.inr trivial, ⟨.inr trivial, trivial⟩⟩⟩⟩⟩⟩⟩⟩⟩⟩⟩⟩⟩⟩⟩⟩, ?_⟩)
              refine WD.cons rfl (OX.call rfl rfl rfl (draw_ok hc hd33 (by omega)) (TakeS.perm (by repeat (first | exact TakeS.nil | (apply TakeS.cons; (repeat (first | exact .here | apply Take.there)))))) (by first | exact SubM.nil | exact SubM.self (fun _ h => h) | (repeat (first | exact SubM.nil | (apply SubM.cons; exact (by first | (refine .l ?_; (repeat first | exact .head _ | apply List.Mem.tail); done) | (refine .m ?_; (repeat first | exact .head _ | apply List.Mem.tail); done) | assumption))))) ?kk)
              case kk =>
                rintro _ _ ⟨r39, dl39, st39, rfl, rfl, hr39, hs39, hd39, hb39⟩
                refine ⟨⟨.inr (by simp [PairW, ids, hne1, hne1.symm, hne2, hne2.symm]), ⟨.inr (by simp [PairW, ids, hne1, hne1.symm, hne2, hne2.symm]), ⟨.inl (by kernel_rfl), ⟨.inr (by simp [PairW, ids, hne1, hne1.symm, hne2, hne2.symm]), ⟨.inr (by simp [PairW, ids, hne1, hne1.symm, hne2, hne2.symm]), ⟨.inr (by simp [PairW, ids, hne1, hne1.symm, hne2, hne2.symm]), ⟨.inr (by simp [PairW, ids, hne1, hne1.symm, hne2, hne2.symm]), ⟨.inr (by simp [PairW, ids, hne1, hne1.symm, hne2, hne2.symm]), ⟨.inl (by kernel_rfl), ⟨.inr (by simp [PairW, ids, hne1, hne1.symm, hne2, hne2.symm]), ⟨.inr (by simp [PairW, ids, hne1, hne1.symm, hne2, hne2.symm]), ⟨.inl (by kernel_rfl), ⟨.inl (by kernel_rfl), ⟨.inl (by kernel_rfl), ⟨.inl (by kernel_rfl), ⟨.inr (by simp [PairW, ids, hne1, hne1.symm, hne2, hne2.symm]), ⟨.inr (by simp [PairW, ids, hne1, hne1.symm, hne2, hne2.symm]), trivial⟩⟩⟩⟩⟩⟩⟩⟩⟩⟩⟩⟩⟩⟩⟩⟩⟩, ?_⟩
                refine WD.cons rfl (OX.call rfl rfl rfl (draw_ok hc hd39 (by omega)) (TakeS.perm (by repeat (first | exact TakeS.nil | (apply TakeS.cons; (repeat (first | exact .here | apply Take.there)))))) (by first | exact SubM.nil | exact SubM.self (fun _ h => h) | (repeat (first | exact SubM.nil | (apply SubM.cons; exact (by first | (refine .l ?_; (repeat first | exact .head _ | apply List.Mem.tail); done) | (refine .m ?_; (repeat first | exact .head _ | apply List.Mem.tail); done) | assumption))))) ?kk)
                case kk =>
                  rintro _ _ ⟨r41, dl41, st41, rfl, rfl, hr41, hs41, hd41, hb41⟩
                  refine ⟨⟨.inl (by kernel_rfl), ⟨.inr (by simp [PairW, ids, hne1, hne1.symm, hne2, hne2.symm]), ⟨.inr (by simp [PairW, ids, hne1, hne1.symm, hne2, hne2.symm]), ⟨.inl (by kernel_rfl), ⟨.inr (by simp [PairW, ids, hne1, hne1.symm, hne2, hne2.symm]), ⟨.inr (by simp [PairW, ids, hne1, hne1.symm, hne2, hne2.symm]), ⟨.inr (by simp [PairW, ids, hne1, hne1.symm, hne2, hne2.symm]), ⟨.inr (by simp [PairW, ids, hne1, hne1.symm, hne2, hne2.symm]), ⟨.inl (by kernel_rfl), ⟨.inl (by kernel_rfl), ⟨.inr (by simp [PairW, ids, hne1, hne1.symm, hne2, hne2.symm]), ⟨.inr (by simp [PairW, ids, hne1, hne1.symm, hne2, hne2.symm]), ⟨.inl (by kernel_rfl), ⟨.inl (by kernel_rfl), ⟨.inl (by kernel_rfl), ⟨.inl (by kernel_rfl), ⟨.inr (by simp [PairW, ids, hne1, hne1.symm, hne2, hne2.symm]), ⟨.inr (by simp [PairW, ids, hne1, hne1.symm, hne2, hne2.symm]), trivial⟩⟩⟩⟩⟩⟩⟩⟩⟩⟩⟩⟩⟩⟩⟩⟩⟩⟩, ?_⟩
                  refine WD.cons rfl (OX.call rfl rfl rfl (draw_ok hc hd41 (by omega)) (TakeS.perm (by repeat (first | exact TakeS.nil | (apply TakeS.cons; (repeat (first | exact .here | apply Take.there)))))) (by first | exact SubM.nil | exact SubM.self (fun _ h => h) | (repeat (first | exact SubM.nil | (apply SubM.cons; exact (by first | (refine .l ?_; (repeat first | exact .head _ | apply List.Mem.tail); done) | (refine .m ?_; (repeat first | exact .head _ | apply List.Mem.tail); done) | assumption))))) ?kk)
                  case kk =>
                    rintro _ _ ⟨r45, dl45, st45, rfl, rfl, hr45, hs45, hd45, hb45⟩
                    refine ⟨⟨.inl (by kernel_rfl), ⟨.inl (by kernel_rfl), ⟨.inr (by simp [PairW, ids, hne1, hne1.symm, hne2, hne2.symm]), ⟨.inr (by simp [PairW, ids, hne1, hne1.symm, hne2, hne2.symm]), ⟨.inl (by kernel_rfl), ⟨.inr (by simp [PairW, ids, hne1, hne1.symm, hne2, hne2.symm]), ⟨.inl (by kernel_rfl), ⟨.inr (by simp [PairW, ids, hne1, hne1.symm, hne2, hne2.symm]), ⟨.inr (by simp [PairW, ids, hne1, hne1.symm, hne2, hne2.symm]), ⟨.inl (by kernel_rfl), ⟨.inl (by kernel_rfl), ⟨.inr (by simp [PairW, ids, hne1, hne1.symm, hne2, hne2.symm]), ⟨.inr (by simp [PairW, ids, hne1, hne1.symm, hne2, hne2.symm]), ⟨.inl (by kernel_rfl), ⟨.inl (by kernel_rfl), ⟨.inl (by kernel_rfl), ⟨.inl (by kernel_rfl), ⟨.inr (by simp [PairW, ids, hne1, hne1.symm, hne2, hne2.symm]), ⟨.inr (by simp [PairW, ids, hne1, hne1.symm, hne2, hne2.symm]), trivial⟩⟩⟩⟩⟩⟩⟩⟩⟩⟩⟩⟩⟩⟩⟩⟩⟩⟩⟩, ?_⟩
                    refine WD.cons rfl (OX.add rfl rfl rfl rfl (by omega) ⟨⟨.inl (by kernel_rfl), ⟨.inl (by kernel_rfl), ⟨.inl (by kernel_rfl), ⟨.inr trivial, ⟨.inr trivial, ⟨.inl (by kernel_rfl), ⟨.inr (by simp [PairW, ids, hne1, hne1.symm, hne2, hne2.symm]), ⟨.inr trivial, ⟨.inr trivial, ⟨.inr trivial, ⟨.inr trivial, ⟨.inr trivial, ⟨.inr trivial, ⟨.inr trivial, ⟨.inr trivial, ⟨.inr trivial, ⟨.inr trivial, ⟨.inr trivial, ⟨.inr trivial, ⟨.inr trivial, trivial⟩⟩⟩⟩⟩⟩⟩⟩⟩⟩⟩⟩⟩⟩⟩⟩⟩⟩⟩⟩, ?_⟩)
                    refine WD.cons rfl (OX.call rfl rfl rfl (led8_ok _ _ _ _ _ _ _ _) (TakeS.perm (by repeat (first | exact TakeS.nil | (apply TakeS.cons; (repeat (first | exact .here | apply Take.there)))))) (by first | exact SubM.nil | exact SubM.self (fun _ h => h) | (repeat (first | exact SubM.nil | (apply SubM.cons; exact (by first | (refine .l ?_; (repeat first | exact .head _ | apply List.Mem.tail); done) | (refine .m ?_; (repeat first | exact .head _ | apply List.Mem.tail); done) | assumption))))) ?kk)
                    case kk =>
                      rintro _ _ ⟨rfl, rfl⟩
                      refine ⟨⟨.inl (by kernel_rfl), ⟨.inl (by kernel_rfl), ⟨.inl (by kernel_rfl), ⟨.inl (by kernel_rfl), ⟨.inl (by kernel_rfl), ⟨.inl (by kernel_rfl), ⟨.inl (by kernel_rfl), ⟨.inr (by simp [PairW, ids, hne1, hne1.symm, hne2, hne2.symm]), ⟨.inl (by kernel_rfl), ⟨.inl (by kernel_rfl), ⟨.inl (by kernel_rfl), ⟨.inl (by kernel_rfl), ⟨.inl (by kernel_rfl), ⟨.inl (by kernel_rfl), ⟨.inl (by kernel_rfl), ⟨.inl (by kernel_rfl), ⟨.inl (by kernel_rfl), ⟨.inl (by kernel_rfl), ⟨.inl (by kernel_rfl), ⟨.inl (by kernel_rfl), ⟨.inl (by kernel_rfl), trivial⟩⟩⟩⟩⟩⟩⟩⟩⟩⟩⟩⟩⟩⟩⟩⟩⟩⟩⟩⟩⟩, ?_⟩
                      refine WD.cons rfl (OX.storeL rfl rfl rfl rfl rfl rfl (by (repeat (first | exact .here | apply Take.there))) rfl ((.cons (.cons (.cons (.cons (.cons (.cons (.cons (.cons .nil))))))))) ⟨⟨.inl (by kernel_rfl), ⟨.inl (by kernel_rfl), ⟨.inl (by kernel_rfl), ⟨.inl (by kernel_rfl), ⟨.inl (by kernel_rfl), ⟨.inl (by kernel_rfl), ⟨.inl (by kernel_rfl), ⟨.inl (by kernel_rfl), ⟨.inl (by kernel_rfl), ⟨.inl (by kernel_rfl), ⟨.inl (by kernel_rfl), ⟨.inl (by kernel_rfl), ⟨.inl (by kernel_rfl), ⟨.inl (by kernel_rfl), ⟨.inl (by kernel_rfl), ⟨.inl (by kernel_rfl), ⟨.inl (by kernel_rfl), ⟨.inl (by kernel_rfl), ⟨.inl (by kernel_rfl), ⟨.inl (by kernel_rfl), ⟨.inl (by kernel_rfl), ⟨.inl (by kernel_rfl), trivial⟩⟩⟩⟩⟩⟩⟩⟩⟩⟩⟩⟩⟩⟩⟩⟩⟩⟩⟩⟩⟩⟩, ?_⟩)
                      refine WD.nil ?_
                      refine KQ.seq ?_
                      refine WS.seq ?_
                      refine WS.seq ?_
                      refine WS.region EOk ?_
                      refine WO.cons (OX.move rfl rfl rfl ?_)
                      refine WO.cons (OX.call rfl rfl rfl (coin_ok hc hd45 (by omega)) (TakeS.perm (by repeat (first | exact TakeS.nil | (apply TakeS.cons; (repeat (first | exact .here | apply Take.there)))))) (by first | exact SubM.nil | exact SubM.self (fun _ h => h) | (repeat (first | exact SubM.nil | (apply SubM.cons; exact (by first | (refine .l ?_; (repeat first | exact .head _ | apply List.Mem.tail); done) | (refine .m ?_; (repeat first | exact .head _ | apply List.Mem.tail); done) | assumption))))) ?kk)
                      case kk =>
                        rintro _ _ ⟨r49, dl49, st49, rfl, rfl, _, hd49, hb49⟩
                        refine WO.nil ?_
                        refine KQ.seq ?_
                        first | refine WS.condD rfl (fun h49 => ?_) (fun h49 => ?_) | refine WS.condN rfl (fun h49 => ?_) (fun h49 => ?_) | refine WS.cond rfl (fun h49 => ?_) (fun h49 => ?_)
                        ·
                          refine WS.region EOk ?_
                          refine WO.cons (OX.move rfl rfl rfl ?_)
                          refine WO.cons (OX.call rfl rfl rfl (draw_ok hc hd49 (by omega)) (TakeS.perm (by repeat (first | exact TakeS.nil | (apply TakeS.cons; (repeat (first | exact .here | apply Take.there)))))) (by first | exact SubM.nil | exact SubM.self (fun _ h => h) | (repeat (first | exact SubM.nil | (apply SubM.cons; exact (by first | (refine .l ?_; (repeat first | exact .head _ | apply List.Mem.tail); done) | (refine .m ?_; (repeat first | exact .head _ | apply List.Mem.tail); done) | assumption))))) ?kk)
                          case kk =>
                            rintro _ _ ⟨r51, dl51, st51, rfl, rfl, hr51, hs51, hd51, hb51⟩
                            refine WO.cons (OX.fieldAddr (r := 4) rfl rfl rfl rfl ?_)
                            refine WO.cons (OX.storeL rfl rfl rfl rfl rfl rfl (by (repeat (first | exact .here | apply Take.there))) rfl ((.cons (.cons (.cons (.cons (.cons (.cons (.cons (.cons .nil))))))))) ?_)
                            refine WO.nil ?_
                            refine KQ.seq ?_
                            refine WS.seq ?_
                            refine WS.seq ?_
                            refine WS.region EOk ?_
                            refine WO.cons (OX.move rfl rfl rfl ?_)
                            refine WO.cons (OX.call rfl rfl rfl (coin_ok hc hd51 (by omega)) (TakeS.perm (by repeat (first | exact TakeS.nil | (apply TakeS.cons; (repeat (first | exact .here | apply Take.there)))))) (by first | exact SubM.nil | exact SubM.self (fun _ h => h) | (repeat (first | exact SubM.nil | (apply SubM.cons; exact (by first | (refine .l ?_; (repeat first | exact .head _ | apply List.Mem.tail); done) | (refine .m ?_; (repeat first | exact .head _ | apply List.Mem.tail); done) | assumption))))) ?kk)
                            case kk =>
                              rintro _ _ ⟨r54, dl54, st54, rfl, rfl, _, hd54, hb54⟩
                              refine WO.nil ?_
                              refine KQ.seq ?_
                              first | refine WS.condD rfl (fun h54 => ?_) (fun h54 => ?_) | refine WS.condN rfl (fun h54 => ?_) (fun h54 => ?_) | refine WS.cond rfl (fun h54 => ?_) (fun h54 => ?_)
                              ·
                                refine WS.region EOk ?_
                                refine WO.cons (OX.move rfl rfl rfl ?_)
                                refine WO.cons (OX.call rfl rfl rfl (draw_ok hc hd54 (by omega)) (TakeS.perm (by repeat (first | exact TakeS.nil | (apply TakeS.cons; (repeat (first | exact .here | apply Take.there)))))) (by first | exact SubM.nil | exact SubM.self (fun _ h => h) | (repeat (first | exact SubM.nil | (apply SubM.cons; exact (by first | (refine .l ?_; (repeat first | exact .head _ | apply List.Mem.tail); done) | (refine .m ?_; (repeat first | exact .head _ | apply List.Mem.tail); done) | assumption))))) ?kk)
                                case kk =>
                                  rintro _ _ ⟨r56, dl56, st56, rfl, rfl, hr56, hs56, hd56, hb56⟩
                                  refine WO.cons (OX.fieldAddr (r := 5) rfl rfl rfl rfl ?_)
                                  refine WO.cons (OX.storeL rfl rfl rfl rfl rfl rfl (by (repeat (first | exact .here | apply Take.there))) rfl ((.cons (.cons (.cons (.cons (.cons (.cons (.cons (.cons .nil))))))))) ?_)
                                  refine WO.nil ?_
                                  refine KQ.seq ?_
                                  refine WS.region EOk ?_
                                  refine WO.cons (OX.fieldAddr (r := 1) rfl rfl rfl rfl ?_)
                                  refine WO.cons (OX.load rfl rfl rfl (by first | (refine .l ?_; (repeat first | exact .head _ | apply List.Mem.tail); done) | (refine .m ?_; (repeat first | exact .head _ | apply List.Mem.tail); done) | assumption) rfl ?_)
                                  refine WO.cons (OX.loadG rfl rfl rfl (by first | (refine .l ?_; (repeat first | exact .head _ | apply List.Mem.tail); done) | (refine .m ?_; (repeat first | exact .head _ | apply List.Mem.tail); done) | assumption) rfl ((.cons (.cons (.cons (.cons (.cons (.cons (.cons (.cons .nil))))))))) ?_)
                                  refine WO.cons (OX.buildSlice rfl rfl rfl rfl ((.cons (.cons (.cons (.cons (.cons (.cons (.cons (.cons .nil))))))))) fun b61 => ?_)
                                  refine WO.cons (OX.grow (z := 8) (us := wcells ws) (es := Wy.cells ⟨_, _, _, _, _, _, _, _⟩) rfl rfl rfl rfl rfl (by first | (refine .l ?_; (repeat first | exact .head _ | apply List.Mem.tail); done) | (refine .m ?_; (repeat first | exact .head _ | apply List.Mem.tail); done) | assumption) rfl rfl (by rw [wcells_length, hk2]) (by omega) (by (first | exact List.perm_append_comm (l₁ := []) (l₂ := gL wb (wcells ws) k) | exact List.perm_append_comm (l₁ := [_]) (l₂ := gL wb (wcells ws) k) | exact List.perm_append_comm (l₁ := [_, _]) (l₂ := gL wb (wcells ws) k) | exact List.perm_append_comm (l₁ := [_, _, _]) (l₂ := gL wb (wcells ws) k) | exact List.perm_append_comm (l₁ := [_, _, _, _]) (l₂ := gL wb (wcells ws) k) | exact List.perm_append_comm (l₁ := [_, _, _, _, _]) (l₂ := gL wb (wcells ws) k) | exact List.perm_append_comm (l₁ := [_, _, _, _, _, _]) (l₂ := gL wb (wcells ws) k) | exact List.perm_append_comm (l₁ := [_, _, _, _, _, _, _]) (l₂ := gL wb (wcells ws) k) | exact List.perm_append_comm (l₁ := [_, _, _, _, _, _, _, _]) (l₂ := gL wb (wcells ws) k) | exact List.perm_append_comm (l₁ := [_, _, _, _, _, _, _, _, _]) (l₂ := gL wb (wcells ws) k) | exact List.perm_append_comm (l₁ := [_, _, _, _, _, _, _, _, _, _]) (l₂ := gL wb (wcells ws) k) | exact List.perm_append_comm (l₁ := [_, _, _, _, _, _, _, _, _, _, _]) (l₂ := gL wb (wcells ws) k) | exact List.perm_append_comm (l₁ := [_, _, _, _, _, _, _, _, _, _, _, _]) (l₂ := gL wb (wcells ws) k) | exact List.perm_append_comm (l₁ := [_, _, _, _, _, _, _, _, _, _, _, _, _]) (l₂ := gL wb (wcells ws) k))) fun b62 _ => ?_)
                                  rw [wcells_snoc]
                                  refine WO.cons (OX.fieldAddr (r := 1) rfl rfl rfl rfl ?_)
                                  refine WO.cons (OX.storeL rfl rfl rfl rfl rfl rfl (by (repeat (first | exact .here | apply Take.there))) rfl ((.cons (.cons .nil))) ?_)
                                  refine WO.nil ?_
                                  refine KQ.blk ?_
                                  refine KQ.seq ?_
                                  refine WS.region EOk ?_
                                  refine WO.cons (OX.add rfl rfl rfl rfl (by omega) ?_)
                                  refine WO.cons (OX.move rfl rfl rfl ?_)
                                  refine WO.nil ?_
                                  refine KQ.done ?_
                                  exact LQ.nx (k + 1, ws ++ [_], b62, _, _) (by repeat (first | exact Sub.nil _ | (apply Sub.cons; (repeat (first | exact .here | apply Take.there))))) ⟨rfl, rfl, rfl, rfl, rfl, trivial⟩ (by show 21 - (k + 1) < 21 - k; omega) ⟨by show k + 1 ≤ 20; omega, by show (ws ++ [_]).length = k + 1; simp [hk2], ways_snoc hk3 (by simp only [Wy.Ok]; omega), hd56, by dsimp only; omega⟩
                              ·
                                have hd56 := hd54
                                refine WS.skip ?_
                                refine KQ.seq ?_
                                refine WS.region EOk ?_
                                refine WO.cons (OX.fieldAddr (r := 1) rfl rfl rfl rfl ?_)
                                refine WO.cons (OX.load rfl rfl rfl (by first | (refine .l ?_; (repeat first | exact .head _ | apply List.Mem.tail); done) | (refine .m ?_; (repeat first | exact .head _ | apply List.Mem.tail); done) | assumption) rfl ?_)
                                refine WO.cons (OX.loadG rfl rfl rfl (by first | (refine .l ?_; (repeat first | exact .head _ | apply List.Mem.tail); done) | (refine .m ?_; (repeat first | exact .head _ | apply List.Mem.tail); done) | assumption) rfl ((.cons (.cons (.cons (.cons (.cons (.cons (.cons (.cons .nil))))))))) ?_)
                                refine WO.cons (OX.buildSlice rfl rfl rfl rfl ((.cons (.cons (.cons (.cons (.cons (.cons (.cons (.cons .nil))))))))) fun b61 => ?_)
                                refine WO.cons (OX.grow (z := 8) (us := wcells ws) (es := Wy.cells ⟨_, _, _, _, _, _, _, _⟩) rfl rfl rfl rfl rfl (by first | (refine .l ?_; (repeat first | exact .head _ | apply List.Mem.tail); done) | (refine .m ?_; (repeat first | exact .head _ | apply List.Mem.tail); done) | assumption) rfl rfl (by rw [wcells_length, hk2]) (by omega) (by (first | exact List.perm_append_comm (l₁ := []) (l₂ := gL wb (wcells ws) k) | exact List.perm_append_comm (l₁ := [_]) (l₂ := gL wb (wcells ws) k) | exact List.perm_append_comm (l₁ := [_, _]) (l₂ := gL wb (wcells ws) k) | exact List.perm_append_comm (l₁ := [_, _, _]) (l₂ := gL wb (wcells ws) k) | exact List.perm_append_comm (l₁ := [_, _, _, _]) (l₂ := gL wb (wcells ws) k) | exact List.perm_append_comm (l₁ := [_, _, _, _, _]) (l₂ := gL wb (wcells ws) k) | exact List.perm_append_comm (l₁ := [_, _, _, _, _, _]) (l₂ := gL wb (wcells ws) k) | exact List.perm_append_comm (l₁ := [_, _, _, _, _, _, _]) (l₂ := gL wb (wcells ws) k) | exact List.perm_append_comm (l₁ := [_, _, _, _, _, _, _, _]) (l₂ := gL wb (wcells ws) k) | exact List.perm_append_comm (l₁ := [_, _, _, _, _, _, _, _, _]) (l₂ := gL wb (wcells ws) k) | exact List.perm_append_comm (l₁ := [_, _, _, _, _, _, _, _, _, _]) (l₂ := gL wb (wcells ws) k) | exact List.perm_append_comm (l₁ := [_, _, _, _, _, _, _, _, _, _, _]) (l₂ := gL wb (wcells ws) k) | exact List.perm_append_comm (l₁ := [_, _, _, _, _, _, _, _, _, _, _, _]) (l₂ := gL wb (wcells ws) k) | exact List.perm_append_comm (l₁ := [_, _, _, _, _, _, _, _, _, _, _, _, _]) (l₂ := gL wb (wcells ws) k))) fun b62 _ => ?_)
                                rw [wcells_snoc]
                                refine WO.cons (OX.fieldAddr (r := 1) rfl rfl rfl rfl ?_)
                                refine WO.cons (OX.storeL rfl rfl rfl rfl rfl rfl (by (repeat (first | exact .here | apply Take.there))) rfl ((.cons (.cons .nil))) ?_)
                                refine WO.nil ?_
                                refine KQ.blk ?_
                                refine KQ.seq ?_
                                refine WS.region EOk ?_
                                refine WO.cons (OX.add rfl rfl rfl rfl (by omega) ?_)
                                refine WO.cons (OX.move rfl rfl rfl ?_)
                                refine WO.nil ?_
                                refine KQ.done ?_
                                exact LQ.nx (k + 1, ws ++ [_], b62, _, _) (by repeat (first | exact Sub.nil _ | (apply Sub.cons; (repeat (first | exact .here | apply Take.there))))) ⟨rfl, rfl, rfl, rfl, rfl, trivial⟩ (by show 21 - (k + 1) < 21 - k; omega) ⟨by show k + 1 ≤ 20; omega, by show (ws ++ [_]).length = k + 1; simp [hk2], ways_snoc hk3 (by simp only [Wy.Ok]; omega), hd56, by dsimp only; omega⟩
                        ·
                          have hd51 := hd49
                          refine WS.skip ?_
                          refine KQ.seq ?_
                          refine WS.seq ?_
                          refine WS.seq ?_
                          refine WS.region EOk ?_
                          refine WO.cons (OX.move rfl rfl rfl ?_)
                          refine WO.cons (OX.call rfl rfl rfl (coin_ok hc hd51 (by omega)) (TakeS.perm (by repeat (first | exact TakeS.nil | (apply TakeS.cons; (repeat (first | exact .here | apply Take.there)))))) (by first | exact SubM.nil | exact SubM.self (fun _ h => h) | (repeat (first | exact SubM.nil | (apply SubM.cons; exact (by first | (refine .l ?_; (repeat first | exact .head _ | apply List.Mem.tail); done) | (refine .m ?_; (repeat first | exact .head _ | apply List.Mem.tail); done) | assumption))))) ?kk)
                          case kk =>
                            rintro _ _ ⟨r54, dl54, st54, rfl, rfl, _, hd54, hb54⟩
                            refine WO.nil ?_
                            refine KQ.seq ?_
                            first | refine WS.condD rfl (fun h54 => ?_) (fun h54 => ?_) | refine WS.condN rfl (fun h54 => ?_) (fun h54 => ?_) | refine WS.cond rfl (fun h54 => ?_) (fun h54 => ?_)
                            ·
                              refine WS.region EOk ?_
                              refine WO.cons (OX.move rfl rfl rfl ?_)
                              refine WO.cons (OX.call rfl rfl rfl (draw_ok hc hd54 (by omega)) (TakeS.perm (by repeat (first | exact TakeS.nil | (apply TakeS.cons; (repeat (first | exact .here | apply Take.there)))))) (by first | exact SubM.nil | exact SubM.self (fun _ h => h) | (repeat (first | exact SubM.nil | (apply SubM.cons; exact (by first | (refine .l ?_; (repeat first | exact .head _ | apply List.Mem.tail); done) | (refine .m ?_; (repeat first | exact .head _ | apply List.Mem.tail); done) | assumption))))) ?kk)
                              case kk =>
                                rintro _ _ ⟨r56, dl56, st56, rfl, rfl, hr56, hs56, hd56, hb56⟩
                                refine WO.cons (OX.fieldAddr (r := 5) rfl rfl rfl rfl ?_)
                                refine WO.cons (OX.storeL rfl rfl rfl rfl rfl rfl (by (repeat (first | exact .here | apply Take.there))) rfl ((.cons (.cons (.cons (.cons (.cons (.cons (.cons (.cons .nil))))))))) ?_)
                                refine WO.nil ?_
                                refine KQ.seq ?_
                                refine WS.region EOk ?_
                                refine WO.cons (OX.fieldAddr (r := 1) rfl rfl rfl rfl ?_)
                                refine WO.cons (OX.load rfl rfl rfl (by first | (refine .l ?_; (repeat first | exact .head _ | apply List.Mem.tail); done) | (refine .m ?_; (repeat first | exact .head _ | apply List.Mem.tail); done) | assumption) rfl ?_)
                                refine WO.cons (OX.loadG rfl rfl rfl (by first | (refine .l ?_; (repeat first | exact .head _ | apply List.Mem.tail); done) | (refine .m ?_; (repeat first | exact .head _ | apply List.Mem.tail); done) | assumption) rfl ((.cons (.cons (.cons (.cons (.cons (.cons (.cons (.cons .nil))))))))) ?_)
                                refine WO.cons (OX.buildSlice rfl rfl rfl rfl ((.cons (.cons (.cons (.cons (.cons (.cons (.cons (.cons .nil))))))))) fun b61 => ?_)
                                refine WO.cons (OX.grow (z := 8) (us := wcells ws) (es := Wy.cells ⟨_, _, _, _, _, _, _, _⟩) rfl rfl rfl rfl rfl (by first | (refine .l ?_; (repeat first | exact .head _ | apply List.Mem.tail); done) | (refine .m ?_; (repeat first | exact .head _ | apply List.Mem.tail); done) | assumption) rfl rfl (by rw [wcells_length, hk2]) (by omega) (by (first | exact List.perm_append_comm (l₁ := []) (l₂ := gL wb (wcells ws) k) | exact List.perm_append_comm (l₁ := [_]) (l₂ := gL wb (wcells ws) k) | exact List.perm_append_comm (l₁ := [_, _]) (l₂ := gL wb (wcells ws) k) | exact List.perm_append_comm (l₁ := [_, _, _]) (l₂ := gL wb (wcells ws) k) | exact List.perm_append_comm (l₁ := [_, _, _, _]) (l₂ := gL wb (wcells ws) k) | exact List.perm_append_comm (l₁ := [_, _, _, _, _]) (l₂ := gL wb (wcells ws) k) | exact List.perm_append_comm (l₁ := [_, _, _, _, _, _]) (l₂ := gL wb (wcells ws) k) | exact List.perm_append_comm (l₁ := [_, _, _, _, _, _, _]) (l₂ := gL wb (wcells ws) k) | exact List.perm_append_comm (l₁ := [_, _, _, _, _, _, _, _]) (l₂ := gL wb (wcells ws) k) | exact List.perm_append_comm (l₁ := [_, _, _, _, _, _, _, _, _]) (l₂ := gL wb (wcells ws) k) | exact List.perm_append_comm (l₁ := [_, _, _, _, _, _, _, _, _, _]) (l₂ := gL wb (wcells ws) k) | exact List.perm_append_comm (l₁ := [_, _, _, _, _, _, _, _, _, _, _]) (l₂ := gL wb (wcells ws) k) | exact List.perm_append_comm (l₁ := [_, _, _, _, _, _, _, _, _, _, _, _]) (l₂ := gL wb (wcells ws) k) | exact List.perm_append_comm (l₁ := [_, _, _, _, _, _, _, _, _, _, _, _, _]) (l₂ := gL wb (wcells ws) k))) fun b62 _ => ?_)
                                rw [wcells_snoc]
                                refine WO.cons (OX.fieldAddr (r := 1) rfl rfl rfl rfl ?_)
                                refine WO.cons (OX.storeL rfl rfl rfl rfl rfl rfl (by (repeat (first | exact .here | apply Take.there))) rfl ((.cons (.cons .nil))) ?_)
                                refine WO.nil ?_
                                refine KQ.blk ?_
                                refine KQ.seq ?_
                                refine WS.region EOk ?_
                                refine WO.cons (OX.add rfl rfl rfl rfl (by omega) ?_)
                                refine WO.cons (OX.move rfl rfl rfl ?_)
                                refine WO.nil ?_
                                refine KQ.done ?_
                                exact LQ.nx (k + 1, ws ++ [_], b62, _, _) (by repeat (first | exact Sub.nil _ | (apply Sub.cons; (repeat (first | exact .here | apply Take.there))))) ⟨rfl, rfl, rfl, rfl, rfl, trivial⟩ (by show 21 - (k + 1) < 21 - k; omega) ⟨by show k + 1 ≤ 20; omega, by show (ws ++ [_]).length = k + 1; simp [hk2], ways_snoc hk3 (by simp only [Wy.Ok]; omega), hd56, by dsimp only; omega⟩
                            ·
                              have hd56 := hd54
                              refine WS.skip ?_
                              refine KQ.seq ?_
                              refine WS.region EOk ?_
                              refine WO.cons (OX.fieldAddr (r := 1) rfl rfl rfl rfl ?_)
                              refine WO.cons (OX.load rfl rfl rfl (by first | (refine .l ?_; (repeat first | exact .head _ | apply List.Mem.tail); done) | (refine .m ?_; (repeat first | exact .head _ | apply List.Mem.tail); done) | assumption) rfl ?_)
                              refine WO.cons (OX.loadG rfl rfl rfl (by first | (refine .l ?_; (repeat first | exact .head _ | apply List.Mem.tail); done) | (refine .m ?_; (repeat first | exact .head _ | apply List.Mem.tail); done) | assumption) rfl ((.cons (.cons (.cons (.cons (.cons (.cons (.cons (.cons .nil))))))))) ?_)
                              refine WO.cons (OX.buildSlice rfl rfl rfl rfl ((.cons (.cons (.cons (.cons (.cons (.cons (.cons (.cons .nil))))))))) fun b61 => ?_)
                              refine WO.cons (OX.grow (z := 8) (us := wcells ws) (es := Wy.cells ⟨_, _, _, _, _, _, _, _⟩) rfl rfl rfl rfl rfl (by first | (refine .l ?_; (repeat first | exact .head _ | apply List.Mem.tail); done) | (refine .m ?_; (repeat first | exact .head _ | apply List.Mem.tail); done) | assumption) rfl rfl (by rw [wcells_length, hk2]) (by omega) (by (first | exact List.perm_append_comm (l₁ := []) (l₂ := gL wb (wcells ws) k) | exact List.perm_append_comm (l₁ := [_]) (l₂ := gL wb (wcells ws) k) | exact List.perm_append_comm (l₁ := [_, _]) (l₂ := gL wb (wcells ws) k) | exact List.perm_append_comm (l₁ := [_, _, _]) (l₂ := gL wb (wcells ws) k) | exact List.perm_append_comm (l₁ := [_, _, _, _]) (l₂ := gL wb (wcells ws) k) | exact List.perm_append_comm (l₁ := [_, _, _, _, _]) (l₂ := gL wb (wcells ws) k) | exact List.perm_append_comm (l₁ := [_, _, _, _, _, _]) (l₂ := gL wb (wcells ws) k) | exact List.perm_append_comm (l₁ := [_, _, _, _, _, _, _]) (l₂ := gL wb (wcells ws) k) | exact List.perm_append_comm (l₁ := [_, _, _, _, _, _, _, _]) (l₂ := gL wb (wcells ws) k) | exact List.perm_append_comm (l₁ := [_, _, _, _, _, _, _, _, _]) (l₂ := gL wb (wcells ws) k) | exact List.perm_append_comm (l₁ := [_, _, _, _, _, _, _, _, _, _]) (l₂ := gL wb (wcells ws) k) | exact List.perm_append_comm (l₁ := [_, _, _, _, _, _, _, _, _, _, _]) (l₂ := gL wb (wcells ws) k) | exact List.perm_append_comm (l₁ := [_, _, _, _, _, _, _, _, _, _, _, _]) (l₂ := gL wb (wcells ws) k) | exact List.perm_append_comm (l₁ := [_, _, _, _, _, _, _, _, _, _, _, _, _]) (l₂ := gL wb (wcells ws) k))) fun b62 _ => ?_)
                              rw [wcells_snoc]
                              refine WO.cons (OX.fieldAddr (r := 1) rfl rfl rfl rfl ?_)
                              refine WO.cons (OX.storeL rfl rfl rfl rfl rfl rfl (by (repeat (first | exact .here | apply Take.there))) rfl ((.cons (.cons .nil))) ?_)
                              refine WO.nil ?_
                              refine KQ.blk ?_
                              refine KQ.seq ?_
                              refine WS.region EOk ?_
                              refine WO.cons (OX.add rfl rfl rfl rfl (by omega) ?_)
                              refine WO.cons (OX.move rfl rfl rfl ?_)
                              refine WO.nil ?_
                              refine KQ.done ?_
                              exact LQ.nx (k + 1, ws ++ [_], b62, _, _) (by repeat (first | exact Sub.nil _ | (apply Sub.cons; (repeat (first | exact .here | apply Take.there))))) ⟨rfl, rfl, rfl, rfl, rfl, trivial⟩ (by show 21 - (k + 1) < 21 - k; omega) ⟨by show k + 1 ≤ 20; omega, by show (ws ++ [_]).length = k + 1; simp [hk2], ways_snoc hk3 (by simp only [Wy.Ok]; omega), hd56, by dsimp only; omega⟩
      ·
        refine WS.exit ?_
        refine KQ.seq_exit ?_
        refine KQ.done ?_
        refine LQ.exit ?_
        refine KQ.blk_here ?_
        refine KQ.seq ?_
        refine WS.seq ?_
        refine WS.region EOk ?_
        refine WO.cons (OX.loadG rfl rfl rfl (by first | (refine .l ?_; (repeat first | exact .head _ | apply List.Mem.tail); done) | (refine .m ?_; (repeat first | exact .head _ | apply List.Mem.tail); done) | assumption) rfl ((.cons (.cons .nil))) ?_)
        refine WO.cons (OX.storeL rfl rfl rfl rfl rfl (by show (V.atom (iv r13) && (V.atom (gV 8 wb k) && true)) = true; rw [gV_atom]; rfl) (by (repeat (first | exact .here | apply Take.there))) rfl (.cons (.cons .nil)) ?_)
        refine WO.nil ?_
        refine KQ.seq ?_
        refine WS.ret ?_
        refine KQ.done ?_
        refine FQ.ret (.cons (.cellG rfl (by first | (refine .l ?_; (repeat first | exact .head _ | apply List.Mem.tail); done) | (refine .m ?_; (repeat first | exact .head _ | apply List.Mem.tail); done) | assumption) rfl ((.cons (.cons .nil)))) (.nil)) ?_
        obtain ⟨wa, m, wz, wcp, e1, hW⟩ := ways_grown wb ws
        rw [hk2] at e1 hW
        exact ⟨(d, deck cv dl0 st0) :: gL wb (wcells ws) k, by repeat (first | exact Sub.refl _ | (apply Sub.cons; (repeat (first | exact .here | apply Take.there))) | apply Sub.drop | apply Sub.dropL), r13, ws, wa, m, wz, wcp, _, _, _, by show V.agg [iv r13, gV 8 wb k] = _; rw [e1], rfl, hW, by omega, by omega, hk3, hd0, by omega⟩
end Go.Proofs.Ytgkmdkhhaapolaa
