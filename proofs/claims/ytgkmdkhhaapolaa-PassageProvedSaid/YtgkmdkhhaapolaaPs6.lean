/-
  PASSAGE, 6: lists that are looked through, calendars that are copied. Printed by spec5.py.
-/
import Derived.Test.YtgkmdkhhaapolaaPs5
namespace Go.Proofs.Ytgkmdkhhaapolaa
open Go.Am Go.Proofs
set_option maxRecDepth 40000
set_option maxHeartbeats 4000000
set_option linter.unusedVariables false
set_option linter.unusedSimpArgs false
theorem indexR_ok {M : CL} {b n : Nat} {us : List V} {own : Bool} {cp : Option Nat} {gv : V} {q : V → Bool} (hb : (b, .cells us own) ∈ M) (hlen : us.length = n) (hn : n ≤ 1000) (hq : ∀ x ∈ us, GN P gv [x] [] M (fun v L' => v = .bool (q x) ∧ L' = [])) : FN P 50 [.slice (some ⟨b, 0⟩) n 1 cp, gv] [] M (fun v L' => ∃ r, v = iv r ∧ L' = [] ∧ (r = -1 ↔ ∀ x ∈ us, q x = false)) := by
  refine FN.forget ?_
  refine FN.intro EOk ENt rfl rfl rfl ?_
  refine WS.seq ?_
  refine WS.region EOk ?_
  refine WO.cons (OX.assign rfl rfl rfl ?_)
  refine WO.nil ?_
  refine KQ.seq ?_
  refine WS.seq ?_
  refine WS.seq ?_
  refine WS.region EOk ?_
  refine WO.cons (OX.move rfl rfl rfl ?_)
  refine WO.cons (OX.len rfl rfl rfl rfl ?_)
  refine WO.cons (OX.move rfl rfl rfl ?_)
  refine WO.nil ?_
  refine KQ.seq ?_
  refine WS.block ?_
  refine WS.loop (S := Nat) (FF := fun k => [(0, .slice (some ⟨b, 0⟩) n 1 cp), (1, gv), (7, iv n), (8, iv k)]) (LL := fun _ => []) (I := fun k => k ≤ n ∧ ∀ j x, j < k → us[j]? = some x → q x = false) (μ := fun k => n - k) (s0 := 0) (⟨Nat.zero_le _, fun j x hj => absurd hj (by omega)⟩) (by exact ⟨rfl, rfl, rfl, rfl, trivial⟩) (by repeat (first | exact Sub.nil _ | (apply Sub.cons; (repeat (first | exact .here | apply Take.there))))) ?_
  rintro k ⟨hk1, hk2⟩
  refine WS.seq ?_
  refine WS.region EOk ?_
  refine WO.cons (OX.lt rfl rfl rfl rfl ?_)
  refine WO.nil ?_
  refine KQ.seq ?_
  refine WS.seq ?_
  first | refine WS.condD rfl (fun h9 => ?_) (fun h9 => ?_) | refine WS.condN rfl (fun h9 => ?_) (fun h9 => ?_) | refine WS.cond rfl (fun h9 => ?_) (fun h9 => ?_)
  ·
    obtain ⟨x, hx⟩ : ∃ x, us[k]? = some x := ⟨us[k]'(by omega), List.getElem?_eq_getElem (by omega)⟩
    refine WS.skip ?_
    refine KQ.seq ?_
    refine WS.seq ?_
    refine WS.block ?_
    refine WS.seq ?_
    refine WS.region EOk ?_
    refine WO.cons (OX.move rfl rfl rfl ?_)
    refine WO.cons (OX.assign rfl rfl rfl ?_)
    refine WO.nil ?_
    refine KQ.seq ?_
    refine WS.seq ?_
    refine WS.region EOk ?_
    refine WO.cons (OX.move rfl rfl rfl ?_)
    refine WO.cons (OX.move rfl rfl rfl ?_)
    refine WO.cons (OX.move rfl rfl rfl ?_)
    refine WO.cons (OX.indexAddrN (z := 1) rfl rfl rfl rfl rfl (by omega) ?_)
    refine WO.cons (OX.load rfl rfl rfl (.m hb) (by show nthL us (0 + k * 1) = _; rw [nthL_eq]; simpa using hx) ?_)
    refine WO.cons (OX.callG rfl rfl rfl rfl (hq x (List.mem_of_getElem? hx)) (TakeS.perm (by repeat (first | exact TakeS.nil | (apply TakeS.cons; (repeat (first | exact .here | apply Take.there)))))) (by first | exact SubM.nil | exact SubM.self (fun _ h => h) | (repeat (first | exact SubM.nil | (apply SubM.cons; exact (by first | (refine .l ?_; (repeat first | exact .head _ | apply List.Mem.tail); done) | (refine .m ?_; (repeat first | exact .head _ | apply List.Mem.tail); done) | assumption))))) ?kk)
    case kk =>
      rintro _ _ ⟨rfl, rfl⟩
      refine WO.nil ?_
      refine KQ.seq ?_
      first | refine WS.condD rfl (fun h16 => ?_) (fun h16 => ?_) | refine WS.condN rfl (fun h16 => ?_) (fun h16 => ?_) | refine WS.cond rfl (fun h16 => ?_) (fun h16 => ?_)
      ·
        refine WS.seq ?_
        refine WS.region EOk ?_
        refine WO.cons (OX.move rfl rfl rfl ?_)
        refine WO.cons (OX.assign rfl rfl rfl ?_)
        refine WO.nil ?_
        refine KQ.seq ?_
        refine WS.ret ?_
        refine KQ.blk_ret ?_
        refine KQ.seq_ret ?_
        refine KQ.done ?_
        refine LQ.ret ?_
        refine KQ.blk_ret ?_
        refine KQ.seq_ret ?_
        refine KQ.done ?_
        refine FQ.ret (.cons (.tmp rfl) (.nil)) ?_
        exact ⟨[], Sub.nil _, _, rfl, rfl, ⟨fun e => by omega, fun h => by have := h x (List.mem_of_getElem? hx); rw [this] at h16; cases h16⟩⟩
      ·
        refine WS.skip ?_
        refine KQ.blk ?_
        refine KQ.seq ?_
        refine WS.region EOk ?_
        refine WO.cons (OX.add rfl rfl rfl rfl (by omega) ?_)
        refine WO.cons (OX.move rfl rfl rfl ?_)
        refine WO.nil ?_
        refine KQ.done ?_
        exact LQ.nx (k + 1) (Sub.nil _) ⟨rfl, rfl, rfl, rfl, trivial⟩ (by omega) ⟨by omega, fun j y hj hy => by
                                                            by_cases e : j = k
                                                            · subst e; rw [hx] at hy; cases hy; simpa using h16
                                                            · exact hk2 j y (by omega) hy⟩
  ·
    refine WS.exit ?_
    refine KQ.seq_exit ?_
    refine KQ.done ?_
    refine LQ.exit ?_
    refine KQ.blk_here ?_
    refine KQ.seq ?_
    refine WS.seq ?_
    refine WS.region EOk ?_
    refine WO.cons (OX.assign rfl rfl rfl ?_)
    refine WO.nil ?_
    refine KQ.seq ?_
    refine WS.ret ?_
    refine KQ.done ?_
    refine FQ.ret (.cons (.tmp rfl) (.nil)) ?_
    exact ⟨[], Sub.nil _, _, rfl, rfl, ⟨fun _ x hx => by obtain ⟨j, hj⟩ := List.mem_iff_getElem?.1 hx; exact hk2 j x (by have := (List.getElem?_eq_some_iff.1 hj).1; omega) hj, fun _ => rfl⟩⟩
theorem allcR_ok {M : CL} {b3 : Nat} {gv x : V} {p : Bool} (h3 : (b3, .cells [gv] true) ∈ M) (hg : GN P gv [x] [] M (fun v L' => v = .bool p ∧ L' = [])) : FN P 51 [x, .ptr (some ⟨b3, 0⟩)] [] M (fun v L' => v = .bool (!p) ∧ L' = []) := by
  refine FN.intro EOk ENt rfl rfl rfl ?_
  refine WS.seq ?_
  refine WS.region EOk ?_
  refine WO.cons (OX.assign rfl rfl rfl ?_)
  refine WO.nil ?_
  refine KQ.seq ?_
  refine WS.seq ?_
  refine WS.region EOk ?_
  refine WO.cons (OX.load rfl rfl rfl (.m h3) rfl ?_)
  refine WO.cons (OX.move rfl rfl rfl ?_)
  refine WO.cons (OX.callG rfl rfl rfl rfl (hg) (TakeS.perm (by repeat (first | exact TakeS.nil | (apply TakeS.cons; (repeat (first | exact .here | apply Take.there)))))) (by first | exact SubM.nil | exact SubM.self (fun _ h => h) | (repeat (first | exact SubM.nil | (apply SubM.cons; exact (by first | (refine .l ?_; (repeat first | exact .head _ | apply List.Mem.tail); done) | (refine .m ?_; (repeat first | exact .head _ | apply List.Mem.tail); done) | assumption))))) ?kk)
  case kk =>
    rintro _ _ ⟨rfl, rfl⟩
    refine WO.cons (OX.not rfl rfl rfl ?_)
    refine WO.cons (OX.assign rfl rfl rfl ?_)
    refine WO.nil ?_
    refine KQ.seq ?_
    refine WS.ret ?_
    refine KQ.done ?_
    refine FQ.ret (.cons (.tmp rfl) (.nil)) ?_
    exact ⟨rfl, rfl⟩
theorem allR_ok {M : CL} {b n : Nat} {us : List V} {own : Bool} {cp : Option Nat} {gv : V} {p : V → Bool} (hgv : V.cells? gv = some [gv]) (hb : (b, .cells us own) ∈ M) (hlen : us.length = n) (hn : n ≤ 1000) (hp : ∀ x ∈ us, GN P gv [x] [] M (fun v L' => v = .bool (p x) ∧ L' = [])) : FN P 25 [.slice (some ⟨b, 0⟩) n 1 cp, gv] [] M (fun v L' => ∃ c, v = .bool c ∧ L' = [] ∧ (c = true ↔ ∀ x ∈ us, p x = true)) := by
  refine FN.forget ?_
  refine FN.intro EOk ENt rfl rfl rfl ?_
  refine WS.seq ?_
  refine WS.region EOk ?_
  refine WO.cons (OX.box rfl rfl rfl hgv fun b3 => ?_)
  refine WO.cons (OX.assign rfl rfl rfl ?_)
  refine WO.nil ?_
  refine KQ.seq ?_
  refine WS.seq ?_
  refine WS.region EOk ?_
  refine WO.cons (OX.move rfl rfl rfl ?_)
  refine WO.cons (OX.makeFunc rfl rfl rfl rfl (.nil) ((.cons .nil)) ?_)
  refine WO.cons (OX.call rfl rfl rfl (indexR_ok (M := (b3, .cells [gv] true) :: M) (q := fun x => !p x) (List.mem_cons_of_mem _ hb) hlen hn (fun x hx => FN.toG (allcR_ok (.head _) ((hp x hx).moreM fun _ h => List.mem_cons_of_mem _ h)))) (TakeS.perm (by repeat (first | exact TakeS.nil | (apply TakeS.cons; (repeat (first | exact .here | apply Take.there)))))) (SubM.cons1 (.l (.head _))) ?kk)
  case kk =>
    rintro _ _ ⟨r, rfl, rfl, hr⟩
    refine WO.cons (OX.eq rfl rfl rfl rfl ?_)
    refine WO.cons (OX.assign rfl rfl rfl ?_)
    refine WO.nil ?_
    refine KQ.seq ?_
    refine WS.ret ?_
    refine KQ.done ?_
    refine FQ.ret (.cons (.tmp rfl) (.nil)) ?_
    exact ⟨[], Sub.nil _, _, rfl, rfl, by rw [decide_eq_true_eq, hr]; simp⟩
theorem indexI_ok {M : CL} {b n : Nat} {us : List V} {own : Bool} {cp : Option Nat} {gv : V} {q : V → Bool} (hb : (b, .cells us own) ∈ M) (hlen : us.length = n) (hn : n ≤ 1000) (hq : ∀ x ∈ us, GN P gv [x] [] M (fun v L' => v = .bool (q x) ∧ L' = [])) : FN P 52 [.slice (some ⟨b, 0⟩) n 1 cp, gv] [] M (fun v L' => ∃ r, v = iv r ∧ L' = [] ∧ (r = -1 ↔ ∀ x ∈ us, q x = false)) := by
  refine FN.forget ?_
  refine FN.intro EOk ENt rfl rfl rfl ?_
  refine WS.seq ?_
  refine WS.region EOk ?_
  refine WO.cons (OX.assign rfl rfl rfl ?_)
  refine WO.nil ?_
  refine KQ.seq ?_
  refine WS.seq ?_
  refine WS.seq ?_
  refine WS.region EOk ?_
  refine WO.cons (OX.move rfl rfl rfl ?_)
  refine WO.cons (OX.len rfl rfl rfl rfl ?_)
  refine WO.cons (OX.move rfl rfl rfl ?_)
  refine WO.nil ?_
  refine KQ.seq ?_
  refine WS.block ?_
  refine WS.loop (S := Nat) (FF := fun k => [(0, .slice (some ⟨b, 0⟩) n 1 cp), (1, gv), (7, iv n), (8, iv k)]) (LL := fun _ => []) (I := fun k => k ≤ n ∧ ∀ j x, j < k → us[j]? = some x → q x = false) (μ := fun k => n - k) (s0 := 0) (⟨Nat.zero_le _, fun j x hj => absurd hj (by omega)⟩) (by exact ⟨rfl, rfl, rfl, rfl, trivial⟩) (by repeat (first | exact Sub.nil _ | (apply Sub.cons; (repeat (first | exact .here | apply Take.there))))) ?_
  rintro k ⟨hk1, hk2⟩
  refine WS.seq ?_
  refine WS.region EOk ?_
  refine WO.cons (OX.lt rfl rfl rfl rfl ?_)
  refine WO.nil ?_
  refine KQ.seq ?_
  refine WS.seq ?_
  first | refine WS.condD rfl (fun h9 => ?_) (fun h9 => ?_) | refine WS.condN rfl (fun h9 => ?_) (fun h9 => ?_) | refine WS.cond rfl (fun h9 => ?_) (fun h9 => ?_)
  ·
    obtain ⟨x, hx⟩ : ∃ x, us[k]? = some x := ⟨us[k]'(by omega), List.getElem?_eq_getElem (by omega)⟩
    refine WS.skip ?_
    refine KQ.seq ?_
    refine WS.seq ?_
    refine WS.block ?_
    refine WS.seq ?_
    refine WS.region EOk ?_
    refine WO.cons (OX.move rfl rfl rfl ?_)
    refine WO.cons (OX.assign rfl rfl rfl ?_)
    refine WO.nil ?_
    refine KQ.seq ?_
    refine WS.seq ?_
    refine WS.region EOk ?_
    refine WO.cons (OX.move rfl rfl rfl ?_)
    refine WO.cons (OX.move rfl rfl rfl ?_)
    refine WO.cons (OX.move rfl rfl rfl ?_)
    refine WO.cons (OX.indexAddrN (z := 1) rfl rfl rfl rfl rfl (by omega) ?_)
    refine WO.cons (OX.load rfl rfl rfl (.m hb) (by show nthL us (0 + k * 1) = _; rw [nthL_eq]; simpa using hx) ?_)
    refine WO.cons (OX.callG rfl rfl rfl rfl (hq x (List.mem_of_getElem? hx)) (TakeS.perm (by repeat (first | exact TakeS.nil | (apply TakeS.cons; (repeat (first | exact .here | apply Take.there)))))) (by first | exact SubM.nil | exact SubM.self (fun _ h => h) | (repeat (first | exact SubM.nil | (apply SubM.cons; exact (by first | (refine .l ?_; (repeat first | exact .head _ | apply List.Mem.tail); done) | (refine .m ?_; (repeat first | exact .head _ | apply List.Mem.tail); done) | assumption))))) ?kk)
    case kk =>
      rintro _ _ ⟨rfl, rfl⟩
      refine WO.nil ?_
      refine KQ.seq ?_
      first | refine WS.condD rfl (fun h16 => ?_) (fun h16 => ?_) | refine WS.condN rfl (fun h16 => ?_) (fun h16 => ?_) | refine WS.cond rfl (fun h16 => ?_) (fun h16 => ?_)
      ·
        refine WS.seq ?_
        refine WS.region EOk ?_
        refine WO.cons (OX.move rfl rfl rfl ?_)
        refine WO.cons (OX.assign rfl rfl rfl ?_)
        refine WO.nil ?_
        refine KQ.seq ?_
        refine WS.ret ?_
        refine KQ.blk_ret ?_
        refine KQ.seq_ret ?_
        refine KQ.done ?_
        refine LQ.ret ?_
        refine KQ.blk_ret ?_
        refine KQ.seq_ret ?_
        refine KQ.done ?_
        refine FQ.ret (.cons (.tmp rfl) (.nil)) ?_
        exact ⟨[], Sub.nil _, _, rfl, rfl, ⟨fun e => by omega, fun h => by have := h x (List.mem_of_getElem? hx); rw [this] at h16; cases h16⟩⟩
      ·
        refine WS.skip ?_
        refine KQ.blk ?_
        refine KQ.seq ?_
        refine WS.region EOk ?_
        refine WO.cons (OX.add rfl rfl rfl rfl (by omega) ?_)
        refine WO.cons (OX.move rfl rfl rfl ?_)
        refine WO.nil ?_
        refine KQ.done ?_
        exact LQ.nx (k + 1) (Sub.nil _) ⟨rfl, rfl, rfl, rfl, trivial⟩ (by omega) ⟨by omega, fun j y hj hy => by
                                                            by_cases e : j = k
                                                            · subst e; rw [hx] at hy; cases hy; simpa using h16
                                                            · exact hk2 j y (by omega) hy⟩
  ·
    refine WS.exit ?_
    refine KQ.seq_exit ?_
    refine KQ.done ?_
    refine LQ.exit ?_
    refine KQ.blk_here ?_
    refine KQ.seq ?_
    refine WS.seq ?_
    refine WS.region EOk ?_
    refine WO.cons (OX.assign rfl rfl rfl ?_)
    refine WO.nil ?_
    refine KQ.seq ?_
    refine WS.ret ?_
    refine KQ.done ?_
    refine FQ.ret (.cons (.tmp rfl) (.nil)) ?_
    exact ⟨[], Sub.nil _, _, rfl, rfl, ⟨fun _ x hx => by obtain ⟨j, hj⟩ := List.mem_iff_getElem?.1 hx; exact hk2 j x (by have := (List.getElem?_eq_some_iff.1 hj).1; omega) hj, fun _ => rfl⟩⟩
theorem allcI_ok {M : CL} {b3 : Nat} {gv x : V} {p : Bool} (h3 : (b3, .cells [gv] true) ∈ M) (hg : GN P gv [x] [] M (fun v L' => v = .bool p ∧ L' = [])) : FN P 53 [x, .ptr (some ⟨b3, 0⟩)] [] M (fun v L' => v = .bool (!p) ∧ L' = []) := by
  refine FN.intro EOk ENt rfl rfl rfl ?_
  refine WS.seq ?_
  refine WS.region EOk ?_
  refine WO.cons (OX.assign rfl rfl rfl ?_)
  refine WO.nil ?_
  refine KQ.seq ?_
  refine WS.seq ?_
  refine WS.region EOk ?_
  refine WO.cons (OX.load rfl rfl rfl (.m h3) rfl ?_)
  refine WO.cons (OX.move rfl rfl rfl ?_)
  refine WO.cons (OX.callG rfl rfl rfl rfl (hg) (TakeS.perm (by repeat (first | exact TakeS.nil | (apply TakeS.cons; (repeat (first | exact .here | apply Take.there)))))) (by first | exact SubM.nil | exact SubM.self (fun _ h => h) | (repeat (first | exact SubM.nil | (apply SubM.cons; exact (by first | (refine .l ?_; (repeat first | exact .head _ | apply List.Mem.tail); done) | (refine .m ?_; (repeat first | exact .head _ | apply List.Mem.tail); done) | assumption))))) ?kk)
  case kk =>
    rintro _ _ ⟨rfl, rfl⟩
    refine WO.cons (OX.not rfl rfl rfl ?_)
    refine WO.cons (OX.assign rfl rfl rfl ?_)
    refine WO.nil ?_
    refine KQ.seq ?_
    refine WS.ret ?_
    refine KQ.done ?_
    refine FQ.ret (.cons (.tmp rfl) (.nil)) ?_
    exact ⟨rfl, rfl⟩
theorem allI_ok {M : CL} {b n : Nat} {us : List V} {own : Bool} {cp : Option Nat} {gv : V} {p : V → Bool} (hgv : V.cells? gv = some [gv]) (hb : (b, .cells us own) ∈ M) (hlen : us.length = n) (hn : n ≤ 1000) (hp : ∀ x ∈ us, GN P gv [x] [] M (fun v L' => v = .bool (p x) ∧ L' = [])) : FN P 28 [.slice (some ⟨b, 0⟩) n 1 cp, gv] [] M (fun v L' => ∃ c, v = .bool c ∧ L' = [] ∧ (c = true ↔ ∀ x ∈ us, p x = true)) := by
  refine FN.forget ?_
  refine FN.intro EOk ENt rfl rfl rfl ?_
  refine WS.seq ?_
  refine WS.region EOk ?_
  refine WO.cons (OX.box rfl rfl rfl hgv fun b3 => ?_)
  refine WO.cons (OX.assign rfl rfl rfl ?_)
  refine WO.nil ?_
  refine KQ.seq ?_
  refine WS.seq ?_
  refine WS.region EOk ?_
  refine WO.cons (OX.move rfl rfl rfl ?_)
  refine WO.cons (OX.makeFunc rfl rfl rfl rfl (.nil) ((.cons .nil)) ?_)
  refine WO.cons (OX.call rfl rfl rfl (indexI_ok (M := (b3, .cells [gv] true) :: M) (q := fun x => !p x) (List.mem_cons_of_mem _ hb) hlen hn (fun x hx => FN.toG (allcI_ok (.head _) ((hp x hx).moreM fun _ h => List.mem_cons_of_mem _ h)))) (TakeS.perm (by repeat (first | exact TakeS.nil | (apply TakeS.cons; (repeat (first | exact .here | apply Take.there)))))) (SubM.cons1 (.l (.head _))) ?kk)
  case kk =>
    rintro _ _ ⟨r, rfl, rfl, hr⟩
    refine WO.cons (OX.eq rfl rfl rfl rfl ?_)
    refine WO.cons (OX.assign rfl rfl rfl ?_)
    refine WO.nil ?_
    refine KQ.seq ?_
    refine WS.ret ?_
    refine KQ.done ?_
    refine FQ.ret (.cons (.tmp rfl) (.nil)) ?_
    exact ⟨[], Sub.nil _, _, rfl, rfl, by rw [decide_eq_true_eq, hr]; simp⟩
theorem p1_ok {a : Option Am.Loc} {n z : Nat} {cp : Option Nat} : FN P 26 [.slice a n z cp] [] [] (fun v L' => v = .bool (decide ((n : Int) = 16)) ∧ L' = []) := by
  refine FN.intro EOk ENt rfl rfl rfl ?_
  refine WS.seq ?_
  refine WS.region EOk ?_
  refine WO.cons (OX.assign rfl rfl rfl ?_)
  refine WO.nil ?_
  refine KQ.seq ?_
  refine WS.seq ?_
  refine WS.region EOk ?_
  refine WO.cons (OX.move rfl rfl rfl ?_)
  refine WO.cons (OX.len rfl rfl rfl rfl ?_)
  refine WO.cons (OX.eq rfl rfl rfl rfl ?_)
  refine WO.cons (OX.assign rfl rfl rfl ?_)
  refine WO.nil ?_
  refine KQ.seq ?_
  refine WS.ret ?_
  refine KQ.done ?_
  refine FQ.ret (.cons (.tmp rfl) (.nil)) ?_
  exact ⟨rfl, rfl⟩
theorem p21_ok {d : Int} : FN P 29 [iv d] [] [] (fun v L' => v = .bool (decide (0 ≤ d ∧ d ≤ 1001)) ∧ L' = []) := by
  refine FN.intro EOk ENt rfl rfl rfl ?_
  refine WS.seq ?_
  refine WS.region EOk ?_
  refine WO.cons (OX.assign rfl rfl rfl ?_)
  refine WO.nil ?_
  refine KQ.seq ?_
  refine WS.seq ?_
  refine WS.region EOk ?_
  refine WO.cons (OX.move rfl rfl rfl ?_)
  refine WO.cons (OX.call rfl rfl rfl (from_ok _ _ _) (TakeS.perm (by repeat (first | exact TakeS.nil | (apply TakeS.cons; (repeat (first | exact .here | apply Take.there)))))) (by first | exact SubM.nil | exact SubM.self (fun _ h => h) | (repeat (first | exact SubM.nil | (apply SubM.cons; exact (by first | (refine .l ?_; (repeat first | exact .head _ | apply List.Mem.tail); done) | (refine .m ?_; (repeat first | exact .head _ | apply List.Mem.tail); done) | assumption))))) ?kk)
  case kk =>
    rintro _ _ ⟨rfl, rfl⟩
    refine WO.cons (OX.assign rfl rfl rfl ?_)
    refine WO.nil ?_
    refine KQ.seq ?_
    refine WS.ret ?_
    refine KQ.done ?_
    refine FQ.ret (.cons (.tmp rfl) (.nil)) ?_
    exact ⟨rfl, rfl⟩
theorem ints_ok {M : CL} {r : List Int} (hr : RowOk r) (x : V) (hx : x ∈ r.map iv) : FN P 29 ([] ++ [x] ++ []) [] M (fun v L' => v = .bool true ∧ L' = []) := by
  obtain ⟨d, hd, rfl⟩ := List.mem_map.1 hx
  have h := (p21_ok (d := d)).moreM (M := M) (fun p h => by cases h)
  exact h.mono fun v L' hv => ⟨by rw [hv.1, decide_eq_true (hr.2 d hd)], hv.2⟩
theorem p2_ok {M : CL} {b : Nat} {r : List Int} {cp : Option Nat} (hb : (b, .cells (r.map iv) true) ∈ M) (hr : RowOk r) : FN P 27 [.slice (some ⟨b, 0⟩) 16 1 cp] [] M (fun v L' => v = .bool true ∧ L' = []) := by
  refine FN.forget ?_
  refine FN.intro EOk ENt rfl rfl rfl ?_
  refine WS.seq ?_
  refine WS.region EOk ?_
  refine WO.cons (OX.assign rfl rfl rfl ?_)
  refine WO.nil ?_
  refine KQ.seq ?_
  refine WS.seq ?_
  refine WS.region EOk ?_
  refine WO.cons (OX.move rfl rfl rfl ?_)
  refine WO.cons (OX.call rfl rfl rfl (allI_ok (M := M) (p := fun _ => true) rfl hb (by simp [hr.1]) (by omega) (fun x hx => FN.toG (ints_ok hr x hx))) (TakeS.perm (by repeat (first | exact TakeS.nil | (apply TakeS.cons; (repeat (first | exact .here | apply Take.there)))))) (by first | exact SubM.nil | exact SubM.self (fun _ h => h) | (repeat (first | exact SubM.nil | (apply SubM.cons; exact (by first | (refine .l ?_; (repeat first | exact .head _ | apply List.Mem.tail); done) | (refine .m ?_; (repeat first | exact .head _ | apply List.Mem.tail); done) | assumption))))) ?kk)
  case kk =>
    rintro _ _ ⟨c, rfl, rfl, hc⟩
    refine WO.cons (OX.assign rfl rfl rfl ?_)
    refine WO.nil ?_
    refine KQ.seq ?_
    refine WS.ret ?_
    refine KQ.done ?_
    refine FQ.ret (.cons (.tmp rfl) (.nil)) ?_
    have e : c = true := hc.2 (fun _ _ => rfl)
    subst e
    exact ⟨[], Sub.nil _, rfl, rfl⟩
theorem first_le {r : List Int} {x0 : Int} (h : r[0]? = some x0) (j : Nat) (x : Int) (hj : j < 1) (hx : r[j]? = some x) : x0 ≤ x := by
  obtain rfl : j = 0 := by omega
  rw [h] at hx; cases hx; exact Int.le_refl _
theorem min_step {r : List Int} {k : Nat} {m x : Int} (h : ∀ j x, j < k → r[j]? = some x → m ≤ x) (hx : r[k]? = some x) (j : Nat) (y : Int) (hj : j < k + 1) (hy : r[j]? = some y) : (if x < m then x else m) ≤ y := by
  by_cases e : j = k
  · subst e; rw [hx] at hy; cases hy; split <;> omega
  · have := h j y (by omega) hy; split <;> omega
theorem min_ok {M : CL} {b : Nat} {r : List Int} {cp : Option Nat} (hb : (b, .cells (r.map iv) true) ∈ M) (hr : RowOk r) : FN P 34 [.slice (some ⟨b, 0⟩) 16 1 cp] [] M (fun v L' => ∃ m, v = iv m ∧ L' = [] ∧ ∀ x ∈ r, m ≤ x) := by
  refine FN.forget ?_
  have hrl := hr.1
  refine FN.intro EOk ENt rfl rfl rfl ?_
  refine WS.seq ?_
  refine WS.region EOk ?_
  refine WO.cons (OX.assign rfl rfl rfl ?_)
  refine WO.nil ?_
  refine KQ.seq ?_
  refine WS.seq ?_
  refine WS.seq ?_
  refine WS.region EOk ?_
  refine WO.cons (OX.move rfl rfl rfl ?_)
  refine WO.cons (OX.len rfl rfl rfl rfl ?_)
  refine WO.cons (OX.lt rfl rfl rfl rfl ?_)
  refine WO.nil ?_
  refine KQ.seq ?_
  first | refine WS.condD rfl (fun h7 => ?_) (fun h7 => ?_) | refine WS.condN rfl (fun h7 => ?_) (fun h7 => ?_) | refine WS.cond rfl (fun h7 => ?_) (fun h7 => ?_)
  ·
    exfalso; omega
  ·
    refine WS.skip ?_
    refine KQ.seq ?_
    refine WS.seq ?_
    obtain ⟨x0, hx0⟩ : ∃ x, r[0]? = some x := ⟨r[0]'(by omega), List.getElem?_eq_getElem (by omega)⟩
    refine WS.region EOk ?_
    refine WO.cons (OX.move rfl rfl rfl ?_)
    refine WO.cons (OX.indexAddr (z := 1) rfl rfl rfl rfl rfl (by omega) ?_)
    refine WO.cons (OX.load rfl rfl rfl (.m hb) (by show nthL (r.map iv) (0 + (0 : Int).toNat * 1) = _; rw [nthL_eq, List.getElem?_map]; simp only [Int.toNat_zero, Nat.zero_mul, Nat.add_zero]; rw [hx0]; rfl) ?_)
    refine WO.cons (OX.assign rfl rfl rfl ?_)
    refine WO.nil ?_
    refine KQ.seq ?_
    refine WS.seq ?_
    refine WS.seq ?_
    refine WS.region EOk ?_
    refine WO.cons (OX.assign rfl rfl rfl ?_)
    refine WO.nil ?_
    refine KQ.seq ?_
    refine WS.block ?_
    refine WS.loop (S := Nat × Int) (FF := fun s => [(0, .slice (some ⟨b, 0⟩) 16 1 cp), (3, iv s.2), (4, iv s.1)]) (LL := fun _ => []) (I := fun s => 1 ≤ s.1 ∧ s.1 ≤ 16 ∧ ∀ j x, j < s.1 → r[j]? = some x → s.2 ≤ x) (μ := fun s => 16 - s.1) (s0 := (1, x0)) (⟨by omega, by omega, first_le hx0⟩) (by exact ⟨rfl, rfl, rfl, trivial⟩) (by repeat (first | exact Sub.nil _ | (apply Sub.cons; (repeat (first | exact .here | apply Take.there))))) ?_
    rintro ⟨k, m⟩ ⟨hk0, hk1, hk2⟩
    dsimp only at hk0 hk1 hk2 ⊢
    refine WS.seq ?_
    refine WS.seq ?_
    refine WS.region EOk ?_
    refine WO.cons (OX.move rfl rfl rfl ?_)
    refine WO.cons (OX.move rfl rfl rfl ?_)
    refine WO.cons (OX.len rfl rfl rfl rfl ?_)
    refine WO.cons (OX.lt rfl rfl rfl rfl ?_)
    refine WO.nil ?_
    refine KQ.seq ?_
    first | refine WS.condD rfl (fun h15 => ?_) (fun h15 => ?_) | refine WS.condN rfl (fun h15 => ?_) (fun h15 => ?_) | refine WS.cond rfl (fun h15 => ?_) (fun h15 => ?_)
    ·
      obtain ⟨x, hx⟩ : ∃ x, r[k]? = some x := ⟨r[k]'(by omega), List.getElem?_eq_getElem (by omega)⟩
      refine WS.skip ?_
      refine KQ.seq ?_
      refine WS.seq ?_
      refine WS.block ?_
      refine WS.region EOk ?_
      refine WO.cons (OX.move rfl rfl rfl ?_)
      refine WO.cons (OX.move rfl rfl rfl ?_)
      refine WO.cons (OX.move rfl rfl rfl ?_)
      refine WO.cons (OX.indexAddrN (z := 1) rfl rfl rfl rfl rfl (by omega) ?_)
      refine WO.cons (OX.load rfl rfl rfl (.m hb) (by show nthL (r.map iv) (0 + k * 1) = _; rw [nthL_eq, List.getElem?_map, Nat.zero_add, Nat.mul_one, hx]; rfl) ?_)
      refine WO.cons (OX.min rfl rfl rfl rfl ?_)
      refine WO.cons (OX.assign rfl rfl rfl ?_)
      refine WO.nil ?_
      refine KQ.blk ?_
      refine KQ.seq ?_
      refine WS.region EOk ?_
      refine WO.cons (OX.move rfl rfl rfl ?_)
      refine WO.cons (OX.add rfl rfl rfl rfl (by omega) ?_)
      refine WO.cons (OX.assign rfl rfl rfl ?_)
      refine WO.nil ?_
      refine KQ.done ?_
      exact LQ.nx (k + 1, if x < m then x else m) (Sub.nil _) ⟨rfl, rfl, rfl, trivial⟩ (by show 16 - (k + 1) < 16 - k; omega) ⟨by dsimp only; omega, by dsimp only; omega, min_step hk2 hx⟩
    ·
      refine WS.exit ?_
      refine KQ.seq_exit ?_
      refine KQ.done ?_
      refine LQ.exit ?_
      refine KQ.blk_here ?_
      refine KQ.seq ?_
      refine WS.seq ?_
      refine WS.region EOk ?_
      refine WO.cons (OX.move rfl rfl rfl ?_)
      refine WO.cons (OX.assign rfl rfl rfl ?_)
      refine WO.nil ?_
      refine KQ.seq ?_
      refine WS.ret ?_
      refine KQ.done ?_
      refine FQ.ret (.cons (.tmp rfl) (.nil)) ?_
      exact ⟨[], Sub.nil _, m, rfl, rfl, fun x hx => by obtain ⟨j, hj⟩ := List.mem_iff_getElem?.1 hx; exact hk2 j x (by have := (List.getElem?_eq_some_iff.1 hj).1; omega) hj⟩
theorem cal_at {cal : List (Nat × List Int)} {k : Nat} {c : Nat × List Int} (h : cal[k]? = some c) : (calV cal)[k]? = some (.slice (some ⟨c.1, 0⟩) 16 1 none) := by simp [calV, h]
theorem cloneall_ok {M : CL} {ob n : Nat} {cp : Option Nat} {cal : List (Nat × List Int)} {own : Bool} (ho : (ob, .cells (calV cal) own) ∈ M) (hc : ∀ c ∈ cal, (c.1, .cells (c.2.map iv) true) ∈ M ∧ RowOk c.2) (hn : cal.length = n) (hn1 : 0 < n ∧ n ≤ 10) : FN P 10 [.slice (some ⟨ob, 0⟩) n 1 cp] [] M (fun v L' => ∃ (ob' : Nat) (cal' : List (Nat × List Int)), v = .slice (some ⟨ob', 0⟩) n 1 none ∧ L' = (ob', .cells (calV cal') true) :: calL cal' ∧ cal'.length = n ∧ ∀ c ∈ cal', RowOk c.2) := by
  refine FN.forget ?_
  refine FN.intro EOk ENt rfl rfl rfl ?_
  refine WS.seq ?_
  refine WS.region EOk ?_
  refine WO.cons (OX.assign rfl rfl rfl ?_)
  refine WO.nil ?_
  refine KQ.seq ?_
  refine WS.seq ?_
  refine WS.region EOk ?_
  refine WO.cons (OX.assign rfl rfl rfl ?_)
  refine WO.nil ?_
  refine KQ.seq ?_
  refine WS.seq ?_
  refine WS.seq ?_
  refine WS.region EOk ?_
  refine WO.cons (OX.move rfl rfl rfl ?_)
  refine WO.cons (OX.len rfl rfl rfl rfl ?_)
  refine WO.cons (OX.move rfl rfl rfl ?_)
  refine WO.nil ?_
  refine KQ.seq ?_
  refine WS.block ?_
  refine WS.loop (S := Nat × List (Nat × List Int) × Nat) (FF := fun s => [(6, .slice (some ⟨ob, 0⟩) n 1 cp), (7, iv n), (8, iv s.1), (3, gV 1 s.2.2 s.1)]) (LL := fun s => gL s.2.2 (calV s.2.1) s.1 ++ calL s.2.1) (I := fun s => s.1 ≤ n ∧ s.2.1.length = s.1 ∧ ∀ c ∈ s.2.1, RowOk c.2) (μ := fun s => n - s.1) (s0 := (0, [], 0)) (⟨Nat.zero_le _, rfl, fun c hc => by cases hc⟩) (by exact ⟨rfl, rfl, rfl, rfl, trivial⟩) (by repeat (first | exact Sub.nil _ | (apply Sub.cons; (repeat (first | exact .here | apply Take.there))))) ?_
  rintro ⟨k, cal2, ob2⟩ ⟨hk1, hcl, hcr⟩
  dsimp only at hk1 hcl hcr ⊢
  refine WS.seq ?_
  refine WS.region EOk ?_
  refine WO.cons (OX.lt rfl rfl rfl rfl ?_)
  refine WO.nil ?_
  refine KQ.seq ?_
  refine WS.seq ?_
  first | refine WS.condD rfl (fun h9 => ?_) (fun h9 => ?_) | refine WS.condN rfl (fun h9 => ?_) (fun h9 => ?_) | refine WS.cond rfl (fun h9 => ?_) (fun h9 => ?_)
  ·
    obtain ⟨c, hx⟩ : ∃ c, cal[k]? = some c := ⟨cal[k]'(by omega), List.getElem?_eq_getElem (by omega)⟩
    have hcm : c ∈ cal := List.mem_of_getElem? hx
    refine WS.skip ?_
    refine KQ.seq ?_
    refine WS.seq ?_
    refine WS.block ?_
    refine WS.seq ?_
    refine WS.region EOk ?_
    refine WO.cons (OX.indexAddrN (z := 1) rfl rfl rfl rfl rfl (by omega) ?_)
    refine WO.cons (OX.load rfl rfl rfl (.m ho) (by show nthL (calV cal) (0 + k * 1) = _; rw [nthL_eq, Nat.zero_add, Nat.mul_one]; exact cal_at hx) ?_)
    refine WO.cons (OX.assign rfl rfl rfl ?_)
    refine WO.nil ?_
    refine KQ.seq ?_
    refine WS.region EOk ?_
    refine WO.cons (OX.move rfl rfl rfl ?_)
    refine WO.cons (OX.move rfl rfl rfl ?_)
    refine WO.cons (OX.call rfl rfl rfl ((clone_ok (tb := c.1) (o := 0) (n := 16) (cs := c.2.map iv) (us := c.2.map iv) (own := true) (takeAt_all _ (by simp [(hc c hcm).2.1])) (by omega) (iv_atoms _)).moreM (M := M) (fun p h => by rw [List.mem_singleton.1 h]; exact (hc c hcm).1)) (TakeS.perm (by repeat (first | exact TakeS.nil | (apply TakeS.cons; (repeat (first | exact .here | apply Take.there)))))) (by first | exact SubM.nil | exact SubM.self (fun _ h => h) | (repeat (first | exact SubM.nil | (apply SubM.cons; exact (by first | (refine .l ?_; (repeat first | exact .head _ | apply List.Mem.tail); done) | (refine .m ?_; (repeat first | exact .head _ | apply List.Mem.tail); done) | assumption))))) ?kk)
    case kk =>
      rintro _ _ ⟨rb, rfl, rfl⟩
      refine WO.cons (OX.buildSlice rfl rfl rfl rfl ((.cons .nil)) fun b15 => ?_)
      refine WO.cons (OX.grow (z := 1) (us := calV cal2) (es := [.slice (some ⟨rb, 0⟩) 16 1 none]) rfl rfl rfl rfl rfl (by first | (refine .l ?_; (repeat first | exact .head _ | apply List.Mem.tail); done) | (refine .m ?_; (repeat first | exact .head _ | apply List.Mem.tail); done) | assumption) rfl rfl (by rw [calV_len]; omega) (by omega) (by (first | exact List.perm_append_comm_assoc [] (gL ob2 (calV cal2) k) (calL cal2) | exact List.perm_append_comm_assoc [_] (gL ob2 (calV cal2) k) (calL cal2) | exact List.perm_append_comm_assoc [_, _] (gL ob2 (calV cal2) k) (calL cal2) | exact List.perm_append_comm_assoc [_, _, _] (gL ob2 (calV cal2) k) (calL cal2) | exact List.perm_append_comm_assoc [_, _, _, _] (gL ob2 (calV cal2) k) (calL cal2) | exact List.perm_append_comm_assoc [_, _, _, _, _] (gL ob2 (calV cal2) k) (calL cal2) | exact List.perm_append_comm_assoc [_, _, _, _, _, _] (gL ob2 (calV cal2) k) (calL cal2) | exact List.perm_append_comm_assoc [_, _, _, _, _, _, _] (gL ob2 (calV cal2) k) (calL cal2) | exact List.perm_append_comm_assoc [_, _, _, _, _, _, _, _] (gL ob2 (calV cal2) k) (calL cal2) | exact List.perm_append_comm_assoc [_, _, _, _, _, _, _, _, _] (gL ob2 (calV cal2) k) (calL cal2) | exact List.perm_append_comm_assoc [_, _, _, _, _, _, _, _, _, _] (gL ob2 (calV cal2) k) (calL cal2) | exact List.perm_append_comm_assoc [_, _, _, _, _, _, _, _, _, _, _] (gL ob2 (calV cal2) k) (calL cal2) | exact List.perm_append_comm_assoc [_, _, _, _, _, _, _, _, _, _, _, _] (gL ob2 (calV cal2) k) (calL cal2) | exact List.perm_append_comm_assoc [_, _, _, _, _, _, _, _, _, _, _, _, _] (gL ob2 (calV cal2) k) (calL cal2))) fun b16 _ => ?_)
      rw [calV_snoc cal2 rb c.2]
      refine WO.cons (OX.assign rfl rfl rfl ?_)
      refine WO.nil ?_
      refine KQ.blk ?_
      refine KQ.seq ?_
      refine WS.region EOk ?_
      refine WO.cons (OX.add rfl rfl rfl rfl (by omega) ?_)
      refine WO.cons (OX.move rfl rfl rfl ?_)
      refine WO.nil ?_
      refine KQ.done ?_
      refine LQ.nx (k + 1, cal2 ++ [(rb, c.2)], b16) ?_ ⟨rfl, rfl, rfl, rfl, trivial⟩ (by show n - (k + 1) < n - k; omega) ⟨by dsimp only; omega, by simp [hcl], fun c' hc' => ?_⟩
      · dsimp only
        rw [calL_snoc]
        exact (by repeat (first | exact Sub.refl _ | (apply Sub.cons; (repeat (first | exact .here | apply Take.there))) | apply Sub.drop | apply Sub.dropL))
      · rcases List.mem_append.1 hc' with hc' | hc'
        · exact hcr c' hc'
        · rw [List.mem_singleton.1 hc']; exact (hc c hcm).2
  ·
    refine WS.exit ?_
    refine KQ.seq_exit ?_
    refine KQ.done ?_
    refine LQ.exit ?_
    refine KQ.blk_here ?_
    refine KQ.seq ?_
    refine WS.seq ?_
    refine WS.region EOk ?_
    refine WO.cons (OX.move rfl rfl rfl ?_)
    refine WO.cons (OX.assign rfl rfl rfl ?_)
    refine WO.nil ?_
    refine KQ.seq ?_
    refine WS.ret ?_
    refine KQ.done ?_
    refine FQ.ret (.cons (.tmp rfl) (.nil)) ?_
    obtain ⟨k, rfl⟩ : ∃ k', k = k' + 1 := ⟨k - 1, by omega⟩
    obtain rfl : n = k + 1 := by omega
    exact ⟨(ob2, .cells (calV cal2) true) :: calL cal2, by repeat (first | exact Sub.refl _ | (apply Sub.cons; (repeat (first | exact .here | apply Take.there))) | apply Sub.drop | apply Sub.dropL), ob2, cal2, rfl, rfl, hcl, hcr⟩
end Go.Proofs.Ytgkmdkhhaapolaa
