/-
  PASSAGE, 7: what a calendar proves. Printed by spec6.py.
-/
import Derived.Test.YtgkmdkhhaapolaaPp2
namespace Go.Proofs.Ytgkmdkhhaapolaa
open Go.Am Go.Proofs
set_option maxRecDepth 40000
set_option maxHeartbeats 4000000
set_option linter.unusedVariables false
set_option linter.unusedSimpArgs false
theorem step_snoc {cal : List (Nat × List Int)} {ws : List Wy} {k j : Nat} {q : Nat} {w : Wy} (hk : ws[q]? = some w) (h : ∀ i w, i < q → ws[i]? = some w → w.src = k → Step cal k j w) (hw : Step cal k j w) (i : Nat) (w' : Wy) (hi : i < q + 1) (hw' : ws[i]? = some w') (hs : w'.src = k) : Step cal k j w' := by
  by_cases e : i = q
  · subst e; rw [hk] at hw'; cases hw'; exact hw
  · exact h i w' (by omega) hw' hs
theorem rows16 {M : CL} {cal : List (Nat × List Int)} {x : V} (hx : x ∈ calV cal) : FN P 26 ([] ++ [x] ++ []) [] M (fun v L' => v = .bool true ∧ L' = []) := by
  obtain ⟨c, hc, rfl⟩ := List.mem_map.1 hx
  exact (p1_ok.moreM (M := M) (fun p h => by cases h)).mono fun v L' hv => ⟨by rw [hv.1]; rfl, hv.2⟩
theorem rowsOk {M : CL} {cal : List (Nat × List Int)} (hcM : ∀ c ∈ cal, (c.1, .cells (c.2.map iv) true) ∈ M) (hr : ∀ c ∈ cal, RowOk c.2) {x : V} (hx : x ∈ calV cal) : FN P 27 ([] ++ [x] ++ []) [] M (fun v L' => v = .bool true ∧ L' = []) := by
  obtain ⟨c, hc, rfl⟩ := List.mem_map.1 hx
  exact p2_ok (hcM c hc) (hr c hc)
theorem proves_ok {posts post day papers to : Int} {ws : List Wy} {wa : Option Am.Loc} {m wz : Nat} {wcp : Option Nat} {M : CL} (hW : WaysOk M wa m wz wcp ws) (hp : 1 ≤ posts ∧ posts ≤ 10) (hl : ws.length ≤ 24) (hws : ∀ w ∈ ws, w.Ok posts) (hh : (0 ≤ post ∧ post < posts) ∧ (0 ≤ day ∧ day ≤ 1000) ∧ 0 ≤ papers ∧ papers ≤ 15) {ob n : Nat} {cp : Option Nat} {cal : List (Nat × List Int)} {own : Bool} (ho : (ob, .cells (calV cal) own) ∈ M) (hcM : ∀ c ∈ cal, (c.1, .cells (c.2.map iv) true) ∈ M) (hr : ∀ c ∈ cal, RowOk c.2) (hn : cal.length = n) (hnp : (n : Int) = posts) (hto : 0 ≤ to ∧ to < posts) : FN P 13 [.agg [iv posts, (.slice wa m wz wcp)], .agg [iv post, iv day, iv papers], .slice (some ⟨ob, 0⟩) n 1 cp, iv to] [] M (fun v L' => ∃ got e, v = .tup [iv got, err e] ∧ L' = [] ∧ (day < cget cal post papers → e = 9) ∧ (e = 9 ∨ e = 0 ∧ Valid ws posts post day papers (calF cal) ∧ ∀ s, 0 ≤ s ∧ s < 16 → got ≤ cget cal to s)) := by
  refine FN.forget ?_
  obtain ⟨pc, hpc1, hpc2, hpc3, hpc4⟩ := cal_row hn hr (p := post) (by omega)
  obtain ⟨hpc5, hpc6, hpc7⟩ := hpc4 papers (by omega)
  refine FN.intro EOk ENt rfl rfl rfl ?_
  refine WS.seq ?_
  refine WS.region EOk ?_
  refine WO.cons (OX.box rfl rfl rfl rfl fun b4 => ?_)
  refine WO.cons (OX.box rfl rfl rfl rfl fun b5 => ?_)
  refine WO.cons (OX.box rfl rfl rfl rfl fun b6 => ?_)
  refine WO.cons (OX.alloc rfl rfl rfl rfl ((.cons .nil)) fun b8 => ?_)
  refine WO.cons (OX.alloc rfl rfl rfl rfl ((.cons .nil)) fun b9 => ?_)
  refine WO.nil ?_
  refine KQ.seq ?_
  refine WS.seq ?_
  refine WS.region EOk ?_
  refine WO.cons (OX.loadG rfl rfl rfl (by first | (refine .l ?_; (repeat first | exact .head _ | apply List.Mem.tail); done) | (refine .m ?_; (repeat first | exact .head _ | apply List.Mem.tail); done) | assumption) rfl ((.cons (.cons .nil))) ?_)
  refine WO.cons (OX.loadG rfl rfl rfl (by first | (refine .l ?_; (repeat first | exact .head _ | apply List.Mem.tail); done) | (refine .m ?_; (repeat first | exact .head _ | apply List.Mem.tail); done) | assumption) rfl ((.cons (.cons (.cons .nil)))) ?_)
  refine WO.cons (OX.call rfl rfl rfl (herded_ok hW hp hl hws hh) (TakeS.perm (by repeat (first | exact TakeS.nil | (apply TakeS.cons; (repeat (first | exact .here | apply Take.there)))))) (by first | exact SubM.nil | exact SubM.self (fun _ h => h) | (repeat (first | exact SubM.nil | (apply SubM.cons; exact (by first | (refine .l ?_; (repeat first | exact .head _ | apply List.Mem.tail); done) | (refine .m ?_; (repeat first | exact .head _ | apply List.Mem.tail); done) | assumption))))) ?kk)
  case kk =>
    rintro _ _ ⟨rfl, rfl⟩
    refine WO.cons (OX.assign rfl rfl rfl ?_)
    refine WO.nil ?_
    refine KQ.seq ?_
    refine WS.seq ?_
    refine WS.block ?_
    refine WS.seq ?_
    refine WS.region EOk ?_
    refine WO.cons (OX.move rfl rfl rfl ?_)
    refine WO.cons (OX.ne rfl rfl rfl rfl ?_)
    refine WO.cons (OX.assign rfl rfl rfl ?_)
    refine WO.nil ?_
    refine KQ.seq ?_
    first | refine WS.condD rfl (fun h22 => ?_) (fun h22 => ?_) | refine WS.condN rfl (fun h22 => ?_) (fun h22 => ?_) | refine WS.cond rfl (fun h22 => ?_) (fun h22 => ?_)
    ·
      exact absurd h22 (by simp)
    ·
      refine WS.seq ?_
      refine WS.region EOk ?_
      refine WO.cons (OX.load rfl rfl rfl (by first | (refine .l ?_; (repeat first | exact .head _ | apply List.Mem.tail); done) | (refine .m ?_; (repeat first | exact .head _ | apply List.Mem.tail); done) | assumption) rfl ?_)
      refine WO.cons (OX.len rfl rfl rfl rfl ?_)
      refine WO.cons (OX.fieldAddr (r := 0) rfl rfl rfl rfl ?_)
      refine WO.cons (OX.load rfl rfl rfl (by first | (refine .l ?_; (repeat first | exact .head _ | apply List.Mem.tail); done) | (refine .m ?_; (repeat first | exact .head _ | apply List.Mem.tail); done) | assumption) rfl ?_)
      refine WO.cons (OX.ne rfl rfl rfl rfl ?_)
      refine WO.cons (OX.move rfl rfl rfl ?_)
      first | refine WO.askD (t := 32) rfl (fun h32 => ?_) (fun h32 => ?_) | refine WO.askN (t := 32) rfl (fun h32 => ?_) (fun h32 => ?_) | refine WO.ask (t := 32) rfl (fun h32 => ?_) (fun h32 => ?_)
      ·
        exfalso; omega
      ·
        refine WO.cons (OX.load rfl rfl rfl (by first | (refine .l ?_; (repeat first | exact .head _ | apply List.Mem.tail); done) | (refine .m ?_; (repeat first | exact .head _ | apply List.Mem.tail); done) | assumption) rfl ?_)
        refine WO.cons (OX.call rfl rfl rfl (allR_ok (M := M) (p := fun _ => true) rfl ho (by rw [calV_len]; exact hn) (by omega) (fun x hx => FN.toG (rows16 hx))) (TakeS.perm (by repeat (first | exact TakeS.nil | (apply TakeS.cons; (repeat (first | exact .here | apply Take.there)))))) (by first | exact SubM.nil | exact SubM.self (fun _ h => h) | (repeat (first | exact SubM.nil | (apply SubM.cons; exact (by first | (refine .l ?_; (repeat first | exact .head _ | apply List.Mem.tail); done) | (refine .m ?_; (repeat first | exact .head _ | apply List.Mem.tail); done) | assumption))))) ?kk)
        case kk =>
          rintro _ _ ⟨c, rfl, rfl, hc⟩
          have hce : c = true := hc.2 (fun _ _ => rfl)
          subst hce
          refine WO.cons (OX.not rfl rfl rfl ?_)
          refine WO.cons (OX.pickF rfl rfl rfl rfl ?_)
          refine WO.cons (OX.assign rfl rfl rfl ?_)
          refine WO.nil ?_
          refine KQ.seq ?_
          refine WS.condF rfl ?_
          refine WS.seq ?_
          refine WS.region EOk ?_
          refine WO.cons (OX.load rfl rfl rfl (by first | (refine .l ?_; (repeat first | exact .head _ | apply List.Mem.tail); done) | (refine .m ?_; (repeat first | exact .head _ | apply List.Mem.tail); done) | assumption) rfl ?_)
          refine WO.cons (OX.call rfl rfl rfl (allR_ok (M := M) (p := fun _ => true) rfl ho (by rw [calV_len]; exact hn) (by omega) (fun x hx => FN.toG (rowsOk hcM hr hx))) (TakeS.perm (by repeat (first | exact TakeS.nil | (apply TakeS.cons; (repeat (first | exact .here | apply Take.there)))))) (by first | exact SubM.nil | exact SubM.self (fun _ h => h) | (repeat (first | exact SubM.nil | (apply SubM.cons; exact (by first | (refine .l ?_; (repeat first | exact .head _ | apply List.Mem.tail); done) | (refine .m ?_; (repeat first | exact .head _ | apply List.Mem.tail); done) | assumption))))) ?kk)
          case kk =>
            rintro _ _ ⟨c, rfl, rfl, hc⟩
            have hce : c = true := hc.2 (fun _ _ => rfl)
            subst hce
            refine WO.cons (OX.not rfl rfl rfl ?_)
            refine WO.cons (OX.assign rfl rfl rfl ?_)
            refine WO.nil ?_
            refine KQ.seq ?_
            refine WS.condF rfl ?_
            refine WS.seq ?_
            refine WS.draw EOk (ancs := [0, 0, 2, 7, 15, 0, 32, 127, 255, 0, 512, 2047, 4095]) (ord := [0, 1, 2, 3, 4, 5, 6, 7, 8, 9, 10, 11, 12]) (by kernel_rfl) ?_
            refine WD.cons rfl (OX.load rfl rfl rfl (by first | (refine .l ?_; (repeat first | exact .head _ | apply List.Mem.tail); done) | (refine .m ?_; (repeat first | exact .head _ | apply List.Mem.tail); done) | assumption) rfl ⟨trivial, ?_⟩)
            refine WD.cons rfl (OX.fieldAddr (r := 0) rfl rfl rfl rfl ⟨⟨.inr trivial, trivial⟩, ?_⟩)
            refine WD.cons rfl (OX.load rfl rfl rfl (by first | (refine .l ?_; (repeat first | exact .head _ | apply List.Mem.tail); done) | (refine .m ?_; (repeat first | exact .head _ | apply List.Mem.tail); done) | assumption) rfl ⟨⟨.inr trivial, ⟨.inr trivial, trivial⟩⟩, ?_⟩)
            refine WD.cons rfl (OX.indexAddr (z := 1) rfl rfl rfl rfl rfl (by omega) ⟨⟨.inr trivial, ⟨.inr trivial, ⟨.inr trivial, trivial⟩⟩⟩, ?_⟩)
            refine WD.cons rfl (OX.load rfl rfl rfl (.m ho) (cal_ld hpc1) ⟨⟨.inr trivial, ⟨.inr trivial, ⟨.inr trivial, ⟨.inr trivial, trivial⟩⟩⟩⟩, ?_⟩)
            refine WD.cons rfl (OX.fieldAddr (r := 2) rfl rfl rfl rfl ⟨⟨.inr trivial, ⟨.inr trivial, ⟨.inr trivial, ⟨.inr trivial, ⟨.inr trivial, trivial⟩⟩⟩⟩⟩, ?_⟩)
            refine WD.cons rfl (OX.load rfl rfl rfl (by first | (refine .l ?_; (repeat first | exact .head _ | apply List.Mem.tail); done) | (refine .m ?_; (repeat first | exact .head _ | apply List.Mem.tail); done) | assumption) rfl ⟨⟨.inr trivial, ⟨.inr trivial, ⟨.inr trivial, ⟨.inr trivial, ⟨.inr trivial, ⟨.inr trivial, trivial⟩⟩⟩⟩⟩⟩, ?_⟩)
            refine WD.cons rfl (OX.indexAddr (z := 1) rfl rfl rfl rfl rfl (by omega) ⟨⟨.inr trivial, ⟨.inr trivial, ⟨.inr trivial, ⟨.inr trivial, ⟨.inr trivial, ⟨.inr trivial, ⟨.inr trivial, trivial⟩⟩⟩⟩⟩⟩⟩, ?_⟩)
            refine WD.cons rfl (OX.load rfl rfl rfl (.m (hcM pc hpc2)) (row_ld hpc5) ⟨⟨.inr trivial, ⟨.inr trivial, ⟨.inr trivial, ⟨.inr trivial, ⟨.inr trivial, ⟨.inr trivial, ⟨.inr trivial, ⟨.inr trivial, trivial⟩⟩⟩⟩⟩⟩⟩⟩, ?_⟩)
            refine WD.cons rfl (OX.fieldAddr (r := 1) rfl rfl rfl rfl ⟨⟨.inr trivial, ⟨.inr trivial, ⟨.inr trivial, ⟨.inr trivial, ⟨.inr trivial, ⟨.inr trivial, ⟨.inr trivial, ⟨.inr trivial, ⟨.inr trivial, trivial⟩⟩⟩⟩⟩⟩⟩⟩⟩, ?_⟩)
            refine WD.cons rfl (OX.load rfl rfl rfl (by first | (refine .l ?_; (repeat first | exact .head _ | apply List.Mem.tail); done) | (refine .m ?_; (repeat first | exact .head _ | apply List.Mem.tail); done) | assumption) rfl ⟨⟨.inr trivial, ⟨.inr trivial, ⟨.inr trivial, ⟨.inr trivial, ⟨.inr trivial, ⟨.inr trivial, ⟨.inr trivial, ⟨.inr trivial, ⟨.inr trivial, ⟨.inr trivial, trivial⟩⟩⟩⟩⟩⟩⟩⟩⟩⟩, ?_⟩)
            refine WD.cons rfl (OX.gt rfl rfl rfl rfl ⟨⟨.inr trivial, ⟨.inr trivial, ⟨.inr trivial, ⟨.inr trivial, ⟨.inr trivial, ⟨.inr trivial, ⟨.inr trivial, ⟨.inr trivial, ⟨.inr trivial, ⟨.inr trivial, ⟨.inr trivial, trivial⟩⟩⟩⟩⟩⟩⟩⟩⟩⟩⟩, ?_⟩)
            refine WD.cons rfl (OX.assign rfl rfl rfl ⟨⟨.inr trivial, ⟨.inr trivial, ⟨.inr trivial, ⟨.inr trivial, ⟨.inr trivial, ⟨.inr trivial, ⟨.inr trivial, ⟨.inr trivial, ⟨.inr trivial, ⟨.inr trivial, ⟨.inr trivial, ⟨.inr trivial, trivial⟩⟩⟩⟩⟩⟩⟩⟩⟩⟩⟩⟩, ?_⟩)
            refine WD.nil ?_
            refine KQ.seq ?_
            first | refine WS.condD rfl (fun h41 => ?_) (fun h41 => ?_) | refine WS.condN rfl (fun h41 => ?_) (fun h41 => ?_) | refine WS.cond rfl (fun h41 => ?_) (fun h41 => ?_)
            ·
              refine WS.seq ?_
              refine WS.region EOk ?_
              refine WO.cons (OX.storeL rfl rfl rfl rfl rfl rfl (by (repeat (first | exact .here | apply Take.there))) rfl ((.cons .nil)) ?_)
              refine WO.cons (OX.storeL rfl rfl rfl rfl rfl rfl (by (repeat (first | exact .here | apply Take.there))) rfl ((.cons .nil)) ?_)
              refine WO.nil ?_
              refine KQ.seq ?_
              refine WS.ret ?_
              refine KQ.blk_ret ?_
              refine KQ.seq_ret ?_
              refine KQ.done ?_
              refine FQ.ret (.cons (.cell rfl (by first | (refine .l ?_; (repeat first | exact .head _ | apply List.Mem.tail); done) | (refine .m ?_; (repeat first | exact .head _ | apply List.Mem.tail); done) | assumption) rfl) (.cons (.cell rfl (by first | (refine .l ?_; (repeat first | exact .head _ | apply List.Mem.tail); done) | (refine .m ?_; (repeat first | exact .head _ | apply List.Mem.tail); done) | assumption) rfl) (.nil))) ?_
              first
              | exact ⟨[], Sub.nil _, 0, 9, rfl, rfl, fun _ => rfl, .inl rfl⟩
              | exact ⟨[], Sub.nil _, mn, 0, rfl, rfl, fun h => absurd h h41, .inr ⟨rfl, valid_of hnp hr hws (by omega) (Int.not_lt.1 h41) (fun p s w h1 h2 h3 h4 => hk2 p s w (by omega) h2 h3 h4), fun s hs => hmn _ (List.mem_of_getElem? (htc4 s hs).1)⟩⟩
            ·
              refine WS.skip ?_
              refine KQ.blk ?_
              refine KQ.seq ?_
              refine WS.seq ?_
              refine WS.seq ?_
              refine WS.region EOk ?_
              refine WO.cons (OX.load rfl rfl rfl (by first | (refine .l ?_; (repeat first | exact .head _ | apply List.Mem.tail); done) | (refine .m ?_; (repeat first | exact .head _ | apply List.Mem.tail); done) | assumption) rfl ?_)
              refine WO.cons (OX.len rfl rfl rfl rfl ?_)
              refine WO.cons (OX.move rfl rfl rfl ?_)
              refine WO.nil ?_
              refine KQ.seq ?_
              refine WS.block ?_
              refine WS.loop (S := Nat) (FF := fun k => [(3, iv to), (4, .ptr (some ⟨b4, 0⟩)), (5, .ptr (some ⟨b5, 0⟩)), (6, .ptr (some ⟨b6, 0⟩)), (8, .ptr (some ⟨b8, 0⟩)), (9, .ptr (some ⟨b9, 0⟩)), (54, .slice (some ⟨ob, 0⟩) n 1 cp), (55, iv n), (56, iv k)]) (LL := fun k => [(b8, .cells [iv 0] true), (b9, .cells [iv 0] true), (b6, .cells [.slice (some ⟨ob, 0⟩) n 1 cp] true), (b5, .cells [iv post, iv day, iv papers] true), (b4, .cells [iv posts, (.slice wa m wz wcp)] true)]) (I := fun k => k ≤ n ∧ ∀ (p s : Nat) w, p < k → s < 16 → w ∈ ws → w.src = p → Step cal p s w) (μ := fun k => n - k) (s0 := 0) (⟨Nat.zero_le _, fun p s w h => absurd h (by omega)⟩) (by exact ⟨rfl, rfl, rfl, rfl, rfl, rfl, rfl, rfl, rfl, trivial⟩) (by repeat (first | exact Sub.nil _ | (apply Sub.cons; (repeat (first | exact .here | apply Take.there))))) ?_
              rintro k ⟨hk1, hk2⟩
              refine WS.seq ?_
              refine WS.region EOk ?_
              refine WO.cons (OX.lt rfl rfl rfl rfl ?_)
              refine WO.nil ?_
              refine KQ.seq ?_
              refine WS.seq ?_
              first | refine WS.condD rfl (fun h57 => ?_) (fun h57 => ?_) | refine WS.condN rfl (fun h57 => ?_) (fun h57 => ?_) | refine WS.cond rfl (fun h57 => ?_) (fun h57 => ?_)
              ·
                obtain ⟨kc, hkc1, hkc2, hkc3, hkc4⟩ := cal_row hn hr (p := (k : Int)) (by omega)
                rw [Int.toNat_natCast] at hkc1
                refine WS.skip ?_
                refine KQ.seq ?_
                refine WS.seq ?_
                refine WS.block ?_
                refine WS.seq ?_
                refine WS.region EOk ?_
                refine WO.cons (OX.move rfl rfl rfl ?_)
                refine WO.cons (OX.indexAddrN (z := 1) rfl rfl rfl rfl rfl (by omega) ?_)
                refine WO.cons (OX.load rfl rfl rfl (.m ho) (cal_ld hkc1) ?_)
                refine WO.cons (OX.alloc rfl rfl rfl rfl ((.cons .nil)) fun b11 => ?_)
                refine WO.cons (OX.storeL rfl rfl rfl rfl rfl rfl (by (repeat (first | exact .here | apply Take.there))) rfl ((.cons .nil)) ?_)
                refine WO.cons (OX.assign rfl rfl rfl ?_)
                refine WO.nil ?_
                refine KQ.seq ?_
                refine WS.seq ?_
                refine WS.region EOk ?_
                refine WO.cons (OX.move rfl rfl rfl ?_)
                refine WO.cons (OX.len rfl rfl rfl rfl ?_)
                refine WO.cons (OX.move rfl rfl rfl ?_)
                refine WO.nil ?_
                refine KQ.seq ?_
                refine WS.block ?_
                refine WS.loop (S := Nat) (FF := fun j => [(3, iv to), (4, .ptr (some ⟨b4, 0⟩)), (5, .ptr (some ⟨b5, 0⟩)), (6, .ptr (some ⟨b6, 0⟩)), (8, .ptr (some ⟨b8, 0⟩)), (9, .ptr (some ⟨b9, 0⟩)), (54, .slice (some ⟨ob, 0⟩) n 1 cp), (55, iv n), (56, iv k), (11, .ptr (some ⟨b11, 0⟩)), (61, .slice (some ⟨kc.1, 0⟩) 16 1 none), (62, iv 16), (63, iv j)]) (LL := fun j => [(b11, .cells [iv k] true), (b8, .cells [iv 0] true), (b9, .cells [iv 0] true), (b6, .cells [.slice (some ⟨ob, 0⟩) n 1 cp] true), (b5, .cells [iv post, iv day, iv papers] true), (b4, .cells [iv posts, (.slice wa m wz wcp)] true)]) (I := fun j => j ≤ 16 ∧ ∀ (s : Nat) w, s < j → w ∈ ws → w.src = k → Step cal k s w) (μ := fun j => 16 - j) (s0 := 0) (⟨Nat.zero_le _, fun s w h => absurd h (by omega)⟩) (by exact ⟨rfl, rfl, rfl, rfl, rfl, rfl, rfl, rfl, rfl, rfl, rfl, rfl, rfl, trivial⟩) (by repeat (first | exact Sub.nil _ | (apply Sub.cons; (repeat (first | exact .here | apply Take.there))))) ?_
                rintro j ⟨hj1, hj2⟩
                refine WS.seq ?_
                refine WS.region EOk ?_
                refine WO.cons (OX.lt rfl rfl rfl rfl ?_)
                refine WO.nil ?_
                refine KQ.seq ?_
                refine WS.seq ?_
                first | refine WS.condD rfl (fun h64 => ?_) (fun h64 => ?_) | refine WS.condN rfl (fun h64 => ?_) (fun h64 => ?_) | refine WS.cond rfl (fun h64 => ?_) (fun h64 => ?_)
                ·
                  obtain ⟨hj5, hj6, hj7⟩ := hkc4 (j : Int) (by omega)
                  rw [Int.toNat_natCast] at hj5
                  refine WS.skip ?_
                  refine KQ.seq ?_
                  refine WS.seq ?_
                  refine WS.block ?_
                  refine WS.seq ?_
                  refine WS.region EOk ?_
                  refine WO.cons (OX.move rfl rfl rfl ?_)
                  refine WO.cons (OX.indexAddrN (z := 1) rfl rfl rfl rfl rfl (by omega) ?_)
                  refine WO.cons (OX.load rfl rfl rfl (.m (hcM kc hkc2)) (row_ld hj5) ?_)
                  refine WO.cons (OX.alloc rfl rfl rfl rfl ((.cons .nil)) fun b13 => ?_)
                  refine WO.cons (OX.alloc rfl rfl rfl rfl ((.cons .nil)) fun b14 => ?_)
                  refine WO.cons (OX.storeL rfl rfl rfl rfl rfl rfl (by (repeat (first | exact .here | apply Take.there))) rfl ((.cons .nil)) ?_)
                  refine WO.cons (OX.storeL rfl rfl rfl rfl rfl rfl (by (repeat (first | exact .here | apply Take.there))) rfl ((.cons .nil)) ?_)
                  refine WO.nil ?_
                  refine KQ.seq ?_
                  refine WS.seq ?_
                  refine WS.region EOk ?_
                  refine WO.cons (OX.loadG rfl rfl rfl (by first | (refine .l ?_; (repeat first | exact .head _ | apply List.Mem.tail); done) | (refine .m ?_; (repeat first | exact .head _ | apply List.Mem.tail); done) | assumption) rfl ((.cons (.cons .nil))) ?_)
                  refine WO.cons (OX.load rfl rfl rfl (by first | (refine .l ?_; (repeat first | exact .head _ | apply List.Mem.tail); done) | (refine .m ?_; (repeat first | exact .head _ | apply List.Mem.tail); done) | assumption) rfl ?_)
                  refine WO.cons (OX.call rfl rfl rfl (leading_ok rfl) (TakeS.perm (by repeat (first | exact TakeS.nil | (apply TakeS.cons; (repeat (first | exact .here | apply Take.there)))))) (by first | exact SubM.nil | exact SubM.self (fun _ h => h) | (repeat (first | exact SubM.nil | (apply SubM.cons; exact (by first | (refine .l ?_; (repeat first | exact .head _ | apply List.Mem.tail); done) | (refine .m ?_; (repeat first | exact .head _ | apply List.Mem.tail); done) | assumption))))) ?kk)
                  case kk =>
                    rintro _ _ ⟨c2, c3, rfl, rfl⟩
                    refine WO.nil ?_
                    refine KQ.seq ?_
                    refine WS.block ?_
                    refine WS.range' rfl (fun f y asg bod hasg hbod hf => ?_)
                    refine FN.mono (FN.frame (L₁ := (y, .loop (cond false ⟨.done, some .ret, f, [71, 72], asg, bod⟩ ⟨.ready, none, f, [71, 72], asg, bod⟩)) :: [(b14, .cells [iv (cget cal k j)] true), (b13, .cells [iv j] true), (b11, .cells [iv k] true), (b8, .cells [iv 0] true), (b9, .cells [iv (cond false 9 0)] true), (b6, .cells [.slice (some ⟨ob, 0⟩) n 1 cp] true), (b5, .cells [iv post, iv day, iv papers] true), (b4, .cells [iv posts, (.slice wa m wz wcp)] true)]) (L₂ := [(c3, .cells [iv k] true), (c2, .cells [iv posts, (.slice wa m wz wcp)] true)]) (M₁ := (c2, .cells [iv posts, (.slice wa m wz wcp)] true) :: (c3, .cells [iv k] true) :: M) (leads_ok (S := Bool) (A := fun st => (y, .loop (cond st ⟨.done, some .ret, f, [71, 72], asg, bod⟩ ⟨.ready, none, f, [71, 72], asg, bod⟩)) :: [(b14, .cells [iv (cget cal k j)] true), (b13, .cells [iv j] true), (b11, .cells [iv k] true), (b8, .cells [iv 0] true), (b9, .cells [iv (cond st 9 0)] true), (b6, .cells [.slice (some ⟨ob, 0⟩) n 1 cp] true), (b5, .cells [iv post, iv day, iv papers] true), (b4, .cells [iv posts, (.slice wa m wz wcp)] true)]) (Inv := fun q st => st = false ∧ ∀ i w, i < q → ws[i]? = some w → w.src = k → Step cal k j w) (Stop := fun st => st = true) (hW.mono fun p h => List.mem_cons_of_mem _ (List.mem_cons_of_mem _ h)) (.head _) (.tail _ (.head _)) ?hy ?hn (s0 := false) ?h0 (by omega)) ?pp ?sm) ?post
                    case hn => intro q st w hI hk hne; exact ⟨hI.1, fun i w' hi hw' hs => by
                        by_cases e : i = q
                        · subst e; rw [hk] at hw'; cases hw'; exact absurd hs hne
                        · exact hI.2 i w' (by omega) hw' hs⟩
                    case h0 => exact ⟨rfl, fun i w hi => absurd hi (by omega)⟩
                    case pp => exact TakeS.perm (by repeat (first | exact TakeS.nil | (apply TakeS.cons; (repeat (first | exact .here | apply Take.there)))))
                    case sm => exact SubM.of (fun p h => by rcases List.mem_cons.1 h with rfl | h; exact .inl (.tail _ (.head _)); rcases List.mem_cons.1 h with rfl | h; exact .inl (.head _); exact .inr h)
                    case hy =>
                      rintro q st w ⟨rfl, hI⟩ hk hsrc
                      have hwm : w ∈ ws := List.mem_of_getElem? hk
                      obtain ⟨⟨w1, w2⟩, ⟨w3, w4⟩, w5, ⟨w6, w7⟩, w8, w8b, ⟨w9, w10⟩, ⟨w11, w12⟩, w13⟩ := hws w hwm
                      have hbr := bor_rng (a := (j : Int)) (b := w.gives) (by omega) (by omega)
                      obtain ⟨c2r, hd1, hd2, hd3, hd4⟩ := cal_row hn hr (p := w.dst) (by omega)
                      obtain ⟨hd5, hd6, hd7⟩ := hd4 _ hbr
                      refine GN.forget (GN.yld hf rfl rfl (WS.as hasg ?_))
                      refine WS.region EOk ?_
                      refine WO.cons (OX.alloc rfl rfl rfl rfl ((.cons (.cons (.cons (.cons (.cons (.cons (.cons (.cons .nil))))))))) fun b16 => ?_)
                      refine WO.cons (OX.storeL rfl rfl rfl rfl rfl rfl (by (repeat (first | exact .here | apply Take.there))) rfl ((.cons (.cons (.cons (.cons (.cons (.cons (.cons (.cons .nil))))))))) ?_)
                      refine WO.nil ?_
                      refine KQ.done (YQ.go (WS.as hbod ?_))
                      refine WS.block ?_
                      refine WS.seq ?_
                      refine WS.region EOk ?_
                      refine WO.cons (OX.loadG rfl rfl rfl (by first | (refine .l ?_; (repeat first | exact .head _ | apply List.Mem.tail); done) | (refine .m ?_; (repeat first | exact .head _ | apply List.Mem.tail); done) | assumption) rfl ((.cons (.cons (.cons (.cons (.cons (.cons (.cons (.cons .nil))))))))) ?_)
                      refine WO.cons (OX.load rfl rfl rfl (by first | (refine .l ?_; (repeat first | exact .head _ | apply List.Mem.tail); done) | (refine .m ?_; (repeat first | exact .head _ | apply List.Mem.tail); done) | assumption) rfl ?_)
                      refine WO.cons (OX.load rfl rfl rfl (by first | (refine .l ?_; (repeat first | exact .head _ | apply List.Mem.tail); done) | (refine .m ?_; (repeat first | exact .head _ | apply List.Mem.tail); done) | assumption) rfl ?_)
                      refine WO.cons (OX.load rfl rfl rfl (by first | (refine .l ?_; (repeat first | exact .head _ | apply List.Mem.tail); done) | (refine .m ?_; (repeat first | exact .head _ | apply List.Mem.tail); done) | assumption) rfl ?_)
                      refine WO.cons (OX.build rfl rfl rfl rfl ((.cons (.cons (.cons .nil)))) ?_)
                      refine WO.cons (OX.call rfl rfl rfl (gone_ok w (by omega) (by omega)) (TakeS.perm (by repeat (first | exact TakeS.nil | (apply TakeS.cons; (repeat (first | exact .here | apply Take.there)))))) (by first | exact SubM.nil | exact SubM.self (fun _ h => h) | (repeat (first | exact SubM.nil | (apply SubM.cons; exact (by first | (refine .l ?_; (repeat first | exact .head _ | apply List.Mem.tail); done) | (refine .m ?_; (repeat first | exact .head _ | apply List.Mem.tail); done) | assumption))))) ?kk)
                      case kk =>
                        rintro _ _ ⟨c, rfl, hcan, rfl⟩
                        refine WO.cons (OX.move rfl rfl rfl ?_)
                        refine WO.cons (OX.extract rfl rfl rfl rfl ?_)
                        refine WO.cons (OX.extract rfl rfl rfl rfl ?_)
                        refine WO.cons (OX.alloc rfl rfl rfl rfl ((.cons (.cons (.cons .nil)))) fun b17 => ?_)
                        refine WO.cons (OX.storeL rfl rfl rfl rfl rfl rfl (by (repeat (first | exact .here | apply Take.there))) rfl ((.cons (.cons (.cons .nil)))) ?_)
                        refine WO.cons (OX.assign rfl rfl rfl ?_)
                        refine WO.nil ?_
                        refine KQ.seq ?_
                        refine WS.seq ?_
                        refine WS.draw EOk (ancs := [0, 1, 3, 3, 11, 31, 63, 3, 131, 511, 1023, 3, 2051, 8191, 16383]) (ord := [0, 1, 2, 3, 4, 5, 6, 7, 8, 9, 10, 11, 12, 13, 14]) (by kernel_rfl) ?_
                        refine WD.cons rfl (OX.move rfl rfl rfl ⟨trivial, ?_⟩)
                        refine WD.cons rfl (OX.move rfl rfl rfl ⟨⟨.inr trivial, trivial⟩, ?_⟩)
                        first | refine WD.askD (t := 83) rfl (fun h83 => ?_) (fun h83 => ?_) | refine WD.askN (t := 83) rfl (fun h83 => ?_) (fun h83 => ?_) | refine WD.ask (t := 83) rfl (fun h83 => ?_) (fun h83 => ?_)
                        ·
                          refine WD.cons rfl (OX.load rfl rfl rfl (by first | (refine .l ?_; (repeat first | exact .head _ | apply List.Mem.tail); done) | (refine .m ?_; (repeat first | exact .head _ | apply List.Mem.tail); done) | assumption) rfl ⟨⟨.inr trivial, ⟨.inr trivial, trivial⟩⟩, ?_⟩)
                          refine WD.cons rfl (OX.fieldAddr (r := 0) rfl rfl rfl rfl ⟨⟨.inr trivial, ⟨.inr trivial, ⟨.inr trivial, trivial⟩⟩⟩, ?_⟩)
                          refine WD.cons rfl (OX.load rfl rfl rfl (by first | (refine .l ?_; (repeat first | exact .head _ | apply List.Mem.tail); done) | (refine .m ?_; (repeat first | exact .head _ | apply List.Mem.tail); done) | assumption) rfl ⟨⟨.inr trivial, ⟨.inr trivial, ⟨.inr trivial, ⟨.inr trivial, trivial⟩⟩⟩⟩, ?_⟩)
                          refine WD.cons rfl (OX.indexAddr (z := 1) rfl rfl rfl rfl rfl (by omega) ⟨⟨.inr trivial, ⟨.inr trivial, ⟨.inr trivial, ⟨.inr trivial, ⟨.inr trivial, trivial⟩⟩⟩⟩⟩, ?_⟩)
                          refine WD.cons rfl (OX.load rfl rfl rfl (.m (.tail _ (.tail _ ho))) (cal_ld hd1) ⟨⟨.inr trivial, ⟨.inr trivial, ⟨.inr trivial, ⟨.inr trivial, ⟨.inr trivial, ⟨.inr trivial, trivial⟩⟩⟩⟩⟩⟩, ?_⟩)
                          refine WD.cons rfl (OX.fieldAddr (r := 2) rfl rfl rfl rfl ⟨⟨.inr trivial, ⟨.inr trivial, ⟨.inr trivial, ⟨.inr trivial, ⟨.inr trivial, ⟨.inr trivial, ⟨.inr trivial, trivial⟩⟩⟩⟩⟩⟩⟩, ?_⟩)
                          refine WD.cons rfl (OX.load rfl rfl rfl (by first | (refine .l ?_; (repeat first | exact .head _ | apply List.Mem.tail); done) | (refine .m ?_; (repeat first | exact .head _ | apply List.Mem.tail); done) | assumption) rfl ⟨⟨.inr trivial, ⟨.inr trivial, ⟨.inr trivial, ⟨.inr trivial, ⟨.inr trivial, ⟨.inr trivial, ⟨.inr trivial, ⟨.inr trivial, trivial⟩⟩⟩⟩⟩⟩⟩⟩, ?_⟩)
                          refine WD.cons rfl (OX.indexAddr (z := 1) rfl rfl rfl rfl rfl (by omega) ⟨⟨.inr trivial, ⟨.inr trivial, ⟨.inr trivial, ⟨.inr trivial, ⟨.inr trivial, ⟨.inr trivial, ⟨.inr trivial, ⟨.inr trivial, ⟨.inr trivial, trivial⟩⟩⟩⟩⟩⟩⟩⟩⟩, ?_⟩)
                          refine WD.cons rfl (OX.load rfl rfl rfl (.m (.tail _ (.tail _ (hcM c2r hd2)))) (row_ld hd5) ⟨⟨.inr trivial, ⟨.inr trivial, ⟨.inr trivial, ⟨.inr trivial, ⟨.inr trivial, ⟨.inr trivial, ⟨.inr trivial, ⟨.inr trivial, ⟨.inr trivial, ⟨.inr trivial, trivial⟩⟩⟩⟩⟩⟩⟩⟩⟩⟩, ?_⟩)
                          refine WD.cons rfl (OX.fieldAddr (r := 1) rfl rfl rfl rfl ⟨⟨.inr trivial, ⟨.inr trivial, ⟨.inr trivial, ⟨.inr trivial, ⟨.inr trivial, ⟨.inr trivial, ⟨.inr trivial, ⟨.inr trivial, ⟨.inr trivial, ⟨.inr trivial, ⟨.inr trivial, trivial⟩⟩⟩⟩⟩⟩⟩⟩⟩⟩⟩, ?_⟩)
                          refine WD.cons rfl (OX.load rfl rfl rfl (by first | (refine .l ?_; (repeat first | exact .head _ | apply List.Mem.tail); done) | (refine .m ?_; (repeat first | exact .head _ | apply List.Mem.tail); done) | assumption) rfl ⟨⟨.inr trivial, ⟨.inr trivial, ⟨.inr trivial, ⟨.inr trivial, ⟨.inr trivial, ⟨.inr trivial, ⟨.inr trivial, ⟨.inr trivial, ⟨.inr trivial, ⟨.inr trivial, ⟨.inr trivial, ⟨.inr trivial, trivial⟩⟩⟩⟩⟩⟩⟩⟩⟩⟩⟩⟩, ?_⟩)
                          refine WD.cons rfl (OX.gt rfl rfl rfl rfl ⟨⟨.inr trivial, ⟨.inr trivial, ⟨.inr trivial, ⟨.inr trivial, ⟨.inr trivial, ⟨.inr trivial, ⟨.inr trivial, ⟨.inr trivial, ⟨.inr trivial, ⟨.inr trivial, ⟨.inr trivial, ⟨.inr trivial, ⟨.inr trivial, trivial⟩⟩⟩⟩⟩⟩⟩⟩⟩⟩⟩⟩⟩, ?_⟩)
                          refine WD.cons rfl (OX.pickT rfl rfl rfl rfl ⟨⟨.inr trivial, ⟨.inr trivial, ⟨.inr trivial, ⟨.inr trivial, ⟨.inr trivial, ⟨.inr trivial, ⟨.inr trivial, ⟨.inr trivial, ⟨.inr trivial, ⟨.inr trivial, ⟨.inr trivial, ⟨.inr trivial, ⟨.inr trivial, ⟨.inr trivial, trivial⟩⟩⟩⟩⟩⟩⟩⟩⟩⟩⟩⟩⟩⟩, ?_⟩)
                          refine WD.nil ?_
                          refine KQ.seq ?_
                          first | refine WS.condD rfl (fun h96 => ?_) (fun h96 => ?_) | refine WS.condN rfl (fun h96 => ?_) (fun h96 => ?_) | refine WS.cond rfl (fun h96 => ?_) (fun h96 => ?_)
                          ·
                            refine WS.seq ?_
                            refine WS.region EOk ?_
                            refine WO.cons (OX.storeL rfl rfl rfl rfl rfl rfl (by (repeat (first | exact .here | apply Take.there))) rfl ((.cons .nil)) ?_)
                            refine WO.cons (OX.storeL rfl rfl rfl rfl rfl rfl (by (repeat (first | exact .here | apply Take.there))) rfl ((.cons .nil)) ?_)
                            refine WO.nil ?_
                            refine KQ.seq ?_
                            refine WS.ret ?_
                            refine KQ.blk_ret ?_
                            refine KQ.done ?_
                            exact ⟨(y, .loop (cond true ⟨.done, some .ret, f, [71, 72], asg, bod⟩ ⟨.ready, none, f, [71, 72], asg, bod⟩)) :: [(b14, .cells [iv (cget cal k j)] true), (b13, .cells [iv j] true), (b11, .cells [iv k] true), (b8, .cells [iv 0] true), (b9, .cells [iv (cond true 9 0)] true), (b6, .cells [.slice (some ⟨ob, 0⟩) n 1 cp] true), (b5, .cells [iv post, iv day, iv papers] true), (b4, .cells [iv posts, (.slice wa m wz wcp)] true)], by repeat (first | exact Sub.nil _ | (apply Sub.cons; (repeat (first | exact .here | apply Take.there)))), false, true, rfl, rfl, (fun h => by cases h), fun _ => rfl⟩
                          ·
                            refine WS.skip ?_
                            refine KQ.blk ?_
                            refine KQ.done ?_
                            exact ⟨(y, .loop (cond false ⟨.done, some .ret, f, [71, 72], asg, bod⟩ ⟨.ready, none, f, [71, 72], asg, bod⟩)) :: [(b14, .cells [iv (cget cal k j)] true), (b13, .cells [iv j] true), (b11, .cells [iv k] true), (b8, .cells [iv 0] true), (b9, .cells [iv (cond false 9 0)] true), (b6, .cells [.slice (some ⟨ob, 0⟩) n 1 cp] true), (b5, .cells [iv post, iv day, iv papers] true), (b4, .cells [iv posts, (.slice wa m wz wcp)] true)], by repeat (first | exact Sub.nil _ | (apply Sub.cons; (repeat (first | exact .here | apply Take.there)))), true, false, rfl, rfl, (fun _ => ⟨rfl, fun i w' hi hw' hs => step_snoc hk hI (fun hg => Int.not_lt.1 h96) i w' hi hw' hs⟩), fun h => by cases h⟩
                        ·
                          have hno : ¬ CanGo w k (cget cal k j) j := fun hg => by rw [hcan.2 hg] at h83; cases h83
                          refine WD.cons rfl (OX.pass rfl rfl ⟨⟨.inr trivial, ⟨.inr trivial, trivial⟩⟩, ?_⟩)
                          refine WD.cons rfl (OX.pass rfl rfl ⟨⟨.inr trivial, ⟨.inr trivial, ⟨.inr trivial, trivial⟩⟩⟩, ?_⟩)
                          refine WD.cons rfl (OX.pass rfl rfl ⟨⟨.inr trivial, ⟨.inr trivial, ⟨.inr trivial, ⟨.inr trivial, trivial⟩⟩⟩⟩, ?_⟩)
                          refine WD.cons rfl (OX.pass rfl rfl ⟨⟨.inr trivial, ⟨.inr trivial, ⟨.inr trivial, ⟨.inr trivial, ⟨.inr trivial, trivial⟩⟩⟩⟩⟩, ?_⟩)
                          refine WD.cons rfl (OX.pass rfl rfl ⟨⟨.inr trivial, ⟨.inr trivial, ⟨.inr trivial, ⟨.inr trivial, ⟨.inr trivial, ⟨.inr trivial, trivial⟩⟩⟩⟩⟩⟩, ?_⟩)
                          refine WD.cons rfl (OX.pass rfl rfl ⟨⟨.inr trivial, ⟨.inr trivial, ⟨.inr trivial, ⟨.inr trivial, ⟨.inr trivial, ⟨.inr trivial, ⟨.inr trivial, trivial⟩⟩⟩⟩⟩⟩⟩, ?_⟩)
                          refine WD.cons rfl (OX.pass rfl rfl ⟨⟨.inr trivial, ⟨.inr trivial, ⟨.inr trivial, ⟨.inr trivial, ⟨.inr trivial, ⟨.inr trivial, ⟨.inr trivial, ⟨.inr trivial, trivial⟩⟩⟩⟩⟩⟩⟩⟩, ?_⟩)
                          refine WD.cons rfl (OX.pass rfl rfl ⟨⟨.inr trivial, ⟨.inr trivial, ⟨.inr trivial, ⟨.inr trivial, ⟨.inr trivial, ⟨.inr trivial, ⟨.inr trivial, ⟨.inr trivial, ⟨.inr trivial, trivial⟩⟩⟩⟩⟩⟩⟩⟩⟩, ?_⟩)
                          refine WD.cons rfl (OX.pass rfl rfl ⟨⟨.inr trivial, ⟨.inr trivial, ⟨.inr trivial, ⟨.inr trivial, ⟨.inr trivial, ⟨.inr trivial, ⟨.inr trivial, ⟨.inr trivial, ⟨.inr trivial, ⟨.inr trivial, trivial⟩⟩⟩⟩⟩⟩⟩⟩⟩⟩, ?_⟩)
                          refine WD.cons rfl (OX.pass rfl rfl ⟨⟨.inr trivial, ⟨.inr trivial, ⟨.inr trivial, ⟨.inr trivial, ⟨.inr trivial, ⟨.inr trivial, ⟨.inr trivial, ⟨.inr trivial, ⟨.inr trivial, ⟨.inr trivial, ⟨.inr trivial, trivial⟩⟩⟩⟩⟩⟩⟩⟩⟩⟩⟩, ?_⟩)
                          refine WD.cons rfl (OX.pass rfl rfl ⟨⟨.inr trivial, ⟨.inr trivial, ⟨.inr trivial, ⟨.inr trivial, ⟨.inr trivial, ⟨.inr trivial, ⟨.inr trivial, ⟨.inr trivial, ⟨.inr trivial, ⟨.inr trivial, ⟨.inr trivial, ⟨.inr trivial, trivial⟩⟩⟩⟩⟩⟩⟩⟩⟩⟩⟩⟩, ?_⟩)
                          refine WD.cons rfl (OX.pass rfl rfl ⟨⟨.inr trivial, ⟨.inr trivial, ⟨.inr trivial, ⟨.inr trivial, ⟨.inr trivial, ⟨.inr trivial, ⟨.inr trivial, ⟨.inr trivial, ⟨.inr trivial, ⟨.inr trivial, ⟨.inr trivial, ⟨.inr trivial, ⟨.inr trivial, trivial⟩⟩⟩⟩⟩⟩⟩⟩⟩⟩⟩⟩⟩, ?_⟩)
                          refine WD.cons rfl (OX.pickF rfl rfl rfl rfl ⟨⟨.inr trivial, ⟨.inr trivial, ⟨.inr trivial, ⟨.inr trivial, ⟨.inr trivial, ⟨.inr trivial, ⟨.inr trivial, ⟨.inr trivial, ⟨.inr trivial, ⟨.inr trivial, ⟨.inr trivial, ⟨.inr trivial, ⟨.inr trivial, ⟨.inr trivial, trivial⟩⟩⟩⟩⟩⟩⟩⟩⟩⟩⟩⟩⟩⟩, ?_⟩)
                          refine WD.nil ?_
                          refine KQ.seq ?_
                          refine WS.condF rfl ?_
                          refine WS.skip ?_
                          refine KQ.blk ?_
                          refine KQ.done ?_
                          exact ⟨(y, .loop (cond false ⟨.done, some .ret, f, [71, 72], asg, bod⟩ ⟨.ready, none, f, [71, 72], asg, bod⟩)) :: [(b14, .cells [iv (cget cal k j)] true), (b13, .cells [iv j] true), (b11, .cells [iv k] true), (b8, .cells [iv 0] true), (b9, .cells [iv (cond false 9 0)] true), (b6, .cells [.slice (some ⟨ob, 0⟩) n 1 cp] true), (b5, .cells [iv post, iv day, iv papers] true), (b4, .cells [iv posts, (.slice wa m wz wcp)] true)], by repeat (first | exact Sub.nil _ | (apply Sub.cons; (repeat (first | exact .here | apply Take.there)))), true, false, rfl, rfl, (fun _ => ⟨rfl, fun i w' hi hw' hs => step_snoc hk hI (fun hg => (hno hg).elim) i w' hi hw' hs⟩), fun h => by cases h⟩
                    case post =>
                      rintro _ _ ⟨_, ⟨st, rfl, ⟨rfl, hI⟩ | rfl⟩, rfl⟩
                      · refine ⟨_, .normal, _, .here, (fun h => by cases h), rfl, ?_⟩
                        refine KQ.blk ?_
                        refine KQ.blk ?_
                        refine KQ.seq ?_
                        refine WS.region EOk ?_
                        refine WO.cons (OX.add rfl rfl rfl rfl (by omega) ?_)
                        refine WO.cons (OX.move rfl rfl rfl ?_)
                        refine WO.nil ?_
                        refine KQ.done ?_
                        exact LQ.nx (j + 1) (by repeat (first | exact Sub.nil _ | (apply Sub.cons; (repeat (first | exact .here | apply Take.there))))) ⟨rfl, rfl, rfl, rfl, rfl, rfl, rfl, rfl, rfl, rfl, rfl, rfl, rfl, trivial⟩ (by omega) ⟨by omega, fun s w h1 h3 h4 => by
                                                            by_cases e : s = j
                                                            · subst e; obtain ⟨i, hi⟩ := List.mem_iff_getElem?.1 h3; exact hI i w (List.getElem?_eq_some_iff.1 hi).1 hi h4
                                                            · exact hj2 s w (by omega) h3 h4⟩
                      · refine ⟨_, .ret, _, .here, (fun h => by cases h), rfl, ?_⟩
                        refine KQ.blk_ret ?_
                        refine KQ.blk_ret ?_
                        refine KQ.seq_ret ?_
                        refine KQ.done ?_
                        refine LQ.ret ?_
                        refine KQ.blk_ret ?_
                        refine KQ.blk_ret ?_
                        refine KQ.seq_ret ?_
                        refine KQ.done ?_
                        refine LQ.ret ?_
                        refine KQ.blk_ret ?_
                        refine KQ.seq_ret ?_
                        refine KQ.done ?_
                        refine FQ.ret (.cons (.cell rfl (by first | (refine .l ?_; (repeat first | exact .head _ | apply List.Mem.tail); done) | (refine .m ?_; (repeat first | exact .head _ | apply List.Mem.tail); done) | assumption) rfl) (.cons (.cell rfl (by first | (refine .l ?_; (repeat first | exact .head _ | apply List.Mem.tail); done) | (refine .m ?_; (repeat first | exact .head _ | apply List.Mem.tail); done) | assumption) rfl) (.nil))) ?_
                        first
                        | exact ⟨[], Sub.nil _, 0, 9, rfl, rfl, fun _ => rfl, .inl rfl⟩
                        | exact ⟨[], Sub.nil _, mn, 0, rfl, rfl, fun h => absurd h h41, .inr ⟨rfl, valid_of hnp hr hws (by omega) (Int.not_lt.1 h41) (fun p s w h1 h2 h3 h4 => hk2 p s w (by omega) h2 h3 h4), fun s hs => hmn _ (List.mem_of_getElem? (htc4 s hs).1)⟩⟩
                ·
                  refine WS.exit ?_
                  refine KQ.seq_exit ?_
                  refine KQ.done ?_
                  refine LQ.exit ?_
                  refine KQ.blk_here ?_
                  refine KQ.blk ?_
                  refine KQ.seq ?_
                  refine WS.region EOk ?_
                  refine WO.cons (OX.add rfl rfl rfl rfl (by omega) ?_)
                  refine WO.cons (OX.move rfl rfl rfl ?_)
                  refine WO.nil ?_
                  refine KQ.done ?_
                  exact LQ.nx (k + 1) (by repeat (first | exact Sub.nil _ | (apply Sub.cons; (repeat (first | exact .here | apply Take.there))))) ⟨rfl, rfl, rfl, rfl, rfl, rfl, rfl, rfl, rfl, trivial⟩ (by omega) ⟨by omega, fun p s w h1 h2 h3 h4 => by
                                                            by_cases e : p = k
                                                            · subst e; exact hj2 s w (by omega) h3 h4
                                                            · exact hk2 p s w (by omega) h2 h3 h4⟩
              ·
                refine WS.exit ?_
                refine KQ.seq_exit ?_
                refine KQ.done ?_
                refine LQ.exit ?_
                refine KQ.blk_here ?_
                refine KQ.seq ?_
                refine WS.seq ?_
                refine WS.seq ?_
                refine WS.region EOk ?_
                refine WO.cons (OX.loadG rfl rfl rfl (by first | (refine .l ?_; (repeat first | exact .head _ | apply List.Mem.tail); done) | (refine .m ?_; (repeat first | exact .head _ | apply List.Mem.tail); done) | assumption) rfl ((.cons (.cons .nil))) ?_)
                refine WO.cons (OX.move rfl rfl rfl ?_)
                refine WO.cons (OX.call rfl rfl rfl (posted_ok rfl (by omega)) (TakeS.perm (by repeat (first | exact TakeS.nil | (apply TakeS.cons; (repeat (first | exact .here | apply Take.there)))))) (by first | exact SubM.nil | exact SubM.self (fun _ h => h) | (repeat (first | exact SubM.nil | (apply SubM.cons; exact (by first | (refine .l ?_; (repeat first | exact .head _ | apply List.Mem.tail); done) | (refine .m ?_; (repeat first | exact .head _ | apply List.Mem.tail); done) | assumption))))) ?kk)
                case kk =>
                  rintro _ _ ⟨rfl, rfl⟩
                  refine WO.cons (OX.not rfl rfl rfl ?_)
                  refine WO.nil ?_
                  refine KQ.seq ?_
                  first | refine WS.condD rfl (fun h102 => ?_) (fun h102 => ?_) | refine WS.condN rfl (fun h102 => ?_) (fun h102 => ?_) | refine WS.cond rfl (fun h102 => ?_) (fun h102 => ?_)
                  ·
                    exfalso; omega
                  ·
                    refine WS.skip ?_
                    refine KQ.seq ?_
                    refine WS.seq ?_
                    obtain ⟨tc, htc1, htc2, htc3, htc4⟩ := cal_row hn hr (p := to) (by omega)
                    refine WS.region EOk ?_
                    refine WO.cons (OX.load rfl rfl rfl (by first | (refine .l ?_; (repeat first | exact .head _ | apply List.Mem.tail); done) | (refine .m ?_; (repeat first | exact .head _ | apply List.Mem.tail); done) | assumption) rfl ?_)
                    refine WO.cons (OX.move rfl rfl rfl ?_)
                    refine WO.cons (OX.indexAddr (z := 1) rfl rfl rfl rfl rfl (by omega) ?_)
                    refine WO.cons (OX.load rfl rfl rfl (.m ho) (cal_ld htc1) ?_)
                    refine WO.cons (OX.call rfl rfl rfl (min_ok (hcM tc htc2) htc3) (TakeS.perm (by repeat (first | exact TakeS.nil | (apply TakeS.cons; (repeat (first | exact .here | apply Take.there)))))) (by first | exact SubM.nil | exact SubM.self (fun _ h => h) | (repeat (first | exact SubM.nil | (apply SubM.cons; exact (by first | (refine .l ?_; (repeat first | exact .head _ | apply List.Mem.tail); done) | (refine .m ?_; (repeat first | exact .head _ | apply List.Mem.tail); done) | assumption))))) ?kk)
                    case kk =>
                      rintro _ _ ⟨mn, rfl, rfl, hmn⟩
                      refine WO.cons (OX.storeL rfl rfl rfl rfl rfl rfl (by (repeat (first | exact .here | apply Take.there))) rfl ((.cons .nil)) ?_)
                      refine WO.cons (OX.storeL rfl rfl rfl rfl rfl rfl (by (repeat (first | exact .here | apply Take.there))) rfl ((.cons .nil)) ?_)
                      refine WO.nil ?_
                      refine KQ.seq ?_
                      refine WS.ret ?_
                      refine KQ.done ?_
                      refine FQ.ret (.cons (.cell rfl (by first | (refine .l ?_; (repeat first | exact .head _ | apply List.Mem.tail); done) | (refine .m ?_; (repeat first | exact .head _ | apply List.Mem.tail); done) | assumption) rfl) (.cons (.cell rfl (by first | (refine .l ?_; (repeat first | exact .head _ | apply List.Mem.tail); done) | (refine .m ?_; (repeat first | exact .head _ | apply List.Mem.tail); done) | assumption) rfl) (.nil))) ?_
                      first
                      | exact ⟨[], Sub.nil _, 0, 9, rfl, rfl, fun _ => rfl, .inl rfl⟩
                      | exact ⟨[], Sub.nil _, mn, 0, rfl, rfl, fun h => absurd h h41, .inr ⟨rfl, valid_of hnp hr hws (by omega) (Int.not_lt.1 h41) (fun p s w h1 h2 h3 h4 => hk2 p s w (by omega) h2 h3 h4), fun s hs => hmn _ (List.mem_of_getElem? (htc4 s hs).1)⟩⟩
end Go.Proofs.Ytgkmdkhhaapolaa
