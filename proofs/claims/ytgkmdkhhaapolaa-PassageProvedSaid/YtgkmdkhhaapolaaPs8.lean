/-
  PASSAGE, 8: no calendar that holds proves more than the earliest day. Printed by spec7.py.
-/
import Derived.Test.YtgkmdkhhaapolaaPp3
namespace Go.Proofs.Ytgkmdkhhaapolaa
open Go.Am Go.Proofs
set_option maxRecDepth 40000
set_option maxHeartbeats 8000000
set_option linter.unusedVariables false
set_option linter.unusedSimpArgs false
theorem main_ok {M : CL} {cv1 cv2 : V} (hc1 : CardsOk M cv1) (hc2 : CardsOk M cv2) (hawk : FN P 14 [] [] [] fun v L' => v = .bool true ∧ L' = []) : FN P 3 [cv1, cv2] [] M (fun v L' => v = .bool true ∧ L' = []) := by
  refine FN.forget ?_
  refine FN.intro EOk ENt rfl rfl rfl ?_
  refine WS.seq ?_
  refine WS.region EOk ?_
  refine WO.cons (OX.assign rfl rfl rfl ?_)
  refine WO.nil ?_
  refine KQ.seq ?_
  refine WS.seq ?_
  refine WS.region EOk ?_
  refine WO.cons (OX.move rfl rfl rfl ?_)
  refine WO.cons (OX.call rfl rfl rfl (of_ok hc1) (TakeS.perm (by repeat (first | exact TakeS.nil | (apply TakeS.cons; (repeat (first | exact .here | apply Take.there)))))) (by first | exact SubM.nil | exact SubM.self (fun _ h => h) | (repeat (first | exact SubM.nil | (apply SubM.cons; exact (by first | (refine .l ?_; (repeat first | exact .head _ | apply List.Mem.tail); done) | (refine .m ?_; (repeat first | exact .head _ | apply List.Mem.tail); done) | assumption))))) ?kk)
  case kk =>
    rintro _ _ ⟨d19, rfl, rfl⟩
    refine WO.cons (OX.assign rfl rfl rfl ?_)
    refine WO.nil ?_
    refine KQ.seq ?_
    refine WS.seq ?_
    refine WS.region EOk ?_
    refine WO.cons (OX.move rfl rfl rfl ?_)
    refine WO.cons (OX.call rfl rfl rfl (made_ok hc1 deck0 (by omega)) (TakeS.perm (by repeat (first | exact TakeS.nil | (apply TakeS.cons; (repeat (first | exact .here | apply Take.there)))))) (by first | exact SubM.nil | exact SubM.self (fun _ h => h) | (repeat (first | exact SubM.nil | (apply SubM.cons; exact (by first | (refine .l ?_; (repeat first | exact .head _ | apply List.Mem.tail); done) | (refine .m ?_; (repeat first | exact .head _ | apply List.Mem.tail); done) | assumption))))) ?kk)
    case kk =>
      rintro _ _ ⟨posts, ws, wa, m, wz, wcp, Lw, dl21, st21, rfl, rfl, hW, hpo, hwl0, hws, hd21, hb21⟩
      refine WO.cons (OX.alloc rfl rfl rfl rfl ((.cons (.cons .nil))) fun b6 => ?_)
      refine WO.cons (OX.storeL rfl rfl rfl rfl rfl rfl (by (repeat (first | exact .here | apply Take.there))) rfl ((.cons (.cons .nil))) ?_)
      refine WO.nil ?_
      refine KQ.seq ?_
      refine WS.seq ?_
      refine WS.region EOk ?_
      refine WO.cons (OX.move rfl rfl rfl ?_)
      refine WO.cons (OX.loadG rfl rfl rfl (by first | (refine .l ?_; (repeat first | exact .head _ | apply List.Mem.tail); done) | (refine .m ?_; (repeat first | exact .head _ | apply List.Mem.tail); done) | assumption) rfl ((.cons (.cons .nil))) ?_)
      refine WO.cons (OX.call rfl rfl rfl (mkherd_ok hc1 rfl hd21 (by omega) (by omega)) (TakeS.perm (by repeat (first | exact TakeS.nil | (apply TakeS.cons; (repeat (first | exact .here | apply Take.there)))))) (by first | exact SubM.nil | exact SubM.self (fun _ h => h) | (repeat (first | exact SubM.nil | (apply SubM.cons; exact (by first | (refine .l ?_; (repeat first | exact .head _ | apply List.Mem.tail); done) | (refine .m ?_; (repeat first | exact .head _ | apply List.Mem.tail); done) | assumption))))) ?kk)
      case kk =>
        rintro _ _ ⟨post, day, papers, dl24, st24, rfl, rfl, hh1, hh2, hh3, hd24, hb24⟩
        have hwl : ws.length ≤ 24 := by omega
        refine WO.cons (OX.alloc rfl rfl rfl rfl ((.cons (.cons (.cons .nil)))) fun b7 => ?_)
        refine WO.cons (OX.storeL rfl rfl rfl rfl rfl rfl (by (repeat (first | exact .here | apply Take.there))) rfl ((.cons (.cons (.cons .nil)))) ?_)
        refine WO.nil ?_
        refine KQ.seq ?_
        refine WS.seq ?_
        refine WS.region EOk ?_
        refine WO.cons (OX.move rfl rfl rfl ?_)
        refine WO.cons (OX.call rfl rfl rfl (of_ok hc2) (TakeS.perm (by repeat (first | exact TakeS.nil | (apply TakeS.cons; (repeat (first | exact .here | apply Take.there)))))) (by first | exact SubM.nil | exact SubM.self (fun _ h => h) | (repeat (first | exact SubM.nil | (apply SubM.cons; exact (by first | (refine .l ?_; (repeat first | exact .head _ | apply List.Mem.tail); done) | (refine .m ?_; (repeat first | exact .head _ | apply List.Mem.tail); done) | assumption))))) ?kk)
        case kk =>
          rintro _ _ ⟨d26, rfl, rfl⟩
          refine WO.cons (OX.assign rfl rfl rfl ?_)
          refine WO.nil ?_
          refine KQ.seq ?_
          refine WS.seq ?_
          refine WS.region EOk ?_
          refine WO.cons (OX.loadG rfl rfl rfl (by first | (refine .l ?_; (repeat first | exact .head _ | apply List.Mem.tail); done) | (refine .m ?_; (repeat first | exact .head _ | apply List.Mem.tail); done) | assumption) rfl ((.cons (.cons .nil))) ?_)
          refine WO.cons (OX.loadG rfl rfl rfl (by first | (refine .l ?_; (repeat first | exact .head _ | apply List.Mem.tail); done) | (refine .m ?_; (repeat first | exact .head _ | apply List.Mem.tail); done) | assumption) rfl ((.cons (.cons (.cons .nil)))) ?_)
          refine WO.cons (OX.call rfl rfl rfl (earliest_ok (M := Lw) hW (by omega) hwl hws ⟨hh1, ⟨by omega, by omega⟩, hh3⟩) (TakeS.perm (by repeat (first | exact TakeS.nil | (apply TakeS.cons; (repeat (first | exact .here | apply Take.there)))))) (SubM.of (fun p hp => .inl (by repeat (first | exact hp | exact List.mem_append_left _ hp | apply List.mem_cons_of_mem | apply List.mem_append_right)))) ?kk)
          case kk =>
            rintro _ _ ⟨eb, dl, ds, rfl, rfl, hdl, hds, hdx⟩
            refine WO.cons (OX.move rfl rfl rfl ?_)
            refine WO.cons (OX.extract rfl rfl rfl rfl ?_)
            refine WO.cons (OX.extract rfl rfl rfl rfl ?_)
            refine WO.cons (OX.assign rfl rfl rfl ?_)
            refine WO.cons (OX.assign rfl rfl rfl ?_)
            refine WO.nil ?_
            refine KQ.seq ?_
            refine WS.seq ?_
            refine WS.region EOk ?_
            refine WO.cons (OX.loadG rfl rfl rfl (by first | (refine .l ?_; (repeat first | exact .head _ | apply List.Mem.tail); done) | (refine .m ?_; (repeat first | exact .head _ | apply List.Mem.tail); done) | assumption) rfl ((.cons (.cons .nil))) ?_)
            refine WO.cons (OX.loadG rfl rfl rfl (by first | (refine .l ?_; (repeat first | exact .head _ | apply List.Mem.tail); done) | (refine .m ?_; (repeat first | exact .head _ | apply List.Mem.tail); done) | assumption) rfl ((.cons (.cons (.cons .nil)))) ?_)
            refine WO.cons (OX.call rfl rfl rfl (calendar_ok (M := Lw) hW (by omega) hwl hws ⟨hh1, ⟨by omega, by omega⟩, hh3⟩) (TakeS.perm (by repeat (first | exact TakeS.nil | (apply TakeS.cons; (repeat (first | exact .here | apply Take.there)))))) (SubM.of (fun p hp => .inl (by repeat (first | exact hp | exact List.mem_append_left _ hp | apply List.mem_cons_of_mem | apply List.mem_append_right)))) ?kk)
            case kk =>
              rintro _ _ ⟨ob, cal, rfl, rfl, hcl, hcr⟩
              refine WO.sub (by (first | exact Sub.of_perm (List.Perm.cons _ (List.perm_append_comm_assoc (calL cal) [] (Lw ++ []))) | exact Sub.of_perm (List.Perm.cons _ (List.perm_append_comm_assoc (calL cal) [_] (Lw ++ []))) | exact Sub.of_perm (List.Perm.cons _ (List.perm_append_comm_assoc (calL cal) [_, _] (Lw ++ []))) | exact Sub.of_perm (List.Perm.cons _ (List.perm_append_comm_assoc (calL cal) [_, _, _] (Lw ++ []))) | exact Sub.of_perm (List.Perm.cons _ (List.perm_append_comm_assoc (calL cal) [_, _, _, _] (Lw ++ []))) | exact Sub.of_perm (List.Perm.cons _ (List.perm_append_comm_assoc (calL cal) [_, _, _, _, _] (Lw ++ []))) | exact Sub.of_perm (List.Perm.cons _ (List.perm_append_comm_assoc (calL cal) [_, _, _, _, _, _] (Lw ++ []))) | exact Sub.of_perm (List.Perm.cons _ (List.perm_append_comm_assoc (calL cal) [_, _, _, _, _, _, _] (Lw ++ []))) | exact Sub.of_perm (List.Perm.cons _ (List.perm_append_comm_assoc (calL cal) [_, _, _, _, _, _, _, _] (Lw ++ []))) | exact Sub.of_perm (List.Perm.cons _ (List.perm_append_comm_assoc (calL cal) [_, _, _, _, _, _, _, _, _] (Lw ++ []))) | exact Sub.of_perm (List.Perm.cons _ (List.perm_append_comm_assoc (calL cal) [_, _, _, _, _, _, _, _, _, _] (Lw ++ []))) | exact Sub.of_perm (List.Perm.cons _ (List.perm_append_comm_assoc (calL cal) [_, _, _, _, _, _, _, _, _, _, _] (Lw ++ []))) | exact Sub.of_perm (List.Perm.cons _ (List.perm_append_comm_assoc (calL cal) [_, _, _, _, _, _, _, _, _, _, _, _] (Lw ++ []))) | exact Sub.of_perm (List.Perm.cons _ (List.perm_append_comm_assoc (calL cal) [_, _, _, _, _, _, _, _, _, _, _, _, _] (Lw ++ []))))) ?_
              refine WO.cons (OX.move rfl rfl rfl ?_)
              refine WO.cons (OX.extract rfl rfl rfl rfl ?_)
              refine WO.cons (OX.extract rfl rfl rfl rfl ?_)
              refine WO.cons (OX.assign rfl rfl rfl ?_)
              refine WO.cons (OX.assign rfl rfl rfl ?_)
              refine WO.nil ?_
              refine KQ.seq ?_
              refine WS.seq ?_
              refine WS.seq ?_
              refine WS.region EOk ?_
              refine WO.cons (OX.move rfl rfl rfl ?_)
              refine WO.cons (OX.ne rfl rfl rfl rfl ?_)
              refine WO.cons (OX.move rfl rfl rfl ?_)
              first | refine WO.askD (t := 41) rfl (fun h41 => ?_) (fun h41 => ?_) | refine WO.askN (t := 41) rfl (fun h41 => ?_) (fun h41 => ?_) | refine WO.ask (t := 41) rfl (fun h41 => ?_) (fun h41 => ?_)
              ·
                exact absurd rfl h41
              ·
                refine WO.cons (OX.move rfl rfl rfl ?_)
                refine WO.cons (OX.ne rfl rfl rfl rfl ?_)
                refine WO.cons (OX.pickF rfl rfl rfl rfl ?_)
                refine WO.cons (OX.move rfl rfl rfl ?_)
                first | refine WO.askD (t := 45) rfl (fun h45 => ?_) (fun h45 => ?_) | refine WO.askN (t := 45) rfl (fun h45 => ?_) (fun h45 => ?_) | refine WO.ask (t := 45) rfl (fun h45 => ?_) (fun h45 => ?_)
                ·
                  first | exact absurd rfl h45 | (exfalso; simp at h45)
                ·
                  refine WO.cons (OX.move rfl rfl rfl ?_)
                  refine WO.cons (OX.len rfl rfl rfl rfl ?_)
                  refine WO.cons (OX.fieldAddr (r := 0) rfl rfl rfl rfl ?_)
                  refine WO.cons (OX.load rfl rfl rfl (by first | (refine .l ?_; (repeat first | exact .head _ | apply List.Mem.tail); done) | (refine .m ?_; (repeat first | exact .head _ | apply List.Mem.tail); done) | assumption) rfl ?_)
                  refine WO.cons (OX.ne rfl rfl rfl rfl ?_)
                  refine WO.cons (OX.pickF rfl rfl rfl rfl ?_)
                  refine WO.cons (OX.move rfl rfl rfl ?_)
                  first | refine WO.askD (t := 52) rfl (fun h52 => ?_) (fun h52 => ?_) | refine WO.askN (t := 52) rfl (fun h52 => ?_) (fun h52 => ?_) | refine WO.ask (t := 52) rfl (fun h52 => ?_) (fun h52 => ?_)
                  ·
                    exfalso; omega
                  ·
                    refine WO.cons (OX.move rfl rfl rfl ?_)
                    refine WO.cons (OX.len rfl rfl rfl rfl ?_)
                    refine WO.cons (OX.fieldAddr (r := 0) rfl rfl rfl rfl ?_)
                    refine WO.cons (OX.load rfl rfl rfl (by first | (refine .l ?_; (repeat first | exact .head _ | apply List.Mem.tail); done) | (refine .m ?_; (repeat first | exact .head _ | apply List.Mem.tail); done) | assumption) rfl ?_)
                    refine WO.cons (OX.ne rfl rfl rfl rfl ?_)
                    refine WO.cons (OX.pickF rfl rfl rfl rfl ?_)
                    refine WO.nil ?_
                    refine KQ.seq ?_
                    first | refine WS.condD rfl (fun h58 => ?_) (fun h58 => ?_) | refine WS.condN rfl (fun h58 => ?_) (fun h58 => ?_) | refine WS.cond rfl (fun h58 => ?_) (fun h58 => ?_)
                    ·
                      exfalso; omega
                    ·
                      refine WS.skip ?_
                      refine KQ.seq ?_
                      refine WS.seq ?_
                      refine WS.seq ?_
                      refine WS.region EOk ?_
                      refine WO.cons (OX.move rfl rfl rfl ?_)
                      refine WO.nil ?_
                      refine KQ.seq ?_
                      refine WS.block ?_
                      refine WS.loop (S := Nat × Int × Int) (FF := fun s => [(6, .ptr (some ⟨b6, 0⟩)), (7, .ptr (some ⟨b7, 0⟩)), (8, .ptr (some ⟨d26, 0⟩)), (9, .slice (some ⟨eb, 0⟩) posts.toNat 1 none), (11, .slice (some ⟨ob, 0⟩) posts.toNat 1 none), (59, iv s.1)]) (LL := fun s => [(d26, deck cv2 s.2.1 s.2.2), (b7, .cells [iv post, iv day, iv papers] true), (b6, .cells [iv posts, (.slice wa m wz wcp)] true), (eb, .cells (dl.map iv) true), (ob, .cells (calV cal) true)] ++ (calL cal ++ (Lw ++ []))) (I := fun s => s.1 ≤ 8 ∧ DeckOk s.2.1 s.2.2 ∧ s.2.1 ≤ 100 * s.1) (μ := fun s => 8 - s.1) (s0 := (0, 0, 9)) (⟨by omega, deck0, by dsimp only; omega⟩) (by exact ⟨rfl, rfl, rfl, rfl, rfl, rfl, trivial⟩) (by repeat (first | exact Sub.refl _ | (apply Sub.cons; (repeat (first | exact .here | apply Take.there))) | apply Sub.drop | apply Sub.dropL)) ?_
                      rintro ⟨k, dl0, st0⟩ ⟨hk1, hd0, hk2⟩
                      dsimp only at hk1 hd0 hk2 ⊢
                      refine WS.seq ?_
                      refine WS.region EOk ?_
                      refine WO.cons (OX.lt rfl rfl rfl rfl ?_)
                      refine WO.nil ?_
                      refine KQ.seq ?_
                      refine WS.seq ?_
                      first | refine WS.condD rfl (fun h60 => ?_) (fun h60 => ?_) | refine WS.condN rfl (fun h60 => ?_) (fun h60 => ?_) | refine WS.cond rfl (fun h60 => ?_) (fun h60 => ?_)
                      ·
                        refine WS.skip ?_
                        refine KQ.seq ?_
                        refine WS.seq ?_
                        refine WS.block ?_
                        refine WS.seq ?_
                        refine WS.region EOk ?_
                        refine WO.cons (OX.move rfl rfl rfl ?_)
                        refine WO.cons (OX.call rfl rfl rfl (cloneall_ok (M := (ob, .cells (calV cal) true) :: (calL cal ++ Lw)) (own := true) (.head _) (fun c hc => ⟨List.mem_cons_of_mem _ (List.mem_append_left _ (calL_mem hc)), hcr c hc⟩) hcl (by omega)) (TakeS.perm (by repeat (first | exact TakeS.nil | (apply TakeS.cons; (repeat (first | exact .here | apply Take.there)))))) (SubM.of (fun p hp => .inl (by first | (fail; done) | (rcases List.mem_cons.1 hp with hp | hp; subst hp; (first | exact (.head _) | exact (.tail _ (.head _)) | exact (.tail _ (.tail _ (.head _))) | exact (.tail _ (.tail _ (.tail _ (.head _)))) | exact (.tail _ (.tail _ (.tail _ (.tail _ (.head _))))) | exact (.tail _ (.tail _ (.tail _ (.tail _ (.tail _ (.head _)))))) | exact (.tail _ (.tail _ (.tail _ (.tail _ (.tail _ (.tail _ (.head _))))))) | exact (.tail _ (.tail _ (.tail _ (.tail _ (.tail _ (.tail _ (.tail _ (.head _)))))))) | exact (.tail _ (.tail _ (.tail _ (.tail _ (.tail _ (.tail _ (.tail _ (.tail _ (.head _))))))))) | exact (.tail _ (.tail _ (.tail _ (.tail _ (.tail _ (.tail _ (.tail _ (.tail _ (.tail _ (.head _)))))))))) | exact (.tail _ (.tail _ (.tail _ (.tail _ (.tail _ (.tail _ (.tail _ (.tail _ (.tail _ (.tail _ (.head _))))))))))) | exact (.tail _ (.tail _ (.tail _ (.tail _ (.tail _ (.tail _ (.tail _ (.tail _ (.tail _ (.tail _ (.tail _ (.head _)))))))))))) | exact (.tail _ (.tail _ (.tail _ (.tail _ (.tail _ (.tail _ (.tail _ (.tail _ (.tail _ (.tail _ (.tail _ (.tail _ (.head _))))))))))))) | exact (.tail _ (.tail _ (.tail _ (.tail _ (.tail _ (.tail _ (.tail _ (.tail _ (.tail _ (.tail _ (.tail _ (.tail _ (.tail _ (.head _)))))))))))))) | exact (.tail _ (.tail _ (.tail _ (.tail _ (.tail _ (.tail _ (.tail _ (.tail _ (.tail _ (.tail _ (.tail _ (.tail _ (.tail _ (.tail _ (.head _)))))))))))))))); rcases List.mem_append.1 hp with hp | hp; (repeat (first | exact hp | exact List.mem_append_left _ hp | apply List.mem_cons_of_mem | apply List.mem_append_right)); (repeat (first | exact hp | exact List.mem_append_left _ hp | apply List.mem_cons_of_mem | apply List.mem_append_right)))))) ?kk)
                        case kk =>
                          rintro _ _ ⟨ob2, cal2, rfl, rfl, hcl2, hcr2⟩
                          refine WO.sub (by (first | exact Sub.of_perm (List.Perm.cons _ (List.perm_append_comm_assoc (calL cal2) [] ((calL cal ++ (Lw ++ []))))) | exact Sub.of_perm (List.Perm.cons _ (List.perm_append_comm_assoc (calL cal2) [_] ((calL cal ++ (Lw ++ []))))) | exact Sub.of_perm (List.Perm.cons _ (List.perm_append_comm_assoc (calL cal2) [_, _] ((calL cal ++ (Lw ++ []))))) | exact Sub.of_perm (List.Perm.cons _ (List.perm_append_comm_assoc (calL cal2) [_, _, _] ((calL cal ++ (Lw ++ []))))) | exact Sub.of_perm (List.Perm.cons _ (List.perm_append_comm_assoc (calL cal2) [_, _, _, _] ((calL cal ++ (Lw ++ []))))) | exact Sub.of_perm (List.Perm.cons _ (List.perm_append_comm_assoc (calL cal2) [_, _, _, _, _] ((calL cal ++ (Lw ++ []))))) | exact Sub.of_perm (List.Perm.cons _ (List.perm_append_comm_assoc (calL cal2) [_, _, _, _, _, _] ((calL cal ++ (Lw ++ []))))) | exact Sub.of_perm (List.Perm.cons _ (List.perm_append_comm_assoc (calL cal2) [_, _, _, _, _, _, _] ((calL cal ++ (Lw ++ []))))) | exact Sub.of_perm (List.Perm.cons _ (List.perm_append_comm_assoc (calL cal2) [_, _, _, _, _, _, _, _] ((calL cal ++ (Lw ++ []))))) | exact Sub.of_perm (List.Perm.cons _ (List.perm_append_comm_assoc (calL cal2) [_, _, _, _, _, _, _, _, _] ((calL cal ++ (Lw ++ []))))) | exact Sub.of_perm (List.Perm.cons _ (List.perm_append_comm_assoc (calL cal2) [_, _, _, _, _, _, _, _, _, _] ((calL cal ++ (Lw ++ []))))) | exact Sub.of_perm (List.Perm.cons _ (List.perm_append_comm_assoc (calL cal2) [_, _, _, _, _, _, _, _, _, _, _] ((calL cal ++ (Lw ++ []))))) | exact Sub.of_perm (List.Perm.cons _ (List.perm_append_comm_assoc (calL cal2) [_, _, _, _, _, _, _, _, _, _, _, _] ((calL cal ++ (Lw ++ []))))) | exact Sub.of_perm (List.Perm.cons _ (List.perm_append_comm_assoc (calL cal2) [_, _, _, _, _, _, _, _, _, _, _, _, _] ((calL cal ++ (Lw ++ []))))))) ?_
                          refine WO.cons (OX.assign rfl rfl rfl ?_)
                          refine WO.nil ?_
                          refine KQ.seq ?_
                          refine WS.seq ?_
                          refine WS.seq ?_
                          refine WS.region EOk ?_
                          refine WO.cons (OX.move rfl rfl rfl ?_)
                          refine WO.cons (OX.call rfl rfl rfl (between_ok hc2 hd0 (by omega) (by omega)) (TakeS.perm (by repeat (first | exact TakeS.nil | (apply TakeS.cons; (repeat (first | exact .here | apply Take.there)))))) (by first | exact SubM.nil | exact SubM.self (fun _ h => h) | (repeat (first | exact SubM.nil | (apply SubM.cons; exact (by first | (refine .l ?_; (repeat first | exact .head _ | apply List.Mem.tail); done) | (refine .m ?_; (repeat first | exact .head _ | apply List.Mem.tail); done) | assumption))))) ?kk)
                          case kk =>
                            rintro _ _ ⟨r64, dl64, st64, rfl, rfl, hr64, hs64, hd64, hb64⟩
                            refine WO.cons (OX.move rfl rfl rfl ?_)
                            refine WO.nil ?_
                            refine KQ.seq ?_
                            refine WS.block ?_
                            refine WS.loop (S := Nat × List (Nat × List Int) × Int × Int) (FF := fun s => [(6, .ptr (some ⟨b6, 0⟩)), (7, .ptr (some ⟨b7, 0⟩)), (8, .ptr (some ⟨d26, 0⟩)), (9, .slice (some ⟨eb, 0⟩) posts.toNat 1 none), (11, .slice (some ⟨ob, 0⟩) posts.toNat 1 none), (59, iv k), (13, .slice (some ⟨ob2, 0⟩) posts.toNat 1 none), (64, iv r64), (65, iv s.1)]) (LL := fun s => [(d26, deck cv2 s.2.2.1 s.2.2.2), (ob2, .cells (calV s.2.1) true), (b7, .cells [iv post, iv day, iv papers] true), (b6, .cells [iv posts, (.slice wa m wz wcp)] true), (eb, .cells (dl.map iv) true), (ob, .cells (calV cal) true)] ++ (calL s.2.1 ++ (calL cal ++ (Lw ++ [])))) (I := fun s => s.1 ≤ 3 ∧ s.2.1.length = posts.toNat ∧ (∀ c ∈ s.2.1, RowOk c.2) ∧ DeckOk s.2.2.1 s.2.2.2 ∧ s.2.2.1 ≤ dl64 + 3 * s.1) (μ := fun s => 3 - s.1) (s0 := (0, cal2, dl64, st64)) (⟨by omega, hcl2, hcr2, hd64, by dsimp only; omega⟩) (by exact ⟨rfl, rfl, rfl, rfl, rfl, rfl, rfl, rfl, rfl, trivial⟩) (by repeat (first | exact Sub.refl _ | (apply Sub.cons; (repeat (first | exact .here | apply Take.there))) | apply Sub.drop | apply Sub.dropL)) ?_
                            rintro ⟨j, cal2, dl3, st3⟩ ⟨hj1, hcl2, hcr2, hd3, hj2⟩
                            dsimp only at hj1 hcl2 hcr2 hd3 hj2 ⊢
                            refine WS.seq ?_
                            refine WS.region EOk ?_
                            refine WO.cons (OX.lt rfl rfl rfl rfl ?_)
                            refine WO.nil ?_
                            refine KQ.seq ?_
                            refine WS.seq ?_
                            first | refine WS.condD rfl (fun h66 => ?_) (fun h66 => ?_) | refine WS.condN rfl (fun h66 => ?_) (fun h66 => ?_) | refine WS.cond rfl (fun h66 => ?_) (fun h66 => ?_)
                            ·
                              refine WS.skip ?_
                              refine KQ.seq ?_
                              refine WS.seq ?_
                              refine WS.block ?_
                              refine WS.seq ?_
                              refine WS.region EOk ?_
                              refine WO.cons (OX.move rfl rfl rfl ?_)
                              refine WO.cons (OX.move rfl rfl rfl ?_)
                              refine WO.cons (OX.fieldAddr (r := 0) rfl rfl rfl rfl ?_)
                              refine WO.cons (OX.load rfl rfl rfl (by first | (refine .l ?_; (repeat first | exact .head _ | apply List.Mem.tail); done) | (refine .m ?_; (repeat first | exact .head _ | apply List.Mem.tail); done) | assumption) rfl ?_)
                              refine WO.cons (OX.call rfl rfl rfl (draw_ok hc2 hd3 (by omega)) (TakeS.perm (by repeat (first | exact TakeS.nil | (apply TakeS.cons; (repeat (first | exact .here | apply Take.there)))))) (by first | exact SubM.nil | exact SubM.self (fun _ h => h) | (repeat (first | exact SubM.nil | (apply SubM.cons; exact (by first | (refine .l ?_; (repeat first | exact .head _ | apply List.Mem.tail); done) | (refine .m ?_; (repeat first | exact .head _ | apply List.Mem.tail); done) | assumption))))) ?kk)
                              case kk =>
                                rintro _ _ ⟨r71, dl71, st71, rfl, rfl, hr71, hs71, hd71, hb71⟩
                                obtain ⟨c, hc1', hc2', hc3', hc4'⟩ := cal_row hcl2 hcr2 (p := r71) (by omega)
                                refine WO.cons (OX.indexAddr (z := 1) rfl rfl rfl rfl rfl (by omega) ?_)
                                refine WO.cons (OX.load rfl rfl rfl (by first | (refine .l ?_; (repeat first | exact .head _ | apply List.Mem.tail); done) | (refine .m ?_; (repeat first | exact .head _ | apply List.Mem.tail); done) | assumption) (by exact cal_ld hc1') ?_)
                                refine WO.cons (OX.assign rfl rfl rfl ?_)
                                refine WO.nil ?_
                                refine KQ.seq ?_
                                refine WS.seq ?_
                                refine WS.seq ?_
                                refine WS.region EOk ?_
                                refine WO.cons (OX.move rfl rfl rfl ?_)
                                refine WO.cons (OX.len rfl rfl rfl rfl ?_)
                                refine WO.cons (OX.ne rfl rfl rfl rfl ?_)
                                refine WO.nil ?_
                                refine KQ.seq ?_
                                first | refine WS.condD rfl (fun h76 => ?_) (fun h76 => ?_) | refine WS.condN rfl (fun h76 => ?_) (fun h76 => ?_) | refine WS.cond rfl (fun h76 => ?_) (fun h76 => ?_)
                                ·
                                  exfalso; omega
                                ·
                                  refine WS.skip ?_
                                  refine KQ.seq ?_
                                  refine WS.region EOk ?_
                                  refine WO.cons (OX.move rfl rfl rfl ?_)
                                  refine WO.cons (OX.move rfl rfl rfl ?_)
                                  refine WO.cons (OX.call rfl rfl rfl (draw_ok hc2 hd71 (by omega)) (TakeS.perm (by repeat (first | exact TakeS.nil | (apply TakeS.cons; (repeat (first | exact .here | apply Take.there)))))) (by first | exact SubM.nil | exact SubM.self (fun _ h => h) | (repeat (first | exact SubM.nil | (apply SubM.cons; exact (by first | (refine .l ?_; (repeat first | exact .head _ | apply List.Mem.tail); done) | (refine .m ?_; (repeat first | exact .head _ | apply List.Mem.tail); done) | assumption))))) ?kk)
                                  case kk =>
                                    rintro _ _ ⟨r79, dl79, st79, rfl, rfl, hr79, hs79, hd79, hb79⟩
                                    refine WO.cons (OX.move rfl rfl rfl ?_)
                                    refine WO.cons (OX.call rfl rfl rfl (draw_ok hc2 hd79 (by omega)) (TakeS.perm (by repeat (first | exact TakeS.nil | (apply TakeS.cons; (repeat (first | exact .here | apply Take.there)))))) (by first | exact SubM.nil | exact SubM.self (fun _ h => h) | (repeat (first | exact SubM.nil | (apply SubM.cons; exact (by first | (refine .l ?_; (repeat first | exact .head _ | apply List.Mem.tail); done) | (refine .m ?_; (repeat first | exact .head _ | apply List.Mem.tail); done) | assumption))))) ?kk)
                                    case kk =>
                                      rintro _ _ ⟨r81, dl81, st81, rfl, rfl, hr81, hs81, hd81, hb81⟩
                                      refine WO.cons (OX.indexAddr (z := 1) rfl rfl rfl rfl rfl (by omega) ?_)
                                      obtain ⟨TT, hT1, hT2⟩ := calL_take hc1'
                                      refine WO.cons (OX.storeP rfl rfl rfl rfl rfl rfl (by first | exact perm_row (E := []) (T0 := (calL cal ++ (Lw ++ []))) hT1 | exact perm_row (E := [_]) (T0 := (calL cal ++ (Lw ++ []))) hT1 | exact perm_row (E := [_, _]) (T0 := (calL cal ++ (Lw ++ []))) hT1 | exact perm_row (E := [_, _, _]) (T0 := (calL cal ++ (Lw ++ []))) hT1 | exact perm_row (E := [_, _, _, _]) (T0 := (calL cal ++ (Lw ++ []))) hT1 | exact perm_row (E := [_, _, _, _, _]) (T0 := (calL cal ++ (Lw ++ []))) hT1 | exact perm_row (E := [_, _, _, _, _, _]) (T0 := (calL cal ++ (Lw ++ []))) hT1 | exact perm_row (E := [_, _, _, _, _, _, _]) (T0 := (calL cal ++ (Lw ++ []))) hT1 | exact perm_row (E := [_, _, _, _, _, _, _, _]) (T0 := (calL cal ++ (Lw ++ []))) hT1 | exact perm_row (E := [_, _, _, _, _, _, _, _, _]) (T0 := (calL cal ++ (Lw ++ []))) hT1 | exact perm_row (E := [_, _, _, _, _, _, _, _, _, _]) (T0 := (calL cal ++ (Lw ++ []))) hT1 | exact perm_row (E := [_, _, _, _, _, _, _, _, _, _, _]) (T0 := (calL cal ++ (Lw ++ []))) hT1 | exact perm_row (E := [_, _, _, _, _, _, _, _, _, _, _, _]) (T0 := (calL cal ++ (Lw ++ []))) hT1 | exact perm_row (E := [_, _, _, _, _, _, _, _, _, _, _, _, _]) (T0 := (calL cal ++ (Lw ++ []))) hT1) (row_st (by rw [hc3'.1]; omega)) ?_)
                                      refine WO.sub (Sub.of_perm (perm_row (T0 := (calL cal ++ (Lw ++ []))) (hT2 _)).symm) ?_
                                      refine WO.nil ?_
                                      refine KQ.blk ?_
                                      refine KQ.seq ?_
                                      refine WS.region EOk ?_
                                      refine WO.cons (OX.add rfl rfl rfl rfl (by omega) ?_)
                                      refine WO.cons (OX.move rfl rfl rfl ?_)
                                      refine WO.nil ?_
                                      refine KQ.done ?_
                                      refine LQ.nx (j + 1, cal2.set r71.toNat (c.1, c.2.set r79.toNat r81), dl81, st81) ?_ ⟨rfl, rfl, rfl, rfl, rfl, rfl, rfl, rfl, rfl, trivial⟩ (by show 3 - (j + 1) < 3 - j; omega) ⟨by dsimp only; omega, by simpa using hcl2, cal_set_ok hcr2 (hc3'.set (by omega) _), hd81, by dsimp only; omega⟩
                                      dsimp only
                                      rw [calV_set hc1']
                                      exact (by repeat (first | exact Sub.refl _ | (apply Sub.cons; (repeat (first | exact .here | apply Take.there))) | apply Sub.drop | apply Sub.dropL))
                            ·
                              refine WS.exit ?_
                              refine KQ.seq_exit ?_
                              refine KQ.done ?_
                              refine LQ.exit ?_
                              refine KQ.blk_here ?_
                              refine KQ.seq ?_
                              refine WS.seq ?_
                              refine WS.region EOk ?_
                              refine WO.cons (OX.move rfl rfl rfl ?_)
                              refine WO.cons (OX.fieldAddr (r := 0) rfl rfl rfl rfl ?_)
                              refine WO.cons (OX.load rfl rfl rfl (by first | (refine .l ?_; (repeat first | exact .head _ | apply List.Mem.tail); done) | (refine .m ?_; (repeat first | exact .head _ | apply List.Mem.tail); done) | assumption) rfl ?_)
                              refine WO.cons (OX.call rfl rfl rfl (draw_ok hc2 hd3 (by omega)) (TakeS.perm (by repeat (first | exact TakeS.nil | (apply TakeS.cons; (repeat (first | exact .here | apply Take.there)))))) (by first | exact SubM.nil | exact SubM.self (fun _ h => h) | (repeat (first | exact SubM.nil | (apply SubM.cons; exact (by first | (refine .l ?_; (repeat first | exact .head _ | apply List.Mem.tail); done) | (refine .m ?_; (repeat first | exact .head _ | apply List.Mem.tail); done) | assumption))))) ?kk)
                              case kk =>
                                rintro _ _ ⟨r87, dl87, st87, rfl, rfl, hr87, hs87, hd87, hb87⟩
                                refine WO.cons (OX.assign rfl rfl rfl ?_)
                                refine WO.nil ?_
                                refine KQ.seq ?_
                                refine WS.seq ?_
                                refine WS.region EOk ?_
                                refine WO.cons (OX.loadG rfl rfl rfl (by first | (refine .l ?_; (repeat first | exact .head _ | apply List.Mem.tail); done) | (refine .m ?_; (repeat first | exact .head _ | apply List.Mem.tail); done) | assumption) rfl ((.cons (.cons .nil))) ?_)
                                refine WO.cons (OX.loadG rfl rfl rfl (by first | (refine .l ?_; (repeat first | exact .head _ | apply List.Mem.tail); done) | (refine .m ?_; (repeat first | exact .head _ | apply List.Mem.tail); done) | assumption) rfl ((.cons (.cons (.cons .nil)))) ?_)
                                refine WO.cons (OX.move rfl rfl rfl ?_)
                                refine WO.cons (OX.move rfl rfl rfl ?_)
                                refine WO.cons (OX.call rfl rfl rfl (proves_ok (M := (ob2, .cells (calV (cal2)) true) :: (calL (cal2) ++ Lw)) (own := true) (hW.mono fun p h => List.mem_cons_of_mem _ (List.mem_append_right _ h)) (by omega) hwl hws ⟨hh1, ⟨by omega, by omega⟩, hh3⟩ (cal := cal2) (List.mem_cons_self) (fun c hc => List.mem_cons_of_mem _ (List.mem_append_left _ (calL_mem hc))) hcr2 hcl2 (by omega) (by omega)) (TakeS.perm (by repeat (first | exact TakeS.nil | (apply TakeS.cons; (repeat (first | exact .here | apply Take.there)))))) (SubM.of (fun p hp => .inl (by first | (fail; done) | (rcases List.mem_cons.1 hp with hp | hp; subst hp; (first | exact (.head _) | exact (.tail _ (.head _)) | exact (.tail _ (.tail _ (.head _))) | exact (.tail _ (.tail _ (.tail _ (.head _)))) | exact (.tail _ (.tail _ (.tail _ (.tail _ (.head _))))) | exact (.tail _ (.tail _ (.tail _ (.tail _ (.tail _ (.head _)))))) | exact (.tail _ (.tail _ (.tail _ (.tail _ (.tail _ (.tail _ (.head _))))))) | exact (.tail _ (.tail _ (.tail _ (.tail _ (.tail _ (.tail _ (.tail _ (.head _)))))))) | exact (.tail _ (.tail _ (.tail _ (.tail _ (.tail _ (.tail _ (.tail _ (.tail _ (.head _))))))))) | exact (.tail _ (.tail _ (.tail _ (.tail _ (.tail _ (.tail _ (.tail _ (.tail _ (.tail _ (.head _)))))))))) | exact (.tail _ (.tail _ (.tail _ (.tail _ (.tail _ (.tail _ (.tail _ (.tail _ (.tail _ (.tail _ (.head _))))))))))) | exact (.tail _ (.tail _ (.tail _ (.tail _ (.tail _ (.tail _ (.tail _ (.tail _ (.tail _ (.tail _ (.tail _ (.head _)))))))))))) | exact (.tail _ (.tail _ (.tail _ (.tail _ (.tail _ (.tail _ (.tail _ (.tail _ (.tail _ (.tail _ (.tail _ (.tail _ (.head _))))))))))))) | exact (.tail _ (.tail _ (.tail _ (.tail _ (.tail _ (.tail _ (.tail _ (.tail _ (.tail _ (.tail _ (.tail _ (.tail _ (.tail _ (.head _)))))))))))))) | exact (.tail _ (.tail _ (.tail _ (.tail _ (.tail _ (.tail _ (.tail _ (.tail _ (.tail _ (.tail _ (.tail _ (.tail _ (.tail _ (.tail _ (.head _)))))))))))))))); rcases List.mem_append.1 hp with hp | hp; (repeat (first | exact hp | exact List.mem_append_left _ hp | apply List.mem_cons_of_mem | apply List.mem_append_right)); (repeat (first | exact hp | exact List.mem_append_left _ hp | apply List.mem_cons_of_mem | apply List.mem_append_right)))))) ?kk)
                                case kk =>
                                  rintro _ _ ⟨got, er, rfl, rfl, hpe1, hpe2⟩
                                  refine WO.cons (OX.move rfl rfl rfl ?_)
                                  refine WO.cons (OX.extract rfl rfl rfl rfl ?_)
                                  refine WO.cons (OX.extract rfl rfl rfl rfl ?_)
                                  refine WO.cons (OX.assign rfl rfl rfl ?_)
                                  refine WO.cons (OX.assign rfl rfl rfl ?_)
                                  refine WO.nil ?_
                                  refine KQ.seq ?_
                                  refine WS.seq ?_
                                  refine WS.region EOk ?_
                                  refine WO.cons (OX.move rfl rfl rfl ?_)
                                  refine WO.cons (OX.ne rfl rfl rfl rfl ?_)
                                  refine WO.cons (OX.move rfl rfl rfl ?_)
                                  first | refine WO.askD (t := 98) rfl (fun h98 => ?_) (fun h98 => ?_) | refine WO.askN (t := 98) rfl (fun h98 => ?_) (fun h98 => ?_) | refine WO.ask (t := 98) rfl (fun h98 => ?_) (fun h98 => ?_)
                                  ·
                                    refine WO.cons (OX.move rfl rfl rfl ?_)
                                    refine WO.cons (OX.ne rfl rfl rfl rfl ?_)
                                    refine WO.cons (OX.pickT rfl rfl rfl rfl ?_)
                                    refine WO.cons (OX.move rfl rfl rfl ?_)
                                    first | refine WO.askD (t := 102) rfl (fun h102 => ?_) (fun h102 => ?_) | refine WO.askN (t := 102) rfl (fun h102 => ?_) (fun h102 => ?_) | refine WO.ask (t := 102) rfl (fun h102 => ?_) (fun h102 => ?_)
                                    ·
                                      exfalso; rcases hpe2 with h | ⟨h, _⟩ <;> omega
                                    ·
                                      refine WO.cons (OX.move rfl rfl rfl ?_)
                                      refine WO.cons (OX.eq rfl rfl rfl rfl ?_)
                                      refine WO.cons (OX.move rfl rfl rfl ?_)
                                      first | refine WO.askD (t := 105) rfl (fun h105 => ?_) (fun h105 => ?_) | refine WO.askN (t := 105) rfl (fun h105 => ?_) (fun h105 => ?_) | refine WO.ask (t := 105) rfl (fun h105 => ?_) (fun h105 => ?_)
                                      ·
                                        refine WO.cons (OX.move rfl rfl rfl ?_)
                                        refine WO.cons (OX.move rfl rfl rfl ?_)
                                        refine WO.cons (OX.indexAddr (z := 1) rfl rfl rfl rfl rfl (by omega) ?_)
                                        obtain ⟨dx, hdp⟩ : ∃ x, dl[r87.toNat]? = some x := ⟨dl[r87.toNat]'(by omega), List.getElem?_eq_getElem (by omega)⟩
                                        refine WO.cons (OX.load rfl rfl rfl (by first | (refine .l ?_; (repeat first | exact .head _ | apply List.Mem.tail); done) | (refine .m ?_; (repeat first | exact .head _ | apply List.Mem.tail); done) | assumption) (by exact row_ld hdp) ?_)
                                        refine WO.cons (OX.ne rfl rfl rfl rfl ?_)
                                        refine WO.cons (OX.pickT rfl rfl rfl rfl ?_)
                                        refine WO.cons (OX.move rfl rfl rfl ?_)
                                        first | refine WO.askD (t := 112) rfl (fun h112 => ?_) (fun h112 => ?_) | refine WO.askN (t := 112) rfl (fun h112 => ?_) (fun h112 => ?_) | refine WO.ask (t := 112) rfl (fun h112 => ?_) (fun h112 => ?_)
                                        ·
                                          refine WO.cons (OX.move rfl rfl rfl ?_)
                                          refine WO.cons (OX.move rfl rfl rfl ?_)
                                          refine WO.cons (OX.move rfl rfl rfl ?_)
                                          refine WO.cons (OX.indexAddr (z := 1) rfl rfl rfl rfl rfl (by omega) ?_)
                                          refine WO.cons (OX.load rfl rfl rfl (by first | (refine .l ?_; (repeat first | exact .head _ | apply List.Mem.tail); done) | (refine .m ?_; (repeat first | exact .head _ | apply List.Mem.tail); done) | assumption) (by exact row_ld hdp) ?_)
                                          refine WO.cons (OX.gt rfl rfl rfl rfl ?_)
                                          refine WO.cons (OX.pickT rfl rfl rfl rfl ?_)
                                          refine WO.cons (OX.pickF rfl rfl rfl rfl ?_)
                                          refine WO.nil ?_
                                          refine KQ.seq ?_
                                          first | refine WS.condD rfl (fun h120 => ?_) (fun h120 => ?_) | refine WS.condN rfl (fun h120 => ?_) (fun h120 => ?_) | refine WS.cond rfl (fun h120 => ?_) (fun h120 => ?_)
                                          ·
                                            exact (no_more hds hpe2 h105 (by omega) hdx hdp h112 h120).elim
                                          ·
                                            refine WS.skip ?_
                                            refine KQ.blk ?_
                                            refine KQ.seq ?_
                                            refine WS.region EOk ?_
                                            refine WO.cons (OX.add rfl rfl rfl rfl (by omega) ?_)
                                            refine WO.cons (OX.move rfl rfl rfl ?_)
                                            refine WO.nil ?_
                                            refine KQ.done ?_
                                            exact LQ.nx (k + 1, dl87, st87) (by repeat (first | exact Sub.refl _ | (apply Sub.cons; (repeat (first | exact .here | apply Take.there))) | apply Sub.drop | apply Sub.dropL)) ⟨rfl, rfl, rfl, rfl, rfl, rfl, trivial⟩ (by show 8 - (k + 1) < 8 - k; omega) ⟨by dsimp only; omega, hd87, by dsimp only; omega⟩
                                        ·
                                          refine WO.cons (OX.pass rfl rfl ?_)
                                          refine WO.cons (OX.pass rfl rfl ?_)
                                          refine WO.cons (OX.pass rfl rfl ?_)
                                          refine WO.cons (OX.pass rfl rfl ?_)
                                          refine WO.cons (OX.pass rfl rfl ?_)
                                          refine WO.cons (OX.pass rfl rfl ?_)
                                          refine WO.cons (OX.pickF rfl rfl rfl rfl ?_)
                                          refine WO.cons (OX.pickF rfl rfl rfl rfl ?_)
                                          refine WO.nil ?_
                                          refine KQ.seq ?_
                                          refine WS.condF rfl ?_
                                          refine WS.skip ?_
                                          refine KQ.blk ?_
                                          refine KQ.seq ?_
                                          refine WS.region EOk ?_
                                          refine WO.cons (OX.add rfl rfl rfl rfl (by omega) ?_)
                                          refine WO.cons (OX.move rfl rfl rfl ?_)
                                          refine WO.nil ?_
                                          refine KQ.done ?_
                                          exact LQ.nx (k + 1, dl87, st87) (by repeat (first | exact Sub.refl _ | (apply Sub.cons; (repeat (first | exact .here | apply Take.there))) | apply Sub.drop | apply Sub.dropL)) ⟨rfl, rfl, rfl, rfl, rfl, rfl, trivial⟩ (by show 8 - (k + 1) < 8 - k; omega) ⟨by dsimp only; omega, hd87, by dsimp only; omega⟩
                                      ·
                                        refine WO.cons (OX.pass rfl rfl ?_)
                                        refine WO.cons (OX.pass rfl rfl ?_)
                                        refine WO.cons (OX.pass rfl rfl ?_)
                                        obtain ⟨dx, hdp⟩ : ∃ x, dl[r87.toNat]? = some x := ⟨dl[r87.toNat]'(by omega), List.getElem?_eq_getElem (by omega)⟩
                                        refine WO.cons (OX.pass rfl rfl ?_)
                                        refine WO.cons (OX.pass rfl rfl ?_)
                                        refine WO.cons (OX.pickF rfl rfl rfl rfl ?_)
                                        refine WO.cons (OX.move rfl rfl rfl ?_)
                                        refine WO.cons (OX.pass rfl rfl ?_)
                                        refine WO.cons (OX.pass rfl rfl ?_)
                                        refine WO.cons (OX.pass rfl rfl ?_)
                                        refine WO.cons (OX.pass rfl rfl ?_)
                                        refine WO.cons (OX.pass rfl rfl ?_)
                                        refine WO.cons (OX.pass rfl rfl ?_)
                                        refine WO.cons (OX.pickF rfl rfl rfl rfl ?_)
                                        refine WO.cons (OX.pickF rfl rfl rfl rfl ?_)
                                        refine WO.nil ?_
                                        refine KQ.seq ?_
                                        refine WS.condF rfl ?_
                                        refine WS.skip ?_
                                        refine KQ.blk ?_
                                        refine KQ.seq ?_
                                        refine WS.region EOk ?_
                                        refine WO.cons (OX.add rfl rfl rfl rfl (by omega) ?_)
                                        refine WO.cons (OX.move rfl rfl rfl ?_)
                                        refine WO.nil ?_
                                        refine KQ.done ?_
                                        exact LQ.nx (k + 1, dl87, st87) (by repeat (first | exact Sub.refl _ | (apply Sub.cons; (repeat (first | exact .here | apply Take.there))) | apply Sub.drop | apply Sub.dropL)) ⟨rfl, rfl, rfl, rfl, rfl, rfl, trivial⟩ (by show 8 - (k + 1) < 8 - k; omega) ⟨by dsimp only; omega, hd87, by dsimp only; omega⟩
                                  ·
                                    refine WO.cons (OX.pass rfl rfl ?_)
                                    refine WO.cons (OX.pass rfl rfl ?_)
                                    refine WO.cons (OX.pickF rfl rfl rfl rfl ?_)
                                    refine WO.cons (OX.move rfl rfl rfl ?_)
                                    refine WO.cons (OX.move rfl rfl rfl ?_)
                                    refine WO.cons (OX.eq rfl rfl rfl rfl ?_)
                                    refine WO.cons (OX.move rfl rfl rfl ?_)
                                    first | refine WO.askD (t := 105) rfl (fun h105 => ?_) (fun h105 => ?_) | refine WO.askN (t := 105) rfl (fun h105 => ?_) (fun h105 => ?_) | refine WO.ask (t := 105) rfl (fun h105 => ?_) (fun h105 => ?_)
                                    ·
                                      refine WO.cons (OX.move rfl rfl rfl ?_)
                                      refine WO.cons (OX.move rfl rfl rfl ?_)
                                      refine WO.cons (OX.indexAddr (z := 1) rfl rfl rfl rfl rfl (by omega) ?_)
                                      obtain ⟨dx, hdp⟩ : ∃ x, dl[r87.toNat]? = some x := ⟨dl[r87.toNat]'(by omega), List.getElem?_eq_getElem (by omega)⟩
                                      refine WO.cons (OX.load rfl rfl rfl (by first | (refine .l ?_; (repeat first | exact .head _ | apply List.Mem.tail); done) | (refine .m ?_; (repeat first | exact .head _ | apply List.Mem.tail); done) | assumption) (by exact row_ld hdp) ?_)
                                      refine WO.cons (OX.ne rfl rfl rfl rfl ?_)
                                      refine WO.cons (OX.pickT rfl rfl rfl rfl ?_)
                                      refine WO.cons (OX.move rfl rfl rfl ?_)
                                      first | refine WO.askD (t := 112) rfl (fun h112 => ?_) (fun h112 => ?_) | refine WO.askN (t := 112) rfl (fun h112 => ?_) (fun h112 => ?_) | refine WO.ask (t := 112) rfl (fun h112 => ?_) (fun h112 => ?_)
                                      ·
                                        refine WO.cons (OX.move rfl rfl rfl ?_)
                                        refine WO.cons (OX.move rfl rfl rfl ?_)
                                        refine WO.cons (OX.move rfl rfl rfl ?_)
                                        refine WO.cons (OX.indexAddr (z := 1) rfl rfl rfl rfl rfl (by omega) ?_)
                                        refine WO.cons (OX.load rfl rfl rfl (by first | (refine .l ?_; (repeat first | exact .head _ | apply List.Mem.tail); done) | (refine .m ?_; (repeat first | exact .head _ | apply List.Mem.tail); done) | assumption) (by exact row_ld hdp) ?_)
                                        refine WO.cons (OX.gt rfl rfl rfl rfl ?_)
                                        refine WO.cons (OX.pickT rfl rfl rfl rfl ?_)
                                        refine WO.cons (OX.pickF rfl rfl rfl rfl ?_)
                                        refine WO.nil ?_
                                        refine KQ.seq ?_
                                        first | refine WS.condD rfl (fun h120 => ?_) (fun h120 => ?_) | refine WS.condN rfl (fun h120 => ?_) (fun h120 => ?_) | refine WS.cond rfl (fun h120 => ?_) (fun h120 => ?_)
                                        ·
                                          exact (no_more hds hpe2 h105 (by omega) hdx hdp h112 h120).elim
                                        ·
                                          refine WS.skip ?_
                                          refine KQ.blk ?_
                                          refine KQ.seq ?_
                                          refine WS.region EOk ?_
                                          refine WO.cons (OX.add rfl rfl rfl rfl (by omega) ?_)
                                          refine WO.cons (OX.move rfl rfl rfl ?_)
                                          refine WO.nil ?_
                                          refine KQ.done ?_
                                          exact LQ.nx (k + 1, dl87, st87) (by repeat (first | exact Sub.refl _ | (apply Sub.cons; (repeat (first | exact .here | apply Take.there))) | apply Sub.drop | apply Sub.dropL)) ⟨rfl, rfl, rfl, rfl, rfl, rfl, trivial⟩ (by show 8 - (k + 1) < 8 - k; omega) ⟨by dsimp only; omega, hd87, by dsimp only; omega⟩
                                      ·
                                        refine WO.cons (OX.pass rfl rfl ?_)
                                        refine WO.cons (OX.pass rfl rfl ?_)
                                        refine WO.cons (OX.pass rfl rfl ?_)
                                        refine WO.cons (OX.pass rfl rfl ?_)
                                        refine WO.cons (OX.pass rfl rfl ?_)
                                        refine WO.cons (OX.pass rfl rfl ?_)
                                        refine WO.cons (OX.pickF rfl rfl rfl rfl ?_)
                                        refine WO.cons (OX.pickF rfl rfl rfl rfl ?_)
                                        refine WO.nil ?_
                                        refine KQ.seq ?_
                                        refine WS.condF rfl ?_
                                        refine WS.skip ?_
                                        refine KQ.blk ?_
                                        refine KQ.seq ?_
                                        refine WS.region EOk ?_
                                        refine WO.cons (OX.add rfl rfl rfl rfl (by omega) ?_)
                                        refine WO.cons (OX.move rfl rfl rfl ?_)
                                        refine WO.nil ?_
                                        refine KQ.done ?_
                                        exact LQ.nx (k + 1, dl87, st87) (by repeat (first | exact Sub.refl _ | (apply Sub.cons; (repeat (first | exact .here | apply Take.there))) | apply Sub.drop | apply Sub.dropL)) ⟨rfl, rfl, rfl, rfl, rfl, rfl, trivial⟩ (by show 8 - (k + 1) < 8 - k; omega) ⟨by dsimp only; omega, hd87, by dsimp only; omega⟩
                                    ·
                                      refine WO.cons (OX.pass rfl rfl ?_)
                                      refine WO.cons (OX.pass rfl rfl ?_)
                                      refine WO.cons (OX.pass rfl rfl ?_)
                                      obtain ⟨dx, hdp⟩ : ∃ x, dl[r87.toNat]? = some x := ⟨dl[r87.toNat]'(by omega), List.getElem?_eq_getElem (by omega)⟩
                                      refine WO.cons (OX.pass rfl rfl ?_)
                                      refine WO.cons (OX.pass rfl rfl ?_)
                                      refine WO.cons (OX.pickF rfl rfl rfl rfl ?_)
                                      refine WO.cons (OX.move rfl rfl rfl ?_)
                                      refine WO.cons (OX.pass rfl rfl ?_)
                                      refine WO.cons (OX.pass rfl rfl ?_)
                                      refine WO.cons (OX.pass rfl rfl ?_)
                                      refine WO.cons (OX.pass rfl rfl ?_)
                                      refine WO.cons (OX.pass rfl rfl ?_)
                                      refine WO.cons (OX.pass rfl rfl ?_)
                                      refine WO.cons (OX.pickF rfl rfl rfl rfl ?_)
                                      refine WO.cons (OX.pickF rfl rfl rfl rfl ?_)
                                      refine WO.nil ?_
                                      refine KQ.seq ?_
                                      refine WS.condF rfl ?_
                                      refine WS.skip ?_
                                      refine KQ.blk ?_
                                      refine KQ.seq ?_
                                      refine WS.region EOk ?_
                                      refine WO.cons (OX.add rfl rfl rfl rfl (by omega) ?_)
                                      refine WO.cons (OX.move rfl rfl rfl ?_)
                                      refine WO.nil ?_
                                      refine KQ.done ?_
                                      exact LQ.nx (k + 1, dl87, st87) (by repeat (first | exact Sub.refl _ | (apply Sub.cons; (repeat (first | exact .here | apply Take.there))) | apply Sub.drop | apply Sub.dropL)) ⟨rfl, rfl, rfl, rfl, rfl, rfl, trivial⟩ (by show 8 - (k + 1) < 8 - k; omega) ⟨by dsimp only; omega, hd87, by dsimp only; omega⟩
                      ·
                        refine WS.exit ?_
                        refine KQ.seq_exit ?_
                        refine KQ.done ?_
                        refine LQ.exit ?_
                        refine KQ.blk_here ?_
                        refine KQ.seq ?_
                        refine WS.seq ?_
                        refine WS.seq ?_
                        refine WS.region EOk ?_
                        refine WO.cons (OX.move rfl rfl rfl ?_)
                        refine WO.cons (OX.fieldAddr (r := 0) rfl rfl rfl rfl ?_)
                        refine WO.cons (OX.load rfl rfl rfl (by first | (refine .l ?_; (repeat first | exact .head _ | apply List.Mem.tail); done) | (refine .m ?_; (repeat first | exact .head _ | apply List.Mem.tail); done) | assumption) rfl ?_)
                        obtain ⟨c, hc1', hc2', hc3', hc4'⟩ := cal_row hcl hcr (p := post) (by omega)
                        refine WO.cons (OX.indexAddr (z := 1) rfl rfl rfl rfl rfl (by omega) ?_)
                        refine WO.cons (OX.load rfl rfl rfl (by first | (refine .l ?_; (repeat first | exact .head _ | apply List.Mem.tail); done) | (refine .m ?_; (repeat first | exact .head _ | apply List.Mem.tail); done) | assumption) (by exact cal_ld hc1') ?_)
                        refine WO.cons (OX.len rfl rfl rfl rfl ?_)
                        refine WO.cons (OX.ne rfl rfl rfl rfl ?_)
                        refine WO.nil ?_
                        refine KQ.seq ?_
                        first | refine WS.condD rfl (fun h128 => ?_) (fun h128 => ?_) | refine WS.condN rfl (fun h128 => ?_) (fun h128 => ?_) | refine WS.cond rfl (fun h128 => ?_) (fun h128 => ?_)
                        ·
                          exfalso; omega
                        ·
                          refine WS.skip ?_
                          refine KQ.seq ?_
                          refine WS.seq ?_
                          refine WS.draw EOk (ancs := [0, 0, 2, 7, 15, 0, 32, 0, 128, 384, 1023, 2047]) (ord := [0, 1, 2, 3, 4, 5, 6, 7, 8, 9, 10, 11]) (by kernel_rfl) ?_
                          refine WD.cons rfl (OX.move rfl rfl rfl ⟨trivial, ?_⟩)
                          refine WD.cons rfl (OX.fieldAddr (r := 0) rfl rfl rfl rfl ⟨⟨.inr trivial, trivial⟩, ?_⟩)
                          refine WD.cons rfl (OX.load rfl rfl rfl (by first | (refine .l ?_; (repeat first | exact .head _ | apply List.Mem.tail); done) | (refine .m ?_; (repeat first | exact .head _ | apply List.Mem.tail); done) | assumption) rfl ⟨⟨.inr trivial, ⟨.inr trivial, trivial⟩⟩, ?_⟩)
                          refine WD.cons rfl (OX.indexAddr (z := 1) rfl rfl rfl rfl rfl (by omega) ⟨⟨.inr trivial, ⟨.inr trivial, ⟨.inr trivial, trivial⟩⟩⟩, ?_⟩)
                          refine WD.cons rfl (OX.load rfl rfl rfl (by first | (refine .l ?_; (repeat first | exact .head _ | apply List.Mem.tail); done) | (refine .m ?_; (repeat first | exact .head _ | apply List.Mem.tail); done) | assumption) (by exact cal_ld hc1') ⟨⟨.inr trivial, ⟨.inr trivial, ⟨.inr trivial, ⟨.inr trivial, trivial⟩⟩⟩⟩, ?_⟩)
                          refine WD.cons rfl (OX.fieldAddr (r := 2) rfl rfl rfl rfl ⟨⟨.inr trivial, ⟨.inr trivial, ⟨.inr trivial, ⟨.inr trivial, ⟨.inr trivial, trivial⟩⟩⟩⟩⟩, ?_⟩)
                          refine WD.cons rfl (OX.load rfl rfl rfl (by first | (refine .l ?_; (repeat first | exact .head _ | apply List.Mem.tail); done) | (refine .m ?_; (repeat first | exact .head _ | apply List.Mem.tail); done) | assumption) rfl ⟨⟨.inr trivial, ⟨.inr trivial, ⟨.inr trivial, ⟨.inr trivial, ⟨.inr trivial, ⟨.inr trivial, trivial⟩⟩⟩⟩⟩⟩, ?_⟩)
                          refine WD.cons rfl (OX.fieldAddr (r := 1) rfl rfl rfl rfl ⟨⟨.inr trivial, ⟨.inr trivial, ⟨.inr trivial, ⟨.inr trivial, ⟨.inr trivial, ⟨.inr trivial, ⟨.inr trivial, trivial⟩⟩⟩⟩⟩⟩⟩, ?_⟩)
                          refine WD.cons rfl (OX.load rfl rfl rfl (by first | (refine .l ?_; (repeat first | exact .head _ | apply List.Mem.tail); done) | (refine .m ?_; (repeat first | exact .head _ | apply List.Mem.tail); done) | assumption) rfl ⟨⟨.inr trivial, ⟨.inr trivial, ⟨.inr trivial, ⟨.inr trivial, ⟨.inr trivial, ⟨.inr trivial, ⟨.inr trivial, ⟨.inr trivial, trivial⟩⟩⟩⟩⟩⟩⟩⟩, ?_⟩)
                          refine WD.cons rfl (OX.add rfl rfl rfl rfl (by omega) ⟨⟨.inr trivial, ⟨.inr trivial, ⟨.inr trivial, ⟨.inr trivial, ⟨.inr trivial, ⟨.inr trivial, ⟨.inr trivial, ⟨.inr trivial, ⟨.inr trivial, trivial⟩⟩⟩⟩⟩⟩⟩⟩⟩, ?_⟩)
                          refine WD.cons rfl (OX.indexAddr (z := 1) rfl rfl rfl rfl rfl (by omega) ⟨⟨.inr trivial, ⟨.inr trivial, ⟨.inr trivial, ⟨.inr trivial, ⟨.inr trivial, ⟨.inr trivial, ⟨.inr trivial, ⟨.inr trivial, ⟨.inr trivial, ⟨.inr trivial, trivial⟩⟩⟩⟩⟩⟩⟩⟩⟩⟩, ?_⟩)
                          obtain ⟨TT, hT1, hT2⟩ := calL_take hc1'
                          refine WD.cons rfl (OX.storeP rfl rfl rfl rfl rfl rfl (by first | exact perm_row (E := []) (T0 := Lw ++ []) hT1 | exact perm_row (E := [_]) (T0 := Lw ++ []) hT1 | exact perm_row (E := [_, _]) (T0 := Lw ++ []) hT1 | exact perm_row (E := [_, _, _]) (T0 := Lw ++ []) hT1 | exact perm_row (E := [_, _, _, _]) (T0 := Lw ++ []) hT1 | exact perm_row (E := [_, _, _, _, _]) (T0 := Lw ++ []) hT1 | exact perm_row (E := [_, _, _, _, _, _]) (T0 := Lw ++ []) hT1 | exact perm_row (E := [_, _, _, _, _, _, _]) (T0 := Lw ++ []) hT1 | exact perm_row (E := [_, _, _, _, _, _, _, _]) (T0 := Lw ++ []) hT1 | exact perm_row (E := [_, _, _, _, _, _, _, _, _]) (T0 := Lw ++ []) hT1 | exact perm_row (E := [_, _, _, _, _, _, _, _, _, _]) (T0 := Lw ++ []) hT1 | exact perm_row (E := [_, _, _, _, _, _, _, _, _, _, _]) (T0 := Lw ++ []) hT1 | exact perm_row (E := [_, _, _, _, _, _, _, _, _, _, _, _]) (T0 := Lw ++ []) hT1 | exact perm_row (E := [_, _, _, _, _, _, _, _, _, _, _, _, _]) (T0 := Lw ++ []) hT1) (row_st (by rw [hc3'.1]; omega)) ⟨⟨.inl (by kernel_rfl), ⟨.inl (by kernel_rfl), ⟨.inl (by kernel_rfl), ⟨.inl (by kernel_rfl), ⟨.inl (by kernel_rfl), ⟨.inl (by kernel_rfl), ⟨.inl (by kernel_rfl), ⟨.inl (by kernel_rfl), ⟨.inl (by kernel_rfl), ⟨.inl (by kernel_rfl), ⟨.inl (by kernel_rfl), trivial⟩⟩⟩⟩⟩⟩⟩⟩⟩⟩⟩, ?_⟩)
                          refine WD.nil ?_
                          refine KQ.seq ?_
                          refine WS.seq ?_
                          refine WS.sub (Sub.of_perm (perm_row (T0 := Lw ++ []) (hT2 _)).symm) ?_
                          obtain ⟨cal3, hcal3⟩ : ∃ x, x = cal.set post.toNat (c.1, c.2.set papers.toNat (day + 1)) := ⟨_, rfl⟩
                          rw [← hcal3, show calV cal = calV cal3 by rw [hcal3, calV_set hc1']]
                          have hcl3 : cal3.length = posts.toNat := by rw [hcal3, List.length_set]; exact hcl
                          have hcr3 : ∀ c ∈ cal3, RowOk c.2 := by rw [hcal3]; exact cal_set_ok hcr (hc3'.set (by omega) _)
                          have hcg : cget cal3 post papers = day + 1 := by rw [hcal3]; exact cget_set hc1' (by rw [hc3'.1]; omega)
                          refine WS.region EOk ?_
                          refine WO.cons (OX.loadG rfl rfl rfl (by first | (refine .l ?_; (repeat first | exact .head _ | apply List.Mem.tail); done) | (refine .m ?_; (repeat first | exact .head _ | apply List.Mem.tail); done) | assumption) rfl ((.cons (.cons .nil))) ?_)
                          refine WO.cons (OX.loadG rfl rfl rfl (by first | (refine .l ?_; (repeat first | exact .head _ | apply List.Mem.tail); done) | (refine .m ?_; (repeat first | exact .head _ | apply List.Mem.tail); done) | assumption) rfl ((.cons (.cons (.cons .nil)))) ?_)
                          refine WO.cons (OX.move rfl rfl rfl ?_)
                          refine WO.cons (OX.fieldAddr (r := 0) rfl rfl rfl rfl ?_)
                          refine WO.cons (OX.load rfl rfl rfl (by first | (refine .l ?_; (repeat first | exact .head _ | apply List.Mem.tail); done) | (refine .m ?_; (repeat first | exact .head _ | apply List.Mem.tail); done) | assumption) rfl ?_)
                          refine WO.cons (OX.call rfl rfl rfl (proves_ok (M := (ob, .cells (calV (cal3)) true) :: (calL (cal3) ++ Lw)) (own := true) (hW.mono fun p h => List.mem_cons_of_mem _ (List.mem_append_right _ h)) (by omega) hwl hws ⟨hh1, ⟨by omega, by omega⟩, hh3⟩ (cal := cal3) (List.mem_cons_self) (fun c hc => List.mem_cons_of_mem _ (List.mem_append_left _ (calL_mem hc))) hcr3 hcl3 (by omega) (by omega)) (TakeS.perm (by repeat (first | exact TakeS.nil | (apply TakeS.cons; (repeat (first | exact .here | apply Take.there)))))) (SubM.of (fun p hp => .inl (by first | (fail; done) | (rcases List.mem_cons.1 hp with hp | hp; subst hp; (first | exact (.head _) | exact (.tail _ (.head _)) | exact (.tail _ (.tail _ (.head _))) | exact (.tail _ (.tail _ (.tail _ (.head _)))) | exact (.tail _ (.tail _ (.tail _ (.tail _ (.head _))))) | exact (.tail _ (.tail _ (.tail _ (.tail _ (.tail _ (.head _)))))) | exact (.tail _ (.tail _ (.tail _ (.tail _ (.tail _ (.tail _ (.head _))))))) | exact (.tail _ (.tail _ (.tail _ (.tail _ (.tail _ (.tail _ (.tail _ (.head _)))))))) | exact (.tail _ (.tail _ (.tail _ (.tail _ (.tail _ (.tail _ (.tail _ (.tail _ (.head _))))))))) | exact (.tail _ (.tail _ (.tail _ (.tail _ (.tail _ (.tail _ (.tail _ (.tail _ (.tail _ (.head _)))))))))) | exact (.tail _ (.tail _ (.tail _ (.tail _ (.tail _ (.tail _ (.tail _ (.tail _ (.tail _ (.tail _ (.head _))))))))))) | exact (.tail _ (.tail _ (.tail _ (.tail _ (.tail _ (.tail _ (.tail _ (.tail _ (.tail _ (.tail _ (.tail _ (.head _)))))))))))) | exact (.tail _ (.tail _ (.tail _ (.tail _ (.tail _ (.tail _ (.tail _ (.tail _ (.tail _ (.tail _ (.tail _ (.tail _ (.head _))))))))))))) | exact (.tail _ (.tail _ (.tail _ (.tail _ (.tail _ (.tail _ (.tail _ (.tail _ (.tail _ (.tail _ (.tail _ (.tail _ (.tail _ (.head _)))))))))))))) | exact (.tail _ (.tail _ (.tail _ (.tail _ (.tail _ (.tail _ (.tail _ (.tail _ (.tail _ (.tail _ (.tail _ (.tail _ (.tail _ (.tail _ (.head _)))))))))))))))); rcases List.mem_append.1 hp with hp | hp; (repeat (first | exact hp | exact List.mem_append_left _ hp | apply List.mem_cons_of_mem | apply List.mem_append_right)); (repeat (first | exact hp | exact List.mem_append_left _ hp | apply List.mem_cons_of_mem | apply List.mem_append_right)))))) ?kk)
                          case kk =>
                            rintro _ _ ⟨got, er, rfl, rfl, hpe1, hpe2⟩
                            refine WO.cons (OX.move rfl rfl rfl ?_)
                            refine WO.cons (OX.extract rfl rfl rfl rfl ?_)
                            refine WO.cons (OX.extract rfl rfl rfl rfl ?_)
                            refine WO.cons (OX.assign rfl rfl rfl ?_)
                            refine WO.nil ?_
                            refine KQ.seq ?_
                            refine WS.seq ?_
                            refine WS.region EOk ?_
                            refine WO.cons (OX.move rfl rfl rfl ?_)
                            refine WO.cons (OX.eq rfl rfl rfl rfl ?_)
                            refine WO.cons (OX.move rfl rfl rfl ?_)
                            first | refine WO.askD (t := 151) rfl (fun h151 => ?_) (fun h151 => ?_) | refine WO.askN (t := 151) rfl (fun h151 => ?_) (fun h151 => ?_) | refine WO.ask (t := 151) rfl (fun h151 => ?_) (fun h151 => ?_)
                            ·
                              refine WO.cons (OX.call rfl rfl rfl (hawk) (TakeS.perm (by repeat (first | exact TakeS.nil | (apply TakeS.cons; (repeat (first | exact .here | apply Take.there)))))) (by first | exact SubM.nil | exact SubM.self (fun _ h => h) | (repeat (first | exact SubM.nil | (apply SubM.cons; exact (by first | (refine .l ?_; (repeat first | exact .head _ | apply List.Mem.tail); done) | (refine .m ?_; (repeat first | exact .head _ | apply List.Mem.tail); done) | assumption))))) ?kk)
                              case kk =>
                                rintro _ _ ⟨rfl, rfl⟩
                                refine WO.cons (OX.pickT rfl rfl rfl rfl ?_)
                                refine WO.cons (OX.assign rfl rfl rfl ?_)
                                refine WO.nil ?_
                                refine KQ.seq ?_
                                refine WS.ret ?_
                                refine KQ.done ?_
                                refine FQ.ret (.cons (.tmp rfl) (.nil)) ?_
                                exact ⟨[], Sub.nil _, rfl, rfl⟩
                            ·
                              exfalso; exact h151 (hpe1 (by rw [hcg]; omega))
end Go.Proofs.Ytgkmdkhhaapolaa
