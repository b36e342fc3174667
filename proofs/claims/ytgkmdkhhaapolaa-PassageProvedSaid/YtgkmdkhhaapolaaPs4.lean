/-
  PASSAGE, 4: a trip is begun. Printed by spec3.py.
-/
import Derived.Test.YtgkmdkhhaapolaaPs3
import Derived.Test.YtgkmdkhhaapolaaPp1
namespace Go.Proofs.Ytgkmdkhhaapolaa
open Go.Am Go.Proofs
set_option maxRecDepth 40000
set_option maxHeartbeats 4000000
set_option linter.unusedVariables false
set_option linter.unusedSimpArgs false
theorem begun_ok {posts post day papers : Int} {ws : List Wy} {wa : Option Am.Loc} {m wz : Nat} {wcp : Option Nat} {M : CL} (hW : WaysOk M wa m wz wcp ws) (hp : 1 ≤ posts ∧ posts ≤ 10) (hl : ws.length ≤ 24) (hws : ∀ w ∈ ws, w.Ok posts) (hh : (0 ≤ post ∧ post < posts) ∧ (0 ≤ day ∧ day ≤ 1000) ∧ 0 ≤ papers ∧ papers ≤ 15) : FN P 21 [.agg [iv posts, (.slice wa m wz wcp)], .agg [iv post, iv day, iv papers]] [] M (fun v L' => ∃ tb mb ds, v = .ptr (some ⟨tb, 0⟩) ∧ L' = [(tb, .cells (tripC posts (.slice wa m wz wcp) post day papers ds mb) true)] ∧ Days ws posts post day papers ds) := by
  refine FN.forget ?_
  obtain ⟨hh1, hh2, hh3⟩ := hh
  refine FN.intro EOk ENt rfl rfl rfl ?_
  refine WS.seq ?_
  refine WS.region EOk ?_
  refine WO.cons (OX.box rfl rfl rfl rfl fun b2 => ?_)
  refine WO.cons (OX.box rfl rfl rfl rfl fun b3 => ?_)
  refine WO.cons (OX.assign rfl rfl rfl ?_)
  refine WO.nil ?_
  refine KQ.seq ?_
  refine WS.seq ?_
  refine WS.region EOk ?_
  refine WO.cons (OX.loadG rfl rfl rfl (by first | (refine .l ?_; (repeat first | exact .head _ | apply List.Mem.tail); done) | (refine .m ?_; (repeat first | exact .head _ | apply List.Mem.tail); done) | assumption) rfl ((.cons (.cons .nil))) ?_)
  refine WO.cons (OX.loadG rfl rfl rfl (by first | (refine .l ?_; (repeat first | exact .head _ | apply List.Mem.tail); done) | (refine .m ?_; (repeat first | exact .head _ | apply List.Mem.tail); done) | assumption) rfl ((.cons (.cons (.cons .nil)))) ?_)
  refine WO.cons (OX.makeMap rfl rfl rfl fun b18 => ?_)
  refine WO.cons (OX.buildV (v := .agg (tripC posts (.slice wa m wz wcp) post day papers (List.replicate 160 0) b18)) rfl rfl rfl (by kernel_rfl) ?_)
  refine WO.cons (OX.box rfl rfl rfl rfl fun b20 => ?_)
  refine WO.cons (OX.alloc rfl rfl rfl rfl ((.cons .nil)) fun b5 => ?_)
  refine WO.cons (OX.storeL rfl rfl rfl rfl rfl rfl (by (repeat (first | exact .here | apply Take.there))) rfl ((.cons .nil)) ?_)
  refine WO.nil ?_
  refine KQ.seq ?_
  refine WS.seq ?_
  refine WS.seq ?_
  refine WS.region EOk ?_
  refine WO.cons (OX.move rfl rfl rfl ?_)
  refine WO.nil ?_
  refine KQ.seq ?_
  refine WS.block ?_
  refine WS.loop (S := Nat × List Int) (FF := fun s => [(2, .ptr (some ⟨b2, 0⟩)), (3, .ptr (some ⟨b3, 0⟩)), (5, .ptr (some ⟨b5, 0⟩)), (21, iv s.1)]) (LL := fun s => [(b5, .cells [.ptr (some ⟨b20, 0⟩)] true), (b20, .cells (tripC posts (.slice wa m wz wcp) post day papers s.2 b18) true), (b18, .map []), (b3, .cells [iv post, iv day, iv papers] true), (b2, .cells [iv posts, (.slice wa m wz wcp)] true)]) (I := fun s => s.1 ≤ 10 ∧ s.2.length = 160 ∧ ∀ i, i < s.1 * 16 → s.2[i]? = some 1001) (μ := fun s => 10 - s.1) (s0 := (0, List.replicate 160 0)) (⟨Nat.zero_le _, rfl, fun i hi => absurd hi (by omega)⟩) (by exact ⟨rfl, rfl, rfl, rfl, trivial⟩) (by repeat (first | exact Sub.nil _ | (apply Sub.cons; (repeat (first | exact .here | apply Take.there))))) ?_
  rintro ⟨p, ds⟩ ⟨hp1, hdl, hds⟩
  dsimp only at hp1 hdl hds ⊢
  refine WS.seq ?_
  refine WS.region EOk ?_
  refine WO.cons (OX.lt rfl rfl rfl rfl ?_)
  refine WO.nil ?_
  refine KQ.seq ?_
  refine WS.seq ?_
  first | refine WS.condD rfl (fun h22 => ?_) (fun h22 => ?_) | refine WS.condN rfl (fun h22 => ?_) (fun h22 => ?_) | refine WS.cond rfl (fun h22 => ?_) (fun h22 => ?_)
  ·
    refine WS.skip ?_
    refine KQ.seq ?_
    refine WS.seq ?_
    refine WS.block ?_
    refine WS.seq ?_
    refine WS.region EOk ?_
    refine WO.cons (OX.move rfl rfl rfl ?_)
    refine WO.cons (OX.assign rfl rfl rfl ?_)
    refine WO.nil ?_
    refine KQ.seq ?_
    refine WS.seq ?_
    refine WS.region EOk ?_
    refine WO.cons (OX.move rfl rfl rfl ?_)
    refine WO.nil ?_
    refine KQ.seq ?_
    refine WS.block ?_
    refine WS.loop (S := Nat × List Int) (FF := fun s => [(2, .ptr (some ⟨b2, 0⟩)), (3, .ptr (some ⟨b3, 0⟩)), (5, .ptr (some ⟨b5, 0⟩)), (21, iv p), (6, iv p), (24, iv s.1)]) (LL := fun s => [(b5, .cells [.ptr (some ⟨b20, 0⟩)] true), (b20, .cells (tripC posts (.slice wa m wz wcp) post day papers s.2 b18) true), (b18, .map []), (b3, .cells [iv post, iv day, iv papers] true), (b2, .cells [iv posts, (.slice wa m wz wcp)] true)]) (I := fun s => s.1 ≤ 16 ∧ s.2.length = 160 ∧ ∀ i, i < p * 16 + s.1 → s.2[i]? = some 1001) (μ := fun s => 16 - s.1) (s0 := (0, ds)) (⟨Nat.zero_le _, hdl, fun i hi => hds i (by dsimp only at hi; omega)⟩) (by exact ⟨rfl, rfl, rfl, rfl, rfl, rfl, trivial⟩) (by repeat (first | exact Sub.nil _ | (apply Sub.cons; (repeat (first | exact .here | apply Take.there))))) ?_
    rintro ⟨s, ds⟩ ⟨hs1, hdl, hds⟩
    dsimp only at hs1 hdl hds ⊢
    refine WS.seq ?_
    refine WS.region EOk ?_
    refine WO.cons (OX.lt rfl rfl rfl rfl ?_)
    refine WO.nil ?_
    refine KQ.seq ?_
    refine WS.seq ?_
    first | refine WS.condD rfl (fun h25 => ?_) (fun h25 => ?_) | refine WS.condN rfl (fun h25 => ?_) (fun h25 => ?_) | refine WS.cond rfl (fun h25 => ?_) (fun h25 => ?_)
    ·
      refine WS.skip ?_
      refine KQ.seq ?_
      refine WS.seq ?_
      refine WS.block ?_
      refine WS.seq ?_
      refine WS.region EOk ?_
      refine WO.cons (OX.move rfl rfl rfl ?_)
      refine WO.cons (OX.assign rfl rfl rfl ?_)
      refine WO.nil ?_
      refine KQ.seq ?_
      refine WS.region EOk ?_
      refine WO.cons (OX.load rfl rfl rfl (by first | (refine .l ?_; (repeat first | exact .head _ | apply List.Mem.tail); done) | (refine .m ?_; (repeat first | exact .head _ | apply List.Mem.tail); done) | assumption) rfl ?_)
      refine WO.cons (OX.move rfl rfl rfl ?_)
      refine WO.cons (OX.move rfl rfl rfl ?_)
      refine WO.cons (OX.nilCheck rfl rfl rfl ?_)
      refine WO.cons (OX.fieldAddr (r := 5) rfl rfl rfl rfl ?_)
      refine WO.cons (OX.indexArr (m := 10) (z := 16) rfl rfl rfl rfl rfl (by omega) ?_)
      refine WO.cons (OX.indexArr (m := 16) (z := 1) rfl rfl rfl rfl rfl (by omega) ?_)
      refine WO.cons (OX.store rfl rfl rfl rfl rfl rfl (by (repeat (first | exact .here | apply Take.there))) (trip_store (i := p * 16 + s) (by simp only [Int.toNat_natCast]; omega) (by omega)) ?_)
      refine WO.nil ?_
      refine KQ.blk ?_
      refine KQ.seq ?_
      refine WS.region EOk ?_
      refine WO.cons (OX.add rfl rfl rfl rfl (by omega) ?_)
      refine WO.cons (OX.move rfl rfl rfl ?_)
      refine WO.nil ?_
      refine KQ.done ?_
      exact LQ.nx (s + 1, ds.set (p * 16 + s) 1001) (by repeat (first | exact Sub.nil _ | (apply Sub.cons; (repeat (first | exact .here | apply Take.there))))) ⟨rfl, rfl, rfl, rfl, rfl, rfl, trivial⟩ (by show 16 - (s + 1) < 16 - s; omega) ⟨by dsimp only; omega, by simpa using hdl, fun i hi => set_below hds (by omega) i (by dsimp only at hi; omega)⟩
    ·
      refine WS.exit ?_
      refine KQ.seq_exit ?_
      refine KQ.done ?_
      refine LQ.exit ?_
      refine KQ.blk_here ?_
      refine KQ.blk ?_
      refine KQ.seq ?_
      refine WS.region EOk ?_
      refine WO.cons (OX.add rfl rfl rfl rfl (by omega) ?_)
      refine WO.cons (OX.move rfl rfl rfl ?_)
      refine WO.nil ?_
      refine KQ.done ?_
      exact LQ.nx (p + 1, ds) (by repeat (first | exact Sub.nil _ | (apply Sub.cons; (repeat (first | exact .here | apply Take.there))))) ⟨rfl, rfl, rfl, rfl, trivial⟩ (by show 10 - (p + 1) < 10 - p; omega) ⟨by dsimp only; omega, hdl, fun i hi => hds i (by dsimp only at hi; omega)⟩
  ·
    refine WS.exit ?_
    refine KQ.seq_exit ?_
    refine KQ.done ?_
    refine LQ.exit ?_
    refine KQ.blk_here ?_
    refine KQ.seq ?_
    refine WS.seq ?_
    refine WS.draw EOk (ancs := [0, 0, 2, 0, 8, 0, 32, 1, 129, 391, 1023, 2047]) (ord := [0, 1, 2, 3, 4, 5, 6, 7, 8, 9, 10, 11]) (by kernel_rfl) ?_
    refine WD.cons rfl (OX.load rfl rfl rfl (by first | (refine .l ?_; (repeat first | exact .head _ | apply List.Mem.tail); done) | (refine .m ?_; (repeat first | exact .head _ | apply List.Mem.tail); done) | assumption) rfl ⟨trivial, ?_⟩)
    refine WD.cons rfl (OX.fieldAddr (r := 0) rfl rfl rfl rfl ⟨⟨.inr trivial, trivial⟩, ?_⟩)
    refine WD.cons rfl (OX.load rfl rfl rfl (by first | (refine .l ?_; (repeat first | exact .head _ | apply List.Mem.tail); done) | (refine .m ?_; (repeat first | exact .head _ | apply List.Mem.tail); done) | assumption) rfl ⟨⟨.inr trivial, ⟨.inr trivial, trivial⟩⟩, ?_⟩)
    refine WD.cons rfl (OX.fieldAddr (r := 2) rfl rfl rfl rfl ⟨⟨.inr trivial, ⟨.inr trivial, ⟨.inr trivial, trivial⟩⟩⟩, ?_⟩)
    refine WD.cons rfl (OX.load rfl rfl rfl (by first | (refine .l ?_; (repeat first | exact .head _ | apply List.Mem.tail); done) | (refine .m ?_; (repeat first | exact .head _ | apply List.Mem.tail); done) | assumption) rfl ⟨⟨.inr trivial, ⟨.inr trivial, ⟨.inr trivial, ⟨.inr trivial, trivial⟩⟩⟩⟩, ?_⟩)
    refine WD.cons rfl (OX.fieldAddr (r := 1) rfl rfl rfl rfl ⟨⟨.inr trivial, ⟨.inr trivial, ⟨.inr trivial, ⟨.inr trivial, ⟨.inr trivial, trivial⟩⟩⟩⟩⟩, ?_⟩)
    refine WD.cons rfl (OX.load rfl rfl rfl (by first | (refine .l ?_; (repeat first | exact .head _ | apply List.Mem.tail); done) | (refine .m ?_; (repeat first | exact .head _ | apply List.Mem.tail); done) | assumption) rfl ⟨⟨.inr trivial, ⟨.inr trivial, ⟨.inr trivial, ⟨.inr trivial, ⟨.inr trivial, ⟨.inr trivial, trivial⟩⟩⟩⟩⟩⟩, ?_⟩)
    refine WD.cons rfl (OX.nilCheck rfl rfl rfl ⟨⟨.inr trivial, ⟨.inr trivial, ⟨.inr trivial, ⟨.inr trivial, ⟨.inr trivial, ⟨.inr trivial, ⟨.inr trivial, trivial⟩⟩⟩⟩⟩⟩⟩, ?_⟩)
    refine WD.cons rfl (OX.fieldAddr (r := 5) rfl rfl rfl rfl ⟨⟨.inr trivial, ⟨.inr trivial, ⟨.inr trivial, ⟨.inr trivial, ⟨.inr trivial, ⟨.inr trivial, ⟨.inr trivial, ⟨.inr trivial, trivial⟩⟩⟩⟩⟩⟩⟩⟩, ?_⟩)
    refine WD.cons rfl (OX.indexArr (m := 10) (z := 16) rfl rfl rfl rfl rfl (by omega) ⟨⟨.inr trivial, ⟨.inr trivial, ⟨.inr trivial, ⟨.inr trivial, ⟨.inr trivial, ⟨.inr trivial, ⟨.inr trivial, ⟨.inr trivial, ⟨.inr trivial, trivial⟩⟩⟩⟩⟩⟩⟩⟩⟩, ?_⟩)
    refine WD.cons rfl (OX.indexArr (m := 16) (z := 1) rfl rfl rfl rfl rfl (by omega) ⟨⟨.inr trivial, ⟨.inr trivial, ⟨.inr trivial, ⟨.inr trivial, ⟨.inr trivial, ⟨.inr trivial, ⟨.inr trivial, ⟨.inr trivial, ⟨.inr trivial, ⟨.inr trivial, trivial⟩⟩⟩⟩⟩⟩⟩⟩⟩⟩, ?_⟩)
    refine WD.cons rfl (OX.store rfl rfl rfl rfl rfl rfl (by (repeat (first | exact .here | apply Take.there))) (trip_store (i := ix post papers) (by simp only [ix]; omega) (by rw [hdl]; exact ix_lt (by omega) (by omega))) ⟨⟨.inl (by kernel_rfl), ⟨.inl (by kernel_rfl), ⟨.inl (by kernel_rfl), ⟨.inl (by kernel_rfl), ⟨.inl (by kernel_rfl), ⟨.inl (by kernel_rfl), ⟨.inl (by kernel_rfl), ⟨.inl (by kernel_rfl), ⟨.inl (by kernel_rfl), ⟨.inl (by kernel_rfl), ⟨.inl (by kernel_rfl), trivial⟩⟩⟩⟩⟩⟩⟩⟩⟩⟩⟩, ?_⟩)
    refine WD.nil ?_
    refine KQ.seq ?_
    refine WS.seq ?_
    refine WS.region EOk ?_
    refine WO.cons (OX.fieldAddr (r := 0) rfl rfl rfl rfl ?_)
    refine WO.cons (OX.load rfl rfl rfl (by first | (refine .l ?_; (repeat first | exact .head _ | apply List.Mem.tail); done) | (refine .m ?_; (repeat first | exact .head _ | apply List.Mem.tail); done) | assumption) rfl ?_)
    refine WO.cons (OX.fieldAddr (r := 2) rfl rfl rfl rfl ?_)
    refine WO.cons (OX.load rfl rfl rfl (by first | (refine .l ?_; (repeat first | exact .head _ | apply List.Mem.tail); done) | (refine .m ?_; (repeat first | exact .head _ | apply List.Mem.tail); done) | assumption) rfl ?_)
    refine WO.cons (OX.build rfl rfl rfl rfl ((.cons (.cons .nil))) ?_)
    refine WO.cons (OX.buildSlice rfl rfl rfl rfl ((.cons (.cons .nil))) fun b52 => ?_)
    refine WO.cons (OX.alloc rfl rfl rfl rfl ((.cons .nil)) fun b8 => ?_)
    refine WO.cons (OX.storeL rfl rfl rfl rfl rfl rfl (by (repeat (first | exact .here | apply Take.there))) rfl ((.cons .nil)) ?_)
    refine WO.nil ?_
    refine KQ.seq ?_
    refine WS.seq ?_
    refine WS.block ?_
    refine WS.loop (S := St) (FF := fun _ => [(2, .ptr (some ⟨b2, 0⟩)), (3, .ptr (some ⟨b3, 0⟩)), (5, .ptr (some ⟨b5, 0⟩)), (8, .ptr (some ⟨b8, 0⟩))]) (LL := fun s => tripL posts (.slice wa m wz wcp) post day papers b2 b3 b5 b8 b18 b20 s) (I := fun s => BI ws posts post day papers s.ds s.todo (fun _ _ _ => False) ∧ s.Ok) (μ := St.mu) (s0 := ⟨ds.set (ix post papers) day, [(post, papers)], b52, 0, [iv post, iv papers], some 1, []⟩) (⟨BI.init (by omega) (by omega) (by omega) (by omega) hdl (fun i hi => hds i (by omega)) hws, rfl, (fun c hc => by cases hc; exact Nat.le_refl _), rfl⟩) (by exact ⟨rfl, rfl, rfl, rfl, trivial⟩) (by repeat (first | exact Sub.nil _ | (apply Sub.cons; (repeat (first | exact .here | apply Take.there))))) ?_
    rintro ⟨ds, todo, tb, o, cs, cp, es⟩ ⟨hBI, htk, hcp, hes⟩
    dsimp only at hBI htk hcp hes ⊢
    refine WS.seq ?_
    refine WS.seq ?_
    refine WS.region EOk ?_
    refine WO.cons (OX.load rfl rfl rfl (by first | (refine .l ?_; (repeat first | exact .head _ | apply List.Mem.tail); done) | (refine .m ?_; (repeat first | exact .head _ | apply List.Mem.tail); done) | assumption) rfl ?_)
    refine WO.cons (OX.len rfl rfl rfl rfl ?_)
    refine WO.cons (OX.gt rfl rfl rfl rfl ?_)
    refine WO.nil ?_
    refine KQ.seq ?_
    first | refine WS.condD rfl (fun h55 => ?_) (fun h55 => ?_) | refine WS.condN rfl (fun h55 => ?_) (fun h55 => ?_) | refine WS.cond rfl (fun h55 => ?_) (fun h55 => ?_)
    ·
      rcases todo with _ | ⟨⟨p0, s0⟩, todo⟩
      · simp at h55
      obtain ⟨⟨hq1, hq2⟩, hq3, hq4⟩ := hBI.todoOk (p0, s0) (.head _)
      dsimp only at hq1 hq2 hq3 hq4
      refine WS.skip ?_
      refine KQ.seq ?_
      refine WS.block ?_
      refine WS.seq ?_
      refine WS.region EOk ?_
      refine WO.cons (OX.load rfl rfl rfl (by first | (refine .l ?_; (repeat first | exact .head _ | apply List.Mem.tail); done) | (refine .m ?_; (repeat first | exact .head _ | apply List.Mem.tail); done) | assumption) rfl ?_)
      refine WO.cons (OX.indexAddr (z := 2) rfl rfl rfl rfl rfl (by refine ⟨by omega, ?_⟩; simp only [List.length_cons]; omega) ?_)
      refine WO.cons (OX.load rfl rfl rfl (by first | (refine .l ?_; (repeat first | exact .head _ | apply List.Mem.tail); done) | (refine .m ?_; (repeat first | exact .head _ | apply List.Mem.tail); done) | assumption) (by exact todo_head htk) ?_)
      refine WO.cons (OX.alloc rfl rfl rfl rfl ((.cons (.cons .nil))) fun b9 => ?_)
      refine WO.cons (OX.storeL rfl rfl rfl rfl rfl rfl (by (repeat (first | exact .here | apply Take.there))) rfl ((.cons (.cons .nil))) ?_)
      refine WO.nil ?_
      refine KQ.seq ?_
      refine WS.seq ?_
      refine WS.region EOk ?_
      refine WO.cons (OX.load rfl rfl rfl (by first | (refine .l ?_; (repeat first | exact .head _ | apply List.Mem.tail); done) | (refine .m ?_; (repeat first | exact .head _ | apply List.Mem.tail); done) | assumption) rfl ?_)
      refine WO.cons (OX.sliceFrom (z := 2) (i := 1) rfl rfl rfl rfl rfl (by simp) ?_)
      refine WO.cons (OX.storeL rfl rfl rfl rfl rfl rfl (by (repeat (first | exact .here | apply Take.there))) rfl ((.cons .nil)) ?_)
      refine WO.nil ?_
      refine KQ.seq ?_
      refine WS.seq ?_
      refine WS.draw EOk (ancs := [0, 1, 3, 7, 0, 16, 63]) (ord := [0, 1, 2, 3, 4, 5, 6]) (by kernel_rfl) ?_
      refine WD.cons rfl (OX.load rfl rfl rfl (by first | (refine .l ?_; (repeat first | exact .head _ | apply List.Mem.tail); done) | (refine .m ?_; (repeat first | exact .head _ | apply List.Mem.tail); done) | assumption) rfl ⟨trivial, ?_⟩)
      refine WD.cons rfl (OX.nilCheck rfl rfl rfl ⟨⟨.inr trivial, trivial⟩, ?_⟩)
      refine WD.cons rfl (OX.fieldAddr (r := 0) rfl rfl rfl rfl ⟨⟨.inr trivial, ⟨.inr trivial, trivial⟩⟩, ?_⟩)
      refine WD.cons rfl (OX.loadG rfl rfl rfl (by first | (refine .l ?_; (repeat first | exact .head _ | apply List.Mem.tail); done) | (refine .m ?_; (repeat first | exact .head _ | apply List.Mem.tail); done) | assumption) rfl ((.cons (.cons .nil))) ⟨⟨.inr trivial, ⟨.inr trivial, ⟨.inr trivial, trivial⟩⟩⟩, ?_⟩)
      refine WD.cons rfl (OX.fieldAddr (r := 0) rfl rfl rfl rfl ⟨⟨.inr trivial, ⟨.inr trivial, ⟨.inr trivial, ⟨.inr trivial, trivial⟩⟩⟩⟩, ?_⟩)
      refine WD.cons rfl (OX.load rfl rfl rfl (by first | (refine .l ?_; (repeat first | exact .head _ | apply List.Mem.tail); done) | (refine .m ?_; (repeat first | exact .head _ | apply List.Mem.tail); done) | assumption) rfl ⟨⟨.inr trivial, ⟨.inr trivial, ⟨.inr trivial, ⟨.inr trivial, ⟨.inr trivial, trivial⟩⟩⟩⟩⟩, ?_⟩)
      refine WD.cons rfl (OX.call rfl rfl rfl (leading_ok rfl) (TakeS.perm (by repeat (first | exact TakeS.nil | (apply TakeS.cons; (repeat (first | exact .here | apply Take.there)))))) (by first | exact SubM.nil | exact SubM.self (fun _ h => h) | (repeat (first | exact SubM.nil | (apply SubM.cons; exact (by first | (refine .l ?_; (repeat first | exact .head _ | apply List.Mem.tail); done) | (refine .m ?_; (repeat first | exact .head _ | apply List.Mem.tail); done) | assumption))))) ?kk)
      case kk =>
        rintro _ _ ⟨c2, c3, rfl, rfl⟩
        refine ⟨⟨.inl (by kernel_rfl), ⟨.inl (by kernel_rfl), ⟨.inl (by kernel_rfl), ⟨.inl (by kernel_rfl), ⟨.inl (by kernel_rfl), ⟨.inl (by kernel_rfl), trivial⟩⟩⟩⟩⟩⟩, ?_⟩
        refine WD.nil ?_
        refine KQ.seq ?_
        refine WS.block ?_
        have hm0 : ∃ m0, (⟨ds, todo, tb, o + 1 * 2, cs, cp.map (· - 1), es⟩ : St).mu = m0 := ⟨_, rfl⟩
        obtain ⟨m0, hm0⟩ := hm0
        have hmlt : m0 < (⟨ds, (p0, s0) :: todo, tb, o, cs, cp, es⟩ : St).mu := by rw [← hm0]; have := sum_nn ds (fun i x hx => (hBI.rng i x hx).1); simp only [St.mu, List.length_cons]; omega
        refine WS.range' rfl (fun f y asg bod hasg hbod hf => ?_)
        refine FN.mono (FN.frame (L₁ := (y, .loop ⟨.ready, none, f, [68, 69], asg, bod⟩) :: (b9, .cells [iv p0, iv s0] true) :: tripL posts (.slice wa m wz wcp) post day papers b2 b3 b5 b8 b18 b20 ⟨ds, todo, tb, o + 1 * 2, cs, cp.map (· - 1), es⟩) (L₂ := [(c3, .cells [iv p0] true), (c2, .cells [iv posts, (.slice wa m wz wcp)] true)]) (M₁ := (c2, .cells [iv posts, (.slice wa m wz wcp)] true) :: (c3, .cells [iv p0] true) :: M) (leads_ok (S := St) (A := fun st => (y, .loop ⟨.ready, none, f, [68, 69], asg, bod⟩) :: (b9, .cells [iv p0, iv s0] true) :: tripL posts (.slice wa m wz wcp) post day papers b2 b3 b5 b8 b18 b20 st) (Inv := fun k st => BI ws posts post day papers st.ds st.todo (Cur ws p0 s0 k) ∧ st.Ok ∧ st.mu ≤ m0) (Stop := fun _ => False) (hW.mono fun p h => List.mem_cons_of_mem _ (List.mem_cons_of_mem _ h)) (.head _) (.tail _ (.head _)) ?hy ?hn (s0 := ⟨ds, todo, tb, o + 1 * 2, cs, cp.map (· - 1), es⟩) ?h0 (by omega)) ?pp ?sm) ?post
        case hn => intro k st w hI hk hne; exact ⟨hI.1.skip hk fun e => absurd e hne, hI.2⟩
        case h0 => exact ⟨hBI.pop, ⟨todo_tail htk, (fun c hc => by cases cp with | none => cases hc | some c0 => simp only [Option.map_some, Option.some.injEq] at hc; have := hcp c0 rfl; simp only [List.length_cons] at this; dsimp only; omega), hes⟩, by rw [hm0]; exact Nat.le_refl _⟩
        case pp => exact TakeS.perm (by repeat (first | exact TakeS.nil | (apply TakeS.cons; (repeat (first | exact .here | apply Take.there)))))
        case sm => exact SubM.of (fun p h => by rcases List.mem_cons.1 h with rfl | h; exact .inl (.tail _ (.head _)); rcases List.mem_cons.1 h with rfl | h; exact .inl (.head _); exact .inr h)
        case hy =>
          rintro k ⟨ds, todo, tb, o, cs, cp, es⟩ w ⟨hBI, ⟨htk, hcp, hes⟩, hmu⟩ hk hsrc
          dsimp only at hBI htk hcp hes
          have hwm : w ∈ ws := List.mem_of_getElem? hk
          obtain ⟨⟨w1, w2⟩, ⟨w3, w4⟩, w5, ⟨w6, w7⟩, w8, w8b, ⟨w9, w10⟩, ⟨w11, w12⟩, w13⟩ := hws w hwm
          have hbr := bor_rng (a := s0) (b := w.gives) (by omega) (by omega)
          obtain ⟨hat, hat1, hat2⟩ := hBI.at (p := p0) (s := s0) (by omega) (by omega)
          obtain ⟨hbt, hbt1, hbt2⟩ := hBI.at (p := w.dst) (s := bor s0 w.gives) (by omega) hbr
          have hdl := hBI.len
          refine GN.forget (GN.yld hf rfl rfl (WS.as hasg ?_))
          refine WS.seq ?_
          refine WS.region EOk ?_
          refine WO.cons (OX.assign rfl rfl rfl ?_)
          refine WO.nil ?_
          refine KQ.seq ?_
          refine WS.region EOk ?_
          refine WO.cons (OX.alloc rfl rfl rfl rfl ((.cons (.cons (.cons (.cons (.cons (.cons (.cons (.cons .nil))))))))) fun b11 => ?_)
          refine WO.cons (OX.storeL rfl rfl rfl rfl rfl rfl (by (repeat (first | exact .here | apply Take.there))) rfl ((.cons (.cons (.cons (.cons (.cons (.cons (.cons (.cons .nil))))))))) ?_)
          refine WO.nil ?_
          refine KQ.done (YQ.go (WS.as hbod ?_))
          refine WS.block ?_
          refine WS.seq ?_
          refine WS.region EOk ?_
          refine WO.cons (OX.loadG rfl rfl rfl (by first | (refine .l ?_; (repeat first | exact .head _ | apply List.Mem.tail); done) | (refine .m ?_; (repeat first | exact .head _ | apply List.Mem.tail); done) | assumption) rfl ((.cons (.cons (.cons (.cons (.cons (.cons (.cons (.cons .nil))))))))) ?_)
          refine WO.cons (OX.makeFunc rfl rfl rfl rfl ((.cons .nil)) (.nil) ?_)
          refine WO.cons (OX.assign rfl rfl rfl ?_)
          refine WO.nil ?_
          refine KQ.seq ?_
          refine WS.seq ?_
          refine WS.draw EOk (ancs := [0, 0, 2, 0, 0, 16, 0, 64, 8, 264, 824, 2040, 4088, 0, 8192, 32766, 65535, 131071, 262143, 262143, 0, 1572863, 4194303]) (ord := [0, 1, 2, 3, 4, 5, 6, 7, 8, 9, 10, 11, 12, 13, 14, 15, 20, 16, 17, 18, 19, 21, 22]) (by kernel_rfl) ?_
          refine WD.cons rfl (OX.move rfl rfl rfl ⟨trivial, ?_⟩)
          refine WD.cons rfl (OX.fieldAddr (r := 0) rfl rfl rfl rfl ⟨⟨.inr trivial, trivial⟩, ?_⟩)
          refine WD.cons rfl (OX.load rfl rfl rfl (by first | (refine .l ?_; (repeat first | exact .head _ | apply List.Mem.tail); done) | (refine .m ?_; (repeat first | exact .head _ | apply List.Mem.tail); done) | assumption) rfl ⟨⟨.inr trivial, ⟨.inr trivial, trivial⟩⟩, ?_⟩)
          refine WD.cons rfl (OX.load rfl rfl rfl (by first | (refine .l ?_; (repeat first | exact .head _ | apply List.Mem.tail); done) | (refine .m ?_; (repeat first | exact .head _ | apply List.Mem.tail); done) | assumption) rfl ⟨⟨.inr trivial, ⟨.inr trivial, ⟨.inr trivial, trivial⟩⟩⟩, ?_⟩)
          refine WD.cons rfl (OX.fieldAddr (r := 0) rfl rfl rfl rfl ⟨⟨.inr trivial, ⟨.inr trivial, ⟨.inr trivial, ⟨.inr trivial, trivial⟩⟩⟩⟩, ?_⟩)
          refine WD.cons rfl (OX.load rfl rfl rfl (by first | (refine .l ?_; (repeat first | exact .head _ | apply List.Mem.tail); done) | (refine .m ?_; (repeat first | exact .head _ | apply List.Mem.tail); done) | assumption) rfl ⟨⟨.inr trivial, ⟨.inr trivial, ⟨.inr trivial, ⟨.inr trivial, ⟨.inr trivial, trivial⟩⟩⟩⟩⟩, ?_⟩)
          refine WD.cons rfl (OX.fieldAddr (r := 1) rfl rfl rfl rfl ⟨⟨.inr trivial, ⟨.inr trivial, ⟨.inr trivial, ⟨.inr trivial, ⟨.inr trivial, ⟨.inr trivial, trivial⟩⟩⟩⟩⟩⟩, ?_⟩)
          refine WD.cons rfl (OX.load rfl rfl rfl (by first | (refine .l ?_; (repeat first | exact .head _ | apply List.Mem.tail); done) | (refine .m ?_; (repeat first | exact .head _ | apply List.Mem.tail); done) | assumption) rfl ⟨⟨.inr trivial, ⟨.inr trivial, ⟨.inr trivial, ⟨.inr trivial, ⟨.inr trivial, ⟨.inr trivial, ⟨.inr trivial, trivial⟩⟩⟩⟩⟩⟩⟩, ?_⟩)
          refine WD.cons rfl (OX.nilCheck rfl rfl rfl ⟨⟨.inr trivial, ⟨.inr trivial, ⟨.inr trivial, ⟨.inr trivial, ⟨.inr trivial, ⟨.inr trivial, ⟨.inr trivial, ⟨.inr trivial, trivial⟩⟩⟩⟩⟩⟩⟩⟩, ?_⟩)
          refine WD.cons rfl (OX.fieldAddr (r := 5) rfl rfl rfl rfl ⟨⟨.inr trivial, ⟨.inr trivial, ⟨.inr trivial, ⟨.inr trivial, ⟨.inr trivial, ⟨.inr trivial, ⟨.inr trivial, ⟨.inr trivial, ⟨.inr trivial, trivial⟩⟩⟩⟩⟩⟩⟩⟩⟩, ?_⟩)
          refine WD.cons rfl (OX.indexArr (m := 10) (z := 16) rfl rfl rfl rfl rfl (by omega) ⟨⟨.inr trivial, ⟨.inr trivial, ⟨.inr trivial, ⟨.inr trivial, ⟨.inr trivial, ⟨.inr trivial, ⟨.inr trivial, ⟨.inr trivial, ⟨.inr trivial, ⟨.inr trivial, trivial⟩⟩⟩⟩⟩⟩⟩⟩⟩⟩, ?_⟩)
          refine WD.cons rfl (OX.indexArr (m := 16) (z := 1) rfl rfl rfl rfl rfl (by omega) ⟨⟨.inr trivial, ⟨.inr trivial, ⟨.inr trivial, ⟨.inr trivial, ⟨.inr trivial, ⟨.inr trivial, ⟨.inr trivial, ⟨.inr trivial, ⟨.inr trivial, ⟨.inr trivial, ⟨.inr trivial, trivial⟩⟩⟩⟩⟩⟩⟩⟩⟩⟩⟩, ?_⟩)
          refine WD.cons rfl (OX.load rfl rfl rfl (by first | (refine .l ?_; (repeat first | exact .head _ | apply List.Mem.tail); done) | (refine .m ?_; (repeat first | exact .head _ | apply List.Mem.tail); done) | assumption) (by exact trip_load (i := ix p0 s0) (by simp only [ix]; omega) hat) ⟨⟨.inr trivial, ⟨.inr trivial, ⟨.inr trivial, ⟨.inr trivial, ⟨.inr trivial, ⟨.inr trivial, ⟨.inr trivial, ⟨.inr trivial, ⟨.inr trivial, ⟨.inr trivial, ⟨.inr trivial, ⟨.inr trivial, trivial⟩⟩⟩⟩⟩⟩⟩⟩⟩⟩⟩⟩, ?_⟩)
          refine WD.cons rfl (OX.fieldAddr (r := 1) rfl rfl rfl rfl ⟨⟨.inr trivial, ⟨.inr trivial, ⟨.inr trivial, ⟨.inr trivial, ⟨.inr trivial, ⟨.inr trivial, ⟨.inr trivial, ⟨.inr trivial, ⟨.inr trivial, ⟨.inr trivial, ⟨.inr trivial, ⟨.inr trivial, ⟨.inr trivial, trivial⟩⟩⟩⟩⟩⟩⟩⟩⟩⟩⟩⟩⟩, ?_⟩)
          refine WD.cons rfl (OX.load rfl rfl rfl (by first | (refine .l ?_; (repeat first | exact .head _ | apply List.Mem.tail); done) | (refine .m ?_; (repeat first | exact .head _ | apply List.Mem.tail); done) | assumption) rfl ⟨⟨.inr trivial, ⟨.inr trivial, ⟨.inr trivial, ⟨.inr trivial, ⟨.inr trivial, ⟨.inr trivial, ⟨.inr trivial, ⟨.inr trivial, ⟨.inr trivial, ⟨.inr trivial, ⟨.inr trivial, ⟨.inr trivial, ⟨.inr trivial, ⟨.inr trivial, trivial⟩⟩⟩⟩⟩⟩⟩⟩⟩⟩⟩⟩⟩⟩, ?_⟩)
          refine WD.cons rfl (OX.build rfl rfl rfl rfl ((.cons (.cons (.cons .nil)))) ⟨⟨.inr trivial, ⟨.inr trivial, ⟨.inr trivial, ⟨.inr trivial, ⟨.inr trivial, ⟨.inr trivial, ⟨.inr trivial, ⟨.inr trivial, ⟨.inr trivial, ⟨.inr trivial, ⟨.inr trivial, ⟨.inr trivial, ⟨.inr trivial, ⟨.inr trivial, ⟨.inr trivial, trivial⟩⟩⟩⟩⟩⟩⟩⟩⟩⟩⟩⟩⟩⟩⟩, ?_⟩)
          refine WD.cons rfl (OX.alloc rfl rfl rfl rfl ((.cons (.cons (.cons .nil)))) fun b13 => ⟨⟨.inr trivial, ⟨.inr trivial, ⟨.inr trivial, ⟨.inr trivial, ⟨.inr trivial, ⟨.inr trivial, ⟨.inr trivial, ⟨.inr trivial, ⟨.inr trivial, ⟨.inr trivial, ⟨.inr trivial, ⟨.inr trivial, ⟨.inr trivial, ⟨.inr trivial, ⟨.inr trivial, ⟨.inr trivial, trivial⟩⟩⟩⟩⟩⟩⟩⟩⟩⟩⟩⟩⟩⟩⟩⟩, ?_⟩)
          refine WD.cons rfl (OX.callG rfl rfl rfl rfl (FN.toG (gone_ok w (by omega) (by omega))) (TakeS.perm (by repeat (first | exact TakeS.nil | (apply TakeS.cons; (repeat (first | exact .here | apply Take.there)))))) (by first | exact SubM.nil | exact SubM.self (fun _ h => h) | (repeat (first | exact SubM.nil | (apply SubM.cons; exact (by first | (refine .l ?_; (repeat first | exact .head _ | apply List.Mem.tail); done) | (refine .m ?_; (repeat first | exact .head _ | apply List.Mem.tail); done) | assumption))))) ?kk)
          case kk =>
            rintro _ _ ⟨c, rfl, hcan, rfl⟩
            refine ⟨⟨.inr (by simp [PairW, ids]), ⟨.inl (by kernel_rfl), ⟨.inl (by kernel_rfl), ⟨.inl (by kernel_rfl), ⟨.inl (by kernel_rfl), ⟨.inl (by kernel_rfl), ⟨.inl (by kernel_rfl), ⟨.inl (by kernel_rfl), ⟨.inl (by kernel_rfl), ⟨.inl (by kernel_rfl), ⟨.inl (by kernel_rfl), ⟨.inl (by kernel_rfl), ⟨.inl (by kernel_rfl), ⟨.inl (by kernel_rfl), ⟨.inl (by kernel_rfl), ⟨.inl (by kernel_rfl), ⟨.inl (by kernel_rfl), trivial⟩⟩⟩⟩⟩⟩⟩⟩⟩⟩⟩⟩⟩⟩⟩⟩⟩, ?_⟩
            refine WD.cons rfl (OX.move rfl rfl rfl ⟨⟨.inl (by kernel_rfl), ⟨.inr (by simp [PairW, ids]), ⟨.inr trivial, ⟨.inr trivial, ⟨.inr trivial, ⟨.inr trivial, ⟨.inr trivial, ⟨.inr trivial, ⟨.inr trivial, ⟨.inr trivial, ⟨.inr trivial, ⟨.inr trivial, ⟨.inr trivial, ⟨.inr trivial, ⟨.inr trivial, ⟨.inr trivial, ⟨.inr trivial, ⟨.inr trivial, trivial⟩⟩⟩⟩⟩⟩⟩⟩⟩⟩⟩⟩⟩⟩⟩⟩⟩⟩, ?_⟩)
            refine WD.cons rfl (OX.extract rfl rfl rfl rfl ⟨⟨.inr trivial, ⟨.inl (by kernel_rfl), ⟨.inr (by simp [PairW, ids]), ⟨.inr trivial, ⟨.inr trivial, ⟨.inr trivial, ⟨.inr trivial, ⟨.inr trivial, ⟨.inr trivial, ⟨.inr trivial, ⟨.inr trivial, ⟨.inr trivial, ⟨.inr trivial, ⟨.inr trivial, ⟨.inr trivial, ⟨.inr trivial, ⟨.inr trivial, ⟨.inr trivial, ⟨.inr trivial, trivial⟩⟩⟩⟩⟩⟩⟩⟩⟩⟩⟩⟩⟩⟩⟩⟩⟩⟩⟩, ?_⟩)
            refine WD.cons rfl (OX.extract rfl rfl rfl rfl ⟨⟨.inr trivial, ⟨.inr trivial, ⟨.inl (by kernel_rfl), ⟨.inr (by simp [PairW, ids]), ⟨.inr trivial, ⟨.inr trivial, ⟨.inr trivial, ⟨.inr trivial, ⟨.inr trivial, ⟨.inr trivial, ⟨.inr trivial, ⟨.inr trivial, ⟨.inr trivial, ⟨.inr trivial, ⟨.inr trivial, ⟨.inr trivial, ⟨.inr trivial, ⟨.inr trivial, ⟨.inr trivial, ⟨.inr trivial, trivial⟩⟩⟩⟩⟩⟩⟩⟩⟩⟩⟩⟩⟩⟩⟩⟩⟩⟩⟩⟩, ?_⟩)
            refine WD.cons rfl (OX.storeL rfl rfl rfl rfl rfl rfl (by (repeat (first | exact .here | apply Take.there))) rfl ((.cons (.cons (.cons .nil)))) ⟨⟨.inr (by simp [PairW, ids]), ⟨.inl (by kernel_rfl), ⟨.inl (by kernel_rfl), ⟨.inl (by kernel_rfl), ⟨.inl (by kernel_rfl), ⟨.inl (by kernel_rfl), ⟨.inl (by kernel_rfl), ⟨.inl (by kernel_rfl), ⟨.inl (by kernel_rfl), ⟨.inl (by kernel_rfl), ⟨.inl (by kernel_rfl), ⟨.inl (by kernel_rfl), ⟨.inl (by kernel_rfl), ⟨.inl (by kernel_rfl), ⟨.inl (by kernel_rfl), ⟨.inl (by kernel_rfl), ⟨.inl (by kernel_rfl), ⟨.inl (by kernel_rfl), ⟨.inl (by kernel_rfl), ⟨.inl (by kernel_rfl), ⟨.inl (by kernel_rfl), trivial⟩⟩⟩⟩⟩⟩⟩⟩⟩⟩⟩⟩⟩⟩⟩⟩⟩⟩⟩⟩⟩, ?_⟩)
            refine WD.cons rfl (OX.assign rfl rfl rfl ⟨⟨.inl (by kernel_rfl), ⟨.inr trivial, ⟨.inr trivial, ⟨.inr trivial, ⟨.inl (by kernel_rfl), ⟨.inl (by kernel_rfl), ⟨.inr trivial, ⟨.inr trivial, ⟨.inr trivial, ⟨.inr trivial, ⟨.inr trivial, ⟨.inr trivial, ⟨.inr trivial, ⟨.inr trivial, ⟨.inr trivial, ⟨.inr trivial, ⟨.inr trivial, ⟨.inr trivial, ⟨.inr trivial, ⟨.inr trivial, ⟨.inr trivial, ⟨.inr trivial, trivial⟩⟩⟩⟩⟩⟩⟩⟩⟩⟩⟩⟩⟩⟩⟩⟩⟩⟩⟩⟩⟩⟩, ?_⟩)
            refine WD.nil ?_
            refine KQ.seq ?_
            refine WS.seq ?_
            refine WS.draw EOk (ancs := [0, 1, 3, 7, 3, 3, 35, 3, 131, 19, 531, 1651, 4083, 8179, 16383, 32767]) (ord := [0, 1, 2, 3, 4, 5, 6, 7, 8, 9, 10, 11, 12, 13, 14, 15]) (by kernel_rfl) ?_
            refine WD.cons rfl (OX.move rfl rfl rfl ⟨trivial, ?_⟩)
            refine WD.cons rfl (OX.move rfl rfl rfl ⟨⟨.inr trivial, trivial⟩, ?_⟩)
            first | refine WD.askD (t := 93) rfl (fun h93 => ?_) (fun h93 => ?_) | refine WD.askN (t := 93) rfl (fun h93 => ?_) (fun h93 => ?_) | refine WD.ask (t := 93) rfl (fun h93 => ?_) (fun h93 => ?_)
            ·
              have hgo : CanGo w p0 (dget ds p0 s0) s0 := hcan.1 h93
              refine WD.cons rfl (OX.fieldAddr (r := 1) rfl rfl rfl rfl ⟨⟨.inr trivial, ⟨.inr trivial, trivial⟩⟩, ?_⟩)
              refine WD.cons rfl (OX.load rfl rfl rfl (by first | (refine .l ?_; (repeat first | exact .head _ | apply List.Mem.tail); done) | (refine .m ?_; (repeat first | exact .head _ | apply List.Mem.tail); done) | assumption) rfl ⟨⟨.inr trivial, ⟨.inr trivial, ⟨.inr trivial, trivial⟩⟩⟩, ?_⟩)
              refine WD.cons rfl (OX.load rfl rfl rfl (by first | (refine .l ?_; (repeat first | exact .head _ | apply List.Mem.tail); done) | (refine .m ?_; (repeat first | exact .head _ | apply List.Mem.tail); done) | assumption) rfl ⟨⟨.inr trivial, ⟨.inr trivial, ⟨.inr trivial, ⟨.inr trivial, trivial⟩⟩⟩⟩, ?_⟩)
              refine WD.cons rfl (OX.fieldAddr (r := 0) rfl rfl rfl rfl ⟨⟨.inr trivial, ⟨.inr trivial, ⟨.inr trivial, ⟨.inr trivial, ⟨.inr trivial, trivial⟩⟩⟩⟩⟩, ?_⟩)
              refine WD.cons rfl (OX.load rfl rfl rfl (by first | (refine .l ?_; (repeat first | exact .head _ | apply List.Mem.tail); done) | (refine .m ?_; (repeat first | exact .head _ | apply List.Mem.tail); done) | assumption) rfl ⟨⟨.inr trivial, ⟨.inr trivial, ⟨.inr trivial, ⟨.inr trivial, ⟨.inr trivial, ⟨.inr trivial, trivial⟩⟩⟩⟩⟩⟩, ?_⟩)
              refine WD.cons rfl (OX.fieldAddr (r := 2) rfl rfl rfl rfl ⟨⟨.inr trivial, ⟨.inr trivial, ⟨.inr trivial, ⟨.inr trivial, ⟨.inr trivial, ⟨.inr trivial, ⟨.inr trivial, trivial⟩⟩⟩⟩⟩⟩⟩, ?_⟩)
              refine WD.cons rfl (OX.load rfl rfl rfl (by first | (refine .l ?_; (repeat first | exact .head _ | apply List.Mem.tail); done) | (refine .m ?_; (repeat first | exact .head _ | apply List.Mem.tail); done) | assumption) rfl ⟨⟨.inr trivial, ⟨.inr trivial, ⟨.inr trivial, ⟨.inr trivial, ⟨.inr trivial, ⟨.inr trivial, ⟨.inr trivial, ⟨.inr trivial, trivial⟩⟩⟩⟩⟩⟩⟩⟩, ?_⟩)
              refine WD.cons rfl (OX.nilCheck rfl rfl rfl ⟨⟨.inr trivial, ⟨.inr trivial, ⟨.inr trivial, ⟨.inr trivial, ⟨.inr trivial, ⟨.inr trivial, ⟨.inr trivial, ⟨.inr trivial, ⟨.inr trivial, trivial⟩⟩⟩⟩⟩⟩⟩⟩⟩, ?_⟩)
              refine WD.cons rfl (OX.fieldAddr (r := 5) rfl rfl rfl rfl ⟨⟨.inr trivial, ⟨.inr trivial, ⟨.inr trivial, ⟨.inr trivial, ⟨.inr trivial, ⟨.inr trivial, ⟨.inr trivial, ⟨.inr trivial, ⟨.inr trivial, ⟨.inr trivial, trivial⟩⟩⟩⟩⟩⟩⟩⟩⟩⟩, ?_⟩)
              refine WD.cons rfl (OX.indexArr (m := 10) (z := 16) rfl rfl rfl rfl rfl (by omega) ⟨⟨.inr trivial, ⟨.inr trivial, ⟨.inr trivial, ⟨.inr trivial, ⟨.inr trivial, ⟨.inr trivial, ⟨.inr trivial, ⟨.inr trivial, ⟨.inr trivial, ⟨.inr trivial, ⟨.inr trivial, trivial⟩⟩⟩⟩⟩⟩⟩⟩⟩⟩⟩, ?_⟩)
              refine WD.cons rfl (OX.indexArr (m := 16) (z := 1) rfl rfl rfl rfl rfl (by omega) ⟨⟨.inr trivial, ⟨.inr trivial, ⟨.inr trivial, ⟨.inr trivial, ⟨.inr trivial, ⟨.inr trivial, ⟨.inr trivial, ⟨.inr trivial, ⟨.inr trivial, ⟨.inr trivial, ⟨.inr trivial, ⟨.inr trivial, trivial⟩⟩⟩⟩⟩⟩⟩⟩⟩⟩⟩⟩, ?_⟩)
              refine WD.cons rfl (OX.load rfl rfl rfl (by first | (refine .l ?_; (repeat first | exact .head _ | apply List.Mem.tail); done) | (refine .m ?_; (repeat first | exact .head _ | apply List.Mem.tail); done) | assumption) (by exact trip_load (i := ix w.dst (bor s0 w.gives)) (by simp only [ix]; omega) hbt) ⟨⟨.inr trivial, ⟨.inr trivial, ⟨.inr trivial, ⟨.inr trivial, ⟨.inr trivial, ⟨.inr trivial, ⟨.inr trivial, ⟨.inr trivial, ⟨.inr trivial, ⟨.inr trivial, ⟨.inr trivial, ⟨.inr trivial, ⟨.inr trivial, trivial⟩⟩⟩⟩⟩⟩⟩⟩⟩⟩⟩⟩⟩, ?_⟩)
              refine WD.cons rfl (OX.lt rfl rfl rfl rfl ⟨⟨.inr trivial, ⟨.inr trivial, ⟨.inr trivial, ⟨.inr trivial, ⟨.inr trivial, ⟨.inr trivial, ⟨.inr trivial, ⟨.inr trivial, ⟨.inr trivial, ⟨.inr trivial, ⟨.inr trivial, ⟨.inr trivial, ⟨.inr trivial, ⟨.inr trivial, trivial⟩⟩⟩⟩⟩⟩⟩⟩⟩⟩⟩⟩⟩⟩, ?_⟩)
              refine WD.cons rfl (OX.pickT rfl rfl rfl rfl ⟨⟨.inr trivial, ⟨.inr trivial, ⟨.inr trivial, ⟨.inr trivial, ⟨.inr trivial, ⟨.inr trivial, ⟨.inr trivial, ⟨.inr trivial, ⟨.inr trivial, ⟨.inr trivial, ⟨.inr trivial, ⟨.inr trivial, ⟨.inr trivial, ⟨.inr trivial, ⟨.inr trivial, trivial⟩⟩⟩⟩⟩⟩⟩⟩⟩⟩⟩⟩⟩⟩⟩, ?_⟩)
              refine WD.nil ?_
              refine KQ.seq ?_
              first | refine WS.condD rfl (fun h107 => ?_) (fun h107 => ?_) | refine WS.condN rfl (fun h107 => ?_) (fun h107 => ?_) | refine WS.cond rfl (fun h107 => ?_) (fun h107 => ?_)
              ·
                refine WS.seq ?_
                refine WS.draw EOk (ancs := [0, 0, 2, 0, 8, 0, 32, 1, 129, 391, 1023, 2047]) (ord := [0, 1, 2, 3, 4, 5, 6, 7, 8, 9, 10, 11]) (by kernel_rfl) ?_
                refine WD.cons rfl (OX.load rfl rfl rfl (by first | (refine .l ?_; (repeat first | exact .head _ | apply List.Mem.tail); done) | (refine .m ?_; (repeat first | exact .head _ | apply List.Mem.tail); done) | assumption) rfl ⟨trivial, ?_⟩)
                refine WD.cons rfl (OX.fieldAddr (r := 0) rfl rfl rfl rfl ⟨⟨.inr trivial, trivial⟩, ?_⟩)
                refine WD.cons rfl (OX.load rfl rfl rfl (by first | (refine .l ?_; (repeat first | exact .head _ | apply List.Mem.tail); done) | (refine .m ?_; (repeat first | exact .head _ | apply List.Mem.tail); done) | assumption) rfl ⟨⟨.inr trivial, ⟨.inr trivial, trivial⟩⟩, ?_⟩)
                refine WD.cons rfl (OX.fieldAddr (r := 2) rfl rfl rfl rfl ⟨⟨.inr trivial, ⟨.inr trivial, ⟨.inr trivial, trivial⟩⟩⟩, ?_⟩)
                refine WD.cons rfl (OX.load rfl rfl rfl (by first | (refine .l ?_; (repeat first | exact .head _ | apply List.Mem.tail); done) | (refine .m ?_; (repeat first | exact .head _ | apply List.Mem.tail); done) | assumption) rfl ⟨⟨.inr trivial, ⟨.inr trivial, ⟨.inr trivial, ⟨.inr trivial, trivial⟩⟩⟩⟩, ?_⟩)
                refine WD.cons rfl (OX.fieldAddr (r := 1) rfl rfl rfl rfl ⟨⟨.inr trivial, ⟨.inr trivial, ⟨.inr trivial, ⟨.inr trivial, ⟨.inr trivial, trivial⟩⟩⟩⟩⟩, ?_⟩)
                refine WD.cons rfl (OX.load rfl rfl rfl (by first | (refine .l ?_; (repeat first | exact .head _ | apply List.Mem.tail); done) | (refine .m ?_; (repeat first | exact .head _ | apply List.Mem.tail); done) | assumption) rfl ⟨⟨.inr trivial, ⟨.inr trivial, ⟨.inr trivial, ⟨.inr trivial, ⟨.inr trivial, ⟨.inr trivial, trivial⟩⟩⟩⟩⟩⟩, ?_⟩)
                refine WD.cons rfl (OX.nilCheck rfl rfl rfl ⟨⟨.inr trivial, ⟨.inr trivial, ⟨.inr trivial, ⟨.inr trivial, ⟨.inr trivial, ⟨.inr trivial, ⟨.inr trivial, trivial⟩⟩⟩⟩⟩⟩⟩, ?_⟩)
                refine WD.cons rfl (OX.fieldAddr (r := 5) rfl rfl rfl rfl ⟨⟨.inr trivial, ⟨.inr trivial, ⟨.inr trivial, ⟨.inr trivial, ⟨.inr trivial, ⟨.inr trivial, ⟨.inr trivial, ⟨.inr trivial, trivial⟩⟩⟩⟩⟩⟩⟩⟩, ?_⟩)
                refine WD.cons rfl (OX.indexArr (m := 10) (z := 16) rfl rfl rfl rfl rfl (by omega) ⟨⟨.inr trivial, ⟨.inr trivial, ⟨.inr trivial, ⟨.inr trivial, ⟨.inr trivial, ⟨.inr trivial, ⟨.inr trivial, ⟨.inr trivial, ⟨.inr trivial, trivial⟩⟩⟩⟩⟩⟩⟩⟩⟩, ?_⟩)
                refine WD.cons rfl (OX.indexArr (m := 16) (z := 1) rfl rfl rfl rfl rfl (by omega) ⟨⟨.inr trivial, ⟨.inr trivial, ⟨.inr trivial, ⟨.inr trivial, ⟨.inr trivial, ⟨.inr trivial, ⟨.inr trivial, ⟨.inr trivial, ⟨.inr trivial, ⟨.inr trivial, trivial⟩⟩⟩⟩⟩⟩⟩⟩⟩⟩, ?_⟩)
                refine WD.cons rfl (OX.store rfl rfl rfl rfl rfl rfl (by (repeat (first | exact .here | apply Take.there))) (trip_store (i := ix w.dst (bor s0 w.gives)) (by simp only [ix]; omega) (by rw [hdl]; exact ix_lt (by omega) hbr)) ⟨⟨.inl (by kernel_rfl), ⟨.inl (by kernel_rfl), ⟨.inl (by kernel_rfl), ⟨.inl (by kernel_rfl), ⟨.inl (by kernel_rfl), ⟨.inl (by kernel_rfl), ⟨.inl (by kernel_rfl), ⟨.inl (by kernel_rfl), ⟨.inl (by kernel_rfl), ⟨.inl (by kernel_rfl), ⟨.inl (by kernel_rfl), trivial⟩⟩⟩⟩⟩⟩⟩⟩⟩⟩⟩, ?_⟩)
                refine WD.nil ?_
                refine KQ.seq ?_
                refine WS.seq ?_
                refine WS.region EOk ?_
                refine WO.cons (OX.fieldAddr (r := 0) rfl rfl rfl rfl ?_)
                refine WO.cons (OX.load rfl rfl rfl (by first | (refine .l ?_; (repeat first | exact .head _ | apply List.Mem.tail); done) | (refine .m ?_; (repeat first | exact .head _ | apply List.Mem.tail); done) | assumption) rfl ?_)
                refine WO.cons (OX.fieldAddr (r := 2) rfl rfl rfl rfl ?_)
                refine WO.cons (OX.load rfl rfl rfl (by first | (refine .l ?_; (repeat first | exact .head _ | apply List.Mem.tail); done) | (refine .m ?_; (repeat first | exact .head _ | apply List.Mem.tail); done) | assumption) rfl ?_)
                refine WO.cons (OX.build rfl rfl rfl rfl ((.cons (.cons .nil))) ?_)
                refine WO.cons (OX.alloc rfl rfl rfl rfl ((.cons (.cons .nil))) fun b15 => ?_)
                refine WO.cons (OX.storeL rfl rfl rfl rfl rfl rfl (by (repeat (first | exact .here | apply Take.there))) rfl ((.cons (.cons .nil))) ?_)
                refine WO.nil ?_
                refine KQ.seq ?_
                refine WS.seq ?_
                refine WS.draw EOk (ancs := [0, 1, 3, 7, 0, 0, 0, 96, 255]) (ord := [0, 1, 2, 3, 4, 5, 6, 7, 8]) (by kernel_rfl) ?_
                refine WD.cons rfl (OX.load rfl rfl rfl (by first | (refine .l ?_; (repeat first | exact .head _ | apply List.Mem.tail); done) | (refine .m ?_; (repeat first | exact .head _ | apply List.Mem.tail); done) | assumption) rfl ⟨trivial, ?_⟩)
                refine WD.cons rfl (OX.nilCheck rfl rfl rfl ⟨⟨.inr trivial, trivial⟩, ?_⟩)
                refine WD.cons rfl (OX.fieldAddr (r := 165) rfl rfl rfl rfl ⟨⟨.inr trivial, ⟨.inr trivial, trivial⟩⟩, ?_⟩)
                refine WD.cons rfl (OX.load rfl rfl rfl (by first | (refine .l ?_; (repeat first | exact .head _ | apply List.Mem.tail); done) | (refine .m ?_; (repeat first | exact .head _ | apply List.Mem.tail); done) | assumption) (by exact trip_mapL (by simpa using hdl)) ⟨⟨.inr trivial, ⟨.inr trivial, ⟨.inr trivial, trivial⟩⟩⟩, ?_⟩)
                refine WD.cons rfl (OX.loadG rfl rfl rfl (by first | (refine .l ?_; (repeat first | exact .head _ | apply List.Mem.tail); done) | (refine .m ?_; (repeat first | exact .head _ | apply List.Mem.tail); done) | assumption) rfl ((.cons (.cons .nil))) ⟨⟨.inr trivial, ⟨.inr trivial, ⟨.inr trivial, ⟨.inr trivial, trivial⟩⟩⟩⟩, ?_⟩)
                refine WD.cons rfl (OX.loadG rfl rfl rfl (by first | (refine .l ?_; (repeat first | exact .head _ | apply List.Mem.tail); done) | (refine .m ?_; (repeat first | exact .head _ | apply List.Mem.tail); done) | assumption) rfl ((.cons (.cons .nil))) ⟨⟨.inr trivial, ⟨.inr trivial, ⟨.inr trivial, ⟨.inr trivial, ⟨.inr trivial, trivial⟩⟩⟩⟩⟩, ?_⟩)
                refine WD.cons rfl (OX.move rfl rfl rfl ⟨⟨.inr trivial, ⟨.inr trivial, ⟨.inr trivial, ⟨.inr trivial, ⟨.inr trivial, ⟨.inr trivial, trivial⟩⟩⟩⟩⟩⟩, ?_⟩)
                refine WD.cons rfl (OX.build rfl rfl rfl rfl ((.cons (.cons (.cons .nil)))) ⟨⟨.inr trivial, ⟨.inr trivial, ⟨.inr trivial, ⟨.inr trivial, ⟨.inr trivial, ⟨.inr trivial, ⟨.inr trivial, trivial⟩⟩⟩⟩⟩⟩⟩, ?_⟩)
                refine WD.cons rfl (OX.mapUpdate rfl rfl rfl rfl rfl (by kernel_rfl) (by (repeat (first | exact .here | apply Take.there))) hes fun es2 hes2 => ⟨⟨.inl (by kernel_rfl), ⟨.inl (by kernel_rfl), ⟨.inl (by kernel_rfl), ⟨.inl (by kernel_rfl), ⟨.inl (by kernel_rfl), ⟨.inl (by kernel_rfl), ⟨.inl (by kernel_rfl), ⟨.inl (by kernel_rfl), trivial⟩⟩⟩⟩⟩⟩⟩⟩, ?_⟩)
                refine WD.nil ?_
                refine KQ.seq ?_
                refine WS.region EOk ?_
                refine WO.cons (OX.load rfl rfl rfl (by first | (refine .l ?_; (repeat first | exact .head _ | apply List.Mem.tail); done) | (refine .m ?_; (repeat first | exact .head _ | apply List.Mem.tail); done) | assumption) rfl ?_)
                refine WO.cons (OX.loadG rfl rfl rfl (by first | (refine .l ?_; (repeat first | exact .head _ | apply List.Mem.tail); done) | (refine .m ?_; (repeat first | exact .head _ | apply List.Mem.tail); done) | assumption) rfl ((.cons (.cons .nil))) ?_)
                refine WO.cons (OX.buildSlice rfl rfl rfl rfl ((.cons (.cons .nil))) fun b134 => ?_)
                refine WO.cons (OX.append rfl rfl rfl rfl rfl (by (repeat (first | exact .here | apply Take.there))) htk (.some (by first | (refine .l ?_; (repeat first | exact .head _ | apply List.Mem.tail); done) | (refine .m ?_; (repeat first | exact .head _ | apply List.Mem.tail); done) | assumption) (takeAt_all _ rfl)) ⟨by omega, by dsimp only; have := hBI.sum; have := sum_nn ds (fun i x hx => (hBI.rng i x hx).1); omega⟩ (fun c hc => by have := hcp c hc; dsimp only at this ⊢; omega) rfl fun b135 => ?_)
                rw [scells_snoc]
                refine WO.cons (OX.storeL rfl rfl rfl rfl rfl rfl (by (repeat (first | exact .here | apply Take.there))) rfl ((.cons .nil)) ?_)
                refine WO.nil ?_
                refine KQ.blk ?_
                refine KQ.done ?_
                refine ⟨(y, .loop ⟨.ready, none, f, [68, 69], asg, bod⟩) :: (b9, .cells [iv p0, iv s0] true) :: tripL posts (.slice wa m wz wcp) post day papers b2 b3 b5 b8 b18 b20 ⟨ds.set (ix w.dst (bor s0 w.gives)) (goneDay w (dget ds p0 s0)), todo ++ [(w.dst, bor s0 w.gives)], b135, 0, scells (todo ++ [(w.dst, bor s0 w.gives)]), none, es2⟩, ?_, true, ⟨ds.set (ix w.dst (bor s0 w.gives)) (goneDay w (dget ds p0 s0)), todo ++ [(w.dst, bor s0 w.gives)], b135, 0, scells (todo ++ [(w.dst, bor s0 w.gives)]), none, es2⟩, rfl, rfl, (fun _ => ⟨hBI.better hk hsrc (by omega) ⟨by omega, by omega⟩ hws hgo h107, ⟨takeAt_all _ (scells_len _).symm, (fun c hc => by cases hc), hes2⟩, ?_⟩), fun h => by cases h⟩
                · have hlen2 : (todo ++ [(w.dst, bor s0 w.gives)]).length = todo.length + 1 := by simp
                  simp only [tripL, hlen2]
                  exact (by repeat (first | exact Sub.nil _ | (apply Sub.cons; (repeat (first | exact .here | apply Take.there)))))
                · refine Nat.le_trans ?_ hmu; simp only [St.mu]; rw [sum_set _ _ _ _ hbt]; have := sum_nn ds (fun i x hx => (hBI.rng i x hx).1); simp only [List.length_append, List.length_cons, List.length_nil]; omega
              ·
                have hno : CanGo w p0 (dget ds p0 s0) s0 → goneDay w (dget ds p0 s0) < dget ds w.dst (bor s0 w.gives) → False := fun _ hlt => h107 hlt
                refine WS.skip ?_
                refine KQ.blk ?_
                refine KQ.done ?_
                exact ⟨(y, .loop ⟨.ready, none, f, [68, 69], asg, bod⟩) :: (b9, .cells [iv p0, iv s0] true) :: tripL posts (.slice wa m wz wcp) post day papers b2 b3 b5 b8 b18 b20 ⟨ds, todo, tb, o, cs, cp, es⟩, by repeat (first | exact Sub.nil _ | (apply Sub.cons; (repeat (first | exact .here | apply Take.there)))), true, ⟨ds, todo, tb, o, cs, cp, es⟩, rfl, rfl, (fun _ => ⟨hBI.skip hk (fun _ hg => Int.not_lt.1 (fun hlt => hno hg hlt)), ⟨htk, hcp, hes⟩, hmu⟩), fun h => by cases h⟩
            ·
              have hno : CanGo w p0 (dget ds p0 s0) s0 → goneDay w (dget ds p0 s0) < dget ds w.dst (bor s0 w.gives) → False := fun hg _ => by rw [hcan.2 hg] at h93; cases h93
              refine WD.cons rfl (OX.pass rfl rfl ⟨⟨.inr trivial, ⟨.inr trivial, trivial⟩⟩, ?_⟩)
              refine WD.cons rfl (OX.pass rfl rfl ⟨⟨.inr trivial, ⟨.inr trivial, ⟨.inr trivial, trivial⟩⟩⟩, ?_⟩)
              refine WD.cons rfl (OX.pass rfl rfl ⟨⟨.inr trivial, ⟨.inr trivial, ⟨.inr trivial, ⟨.inr trivial, trivial⟩⟩⟩⟩, ?_⟩)
              refine WD.cons rfl (OX.pass rfl rfl ⟨⟨.inr trivial, ⟨.inr trivial, ⟨.inr trivial, ⟨.inr trivial, ⟨.inr trivial, trivial⟩⟩⟩⟩⟩, ?_⟩)
              refine WD.cons rfl (OX.pass rfl rfl ⟨⟨.inr trivial, ⟨.inr trivial, ⟨.inr trivial, ⟨.inr trivial, ⟨.inr trivial, ⟨.inr trivial, trivial⟩⟩⟩⟩⟩⟩, ?_⟩)
              refine WD.cons rfl (OX.pass rfl rfl ⟨⟨.inr trivial, ⟨.inr trivial, ⟨.inr trivial, ⟨.inr trivial, ⟨.inr trivial, ⟨.inr trivial, ⟨.inr trivial, trivial⟩⟩⟩⟩⟩⟩⟩, ?_⟩)
              refine WD.cons rfl (OX.pass rfl rfl ⟨⟨.inr trivial, ⟨.inr trivial, ⟨.inr trivial, ⟨.inr trivial, ⟨.inr trivial, ⟨.inr trivial, ⟨.inr trivial, ⟨.inr trivial, trivial⟩⟩⟩⟩⟩⟩⟩⟩, ?_⟩)
              refine WD.cons rfl (OX.pass rfl rfl ⟨⟨.inr trivial, ⟨.inr trivial, ⟨.inr trivial, ⟨.inr trivial, ⟨.inr trivial, ⟨.inr trivial, ⟨.inr trivial, ⟨.inr trivial, ⟨.inr trivial, trivial⟩⟩⟩⟩⟩⟩⟩⟩⟩, ?_⟩)
              refine WD.cons rfl (OX.pass rfl rfl ⟨⟨.inr trivial, ⟨.inr trivial, ⟨.inr trivial, ⟨.inr trivial, ⟨.inr trivial, ⟨.inr trivial, ⟨.inr trivial, ⟨.inr trivial, ⟨.inr trivial, ⟨.inr trivial, trivial⟩⟩⟩⟩⟩⟩⟩⟩⟩⟩, ?_⟩)
              refine WD.cons rfl (OX.pass rfl rfl ⟨⟨.inr trivial, ⟨.inr trivial, ⟨.inr trivial, ⟨.inr trivial, ⟨.inr trivial, ⟨.inr trivial, ⟨.inr trivial, ⟨.inr trivial, ⟨.inr trivial, ⟨.inr trivial, ⟨.inr trivial, trivial⟩⟩⟩⟩⟩⟩⟩⟩⟩⟩⟩, ?_⟩)
              refine WD.cons rfl (OX.pass rfl rfl ⟨⟨.inr trivial, ⟨.inr trivial, ⟨.inr trivial, ⟨.inr trivial, ⟨.inr trivial, ⟨.inr trivial, ⟨.inr trivial, ⟨.inr trivial, ⟨.inr trivial, ⟨.inr trivial, ⟨.inr trivial, ⟨.inr trivial, trivial⟩⟩⟩⟩⟩⟩⟩⟩⟩⟩⟩⟩, ?_⟩)
              refine WD.cons rfl (OX.pass rfl rfl ⟨⟨.inr trivial, ⟨.inr trivial, ⟨.inr trivial, ⟨.inr trivial, ⟨.inr trivial, ⟨.inr trivial, ⟨.inr trivial, ⟨.inr trivial, ⟨.inr trivial, ⟨.inr trivial, ⟨.inr trivial, ⟨.inr trivial, ⟨.inr trivial, trivial⟩⟩⟩⟩⟩⟩⟩⟩⟩⟩⟩⟩⟩, ?_⟩)
              refine WD.cons rfl (OX.pass rfl rfl ⟨⟨.inr trivial, ⟨.inr trivial, ⟨.inr trivial, ⟨.inr trivial, ⟨.inr trivial, ⟨.inr trivial, ⟨.inr trivial, ⟨.inr trivial, ⟨.inr trivial, ⟨.inr trivial, ⟨.inr trivial, ⟨.inr trivial, ⟨.inr trivial, ⟨.inr trivial, trivial⟩⟩⟩⟩⟩⟩⟩⟩⟩⟩⟩⟩⟩⟩, ?_⟩)
              refine WD.cons rfl (OX.pickF rfl rfl rfl rfl ⟨⟨.inr trivial, ⟨.inr trivial, ⟨.inr trivial, ⟨.inr trivial, ⟨.inr trivial, ⟨.inr trivial, ⟨.inr trivial, ⟨.inr trivial, ⟨.inr trivial, ⟨.inr trivial, ⟨.inr trivial, ⟨.inr trivial, ⟨.inr trivial, ⟨.inr trivial, ⟨.inr trivial, trivial⟩⟩⟩⟩⟩⟩⟩⟩⟩⟩⟩⟩⟩⟩⟩, ?_⟩)
              refine WD.nil ?_
              refine KQ.seq ?_
              refine WS.condF rfl ?_
              refine WS.skip ?_
              refine KQ.blk ?_
              refine KQ.done ?_
              exact ⟨(y, .loop ⟨.ready, none, f, [68, 69], asg, bod⟩) :: (b9, .cells [iv p0, iv s0] true) :: tripL posts (.slice wa m wz wcp) post day papers b2 b3 b5 b8 b18 b20 ⟨ds, todo, tb, o, cs, cp, es⟩, by repeat (first | exact Sub.nil _ | (apply Sub.cons; (repeat (first | exact .here | apply Take.there)))), true, ⟨ds, todo, tb, o, cs, cp, es⟩, rfl, rfl, (fun _ => ⟨hBI.skip hk (fun _ hg => Int.not_lt.1 (fun hlt => hno hg hlt)), ⟨htk, hcp, hes⟩, hmu⟩), fun h => by cases h⟩
        case post =>
          rintro _ _ ⟨_, ⟨⟨ds, todo, tb, o, cs, cp, es⟩, rfl, ⟨hBI, ⟨htk, hcp, hes⟩, hmu⟩ | hst⟩, rfl⟩
          case inr => exact hst.elim
          dsimp only at hBI htk hcp hes
          refine ⟨_, .normal, _, .here, (fun h => by cases h), rfl, ?_⟩
          refine KQ.blk ?_
          refine KQ.blk ?_
          refine KQ.done ?_
          exact LQ.nx ⟨ds, todo, tb, o, cs, cp, es⟩ (by repeat (first | exact Sub.nil _ | (apply Sub.cons; (repeat (first | exact .here | apply Take.there))))) ⟨rfl, rfl, rfl, rfl, trivial⟩ (Nat.lt_of_le_of_lt hmu hmlt) ⟨hBI.over (Nat.le_refl _), htk, hcp, hes⟩
    ·
      refine WS.exit ?_
      refine KQ.seq_exit ?_
      refine KQ.done ?_
      refine LQ.exit ?_
      refine KQ.blk_here ?_
      refine KQ.seq ?_
      refine WS.seq ?_
      refine WS.region EOk ?_
      refine WO.cons (OX.load rfl rfl rfl (by first | (refine .l ?_; (repeat first | exact .head _ | apply List.Mem.tail); done) | (refine .m ?_; (repeat first | exact .head _ | apply List.Mem.tail); done) | assumption) rfl ?_)
      refine WO.cons (OX.assign rfl rfl rfl ?_)
      refine WO.nil ?_
      refine KQ.seq ?_
      refine WS.ret ?_
      refine KQ.done ?_
      refine FQ.ret (.cons (.tmp rfl) (.nil)) ?_
      have hnil : todo = [] := by cases todo with | nil => rfl | cons q l => exact absurd (by simp only [List.length_cons]; omega) h55
      subst hnil
      exact ⟨[(b20, .cells (tripC posts (.slice wa m wz wcp) post day papers ds b18) true)], by repeat (first | exact Sub.nil _ | (apply Sub.cons; (repeat (first | exact .here | apply Take.there)))), b20, b18, ds, rfl, rfl, hBI.days (by omega) hws⟩
end Go.Proofs.Ytgkmdkhhaapolaa
