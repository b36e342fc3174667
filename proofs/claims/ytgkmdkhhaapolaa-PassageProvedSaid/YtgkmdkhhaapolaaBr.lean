/-
  FROM A CONTRACT OF THE ABSTRACT MACHINE TO THE ROW: arguments that are slices of bytes, read only.
-/
import Derived.Test.YtgkmdkhhaapolaaSy6
import Derived.Test.YtgkmdkhhaapolaaRows
import Derived.ProofKit
namespace Go.Am
open Go.ChangeShapes Go.WideShapes Go.ChangeAt Go.RowKit
noncomputable section

section bridge
variable {P : Program} {H' : Type} {enc : TypeId × Value → H'}

/-- The old world is as it was. -/
def Old (W W' : World) : Prop := Outs W W' ∧ W.heap.size ≤ W'.heap.size ∧ ∀ r, r < W.heap.size → W'.heap[r]? = W.heap[r]?

theorem Old.kept {W W' : World} (h : Old W W') (may : MemPlace → Prop) : W.keptBut W' may := by
  refine ⟨h.1.1, h.1.2, fun i hi => ?_⟩
  rw [h.2.2 i hi]
  exact (World.keptBut_refl W may).2.2 i hi

theorem Old.cell {W W' : World} (h : Old W W') {a : Addr} {v : Value} (hc : W.cell? a = some v) : W'.cell? a = some v := by
  have hlt : a.block < W.heap.size := by
    apply Classical.byContradiction
    intro hn
    have : W.heap[a.block]? = none := by simp; omega
    simp [World.cell?, this] at hc
  simp only [World.cell?, h.2.2 _ hlt] at hc ⊢
  exact hc

theorem Old.frozen {W W' : World} (h : Old W W') {a : Addr} (ha : a.block < W.heap.size) : W'.frozen? a = W.frozen? a := by
  simp only [World.frozen?, h.2.2 _ ha]

/-- The state of the arguments, as the machine has them. -/
structure Begun (W : World) (ι : Mp) (H : Heap) (M : CL) (args : List V) (rargs : List Value) : Prop where
  rel : Rel ι H W
  red : ∀ b o, (b, o) ∈ M → b < H.size ∧ H.get b = some o
  hands : ∀ b rb ro n, ι b = .at rb ro n → (H.get b).all (!·.own) = true
  args : VRs ι args rargs

theorem Begun.nil (W : World) : Begun W (fun _ => .abs) Heap.empty [] [] [] :=
  ⟨⟨fun _ _ => rfl, (fun _ _ _ _ h => by cases h), (fun _ h => by cases h), (fun _ _ _ _ _ _ _ h _ => by cases h)⟩, (fun _ _ h => by cases h), (fun _ _ _ _ h => by cases h), .nil⟩

/-- One more argument, that lies in no heap. -/
theorem Begun.flat {W : World} {ι : Mp} {H : Heap} {M : CL} {args : List V} {rargs : List Value} (h : Begun W ι H M args rargs) {v : V} {r : Value} (hv : VR ι v r) : Begun W ι H M (v :: args) (r :: rargs) :=
  ⟨h.rel, h.red, h.hands, .cons hv h.args⟩

/-- A slice of small numbers. -/
structure CardIs (k : IntKind) (W : World) (v : Value) (cards : List Int) (rb ro n : Nat) : Prop where
  ex : ∃ a cap, v = .slice (some a) cards.length cap ∧ cards.length ≤ cap ∧ ((a = ⟨rb, ro, none⟩ ∧ ro + cap ≤ n) ∨ cap = 0)
  obj : ∃ c el fz, W.heap[rb]? = some (.cells c el fz) ∧ c.size = n ∧ ro + cards.length ≤ n ∧ ∀ i x, cards[i]? = some x → c[ro + i]? = some (.int k x)
  wf : ∀ x ∈ cards, (Lit.int k x).wf = true

/-- One more argument, a slice. -/
theorem Begun.card {k : IntKind} {W : World} {ι : Mp} {H : Heap} {M : CL} {args : List V} {rargs : List Value} (h : Begun W ι H M args rargs) {v : Value} {cards : List Int} {rb ro n : Nat} (hc : CardIs k W v cards rb ro n) :
    ∃ ι' H1 b, Begun W ι' H1 ((b, .cells (cards.map (.int k)) false) :: M) (.slice (some ⟨b, 0⟩) cards.length 1 none :: args) (v :: rargs) := by
  obtain ⟨c, el, fz, o1, o2, o3, o4⟩ := hc.obj
  obtain ⟨a, cap, e1, e2, e3⟩ := hc.ex
  have hge : Ge ι (fun b => if b = H.size then .at rb ro n else ι b) := by
    intro b
    by_cases e : b = H.size
    · exact .inl (h.rel.dom b (by omega))
    · exact .inr (.inl (by simp [e]))
  have hold : ∀ b, b ≠ H.size → (H.push (.cells (cards.map (.int k)) false)).get b = H.get b := fun b e => Heap.get_push_ne _ _ e
  have hhands : ∀ b rb' ro' m, (if b = H.size then St.at rb ro n else ι b) = .at rb' ro' m → ((H.push (.cells (cards.map (.int k)) false)).get b).all (!·.own) = true := fun b rb' ro' m hb => by
    by_cases e : b = H.size
    · rw [e]; simp [Obj.own]
    · simp only [e, if_false] at hb
      rw [hold b e]
      exact h.hands b rb' ro' m hb
  refine ⟨fun b => if b = H.size then .at rb ro n else ι b, H.push (.cells (cards.map (.int k)) false), H.size, ⟨⟨fun b hb => ?_, fun b rb' ro' m hb => ?_, fun b hb => ?_, fun b b' rb' ro1 m1 ro2 m2 hb hb' => .inr ⟨hhands b _ _ _ hb, hhands b' _ _ _ hb'⟩⟩, fun b o hb => ?_, hhands, ?_⟩⟩
  · have e : b ≠ H.size := by simp at hb; omega
    simp only [e, if_false]
    exact h.rel.dom b (by simp at hb; omega)
  · by_cases e : b = H.size
    · simp only [e, if_true, St.at.injEq] at hb
      obtain ⟨rfl, rfl, rfl⟩ := hb
      refine ⟨Am.Obj.cells (cards.map (.int k)) false, _, by rw [e]; exact Heap.get_push_same _ _, o1, c, el, fz, rfl, o2, by simpa using o3, (fun h => by cases h), ?_⟩
      refine VRs.of_get (by simp; omega) fun i v r hv hr => ?_
      simp only [List.getElem?_map, Option.map_eq_some_iff] at hv
      obtain ⟨x, hx, rfl⟩ := hv
      have hi : i < cards.length := (List.getElem?_eq_some_iff.1 hx).1
      have := o4 i x hx
      simp only [List.length_map] at hr
      rw [List.getElem?_take_of_lt hi, List.getElem?_drop, Array.getElem?_toList, this] at hr
      simp only [Option.some.injEq] at hr
      subst hr
      simp [VR]
    · simp only [e, if_false] at hb
      obtain ⟨x, x', h1, h2, h3⟩ := h.rel.live b rb' ro' m hb
      exact ⟨x, x', by rw [hold b e]; exact h1, h2, h3.mono hge⟩
  · by_cases e : b = H.size
    · simp [e] at hb
    · simp only [e, if_false] at hb
      rw [hold b e]
      exact h.rel.dead b hb
  · rcases List.mem_cons.1 hb with e | hb
    · simp only [Prod.mk.injEq] at e
      obtain ⟨rfl, rfl⟩ := e
      exact ⟨by simp, Heap.get_push_same _ _⟩
    · obtain ⟨h1, h2⟩ := h.red b o hb
      exact ⟨by simp; omega, by rw [hold b (by omega)]; exact h2⟩
  · refine .cons ?_ (h.args.mono hge)
    rw [e1]
    simp only [VR, if_true]
    refine ⟨a, cap, rfl, e2, (fun _ h => by cases h), ?_⟩
    rcases e3 with ⟨e3, e4⟩ | e3
    · exact .inl ⟨by simpa using e3, by omega⟩
    · exact .inr e3

/-- What a call gives, where all arguments are read only. -/
theorem Begun.calls {W : World} {ι : Mp} {H : Heap} {M : CL} {args : List V} {rargs : Array Value} (h : Begun W ι H M args rargs.toList) {fid : FuncId} {b : Bool}
    (hf : FN P fid args [] M (fun v L' => v = .bool b ∧ L' = [])) : Calls P fid rargs W fun e W' => e = .returned (.bool b) ∧ Old W W' := by
  obtain ⟨v, H1, L', hac, _, rfl, rfl⟩ := hf H ⟨List.nodup_nil, (fun _ _ h => by cases h), fun b o hb => ⟨(h.red b o hb).1, (h.red b o hb).2, by simp [ids]⟩⟩
  refine callsIn_wide.1 ((hac.2 ι W rargs h.rel h.args).mono fun e W' he => ?_)
  obtain ⟨rv, ι', rfl, hp, hv⟩ := he
  simp only [VR] at hv
  subst hv
  refine ⟨rfl, hp.out, hp.fr.1, fun r hr => ?_⟩
  by_cases hx : ∃ b ro n, ι b = .at r ro n
  · obtain ⟨b, ro, n, hb⟩ := hx
    exact (hp.stay b r ro n hb (h.hands b r ro n hb)).2.2
  · exact hp.fr.2 r hr fun b rb ro n hb e => hx ⟨b, ro, n, e ▸ hb⟩

/-- An argument that is a slice of integers, opened: how it lies; and that it reads as before in whatever world that is as it was. -/
theorem open_card {t e : TypeId} {k : IntKind} {W : World} {base : Nat} {v : Value} {d : DataW H'} {p : List MemPlace} (ht : P.underlying t = some (.slice e)) (he : P.underlying e = some (.int k)) (hc1 : P.cellsOf e = 1)
    (hv : Value.okWide P W .any base t v) (h : DataW.Trod enc P W 0 (fun _ => true) true t v d p) :
    (v = .slice none 0 0 ∨ ∃ cards rb ro n, CardIs k W v cards rb ro n) ∧
    ∀ W', Old W W' → ∀ sp : Nat → Bool, (∀ q ∈ p, sp q.block = true) → DataW.Trod enc P W' 0 sp true t v d p := by
  obtain ⟨s, len, cap, rfl⟩ := okWide_slice ht hv
  obtain ⟨fuel, hf⟩ := h
  have hcs : (Value.slice s len cap).cells.toList = [.slice s len cap] := rfl
  rw [hcs] at hf
  rcases open_ints ht he hc1 hf with ⟨h1, h2⟩ | ⟨a, len', cap', zs, h1, _, hle, hmax, hz, hx, hcell, hwf⟩
  · simp only [List.cons.injEq, and_true] at h1
    simp only [Prod.mk.injEq] at h2
    obtain ⟨rfl, rfl⟩ := h2
    rw [h1]
    exact ⟨.inl rfl, fun W' _ sp _ => shut_slice_nil ht⟩
  · simp only [List.cons.injEq, and_true, Value.slice.injEq] at h1
    obtain ⟨rfl, rfl, rfl⟩ := h1
    simp only [Prod.mk.injEq] at hx
    obtain ⟨rfl, rfl⟩ := hx
    simp only [if_true] at hz
    refine ⟨.inr ?_, fun W' hold sp hsp => ⟨2, ?_⟩⟩
    · simp only [Value.okWide, ht, Cell.okWide, Cell.ok, World.has] at hv
      obtain ⟨_, _, _, hspot, row, cells, hshape, _⟩ := hv
      have hlen : (zs.take len).length = len := by simp; omega
      obtain ⟨c, el, fz, hobj⟩ : ∃ c el fz, W.heap[a.block]? = some (.cells c el fz) := by
        unfold World.shape? at hshape
        split at hshape
        · rename_i c el fz hq; exact ⟨c, el, fz, hq⟩
        · cases hshape
      have hcells : ∀ i, i < cap → c[a.off + i]? = some (.int k (zs.getD i 0)) := fun i hi => by
        have := hcell i (by omega)
        obtain ⟨ab, ao, aq⟩ := a
        simp only at hspot
        subst hspot
        rw [add_plain] at this
        simp only [World.cell?, hobj] at this
        simpa using this
      have hroom : 0 < cap → a.off + cap ≤ c.size := fun h0 => by
        have := hcells (cap - 1) (by omega)
        have := (Array.getElem?_eq_some_iff.1 this).1
        omega
      refine ⟨zs.take len, a.block, if cap = 0 then 0 else a.off, c.size, ⟨a, cap, by rw [hlen], by omega, ?_⟩, ⟨c, el, fz, hobj, rfl, ?_, fun i x hx => ?_⟩, fun x hx => hwf x (List.mem_of_mem_take hx)⟩
      · by_cases h0 : cap = 0
        · exact .inr h0
        · left
          rw [if_neg h0]
          refine ⟨?_, hroom (by omega)⟩
          obtain ⟨ab, ao, aq⟩ := a
          simp only at hspot
          rw [hspot]
      · rw [hlen]
        by_cases h0 : cap = 0
        · simp [h0]; omega
        · rw [if_neg h0]
          have := hroom (by omega)
          omega
      · have hi : i < len := by
          have := (List.getElem?_eq_some_iff.1 hx).1
          omega
        rw [if_neg (by omega), hcells i (by omega)]
        rw [List.getElem?_take_of_lt hi] at hx
        rw [List.getD_eq_getElem?_getD, hx]
        rfl
    · show DataW.trod enc P W' 0 sp true (0 + 2) t [.slice (some a) len cap] = _
      refine shut_ints 0 ht he hc1 (Nat.zero_le _) hle hmax ?_ (fun i hi => hold.cell (hcell i hi)) hwf
      by_cases h0 : cap = 0
      · have : len = 0 := by omega
        rw [hz, this, h0]; simp
      · have hspa : sp a.block = true := hsp (.cell a.block (a.off + 0)) (by
          simp only [MemPlace.row, List.mem_map, List.mem_range]
          exact ⟨0, by omega, rfl⟩)
        rw [hspa]
        simpa using hz

variable {f : Func} {s : ChangeSpec} {apart fresh handsOn again : Bool} {W W' : World} {args : Array Value} {v : Value} {ds gs : List (DataW H')} {before pa pv : List MemPlace}
/-- The row's sentence, where the old world is as it was. -/
theorem post_of_old (hW : DataW.Whole enc P f.params.toList s.vars apart W args.toList ds gs before)
    (hres : ∀ (b : Nat) (sp : Nat → Bool) (hd : Bool), DataW.TrodAll enc P W' b sp hd f.resultTypes.toList (v.resultList f.resultTypes.size) (s.fn H' (ds ++ gs)).results [])
    (hargs : ∀ sp : Nat → Bool, (∀ p ∈ before, sp p.block = true) → DataW.TrodAll enc P W' 0 sp true f.params.toList args.toList (s.fn H' (ds ++ gs)).args pa)
    (hvars : ∀ sp : Nat → Bool, (∀ p ∈ before, sp p.block = true) → DataW.TrodVars enc P W' sp s.vars (s.fn H' (ds ++ gs)).vars pv)
    (hps : before = pa ++ pv) (hk : Old W W')
    (hok : ∀ (j : Nat) (t : TypeId) (r : Value), f.resultTypes[j]? = some t → (v.resultList f.resultTypes.size)[j]? = some r → Value.okWide P W' .any 0 t r) :
    s.post enc P f apart fresh handsOn again W args v W' := by
  have hlt : ∀ p ∈ before, p.block < W.heap.size := fun p hp => hW.lt p hp
  have hold : ∀ p ∈ before, (fun b => decide (b < W.heap.size)) p.block = true := fun p hp => by simpa using hlt p hp
  refine ⟨ds, gs, before, [], pa, pv, hW, hres _ _ _, hargs _ hold, hvars _ hold, hk.kept _, fun _ => ?_⟩
  obtain ⟨_, _, _, _, _, hz, hn⟩ := hW
  refine ⟨hok, _, _, ([] ++ pa) ++ pv, ⟨[] ++ pa, pv, trodAll_append (hargs _ (fun _ _ => rfl)) (hres _ _ _), hvars _ (fun _ _ => rfl), rfl, ?_, ?_⟩, ?_⟩
  · intro b off hp
    have hp' : MemPlace.cell b off ∈ before := by rw [hps]; simpa using hp
    rw [hk.frozen (hlt _ hp')]
    exact hz b off hp'
  · intro ha
    have := hn ha
    rw [hps] at this
    simpa using this
  · intro p hp _
    rw [hps]
    simpa using hp
end bridge
end
end Go.Am
