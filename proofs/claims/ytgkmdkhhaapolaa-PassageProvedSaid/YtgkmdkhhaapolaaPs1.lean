/-
  PASSAGE, 1: plain facts for the deck.
-/
import Derived.Test.YtgkmdkhhaapolaaEnv
import Derived.Test.YtgkmdkhhaapolaaSy6
namespace Go.Proofs.Ytgkmdkhhaapolaa
open Go.Am Go.Proofs
noncomputable section
theorem ENt : Enters E Try.prog := Enters.of EOk (by kernel_rfl)
noncomputable abbrev P : Program := Try.prog
abbrev iv (n : Int) : V := .int .i64 n
abbrev uv (n : Int) : V := .int .u8 n
abbrev err (n : Int) : V := .int .i64 n

/-- The cards of a deck: nothing, or a row of bytes. -/
inductive CardsOk (M : CL) : V → Prop
  | nil : CardsOk M (.slice none 0 0 none)
  | some {cb : Nat} {cards : List Int} {own : Bool} {cp : Option Nat} (h : (cb, .cells (cards.map uv) own) ∈ M) (hc : ∀ c ∈ cards, 0 ≤ c ∧ c < 256) : CardsOk M (.slice (some ⟨cb, 0⟩) cards.length 1 cp)

abbrev deck (cv : V) (dealt stir : Int) : Am.Obj := .cells [cv, .int .i64 dealt, .int .u32 stir] true
/-- What a deck's numbers may be. -/
def DeckOk (dealt stir : Int) : Prop := 0 ≤ dealt ∧ dealt ≤ 1000000000000 ∧ 0 ≤ stir ∧ stir < 65521

theorem u32_rng (x : Int) : 0 ≤ IntKind.u32.wrap x ∧ IntKind.u32.wrap x < 4294967296 := by
  simp only [IntKind.wrap, IntKind.bits, IntKind.signed]
  simp; omega
theorem w_nn (x : Int) : 0 ≤ IntKind.i64.wrap (IntKind.u32.wrap x) := by
  have := u32_rng x
  rw [i64_id (by omega)]; omega
theorem tmod_rng {x n : Int} (hx : 0 ≤ x) (hn : 0 < n) : 0 ≤ x.tmod n ∧ x.tmod n < n := by
  rw [Int.tmod_eq_emod_of_nonneg hx]
  exact ⟨Int.emod_nonneg _ (by omega), Int.emod_lt_of_pos _ hn⟩
theorem card_at {cards : List Int} (hc : ∀ c ∈ cards, 0 ≤ c ∧ c < 256) {i : Int} (h : 0 ≤ i ∧ i < cards.length) : ∃ c, nthL (cards.map uv) (0 + i.toNat * 1) = some (uv c) ∧ 0 ≤ c ∧ c < 256 := by
  have hl : i.toNat < cards.length := by omega
  refine ⟨cards[i.toNat], ?_, hc _ (List.getElem_mem hl)⟩
  rw [nthL_eq]
  simp [hl]
/-- A way. -/
structure Wy where
  (src dst days heads needs gives lo hi : Int)
def Wy.cells (w : Wy) : List V := [iv w.src, iv w.dst, iv w.days, iv w.heads, iv w.needs, iv w.gives, iv w.lo, iv w.hi]
def wcells (ws : List Wy) : List V := ws.flatMap Wy.cells
def Wy.Ok (posts : Int) (w : Wy) : Prop := (0 ≤ w.src ∧ w.src < posts) ∧ (0 ≤ w.dst ∧ w.dst < posts) ∧ w.src ≠ w.dst ∧ (0 ≤ w.days ∧ w.days ≤ 1000) ∧ (0 ≤ w.heads ∧ w.heads ≤ 1000) ∧ (0 ≤ w.needs ∧ w.needs ≤ 15) ∧ (0 ≤ w.gives ∧ w.gives ≤ 15) ∧ (0 ≤ w.lo ∧ w.lo ≤ w.hi) ∧ w.hi ≤ 1000
/-- The ways of a net: nothing, or a row of them. -/
inductive WaysOk (M : CL) : Option Am.Loc → Nat → Nat → Option Nat → List Wy → Prop
  | nil : WaysOk M none 0 0 none []
  | row {b : Nat} {own : Bool} {cp : Option Nat} {ws : List Wy} (h : (b, .cells (wcells ws) own) ∈ M) : WaysOk M (some ⟨b, 0⟩) ws.length 8 cp ws

theorem wcells_length (ws : List Wy) : (wcells ws).length = ws.length * 8 := by
  induction ws with
  | nil => rfl
  | cons w ws ih => simp [wcells, Wy.cells] at ih ⊢; omega
theorem wcells_take : ∀ (ws : List Wy) (k : Nat) (h : k < ws.length), takeAt (wcells ws) (0 + k * 8) 8 = some (ws[k]).cells
  | w :: ws, 0, _ => by
    have e : wcells (w :: ws) = w.cells ++ wcells ws := by simp [wcells]
    rw [takeAt_eq, e, if_pos (by simp [Wy.cells])]
    simp [Wy.cells]
  | w :: ws, k + 1, h => by
    have ih := wcells_take ws k (by simpa using h)
    rw [takeAt_eq] at ih ⊢
    have hl := wcells_length ws
    have e : wcells (w :: ws) = w.cells ++ wcells ws := by simp [wcells]
    have hc : w.cells.length = 8 := rfl
    rw [if_pos (by simp at h ⊢; omega)] at ih
    rw [if_pos (by rw [e]; simp [hc]; simp at h; omega), e]
    rw [List.drop_append, List.drop_eq_nil_of_le (by rw [hc]; omega), List.nil_append, hc, show 0 + (k + 1) * 8 - 8 = 0 + k * 8 by omega]
    simpa using ih

theorem way_load {ws : List Wy} {k : Nat} (h : k < ws.length) : loadV E 64 (wcells ws) (0 + k * 8) = some (.agg (ws[k]).cells) := by
  show (takeAt (wcells ws) (0 + k * 8) 8).map V.agg = _
  rw [wcells_take ws k h]; rfl
theorem other_post {a b p : Int} (ha : 0 ≤ a ∧ a < p) (hb : 1 ≤ b ∧ b ≤ p - 1) : a ≠ (a + b) % p := by
  by_cases h : a + b < p
  · rw [Int.emod_eq_of_lt (by omega) h]; omega
  · have e : (a + b) % p = a + b - p := by
      rw [← Int.sub_emod_right, Int.emod_eq_of_lt (by omega) (by omega)]
    rw [e]; omega
theorem ways_snoc {posts : Int} {ws : List Wy} {w : Wy} (h : ∀ w ∈ ws, w.Ok posts) (hw : w.Ok posts) : ∀ w' ∈ ws ++ [w], w'.Ok posts := by
  intro w' h'
  rcases List.mem_append.1 h' with h' | h'
  · exact h w' h'
  · rw [List.mem_singleton.1 h']; exact hw
theorem wcells_snoc (ws : List Wy) (w : Wy) : wcells ws ++ w.cells = wcells (ws ++ [w]) := by simp [wcells]
/-- The ways that were made, as a slice and its blocks. -/
theorem ways_grown (b : Nat) (ws : List Wy) : ∃ wa m wz wcp, gV 8 b ws.length = .slice wa m wz wcp ∧ WaysOk (gL b (wcells ws) ws.length) wa m wz wcp ws := by
  cases ws with
  | nil => exact ⟨_, _, _, _, rfl, .nil⟩
  | cons w ws => exact ⟨_, _, _, _, rfl, .row (own := true) List.mem_cons_self⟩
theorem WaysOk.mono {M M' : CL} {wa m wz wcp} {ws : List Wy} (h : WaysOk M wa m wz wcp ws) (hM : ∀ p ∈ M, p ∈ M') : WaysOk M' wa m wz wcp ws := by
  cases h with
  | nil => exact .nil
  | row h => exact .row (hM _ h)
theorem WaysOk.len {M : CL} {wa m wz wcp} {ws : List Wy} (h : WaysOk M wa m wz wcp ws) : m = ws.length := by cases h <;> rfl
def goneDay (w : Wy) (day : Int) : Int := (if w.lo > day then w.lo else day) + w.days
def CanGo (w : Wy) (post day papers : Int) : Prop := post = w.src ∧ band papers w.needs = w.needs ∧ day ≤ w.hi ∧ goneDay w day ≤ 1000
end
end Go.Proofs.Ytgkmdkhhaapolaa
