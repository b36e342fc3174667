/-
  PASSAGE, plain: calendars as lists of rows.
-/
import Derived.Test.YtgkmdkhhaapolaaPs6
namespace Go.Proofs.Ytgkmdkhhaapolaa
open Go.Am Go.Proofs
noncomputable section
def cget (cal : List (Nat × List Int)) (p s : Int) : Int := (((cal[p.toNat]?).map (·.2)).getD []).getD s.toNat 0
def calF (cal : List (Nat × List Int)) (i : Nat) : Int := cget cal ((i / 16 : Nat) : Int) ((i % 16 : Nat) : Int)
theorem calF_ix {cal : List (Nat × List Int)} {p s : Int} (hp : 0 ≤ p) (hs : 0 ≤ s ∧ s < 16) : calF cal (ix p s) = cget cal p s := by
  unfold calF ix
  rw [show (p.toNat * 16 + s.toNat) / 16 = p.toNat by omega, show (p.toNat * 16 + s.toNat) % 16 = s.toNat by omega, Int.toNat_of_nonneg hp, Int.toNat_of_nonneg hs.1]
theorem cal_row {cal : List (Nat × List Int)} {n : Nat} (hn : cal.length = n) (hr : ∀ c ∈ cal, RowOk c.2) {p : Int} (hp : 0 ≤ p ∧ p < n) :
    ∃ c, cal[p.toNat]? = some c ∧ c ∈ cal ∧ RowOk c.2 ∧ ∀ s, 0 ≤ s ∧ s < 16 → c.2[s.toNat]? = some (cget cal p s) ∧ 0 ≤ cget cal p s ∧ cget cal p s ≤ 1001 := by
  obtain ⟨c, hc⟩ : ∃ c, cal[p.toNat]? = some c := ⟨cal[p.toNat]'(by omega), List.getElem?_eq_getElem (by omega)⟩
  have hcm := List.mem_of_getElem? hc
  refine ⟨c, hc, hcm, hr c hcm, fun s hs => ?_⟩
  have hl : s.toNat < c.2.length := by rw [(hr c hcm).1]; omega
  have h1 : c.2[s.toNat]? = some (cget cal p s) := by
    unfold cget
    rw [hc]
    simp only [Option.map_some, Option.getD_some]
    rw [List.getD_eq_getElem?_getD, List.getElem?_eq_getElem hl]; rfl
  exact ⟨h1, (hr c hcm).2 _ (List.mem_of_getElem? h1)⟩
theorem cget_le {cal : List (Nat × List Int)} (hr : ∀ c ∈ cal, RowOk c.2) (p s : Int) : cget cal p s ≤ 1001 := by
  unfold cget
  cases hc : cal[p.toNat]? with
  | none => simp
  | some c =>
    simp only [Option.map_some, Option.getD_some]
    rw [List.getD_eq_getElem?_getD]
    cases hx : c.2[s.toNat]? with
    | none => simp
    | some x => exact ((hr c (List.mem_of_getElem? hc)).2 x (List.mem_of_getElem? hx)).2
theorem cal_ld {cal : List (Nat × List Int)} {i : Nat} {c : Nat × List Int} (h : cal[i]? = some c) : loadV E 32 (calV cal) (0 + i * 1) = some (.slice (some ⟨c.1, 0⟩) 16 1 none) := by
  show nthL (calV cal) (0 + i * 1) = _
  rw [nthL_eq, Nat.zero_add, Nat.mul_one]; exact cal_at h
theorem row_ld {r : List Int} {i : Nat} {x : Int} (h : r[i]? = some x) : loadV E 3 (r.map iv) (0 + i * 1) = some (iv x) := by
  show nthL (r.map iv) (0 + i * 1) = _
  rw [nthL_eq, Nat.zero_add, Nat.mul_one, List.getElem?_map, h]; rfl
/-- What a way asks of a calendar. -/
def Step (cal : List (Nat × List Int)) (p s : Int) (w : Wy) : Prop := CanGo w p (cget cal p s) s → cget cal w.dst (bor s w.gives) ≤ goneDay w (cget cal p s)
theorem valid_of {cal : List (Nat × List Int)} {ws : List Wy} {posts post day papers : Int} {n : Nat} (hn : (n : Int) = posts) (hr : ∀ c ∈ cal, RowOk c.2) (hws : ∀ w ∈ ws, w.Ok posts) (hh : 0 ≤ post ∧ 0 ≤ papers ∧ papers < 16) (h0 : cget cal post papers ≤ day)
    (h : ∀ (p : Nat) (s : Nat) w, p < n → s < 16 → w ∈ ws → w.src = p → Step cal p s w) : Valid ws posts post day papers (calF cal) where
  top := fun i _ => cget_le hr _ _
  start := by rw [calF_ix hh.1 hh.2]; exact h0
  step := fun s w hs hw hg => by
    obtain ⟨⟨w1, w2⟩, ⟨w3, w4⟩, _, _, _, _, ⟨w8, w9⟩, _⟩ := hws w hw
    rw [calF_ix w1 hs] at hg ⊢
    rw [calF_ix w3 (bor_rng hs (by omega))]
    have := h w.src.toNat s.toNat w (by omega) (by omega) hw (by omega)
    rw [Int.toNat_of_nonneg w1, Int.toNat_of_nonneg hs.1] at this
    exact this hg
end
end Go.Proofs.Ytgkmdkhhaapolaa
