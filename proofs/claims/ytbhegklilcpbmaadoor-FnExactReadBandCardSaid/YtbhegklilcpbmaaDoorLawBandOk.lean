/-
  Plain laws: valid bands and their number of channels. No program in sight. Our own work.
-/
import Derived.Test.YtbhegklilcpbmaaDoorLawBand
namespace Go.Wk
open Go Go.RowKit

def bandNums (b : GBand) : Bool := decide (1 ≤ b.Low ∧ b.Low ≤ b.High ∧ b.High ≤ 100000000 ∧ 1 ≤ b.Raster ∧ b.Raster ≤ 100000 ∧ 1 ≤ (b.High - b.Low).tdiv b.Raster ∧ (b.High - b.Low).tdiv b.Raster ≤ 1000 ∧ (b.Duplex = 0 ∨ b.High - b.Low ≤ b.Duplex ∧ b.Duplex ≤ 100000000 - b.High))
def bandOk (b : GBand) : Bool := nameOk b.Name.data.toList && bandNums b
def bandN (b : GBand) : Int := (b.High - b.Low).tdiv b.Raster

theorem bandNums_true {b : GBand} (h : bandNums b = true) : 1 ≤ b.Low ∧ b.Low ≤ b.High ∧ b.High ≤ 100000000 ∧ 1 ≤ b.Raster ∧ b.Raster ≤ 100000 ∧ 1 ≤ (b.High - b.Low).tdiv b.Raster ∧ (b.High - b.Low).tdiv b.Raster ≤ 1000 ∧ (b.Duplex = 0 ∨ b.High - b.Low ≤ b.Duplex ∧ b.Duplex ≤ 100000000 - b.High) := by
  simpa [bandNums] using h
theorem bandOk_nums {b : GBand} (h : bandOk b = true) : bandNums b = true := by
  unfold bandOk at h
  simp at h
  exact h.2

theorem okSpec_eq (b : GBand) : m_spec_l15Ok b = some (bandOk b) := by
  unfold m_spec_l15Ok bandOk m_spec_l15Count
  simp only [specName_eq, in_eq, Option.bind_some]
  cases nameOk b.Name.data.toList with
  | false => rfl
  | true =>
    simp only [Bool.not_true, cond_false, Bool.true_and]
    by_cases h1 : 1 ≤ b.Low ∧ b.Low ≤ 100000000
    case neg =>
      have : bandNums b = false := by simp only [bandNums, decide_eq_false_iff_not]; omega
      simp only [decide_eq_false h1, this]; rfl
    by_cases h2 : 1 ≤ b.High ∧ b.High ≤ 100000000
    case neg =>
      have : bandNums b = false := by simp only [bandNums, decide_eq_false_iff_not]; omega
      simp only [decide_eq_true h1, decide_eq_false h2, this]; rfl
    by_cases h3 : 1 ≤ b.Raster ∧ b.Raster ≤ 100000
    case neg =>
      have : bandNums b = false := by simp only [bandNums, decide_eq_false_iff_not]; omega
      simp only [decide_eq_true h1, decide_eq_true h2, decide_eq_false h3, this]; rfl
    by_cases h4 : 0 ≤ b.Duplex ∧ b.Duplex ≤ 100000000
    case neg =>
      have : bandNums b = false := by simp only [bandNums, decide_eq_false_iff_not]; omega
      simp only [decide_eq_true h1, decide_eq_true h2, decide_eq_true h3, decide_eq_false h4, this]; rfl
    simp only [decide_eq_true h1, decide_eq_true h2, decide_eq_true h3, decide_eq_true h4, Bool.not_true, cond_false, Option.bind_some]
    rw [w64_id (n := b.High - b.Low) (by omega) (by omega), qdiv_pos (by omega) (by omega) (by omega)]
    simp only [Option.bind_some]
    have hs := tdiv_split (b.High - b.Low) (b := b.Raster) (by omega)
    by_cases h5 : 1 ≤ (b.High - b.Low).tdiv b.Raster ∧ (b.High - b.Low).tdiv b.Raster ≤ 1000
    case neg =>
      have : bandNums b = false := by simp only [bandNums, decide_eq_false_iff_not]; omega
      simp only [decide_eq_false h5, this]; rfl
    have h6 : b.Low ≤ b.High := by
      rcases hs with h | ⟨h, e⟩
      · omega
      · have : 0 ≤ (-(b.High - b.Low)) / b.Raster := Int.ediv_nonneg (by omega) (by omega)
        omega
    simp only [decide_eq_true h5, Bool.not_true, cond_false]
    rw [w64_id (n := b.High + b.Duplex) (by omega) (by omega)]
    by_cases h7 : b.Duplex = 0
    · have : bandNums b = true := by simp only [bandNums, decide_eq_true_eq]; omega
      have e : (b.Duplex == 0) = true := by simp [h7]
      simp only [e, this]; rfl
    · have e : (b.Duplex == 0) = false := by simp [h7]
      by_cases h8 : b.High - b.Low ≤ b.Duplex
      · simp only [e, cond_false, decide_eq_true h8, cond_true, Option.bind_some, bandNums]
        congr 1
        rw [Bool.eq_iff_iff]; simp only [decide_eq_true_eq]; omega
      · have : bandNums b = false := by simp only [bandNums, decide_eq_false_iff_not]; omega
        simp only [e, cond_false, decide_eq_false h8, this]; rfl

theorem okImpl_eq (b : GBand) : m_impl_ValidBand b = some (bandOk b) := by
  unfold m_impl_ValidBand bandOk m_impl_Band_count
  simp only [implName_eq, within_eq, Option.bind_some]
  cases nameOk b.Name.data.toList with
  | false => rfl
  | true =>
    simp only [Bool.not_true, cond_false, Bool.true_and]
    by_cases h1 : 1 ≤ b.Low ∧ b.Low ≤ 100000000
    case neg =>
      have : bandNums b = false := by simp only [bandNums, decide_eq_false_iff_not]; omega
      simp only [decide_eq_false h1, this]; rfl
    by_cases h2 : b.Low ≤ b.High ∧ b.High ≤ 100000000
    case neg =>
      have : bandNums b = false := by simp only [bandNums, decide_eq_false_iff_not]; omega
      simp only [decide_eq_true h1, decide_eq_false h2, this]; rfl
    by_cases h3 : 1 ≤ b.Raster ∧ b.Raster ≤ 100000
    case neg =>
      have : bandNums b = false := by simp only [bandNums, decide_eq_false_iff_not]; omega
      simp only [decide_eq_true h1, decide_eq_true h2, decide_eq_false h3, this]; rfl
    simp only [decide_eq_true h1, decide_eq_true h2, decide_eq_true h3, Bool.not_true, cond_false]
    rw [w64_id (n := b.High - b.Low) (by omega) (by omega), qdiv_pos (by omega) (by omega) (by omega)]
    simp only [Option.bind_some]
    by_cases h5 : 1 ≤ (b.High - b.Low).tdiv b.Raster ∧ (b.High - b.Low).tdiv b.Raster ≤ 1000
    case neg =>
      have : bandNums b = false := by simp only [bandNums, decide_eq_false_iff_not]; omega
      simp only [decide_eq_false h5, this]; rfl
    simp only [decide_eq_true h5, Bool.not_true, cond_false]
    rw [w64_id (n := 100000000 - b.High) (by omega) (by omega)]
    by_cases h7 : b.Duplex = 0
    · have : bandNums b = true := by simp only [bandNums, decide_eq_true_eq]; omega
      have e : (b.Duplex == 0) = true := by simp [h7]
      simp only [e, this]; rfl
    · have e : (b.Duplex == 0) = false := by simp [h7]
      simp only [e, cond_false, Option.bind_some, bandNums]
      congr 1
      rw [Bool.eq_iff_iff]; simp only [decide_eq_true_eq]; omega

theorem countSpec_eq (b : GBand) (h : bandNums b = true) : m_spec_l15Count b = some (bandN b) := by
  have := bandNums_true h
  unfold m_spec_l15Count bandN
  rw [w64_id (n := b.High - b.Low) (by omega) (by omega), qdiv_pos (by omega) (by omega) (by omega)]
  rfl
theorem countImpl_eq (b : GBand) (h : bandNums b = true) : m_impl_Band_count b = some (bandN b) := by
  have := bandNums_true h
  unfold m_impl_Band_count bandN
  rw [w64_id (n := b.High - b.Low) (by omega) (by omega), qdiv_pos (by omega) (by omega) (by omega)]
  rfl
end Go.Wk
