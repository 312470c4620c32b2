/-
  Plain law: BandText. No program in sight. Our own work.
-/
import Derived.Test.YtbhegklilcpbmaaDoorLawDec
import Derived.Test.YtbhegklilcpbmaaDoorLawBandOk
namespace Go.Wk
open Go Go.RowKit

/-- A band's text. -/
def bandText (b : GBand) : List UInt8 := b.Name.data.toList ++ [32] ++ Lib.itoa b.Low ++ [32] ++ Lib.itoa b.High ++ [32] ++ Lib.itoa b.Raster ++ [32] ++ Lib.itoa b.Duplex
theorem bandOk_name {b : GBand} (h : bandOk b = true) : b.Name.data.toList.length ≤ 10 := by
  unfold bandOk nameOk at h
  simp only [Bool.and_eq_true, decide_eq_true_eq] at h
  exact h.1.1.2
theorem bandOk_rng {b : GBand} (h : bandOk b = true) : (-9223372036854775808 ≤ b.Low ∧ b.Low ≤ 9223372036854775807) ∧ (-9223372036854775808 ≤ b.High ∧ b.High ≤ 9223372036854775807) ∧ (-9223372036854775808 ≤ b.Raster ∧ b.Raster ≤ 9223372036854775807) ∧ (-9223372036854775808 ≤ b.Duplex ∧ b.Duplex ≤ 9223372036854775807) := by
  have := bandNums_true (bandOk_nums h)
  omega
theorem textSpec_eq {b : GBand} (h : bandOk b = true) : m_spec_l15Text b = some ⟨(bandText b).toArray⟩ := by
  obtain ⟨r1, r2, r3, r4⟩ := bandOk_rng h
  have l0 := bandOk_name h
  have l1 := itoa_len r1
  have l2 := itoa_len r2
  have l3 := itoa_len r3
  have l4 := itoa_len r4
  have en : b.Name = ⟨b.Name.data.toList.toArray⟩ := rfl
  have es : ByteArray.mk #[32] = ⟨([32] : List UInt8).toArray⟩ := rfl
  unfold m_spec_l15Text
  rw [en, es, decSpec_eq r1, decSpec_eq r2, decSpec_eq r3, decSpec_eq r4]
  rw [catS_eq _ _ (by simp only [List.length_singleton]; omega), Option.bind_some, Option.bind_some,
    catS_eq _ _ (by simp only [List.length_append, List.length_singleton]; omega), Option.bind_some,
    catS_eq _ _ (by simp only [List.length_append, List.length_singleton]; omega), Option.bind_some, Option.bind_some,
    catS_eq _ _ (by simp only [List.length_append, List.length_singleton]; omega), Option.bind_some,
    catS_eq _ _ (by simp only [List.length_append, List.length_singleton]; omega), Option.bind_some, Option.bind_some,
    catS_eq _ _ (by simp only [List.length_append, List.length_singleton]; omega), Option.bind_some,
    catS_eq _ _ (by simp only [List.length_append, List.length_singleton]; omega), Option.bind_some, Option.bind_some,
    catS_eq _ _ (by simp only [List.length_append, List.length_singleton]; omega), Option.bind_some]
  rfl
theorem textImpl_eq {b : GBand} (h : bandOk b = true) : m_impl_BandText b = some ⟨(bandText b).toArray⟩ := by
  obtain ⟨r1, r2, r3, r4⟩ := bandOk_rng h
  have l0 := bandOk_name h
  have l1 := itoa_len r1
  have l2 := itoa_len r2
  have l3 := itoa_len r3
  have l4 := itoa_len r4
  have ej : Lib.join (([b.Name, ⟨(Lib.itoa b.Low).toArray⟩, ⟨(Lib.itoa b.High).toArray⟩, ⟨(Lib.itoa b.Raster).toArray⟩, ⟨(Lib.itoa b.Duplex).toArray⟩] : List ByteArray).map (·.data.toList)) (ByteArray.mk #[32]).data.toList = bandText b := by
    unfold Lib.join bandText
    simp [List.intercalate, List.intersperse]
  have el : (bandText b).length ≤ 140737488355328 := by
    unfold bandText
    simp only [List.length_append, List.length_singleton]; omega
  unfold m_impl_BandText m_strings_Join joinM
  simp only [okImpl_eq, h, Option.bind_some, Bool.not_true, cond_false, decImpl_eq r1, decImpl_eq r2, decImpl_eq r3, decImpl_eq r4]
  rw [ej, if_pos ⟨by simp, el⟩]
  rfl
theorem bandText_same (b : GBand) : ∃ r, m_spec_BandText b = some r ∧ m_impl_BandText b = some r := by
  cases h : bandOk b with
  | true =>
    refine ⟨_, ?_, textImpl_eq h⟩
    unfold m_spec_BandText
    rw [okSpec_eq, h, Option.bind_some, Bool.not_true, cond_false, textSpec_eq h]; rfl
  | false =>
    refine ⟨ByteArray.mk #[], ?_, ?_⟩
    · unfold m_spec_BandText; rw [okSpec_eq, h]; rfl
    · unfold m_impl_BandText; rw [okImpl_eq, h]; rfl
theorem law_FnExactBandText (a : GBand) (k : okGBand a) : m_laws_FnExactBandText a = some true := by
  unfold m_laws_FnExactBandText
  obtain ⟨r, hr, hr1, hr2⟩ := szBand_eq a 1048576 (by omega) (by omega) k.1
  rw [hr, Option.bind_some]
  rcases hr2 with h | ⟨h, _⟩
  · rw [decide_eq_true h]; rfl
  · have hn : ¬ r < 0 := by omega
    rw [decide_eq_false hn, cond_false]
    obtain ⟨t, h1, h2⟩ := bandText_same a
    simp only [toBand_eq, Option.bind_some, h1, h2, beq_self_eq_true, Bool.not_true, cond_false]
end Go.Wk
