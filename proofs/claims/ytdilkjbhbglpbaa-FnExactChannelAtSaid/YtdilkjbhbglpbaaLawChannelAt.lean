/-
  Plain law: ChannelAt. No program in sight. Our own work.
-/
import Derived.Test.YtdilkjbhbglpbaaLawBandOk
namespace Go.Wk
open Go Go.RowKit

theorem law_FnExactChannelAt (a : GBand) (f : Int) (k : okGBand a) (kf : (Lit.int .i64 f).wf = true) : m_laws_FnExactChannelAt a f = some true := by
  unfold m_laws_FnExactChannelAt
  obtain ⟨r, hr, hr1, hr2⟩ := szBand_eq a 1048576 (by omega) (by omega) k.1
  rw [hr, Option.bind_some]
  have hf := wf64 kf
  rcases hr2 with h | ⟨h, _⟩
  · rw [decide_eq_true h]; rfl
  · have hn : ¬ r < 0 := by omega
    rw [decide_eq_false hn, cond_false]
    unfold m_spec_ChannelAt m_impl_ChannelAt
    simp only [toBand_eq, Option.bind_some, okSpec_eq, okImpl_eq]
    cases hb : bandOk a with
    | false => rfl
    | true =>
      have hb' := bandOk_nums hb
      have hq := bandNums_true hb'
      simp only [Bool.not_true, cond_false, countSpec_eq a hb', countImpl_eq a hb', Option.bind_some]
      by_cases h1 : f < a.Low
      · simp only [decide_eq_true h1, cond_true, Option.bind_some, bne_self, cond_false]
      · simp only [decide_eq_false h1, cond_false, Option.bind_some]
        have hn0 : 1 ≤ bandN a ∧ bandN a ≤ 1000 := ⟨by unfold bandN; omega, by unfold bandN; omega⟩
        have hm0 : 0 ≤ bandN a * a.Raster := Int.mul_nonneg (by omega) (by omega)
        have hm : bandN a * a.Raster ≤ a.High - a.Low := by
          have := Int.mul_ediv_self_le (x := a.High - a.Low) (k := a.Raster) (by omega)
          have e : bandN a = (a.High - a.Low) / a.Raster := Int.tdiv_eq_ediv_of_nonneg (by omega)
          rw [e, Int.mul_comm]; exact this
        rw [w64_id (n := bandN a * a.Raster) (by omega) (by omega), w64_id (n := a.Low + bandN a * a.Raster) (by omega) (by omega)]
        by_cases h2 : 100000000 < f
        · have h3 : a.Low + bandN a * a.Raster ≤ f := by omega
          simp only [decide_eq_true h2, decide_eq_true h3, cond_true, Option.bind_some, bne_self, cond_false]
        · simp only [decide_eq_false h2, cond_false]
          rw [w64_id (n := f - a.Low) (by omega) (by omega), qdiv_pos (by omega) (by omega) (by omega)]
          have ed : (f - a.Low).tdiv a.Raster = (f - a.Low) / a.Raster := Int.tdiv_eq_ediv_of_nonneg (by omega)
          rw [ed]
          by_cases h3 : a.Low + bandN a * a.Raster ≤ f
          · have h4 : ¬ (f - a.Low) / a.Raster < bandN a := by
              have : bandN a ≤ (f - a.Low) / a.Raster := Int.le_ediv_of_mul_le (by omega) (by omega)
              omega
            simp only [decide_eq_true h3, cond_true, Option.bind_some, decide_eq_false h4, m_impl_orNotFound, Bool.not_false, bne_self, cond_false]
          · have h4 : (f - a.Low) / a.Raster < bandN a := Int.ediv_lt_of_lt_mul (by omega) (by omega)
            simp only [decide_eq_false h3, cond_false, Option.bind_some, decide_eq_true h4, m_impl_orNotFound, Bool.not_true, bne_self]
end Go.Wk
