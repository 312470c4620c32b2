/-
  Plain law: CommonPart. No program in sight. Our own work.
-/
import Derived.Test.YtdilkjbhbglpbaaLawBandOk
namespace Go.Wk
open Go Go.RowKit

theorem law_FnExactCommonPart (a b : GBand) (ka : okGBand a) (kb : okGBand b) : m_laws_FnExactCommonPart a b = some true := by
  unfold m_laws_FnExactCommonPart
  obtain ⟨r, hr, hr1, hr2⟩ := szBand_eq a 1048576 (by omega) (by omega) ka.1
  rw [hr, Option.bind_some]
  rcases hr2 with h | ⟨h, _⟩
  · rw [decide_eq_true h]; rfl
  · obtain ⟨r2, h2, _, h3⟩ := szBand_eq b r h hr1 kb.1
    have hn : ¬ r < 0 := by omega
    rw [decide_eq_false hn, cond_false, h2, Option.bind_some]
    rcases h3 with h3 | ⟨h3, _⟩
    · rw [decide_eq_true h3]; rfl
    · have hn2 : ¬ r2 < 0 := by omega
      rw [decide_eq_false hn2, cond_false]
      unfold m_spec_CommonPart m_impl_CommonPart
      simp only [toBand_eq, Option.bind_some, okSpec_eq, okImpl_eq]
      cases ha : bandOk a with
      | false => rfl
      | true =>
        cases hb : bandOk b with
        | false => rfl
        | true =>
          have e1 : m_spec_l00Min a.High b.High = some (if b.High < a.High then b.High else a.High) := by
            unfold m_spec_l00Min
            by_cases h : a.High < b.High
            · rw [decide_eq_true h, if_neg (by omega)]; rfl
            · rw [decide_eq_false h]
              by_cases h' : b.High < a.High
              · rw [if_pos h']; rfl
              · rw [if_neg h']; simp only [cond_false, Option.some.injEq]; omega
          have e2 : m_spec_l00Max a.Low b.Low = some (if b.Low > a.Low then b.Low else a.Low) := by
            unfold m_spec_l00Max
            by_cases h : b.Low < a.Low
            · rw [decide_eq_true h, if_neg (by omega)]; rfl
            · rw [decide_eq_false h]
              by_cases h' : b.Low > a.Low
              · rw [if_pos h']; rfl
              · rw [if_neg h']; simp only [cond_false, Option.some.injEq]; omega
          have e3 : ∀ x : Int, m_spec_l00Max 0 x = some (if 0 > x then 0 else x) := by
            intro x
            unfold m_spec_l00Max
            by_cases h : x < 0
            · rw [decide_eq_true h, if_pos (by omega)]; rfl
            · rw [decide_eq_false h, if_neg (by omega)]; rfl
          simp only [Bool.not_true, cond_false, Option.bind_some, e1, e2, e3, bne_self]
end Go.Wk
