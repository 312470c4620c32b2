/-
  Plain law: SameBand. No program in sight. Our own work.
-/
import Derived.Test.YtbogkiihgejbnaaLawBand
namespace Go.Wk
open Go Go.RowKit

theorem law_FnExactSameBand (a b : GBand) (ka : okGBand a) (kb : okGBand b) : m_laws_FnExactSameBand a b = some true := by
  unfold m_laws_FnExactSameBand
  obtain ⟨r, hr, hr1, hr2⟩ := szBand_eq a 1048576 (by omega) (by omega) ka.1
  rw [hr, Option.bind_some]
  rcases hr2 with h | ⟨h, _⟩
  · simp [h]
  · obtain ⟨r2, h2, _, h3⟩ := szBand_eq b r h hr1 kb.1
    have hn : ¬ r < 0 := by omega
    rw [decide_eq_false hn, cond_false, h2, Option.bind_some]
    rcases h3 with h3 | ⟨h3, _⟩
    · simp [h3]
    · have hn2 : ¬ r2 < 0 := by omega
      rw [decide_eq_false hn2, cond_false]
      have e : m_impl_SameBand a b = m_spec_SameBand a b := rfl
      have e2 : ∃ c, m_spec_SameBand a b = some c := ⟨_, rfl⟩
      obtain ⟨c, hc⟩ := e2
      simp [toBand_eq, e, hc]
end Go.Wk
