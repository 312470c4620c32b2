/-
  Plain law: ValidBand. No program in sight. Our own work.
-/
import Derived.Test.YtbogkiihgejbnaaLawBandOk
namespace Go.Wk
open Go Go.RowKit

theorem law_FnExactValidBand (a : GBand) (k : okGBand a) : m_laws_FnExactValidBand a = some true := by
  unfold m_laws_FnExactValidBand
  obtain ⟨r, hr, hr1, hr2⟩ := szBand_eq a 1048576 (by omega) (by omega) k.1
  rw [hr, Option.bind_some]
  rcases hr2 with h | ⟨h, _⟩
  · rw [decide_eq_true h]; rfl
  · have hn : ¬ r < 0 := by omega
    rw [decide_eq_false hn, cond_false]
    unfold m_spec_ValidBand
    simp only [toBand_eq, Option.bind_some, okSpec_eq, okImpl_eq, bne_self, cond_false]
end Go.Wk
