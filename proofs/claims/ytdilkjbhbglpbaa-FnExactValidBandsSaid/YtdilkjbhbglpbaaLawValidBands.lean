/-
  Plain law: ValidBands. No program in sight. Our own work.
-/
import Derived.Test.YtdilkjbhbglpbaaLawBandS
namespace Go.Wk
open Go Go.RowKit

theorem law_FnExactValidBands (l : List GBand) (k : l.length ≤ maxLen ∧ ∀ x ∈ l, okGBand x) : m_laws_FnExactValidBands l = some true := by
  unfold m_laws_FnExactValidBands
  obtain ⟨r, hr, hc⟩ := szBandS_eq l 1048576 (by omega) (by omega) k.1 k.2
  rw [hr, Option.bind_some]
  rcases hc with hc | ⟨h1, _, h2, _⟩
  · rw [decide_eq_true hc]; rfl
  rw [lt_false (by omega), cond_false]
  simp only [toBandS_eq l h2, Option.bind_some, m_spec_ValidBands, specList_eq l h2, implList_eq l h2, bne_self, cond_false, eqBandS_eq l l h2, decide_true, Bool.not_true]
end Go.Wk
