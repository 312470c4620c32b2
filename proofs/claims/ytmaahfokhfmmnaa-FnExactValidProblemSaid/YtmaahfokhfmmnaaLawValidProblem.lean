/-
  Plain law: ValidProblem. No program in sight. Our own work.
-/
import Derived.Test.YtmaahfokhfmmnaaLawProbOk
namespace Go.Wk
open Go Go.RowKit

theorem law_FnExactValidProblem (a : GProblem) (k : okGProblem a) : m_laws_FnExactValidProblem a = some true := by
  unfold m_laws_FnExactValidProblem
  obtain ⟨r, hr, hc⟩ := szProblem_eq a k 1048576 (by omega) (by omega)
  rw [hr, Option.bind_some]
  rcases hc with hc | ⟨hc, hc2, ha⟩
  · rw [decide_eq_true hc]; rfl
  rw [decide_eq_false (by omega), cond_false]
  simp only [toProblem_eq _ ha, eqProblem_self _ ha, m_spec_ValidProblem, probSpec_eq _ ha, probImpl_eq _ ha, Option.bind_some, bne_self, cond_false, Bool.not_true]
end Go.Wk
