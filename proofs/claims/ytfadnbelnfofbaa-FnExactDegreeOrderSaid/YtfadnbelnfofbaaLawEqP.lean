/-
  Plain laws: comparing problems. No program in sight. Our own work.
-/
import Derived.Test.YtfadnbelnfofbaaLawSS
namespace Go.Wk
open Go Go.RowKit

def FitsP (p : GProblem) : Prop := FitsSS p.Domains ∧ FitsSS p.Apart
theorem eqProblem_self (a : GProblem) (h : FitsP a) : m_laws_eqProblem a a = some true := by
  unfold m_laws_eqProblem
  simp only [eqInt64SS_eq _ _ h.1, eqInt64SS_eq _ _ h.2, Option.bind_some, decide_true, Bool.not_true, cond_false]
end Go.Wk
