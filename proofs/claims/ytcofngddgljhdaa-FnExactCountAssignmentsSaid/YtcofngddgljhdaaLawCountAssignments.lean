/-
  Plain law: CountAssignments. No program in sight. Our own work.
-/
import Derived.Test.YtcofngddgljhdaaLawSearch
namespace Go.Wk
open Go Go.RowKit

theorem law_FnExactCountAssignments (a : GProblem) (B : Int) (k : okGProblem a) (_kb : (Lit.int .i64 B).wf = true) : m_laws_FnExactCountAssignments a B = some true := by
  unfold m_laws_FnExactCountAssignments
  obtain ⟨r, hr, hc⟩ := szProblem_eq a k 1048576 (by omega) (by omega)
  rw [hr, Option.bind_some]
  rcases hc with hc | ⟨hc, hc2, ha⟩
  · rw [decide_eq_true hc]; rfl
  rw [decide_eq_false (by omega), cond_false]
  have e : ∃ v c, m_spec_CountAssignments a B = some (v, c) ∧ m_impl_CountAssignments a B = some (v, c) := by
    unfold m_spec_CountAssignments m_impl_CountAssignments m_spec_l18Ask m_impl_assignSearch_run m_impl_budgetValid
    rw [probSpec_eq _ ha, probImpl_eq _ ha, in_eq, within_eq]
    cases ho : probOk a with
    | false => exact ⟨0, 1, rfl, rfl⟩
    | true =>
      cases hb : decide ((1 : Int) ≤ B ∧ B ≤ 20000) with
      | false => exact ⟨0, 2, rfl, rfl⟩
      | true =>
        have hp := probOk_true ho
        have hn := hp.n2
        have hB := of_decide_eq_true hb
        obtain ⟨ok, nodes', count', first', lst, s1, s2, r3, r5⟩ := search_start a hp B hB false
        have z0 : ((0 : Int) != 0) = false := rfl
        have z5 : ((5 : Int) != 0) = true := rfl
        unfold m_spec_l18Run
        simp only [Option.bind_some, Bool.not_true, cond_false, z0, empty_eq _ (show a.Domains.length ≤ 1048576 by omega), s1, s2]
        rcases r5 with ⟨e1, _⟩ | ⟨e1, _⟩ | ⟨_, _, e2, _⟩
        · rw [decide_eq_true (show B < nodes' by omega), decide_eq_true (show B - nodes' < 0 by omega)]
          exact ⟨0, 5, rfl, rfl⟩
        · rw [lt_false (show ¬ B < nodes' by omega), lt_false (show ¬ B - nodes' < 0 by omega)]
          exact ⟨count', 0, rfl, rfl⟩
        · exact absurd e2 (by simp)
  obtain ⟨v, c, e1, e2⟩ := e
  simp only [toProblem_eq _ ha, eqProblem_self _ ha, e1, e2, Option.bind_some, bne_self, cond_false, Bool.not_true]
end Go.Wk
