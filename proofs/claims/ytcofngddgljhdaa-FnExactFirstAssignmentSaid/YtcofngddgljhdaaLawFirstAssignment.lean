/-
  Plain law: FirstAssignment. No program in sight. Our own work.
-/
import Derived.Test.YtcofngddgljhdaaLawSearch
import Derived.Test.YtcofngddgljhdaaLawEnd
namespace Go.Wk
open Go Go.RowKit

theorem law_FnExactFirstAssignment (a : GProblem) (B : Int) (k : okGProblem a) (_kb : (Lit.int .i64 B).wf = true) : m_laws_FnExactFirstAssignment a B = some true := by
  unfold m_laws_FnExactFirstAssignment
  obtain ⟨r, hr, hc⟩ := szProblem_eq a k 1048576 (by omega) (by omega)
  rw [hr, Option.bind_some]
  rcases hc with hc | ⟨hc, hc2, ha⟩
  · rw [decide_eq_true hc]; rfl
  rw [decide_eq_false (by omega), cond_false]
  have e : ∃ v c, m_spec_FirstAssignment a B = some (v, c) ∧ m_impl_FirstAssignment a B = some (v, c) ∧ v.length ≤ 1048576 := by
    unfold m_spec_FirstAssignment m_impl_FirstAssignment m_spec_l18Ask m_impl_assignSearch_run m_impl_budgetValid
    rw [probSpec_eq _ ha, probImpl_eq _ ha, in_eq, within_eq]
    cases ho : probOk a with
    | false => exact ⟨[], 1, rfl, rfl, by simp⟩
    | true =>
      cases hb : decide ((1 : Int) ≤ B ∧ B ≤ 20000) with
      | false => exact ⟨[], 2, rfl, rfl, by simp⟩
      | true =>
        have hp := probOk_true ho
        have hn := hp.n2
        have hB := of_decide_eq_true hb
        obtain ⟨ok, nodes', count', first', lst, s1, s2, r3, r5⟩ := search_start a hp B hB true
        have z0 : ((0 : Int) != 0) = false := rfl
        have z5 : ((5 : Int) != 0) = true := rfl
        unfold m_spec_l18Run
        simp only [Option.bind_some, Bool.not_true, cond_false, z0, empty_eq _ (show a.Domains.length ≤ 1048576 by omega), s1, s2]
        rcases r5 with ⟨e1, _⟩ | ⟨e1, _, _, e2⟩ | ⟨e1, _, _, e2, e3, e4⟩
        · rw [decide_eq_true (show B < nodes' by omega), decide_eq_true (show B - nodes' < 0 by omega)]
          exact ⟨[], 5, rfl, rfl, by simp⟩
        · rw [lt_false (show ¬ B < nodes' by omega), lt_false (show ¬ B - nodes' < 0 by omega), e2 rfl]
          exact ⟨[], 3, rfl, rfl, by simp⟩
        · have ec : (count' == 0) = false := by simp only [beq_eq_false_iff_ne, ne_eq]; omega
          rw [lt_false (show ¬ B < nodes' by omega), lt_false (show ¬ B - nodes' < 0 by omega)]
          simp only [cond_false, Option.bind_some, z0, ec]
          rw [e3]
          exact ⟨lst, 0, rfl, rfl, by omega⟩
  obtain ⟨s, c, e1, e2, e3⟩ := e
  simp only [toProblem_eq _ ha, eqProblem_self _ ha, e1, e2, eq_len s (by omega), Option.bind_some, bne_self, cond_false, Bool.not_true, markProblem_eq a ha 1 (by omega) (by omega), lt_false (show ¬ (1 + (tot a.Domains : Int) + (tot a.Apart : Int) < 0) by have := fits_tot ha.1; omega), mark_len s (by omega), held_len s (by omega), pos_len s]
end Go.Wk
