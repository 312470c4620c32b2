/-
  Plain law: DegreeOf. No program in sight. Our own work.
-/
import Derived.Test.YtmaahfokhfmmnaaLawItem
namespace Go.Wk
open Go Go.RowKit

theorem law_FnExactDegreeOf (a : GProblem) (i : Int) (k : okGProblem a) (_ki : (Lit.int .i64 i).wf = true) : m_laws_FnExactDegreeOf a i = some true := by
  unfold m_laws_FnExactDegreeOf
  obtain ⟨r, hr, hc⟩ := szProblem_eq a k 1048576 (by omega) (by omega)
  rw [hr, Option.bind_some]
  rcases hc with hc | ⟨hc, hc2, ha⟩
  · rw [decide_eq_true hc]; rfl
  rw [decide_eq_false (by omega), cond_false]
  have e : ∃ c, m_spec_DegreeOf a i = some c ∧ m_impl_DegreeOf a i = some c := by
    unfold m_spec_DegreeOf m_impl_DegreeOf
    rw [probSpec_eq _ ha, probImpl_eq _ ha, itemSpec_eq _ ha.1.1, itemImpl_eq _ ha.1.1]
    cases ho : probOk a with
    | false => exact ⟨_, rfl, rfl⟩
    | true =>
      cases hi : itemIn a i with
      | false => exact ⟨_, rfl, rfl⟩
      | true =>
        obtain ⟨n, e, hn⟩ := itemIn_true hi
        subst e
        simp only [Option.bind_some, Bool.not_true, cond_false, degSpec_eq a (probOk_true ho) n hn, degImpl_eq a (probOk_true ho) n hn]
        exact ⟨_, rfl, rfl⟩
  obtain ⟨c, h1, h2⟩ := e
  simp only [toProblem_eq _ ha, eqProblem_self _ ha, h1, h2, Option.bind_some, bne_self, cond_false, Bool.not_true]
end Go.Wk
