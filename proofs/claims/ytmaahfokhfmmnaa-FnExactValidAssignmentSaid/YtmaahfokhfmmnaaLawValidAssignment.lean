/-
  Plain law: ValidAssignment. No program in sight. Our own work.
-/
import Derived.Test.YtmaahfokhfmmnaaLawAssign
namespace Go.Wk
open Go Go.RowKit

theorem law_FnExactValidAssignment (a : GProblem) (l : List Int) (k : okGProblem a) (_kl : l.length ≤ maxLen ∧ ∀ x ∈ l, ((Lit.int .i64 x).wf = true)) : m_laws_FnExactValidAssignment a l = some true := by
  unfold m_laws_FnExactValidAssignment
  by_cases h1 : (1048576 : Int) < (l.length : Int)
  · rw [decide_eq_true h1]; rfl
  rw [decide_eq_false h1, cond_false]
  obtain ⟨r, hr, hc⟩ := szProblem_eq a k 1048576 (by omega) (by omega)
  rw [hr, Option.bind_some]
  rcases hc with hc | ⟨hc, hc2, ha⟩
  · rw [decide_eq_true hc]; rfl
  rw [decide_eq_false (by omega), cond_false]
  have e : ∃ c, m_spec_ValidAssignment a l = some c ∧ m_impl_ValidAssignment a l = some c := by
    unfold m_spec_ValidAssignment m_impl_ValidAssignment
    rw [probSpec_eq _ ha, probImpl_eq _ ha]
    cases ho : probOk a with
    | false => exact ⟨_, rfl, rfl⟩
    | true =>
      have hp := probOk_true ho
      simp only [Option.bind_some, cond_true, fitsSpec_eq a hp, fitsImpl_eq a hp]
      cases hf : fitsN a l with
      | false => exact ⟨_, rfl, rfl⟩
      | true =>
        simp only [cond_true, brokenSpec_eq a hp l (fits_chans hp hf), violImpl_eq a hp l (fits_chans hp hf)]
        exact ⟨_, rfl, rfl⟩
  obtain ⟨c, h1', h2⟩ := e
  simp only [toProblem_eq _ ha, eqProblem_self _ ha, toInt64S_eq l (by omega), eqInt64S_eq l l (by omega), h1', h2, Option.bind_some, bne_self, cond_false, Bool.not_true, decide_true]
end Go.Wk
