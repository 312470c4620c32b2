/-
  Plain law: ValidRows. No program in sight. Our own work.
-/
import Derived.Test.YtdilkjbhbglpbaaLawRows
namespace Go.Wk
open Go Go.RowKit

theorem law_FnExactValidRows (l : List (List Int)) (k : l.length ≤ maxLen ∧ ∀ x ∈ l, (x.length ≤ maxLen ∧ ∀ xy ∈ x, ((Lit.int .i64 xy).wf = true))) : m_laws_FnExactValidRows l = some true := by
  unfold m_laws_FnExactValidRows
  obtain ⟨r, hr, hc⟩ := szInt64SS_eq l 1048576 (by omega) (by omega) k.1 (fun x hx => (k.2 x hx).1)
  rw [hr, Option.bind_some]
  rcases hc with hc | ⟨hc, hc2, ha⟩
  · rw [decide_eq_true hc]; rfl
  rw [decide_eq_false (by omega), cond_false]
  simp only [toInt64SS_eq _ ha, eqInt64SS_eq _ _ ha, m_spec_ValidRows, rowsSpec_eq _ ha, rowsImpl_eq _ ha, Option.bind_some, bne_self, cond_false, Bool.not_true, decide_true]
end Go.Wk
