/-
  Plain laws: the reference's greatest of two. No program in sight. Our own work.
-/
import Derived.Test.YtcofngddgljhdaaLawS
namespace Go.Wk
open Go Go.RowKit

theorem maxS_eq (a b : Int) : m_spec_l00Max a b = some (if b > a then b else a) := by
  unfold m_spec_l00Max
  by_cases h : b < a
  · rw [decide_eq_true h, if_neg (by omega)]; rfl
  · rw [decide_eq_false h]
    by_cases h' : b > a
    · rw [if_pos h']; rfl
    · rw [if_neg h']; simp only [cond_false, Option.some.injEq]; omega
def chOk (x : Int) : Bool := decide (0 ≤ x ∧ x ≤ 999)
end Go.Wk
