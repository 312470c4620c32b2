/-
  Plain laws: the reference's least of two. No program in sight. Our own work.
-/
import Derived.Test.YtcofngddgljhdaaLawS
namespace Go.Wk
open Go Go.RowKit

theorem minS_eq (a b : Int) : m_spec_l00Min a b = some (if b < a then b else a) := by
  unfold m_spec_l00Min
  by_cases h : a < b
  · rw [decide_eq_true h, if_neg (by omega)]; rfl
  · rw [decide_eq_false h]
    by_cases h' : b < a
    · rw [if_pos h']; rfl
    · rw [if_neg h']; simp only [cond_false, Option.some.injEq]; omega
end Go.Wk
