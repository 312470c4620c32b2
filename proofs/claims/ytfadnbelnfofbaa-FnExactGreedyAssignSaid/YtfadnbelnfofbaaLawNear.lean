/-
  Plain laws: near channels, as the reference finds them. No program in sight. Our own work.
-/
import Derived.Test.YtfadnbelnfofbaaLawAssignI
namespace Go.Wk
open Go Go.RowKit

theorem near_spec (a b c : Int) (ha : -1 ≤ a ∧ a ≤ 999) (hb : -1 ≤ b ∧ b ≤ 999) : m_spec_l17Near a b c = some (decide (a - b < c ∧ b - a < c)) := by
  unfold m_spec_l17Near
  rw [w64_id (n := a - b) (by omega) (by omega), w64_id (n := b - a) (by omega) (by omega)]
  by_cases h : a - b < c
  · rw [decide_eq_true h]
    simp only [cond_true, Option.bind_some]; congr 1; rw [Bool.eq_iff_iff]; simp only [decide_eq_true_eq]; omega
  · rw [decide_eq_false h]
    simp only [cond_false, Option.bind_some]; congr 1; symm; simp only [decide_eq_false_iff_not]; omega
end Go.Wk
