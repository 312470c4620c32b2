/-
  Plain laws: rising numbers within bounds. No program in sight. Our own work.
-/
import Derived.Test.YtbhegklilcpbmaaDoorLawIn
import Derived.Test.YtbhegklilcpbmaaDoorPlainB
namespace Go.Wk
open Go Go.RowKit

theorem risesSpec_eq (l : List Int) (hl : l.length ≤ 1048576) (low high : Int) : m_spec_l00Rises l low high = some ((List.range l.length).all (risesN l) && l.all fun x => decide (low ≤ x ∧ x ≤ high)) := by
  have key : m_spec_l00Rises l low high = some (if (List.range l.length).all (fun k => risesN l k && decide (low ≤ l.getD k 0 ∧ l.getD k 0 ≤ high)) then true else false) := by
    unfold m_spec_l00Rises
    refine all_loop_g l.length _ _ true false 0 (by omega) (fun j h => absurd h (by omega)) (fun k _ hk hp => ?_) (fun _ => ?_)
    · simp only [m_spec_l00Rises_B1, lt_true hk, cond_true, idx_getD 0 hk, Option.bind_some, in_eq]
      rw [w64_id (n := (k : Int) + 1) (by omega) (by omega)]
      by_cases c1 : low ≤ l.getD k 0 ∧ l.getD k 0 ≤ high
      case neg => rw [decide_eq_false c1, Bool.and_false]; rfl
      rw [decide_eq_true c1, Bool.and_true]
      unfold risesN
      by_cases c2 : 0 < k
      · have hk1 : k - 1 < l.length := by omega
        have e : w64 ((k : Int) - 1) = ((k - 1 : Nat) : Int) := by rw [w64_id (by omega) (by omega)]; omega
        rw [e, idx_getD 0 hk1, decide_eq_true (show (0 : Int) < (k : Int) by omega)]
        by_cases c3 : l.getD k 0 ≤ l.getD (k - 1) 0
        · rw [decide_eq_false (show ¬ (k = 0 ∨ l.getD (k - 1) 0 < l.getD k 0) by omega)]
          simp only [Bool.not_true, cond_false, cond_true, Option.bind_some, decide_eq_true c3]; rfl
        · rw [decide_eq_true (show (k = 0 ∨ l.getD (k - 1) 0 < l.getD k 0) by omega)]
          simp only [Bool.not_true, cond_false, cond_true, Option.bind_some, decide_eq_false c3]; rfl
      · rw [decide_eq_false (show ¬ (0 : Int) < (k : Int) by omega), decide_eq_true (show (k = 0 ∨ l.getD (k - 1) 0 < l.getD k 0) by omega)]
        rfl
    · simp only [m_spec_l00Rises_B1, lt_self, cond_false, Option.map_some]
  rw [key, if_bool, all_range_and, all_range_get l 0 (fun x => decide (low ≤ x ∧ x ≤ high))]

theorem incImpl_eq (l : List Int) (h0 : 1 ≤ l.length) (hl : l.length ≤ 1048576) : m_impl_increasing l = some ((List.range l.length).all (risesN l)) := by
  have key : m_impl_increasing l = some (if (List.range l.length).all (risesN l) then true else false) := by
    unfold m_impl_increasing
    refine all_loop_g l.length _ _ true false 1 (by omega) (fun j h => ?_) (fun k hk1' hk hp => ?_) (fun _ => ?_)
    · have : j = 0 := by omega
      subst this; rfl
    · have hk1 : k - 1 < l.length := by omega
      have e : w64 ((k : Int) - 1) = ((k - 1 : Nat) : Int) := by rw [w64_id (by omega) (by omega)]; omega
      simp only [m_impl_increasing_B1, lt_true hk, cond_true, idx_getD 0 hk, e, idx_getD 0 hk1, Option.bind_some]
      rw [w64_id (n := (k : Int) + 1) (by omega) (by omega)]
      unfold risesN
      by_cases c3 : l.getD k 0 ≤ l.getD (k - 1) 0
      · rw [decide_eq_true c3, decide_eq_false (show ¬ (k = 0 ∨ l.getD (k - 1) 0 < l.getD k 0) by omega)]; rfl
      · rw [decide_eq_false c3, decide_eq_true (show (k = 0 ∨ l.getD (k - 1) 0 < l.getD k 0) by omega)]; rfl
    · simp only [m_impl_increasing_B1, lt_self, cond_false, Option.map_some]
  rw [key, if_bool]
end Go.Wk
