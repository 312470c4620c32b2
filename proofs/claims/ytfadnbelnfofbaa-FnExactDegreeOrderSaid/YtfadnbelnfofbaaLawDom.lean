/-
  Plain laws: domains. No program in sight. Our own work.
-/
import Derived.Test.YtfadnbelnfofbaaLawWithinS
import Derived.Test.YtfadnbelnfofbaaPlainB
namespace Go.Wk
open Go Go.RowKit

def domOk (l : List Int) : Bool := decide (1 ≤ l.length ∧ l.length ≤ 32) && ((List.range l.length).all (risesN l) && l.all fun x => decide ((0 : Int) ≤ x ∧ x ≤ 999))
theorem domSpec_eq (l : List Int) : m_spec_l17Domain l = some (domOk l) := by
  unfold m_spec_l17Domain domOk
  by_cases h1 : 0 < (l.length : Int)
  case neg => rw [decide_eq_false h1, decide_eq_false (show ¬ (1 ≤ l.length ∧ l.length ≤ 32) by omega)]; rfl
  by_cases h2 : (l.length : Int) ≤ 32
  case neg => rw [decide_eq_true h1, decide_eq_false h2, decide_eq_false (show ¬ (1 ≤ l.length ∧ l.length ≤ 32) by omega)]; rfl
  rw [decide_eq_true h1, decide_eq_true h2, decide_eq_true (show (1 ≤ l.length ∧ l.length ≤ 32) by omega)]
  have key : m_spec_l00Rises l 0 999 = some (if (List.range l.length).all (fun k => risesN l k && decide (0 ≤ l.getD k 0 ∧ l.getD k 0 ≤ 999)) then true else false) := by
    unfold m_spec_l00Rises
    refine all_loop_g l.length _ _ true false 0 (by omega) (fun j h => absurd h (by omega)) (fun k _ hk hp => ?_) (fun _ => ?_)
    · simp only [m_spec_l00Rises_B1, lt_true hk, cond_true, idx_getD 0 hk, Option.bind_some, in_eq]
      rw [w64_id (n := (k : Int) + 1) (by omega) (by omega)]
      by_cases c1 : 0 ≤ l.getD k 0 ∧ l.getD k 0 ≤ 999
      case neg => rw [decide_eq_false c1, Bool.and_false]; rfl
      rw [decide_eq_true c1, Bool.and_true]
      unfold risesN
      by_cases c2 : 0 < k
      · have hk1 : k - 1 < l.length := by omega
        have e : w64 ((k : Int) - 1) = ((k - 1 : Nat) : Int) := by rw [w64_id (by omega) (by omega)]; omega
        rw [e, idx_getD 0 hk1, decide_eq_true (show (0 : Int) < (k : Int) by omega)]
        by_cases c3 : l.getD k 0 ≤ l.getD (k - 1) 0
        · rw [decide_eq_false (show ¬ (k = 0 ∨ l.getD (k - 1) 0 < l.getD k 0) by omega)]
          simp only [Bool.not_true, cond_false, cond_true, Option.bind_some, decide_eq_true c3]; rfl
        · rw [decide_eq_true (show (k = 0 ∨ l.getD (k - 1) 0 < l.getD k 0) by omega)]
          simp only [Bool.not_true, cond_false, cond_true, Option.bind_some, decide_eq_false c3]; rfl
      · rw [decide_eq_false (show ¬ (0 : Int) < (k : Int) by omega), decide_eq_true (show (k = 0 ∨ l.getD (k - 1) 0 < l.getD k 0) by omega)]
        rfl
    · simp only [m_spec_l00Rises_B1, lt_self, cond_false, Option.map_some]
  simp only [cond_true, key, Option.bind_some, Bool.true_and]
  rw [if_bool, all_range_and, all_range_get l 0 (fun x => decide ((0 : Int) ≤ x ∧ x ≤ 999))]

theorem domImpl_eq (l : List Int) : m_impl_domainOk l = some (domOk l) := by
  unfold m_impl_domainOk domOk
  by_cases h1 : 1 ≤ (l.length : Int)
  case neg => rw [decide_eq_false h1, decide_eq_false (show ¬ (1 ≤ l.length ∧ l.length ≤ 32) by omega)]; rfl
  by_cases h2 : (l.length : Int) ≤ 32
  case neg => rw [decide_eq_true h1, decide_eq_false h2, decide_eq_false (show ¬ (1 ≤ l.length ∧ l.length ≤ 32) by omega)]; rfl
  rw [decide_eq_true h1, decide_eq_true h2, decide_eq_true (show (1 ≤ l.length ∧ l.length ≤ 32) by omega)]
  have key : m_impl_increasing l = some (if (List.range l.length).all (risesN l) then true else false) := by
    unfold m_impl_increasing
    refine all_loop_g l.length _ _ true false 1 (by omega) (fun j h => ?_) (fun k hk1' hk hp => ?_) (fun _ => ?_)
    · have : j = 0 := by omega
      subst this; rfl
    · have hk1 : k - 1 < l.length := by omega
      have e : w64 ((k : Int) - 1) = ((k - 1 : Nat) : Int) := by rw [w64_id (by omega) (by omega)]; omega
      simp only [m_impl_increasing_B1, lt_true hk, cond_true, idx_getD 0 hk, e, idx_getD 0 hk1, Option.bind_some]
      rw [w64_id (n := (k : Int) + 1) (by omega) (by omega)]
      unfold risesN
      by_cases c3 : l.getD k 0 ≤ l.getD (k - 1) 0
      · rw [decide_eq_true c3, decide_eq_false (show ¬ (k = 0 ∨ l.getD (k - 1) 0 < l.getD k 0) by omega)]; rfl
      · rw [decide_eq_false c3, decide_eq_true (show (k = 0 ∨ l.getD (k - 1) 0 < l.getD k 0) by omega)]; rfl
    · simp only [m_impl_increasing_B1, lt_self, cond_false, Option.map_some]
  simp only [cond_true, key, Option.bind_some, Bool.true_and, allWithin_eq l _ _ (show l.length ≤ 9223372036854775806 by omega)]
  rw [if_bool]
  cases (List.range l.length).all (risesN l) <;> rfl

end Go.Wk
