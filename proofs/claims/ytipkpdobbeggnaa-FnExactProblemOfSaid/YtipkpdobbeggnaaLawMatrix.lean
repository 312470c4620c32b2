/-
  Plain laws: a square of ratios. No program in sight. Our own work.
-/
import Derived.Test.YtipkpdobbeggnaaLawSS
import Derived.Test.YtipkpdobbeggnaaLawWithinS
import Derived.Test.YtipkpdobbeggnaaPlainB
namespace Go.Wk
open Go Go.RowKit

def ratN (n : Nat) (r : List Int) : Bool := decide (r.length = n) && r.all fun x => decide ((-200000 : Int) ≤ x ∧ x ≤ 200000)
def matOk (l : List (List Int)) : Bool := decide (1 ≤ l.length ∧ l.length ≤ 24) && l.all (ratN l.length)

theorem matSpec_eq (l : List (List Int)) (hl : FitsSS l) : m_spec_l16Matrix l = some (matOk l) := by
  unfold m_spec_l16Matrix matOk
  have hl1 := hl.1
  have key := all_loop_g l.length (fun s : Int => m_spec_l16Matrix_B1 l s) (fun k => ratN l.length (l.getD k [])) (decide (1 ≤ l.length ∧ l.length ≤ 24)) false 0 (by omega) (fun j h => absurd h (by omega)) (fun k _ hk hp => ?_) (fun _ => ?_)
  · rw [all_range_get l [] (ratN l.length)] at key
    refine key.trans ?_
    cases (l.all (ratN l.length)) <;> cases decide (1 ≤ l.length ∧ l.length ≤ 24) <;> rfl
  · simp only [m_spec_l16Matrix_B1, lt_true hk, cond_true, idx_getD [] hk, Option.bind_some]
    by_cases c : (l.getD k []).length = l.length
    · have e : (((l.getD k []).length : Int) != (l.length : Int)) = false := by rw [c]; exact bne_self _
      rw [e, cond_false]
      have key2 := all_loop_g l.length (fun s : Int => m_spec_l16Matrix_B5 l (k : Int) s) (fun j => decide ((-200000 : Int) ≤ (l.getD k []).getD j 0 ∧ (l.getD k []).getD j 0 ≤ 200000)) (.inl (w64 ((k : Int) + 1))) (.inr false) 0 (by omega) (fun j h => absurd h (by omega)) (fun j _ hj hp => ?_) (fun _ => ?_)
      · have e2 := all_range_get (l.getD k []) 0 (fun x => decide ((-200000 : Int) ≤ x ∧ x ≤ 200000))
        rw [c] at e2
        rw [e2] at key2
        refine key2.trans ?_
        unfold ratN
        rw [decide_eq_true c, Bool.true_and]
        rw [w64_id (n := (k : Int) + 1) (by omega) (by omega)]
        cases (l.getD k []).all (fun x => decide ((-200000 : Int) ≤ x ∧ x ≤ 200000)) <;> rfl
      · simp only [m_spec_l16Matrix_B5, lt_true hj, cond_true, idx_getD [] hk, Option.bind_some, idx_getD 0 (show j < (l.getD k []).length by omega), in_eq]
        rw [w64_id (n := (j : Int) + 1) (by omega) (by omega)]
        cases decide ((-200000 : Int) ≤ (l.getD k []).getD j 0 ∧ (l.getD k []).getD j 0 ≤ 200000) <;> rfl
      · simp only [m_spec_l16Matrix_B5, lt_self, cond_false, Option.map_some]
    · have e : (((l.getD k []).length : Int) != (l.length : Int)) = true := by simp only [bne_iff_ne, ne_eq]; omega
      rw [e]
      unfold ratN
      rw [decide_eq_false c]; rfl
  · simp only [m_spec_l16Matrix_B1, lt_self, cond_false]
    by_cases h : (0 : Int) < (l.length : Int)
    · rw [decide_eq_true h]
      simp only [cond_true, Option.bind_some, Option.map_some]
      congr 2; rw [Bool.eq_iff_iff]; simp only [decide_eq_true_eq]; omega
    · rw [decide_eq_false h, decide_eq_false (show ¬ (1 ≤ l.length ∧ l.length ≤ 24) by omega)]; rfl

theorem matImpl_eq (l : List (List Int)) (hl : FitsSS l) : m_impl_ratiosOk l = some (matOk l) := by
  have hl1 := hl.1
  unfold m_impl_ratiosOk matOk
  rw [containsFuncS_eq l _ (fun r => !ratN l.length r) (fun r hr => ?_) (by omega)]
  · by_cases h1 : (1 : Int) ≤ (l.length : Int)
    case neg => rw [decide_eq_false h1, decide_eq_false (show ¬ (1 ≤ l.length ∧ l.length ≤ 24) by omega)]; rfl
    by_cases h2 : (l.length : Int) ≤ 24
    case neg => rw [decide_eq_true h1, decide_eq_false h2, decide_eq_false (show ¬ (1 ≤ l.length ∧ l.length ≤ 24) by omega)]; rfl
    rw [decide_eq_true h1, decide_eq_true h2, decide_eq_true (show (1 ≤ l.length ∧ l.length ≤ 24) by omega)]
    simp only [cond_true, Option.bind_some, Bool.true_and]
    rw [List.not_any_eq_all_not]
    simp
  · have hr' := hl.2 r hr
    unfold m_impl_ratiosOk_1 ratN
    rw [allWithin_eq _ _ _ (by omega)]
    by_cases c : r.length = l.length
    · have e : ((r.length : Int) != (l.length : Int)) = false := by rw [c]; exact bne_self _
      rw [e, decide_eq_true c]; rfl
    · have e : ((r.length : Int) != (l.length : Int)) = true := by simp only [bne_iff_ne, ne_eq]; omega
      rw [e, decide_eq_false c]; rfl
end Go.Wk
