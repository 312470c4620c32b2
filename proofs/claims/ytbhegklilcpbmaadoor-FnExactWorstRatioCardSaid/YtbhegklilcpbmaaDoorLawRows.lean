/-
  Plain laws: rows of levels. No program in sight. Our own work.
-/
import Derived.Test.YtbhegklilcpbmaaDoorLawSS
import Derived.Test.YtbhegklilcpbmaaDoorLawWithinS
import Derived.Test.YtbhegklilcpbmaaDoorPlainB
namespace Go.Wk
open Go Go.RowKit

def rowOkN (l : List Int) : Bool := decide (1 ≤ l.length ∧ l.length ≤ 24) && l.all fun x => decide ((-300000 : Int) ≤ x ∧ x ≤ 300000)
def rowsOk (l : List (List Int)) : Bool := decide (1 ≤ l.length ∧ l.length ≤ 32) && l.all fun r => rowOkN r && decide (r.length = (l.getD 0 []).length)
theorem rowSpec_eq (l : List Int) (hl : l.length ≤ 1048576) : m_spec_l16Row l = some (rowOkN l) := by
  unfold m_spec_l16Row rowOkN
  have key := all_loop_g l.length (fun s : Int => m_spec_l16Row_B1 l s) (fun k => decide ((-300000 : Int) ≤ l.getD k 0 ∧ l.getD k 0 ≤ 300000)) (decide (1 ≤ l.length ∧ l.length ≤ 24)) false 0 (by omega) (fun j h => absurd h (by omega)) (fun k _ hk hp => ?_) (fun _ => ?_)
  · rw [all_range_get l 0 (fun x => decide ((-300000 : Int) ≤ x ∧ x ≤ 300000))] at key
    refine key.trans ?_
    cases (l.all fun x => decide ((-300000 : Int) ≤ x ∧ x ≤ 300000)) <;> cases decide (1 ≤ l.length ∧ l.length ≤ 24) <;> rfl
  · simp only [m_spec_l16Row_B1, m_spec_l02Level, lt_true hk, cond_true, idx_getD 0 hk, Option.bind_some, in_eq]
    rw [w64_id (n := (k : Int) + 1) (by omega) (by omega)]
    cases decide ((-300000 : Int) ≤ l.getD k 0 ∧ l.getD k 0 ≤ 300000) <;> rfl
  · simp only [m_spec_l16Row_B1, lt_self, cond_false]
    by_cases h : (0 : Int) < (l.length : Int)
    · rw [decide_eq_true h]
      simp only [cond_true, Option.bind_some, Option.map_some]
      congr 2; rw [Bool.eq_iff_iff]; simp only [decide_eq_true_eq]; omega
    · rw [decide_eq_false h, decide_eq_false (show ¬ (1 ≤ l.length ∧ l.length ≤ 24) by omega)]; rfl
theorem rowImpl_eq (l : List Int) (hl : l.length ≤ 1048576) : m_impl_rowOk l = some (rowOkN l) := by
  unfold m_impl_rowOk rowOkN
  rw [allWithin_eq _ _ _ (by omega)]
  by_cases h1 : (1 : Int) ≤ (l.length : Int)
  case neg => rw [decide_eq_false h1, decide_eq_false (show ¬ (1 ≤ l.length ∧ l.length ≤ 24) by omega)]; rfl
  by_cases h2 : (l.length : Int) ≤ 24
  case neg => rw [decide_eq_true h1, decide_eq_false h2, decide_eq_false (show ¬ (1 ≤ l.length ∧ l.length ≤ 24) by omega)]; rfl
  rw [decide_eq_true h1, decide_eq_true h2, decide_eq_true (show (1 ≤ l.length ∧ l.length ≤ 24) by omega)]; rfl
theorem rowsSpec_eq (l : List (List Int)) (hl : FitsSS l) : m_spec_l16Rows l = some (rowsOk l) := by
  unfold m_spec_l16Rows rowsOk
  have hl1 := hl.1
  have key := all_loop_g l.length (fun s : Int => m_spec_l16Rows_B1 l s) (fun k => rowOkN (l.getD k []) && decide ((l.getD k []).length = (l.getD 0 []).length)) (decide (1 ≤ l.length ∧ l.length ≤ 32)) false 0 (by omega) (fun j h => absurd h (by omega)) (fun k _ hk hp => ?_) (fun _ => ?_)
  · rw [all_range_get l [] (fun r => rowOkN r && decide (r.length = (l.getD 0 []).length))] at key
    refine key.trans ?_
    cases (l.all fun r => rowOkN r && decide (r.length = (l.getD 0 []).length)) <;> cases decide (1 ≤ l.length ∧ l.length ≤ 32) <;> rfl
  · have h0 : 0 < l.length := by omega
    have hk2 : (l.getD k []).length ≤ 1048576 := by rw [getD_lt [] hk]; exact hl.2 _ (List.getElem_mem hk)
    have e0 : idx l (0 : Int) = some (l.getD 0 []) := idx_getD (k := 0) [] h0
    simp only [m_spec_l16Rows_B1, lt_true hk, cond_true, idx_getD [] hk, e0, Option.bind_some, rowSpec_eq _ hk2]
    rw [w64_id (n := (k : Int) + 1) (by omega) (by omega)]
    cases rowOkN (l.getD k []) with
    | false => rfl
    | true =>
      by_cases c : (l.getD k []).length = (l.getD 0 []).length
      · have e : (((l.getD k []).length : Int) != ((l.getD 0 []).length : Int)) = false := by rw [c]; exact bne_self _
        rw [e, decide_eq_true c]; rfl
      · have e : (((l.getD k []).length : Int) != ((l.getD 0 []).length : Int)) = true := by simp only [bne_iff_ne, ne_eq]; omega
        rw [e, decide_eq_false c]; rfl
  · simp only [m_spec_l16Rows_B1, lt_self, cond_false]
    by_cases h : (0 : Int) < (l.length : Int)
    · rw [decide_eq_true h]
      simp only [cond_true, Option.bind_some, Option.map_some]
      congr 2; rw [Bool.eq_iff_iff]; simp only [decide_eq_true_eq]; omega
    · rw [decide_eq_false h, decide_eq_false (show ¬ (1 ≤ l.length ∧ l.length ≤ 32) by omega)]; rfl
theorem rowsImpl_eq (l : List (List Int)) (hl : FitsSS l) : m_impl_ValidRows l = some (rowsOk l) := by
  unfold m_impl_ValidRows rowsOk
  have hl1 := hl.1
  by_cases h1 : (l.length : Int) < 1
  · rw [decide_eq_true h1, decide_eq_false (show ¬ (1 ≤ l.length ∧ l.length ≤ 32) by omega)]; rfl
  by_cases h2 : (32 : Int) < (l.length : Int)
  · rw [decide_eq_false h1, decide_eq_true h2, decide_eq_false (show ¬ (1 ≤ l.length ∧ l.length ≤ 32) by omega)]; rfl
  rw [decide_eq_false h1, decide_eq_false h2, decide_eq_true (show (1 ≤ l.length ∧ l.length ≤ 32) by omega)]
  have e0 : idx l (0 : Int) = some (l.getD 0 []) := idx_getD (k := 0) [] (by omega)
  rw [containsFuncS_eq l _ (fun r => !(rowOkN r && decide (r.length = (l.getD 0 []).length))) (fun r hr => ?_) (by omega)]
  · simp only [cond_false, Option.bind_some, Bool.true_and]
    rw [List.not_any_eq_all_not]
    simp
  · unfold m_impl_ValidRows_1
    rw [rowImpl_eq r (hl.2 r hr), e0]
    cases rowOkN r with
    | false => rfl
    | true =>
      by_cases c : r.length = (l.getD 0 []).length
      · have e : ((r.length : Int) != ((l.getD 0 []).length : Int)) = false := by rw [c]; exact bne_self _
        simp only [Bool.not_true, cond_false, Option.bind_some, e, decide_eq_true c]; rfl
      · have e : ((r.length : Int) != ((l.getD 0 []).length : Int)) = true := by simp only [bne_iff_ne, ne_eq]; omega
        simp only [Bool.not_true, cond_false, Option.bind_some, e, decide_eq_false c]; rfl
end Go.Wk
