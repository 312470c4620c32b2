/-
  Plain laws: the marks of a slice of slices, found again. No program in sight. Our own work.
-/
import Derived.Test.YtipkpdobbeggnaaLawMarkSS
import Derived.Test.YtipkpdobbeggnaaLawSS
namespace Go.Wk
open Go Go.RowKit

theorem heldInt64SS_eq (l : List (List Int)) (k : Int) (h0 : 0 ≤ k) (hl : l.length ≤ 4611686018427387904) (h1 : k + tot l ≤ 4611686018427387904) : m_laws_heldInt64SS (markSS l k) k = some (k + tot l) := by
  unfold m_laws_heldInt64SS
  have := loop_for (body := fun s : (Int × Int) => m_laws_heldInt64SS_B1 (markSS l k) s.1 s.2) (r := k + (tot l : Int)) l.length (fun j => (k + (tot (l.take j) : Int), (j : Int))) (fun j hj => ?_) ?_
  · simpa [tot] using this
  · have h2 : decide ((j : Int) < ((markSS l k).length : Int)) = true := by rw [markSS_len]; simpa using hj
    have h4 := tot_take_succ hj
    have h5 := tot_take_le l (j + 1)
    have h3 : idx (markSS l k) (j : Int) = some (markL l[j].length (k + tot (l.take j))) := by rw [idx_nat, markSS_get hj]
    have h6 := heldInt64S_eq l[j].length (k + tot (l.take j)) (by omega) (by omega)
    simp only [m_laws_heldInt64SS_B1, h2, cond_true, h3, Option.bind_some, h6, lt_false (show ¬ (k + (tot (l.take j) : Int) + (l[j].length : Int) < 0) by omega), cond_false]
    rw [w64_id (by omega) (by omega), h4]
    have e1 : k + (tot (l.take j) : Int) + (l[j].length : Int) = k + ((tot (l.take j) + l[j].length : Nat) : Int) := by omega
    have e2 : (j : Int) + 1 = ((j + 1 : Nat) : Int) := by omega
    rw [e1, e2]
  · have h2 : decide ((l.length : Int) < ((markSS l k).length : Int)) = false := by rw [markSS_len]; simp
    simp only [m_laws_heldInt64SS_B1, h2, cond_false, List.take_length, Option.map_some]
theorem fits_tot' {l : List (List Int)} (h : FitsSS l) : tot l ≤ 1099511627776 := by
  have ht := tot_le l 1048576 h.2
  have hl := h.1
  omega
theorem heldSS_1 (r : List (List Int)) (h : FitsSS r) : m_laws_heldInt64SS (markSS r 1) 1 = some (1 + (tot r : Int)) := heldInt64SS_eq r 1 (by omega) (by have := h.1; omega) (by have := fits_tot' h; omega)
theorem markSS_1 (r : List (List Int)) (h : FitsSS r) : m_laws_markInt64SS r 1 = some (1 + (tot r : Int), markSS r 1) := markInt64SS_eq r 1 (by omega) (by have := h.1; omega) (by have := fits_tot' h; omega)
theorem pos_tot (r : List (List Int)) : decide (1 + (tot r : Int) < 0) = false := by rw [decide_eq_false_iff_not]; omega
theorem eqSS_self (r : List (List Int)) (h : FitsSS r) : m_laws_eqInt64SS r r = some true := by rw [eqInt64SS_eq r r h, decide_eq_true rfl]
end Go.Wk
