/-
  Plain laws: how the laws end whose result is a problem. No program in sight. Our own work.
-/
import Derived.Test.YtipkpdobbeggnaaLawMarkP
import Derived.Test.YtipkpdobbeggnaaLawHeldSS
namespace Go.Wk
open Go Go.RowKit
theorem markP_1 (p : GProblem) (h : FitsP p) : m_laws_markProblem p 1 = some (1 + (tot p.Domains : Int) + (tot p.Apart : Int), markSS p.Domains 1, markSS p.Apart (1 + (tot p.Domains : Int))) := markProblem_eq p h 1 (by omega) (by omega)
theorem heldP_1 (p : GProblem) (h : FitsP p) : m_laws_heldProblem (GProblem.mk (markSS p.Domains 1) (markSS p.Apart (1 + (tot p.Domains : Int)))) 1 = some (1 + (tot p.Domains : Int) + (tot p.Apart : Int)) := by
  unfold m_laws_heldProblem
  have h2 := fits_tot h.1
  have h3 := fits_tot h.2
  have h5 := h.2.1
  simp only [heldSS_1 _ h.1, Option.bind_some, pos_tot, cond_false, heldInt64SS_eq p.Apart (1 + (tot p.Domains : Int)) (by omega) (by omega) (by omega), lt_false (show ¬ (1 + (tot p.Domains : Int) + (tot p.Apart : Int) < 0) by omega)]
theorem pos_P (p : GProblem) : decide (1 + (tot p.Domains : Int) + (tot p.Apart : Int) < 0) = false := by rw [decide_eq_false_iff_not]; omega
/-- A list grows by its next element. -/
theorem take_app {α : Type} {bytes : Nat} {r : List α} {k : Nat} (hk : k < r.length) (h : r.length * (bytes + 1) ≤ 140737488355328) : appL bytes (r.take k) [r[k]] = some (r.take (k + 1)) := by
  rw [appL_of, List.take_append_getElem hk]
  have h1 : (r.take k).length = k := by rw [List.length_take]; omega
  rw [h1, List.length_singleton]
  exact Nat.le_trans (Nat.mul_le_mul_right _ hk) h
end Go.Wk
