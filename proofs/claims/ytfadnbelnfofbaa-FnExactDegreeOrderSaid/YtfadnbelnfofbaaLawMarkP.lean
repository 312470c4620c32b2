/-
  Plain laws: marking a problem. No program in sight. Our own work.
-/
import Derived.Test.YtfadnbelnfofbaaLawEqP
import Derived.Test.YtfadnbelnfofbaaLawMarkSS
namespace Go.Wk
open Go Go.RowKit

theorem fits_tot {l : List (List Int)} (h : FitsSS l) : tot l ≤ 1099511627776 := by
  have ht := tot_le l 1048576 h.2
  have hl := h.1
  omega
theorem markProblem_eq (p : GProblem) (h : FitsP p) (k : Int) (h0 : 0 ≤ k) (h1 : k ≤ 1152921504606846976) : m_laws_markProblem p k = some (k + tot p.Domains + tot p.Apart, markSS p.Domains k, markSS p.Apart (k + tot p.Domains)) := by
  unfold m_laws_markProblem
  have h2 := fits_tot h.1
  have h3 := fits_tot h.2
  have h4 := h.1.1
  have h5 := h.2.1
  rw [markInt64SS_eq p.Domains k h0 (by omega) (by omega), Option.bind_some, markInt64SS_eq p.Apart _ (by omega) (by omega) (by omega), Option.bind_some]
theorem own_eq (l : List Int) (h : l.length ≤ 1048576) : appL 8 ([] : List Int) l = some l := by
  rw [appL_of (by simp; omega)]; rfl
end Go.Wk
