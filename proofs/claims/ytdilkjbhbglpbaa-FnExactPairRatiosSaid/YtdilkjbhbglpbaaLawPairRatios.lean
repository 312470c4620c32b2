/-
  Plain law: PairRatios. No program in sight. Our own work.
-/
import Derived.Test.YtdilkjbhbglpbaaLawRatios
import Derived.Test.YtdilkjbhbglpbaaLawHeldSS
namespace Go.Wk
open Go Go.RowKit

theorem pairs_same (l : List (List Int)) (hl : FitsSS l) : ∃ r c, m_spec_PairRatios l = some (r, c) ∧ m_impl_PairRatios l = some (r, c) ∧ FitsSS r := by
  have hnil : FitsSS ([] : List (List Int)) := ⟨by simp, by simp⟩
  unfold m_spec_PairRatios m_impl_PairRatios
  rw [rowsSpec_eq l hl, rowsImpl_eq l hl]
  cases ho : rowsOk l with
  | false => exact ⟨_, _, rfl, rfl, hnil⟩
  | true =>
    simp only [Option.bind_some, Bool.not_true, cond_false, ratSpec_eq l (rowsOk_true ho), ratImpl_eq l (rowsOk_true ho)]
    exact ⟨_, _, rfl, rfl, ratM_fits l (rowsOk_true ho)⟩

theorem law_FnExactPairRatios (l : List (List Int)) (k : l.length ≤ maxLen ∧ ∀ x ∈ l, (x.length ≤ maxLen ∧ ∀ xy ∈ x, ((Lit.int .i64 xy).wf = true))) : m_laws_FnExactPairRatios l = some true := by
  unfold m_laws_FnExactPairRatios
  obtain ⟨r, hr, hc⟩ := szInt64SS_eq l 1048576 (by omega) (by omega) k.1 (fun x hx => (k.2 x hx).1)
  rw [hr, Option.bind_some]
  rcases hc with hc | ⟨hc, hc2, hR⟩
  · rw [decide_eq_true hc]; rfl
  rw [decide_eq_false (by omega), cond_false]
  obtain ⟨s, c, e1, e2, e3⟩ := pairs_same l hR
  have h2 := fits_tot' hR
  simp only [toInt64SS_eq _ hR, eqSS_self l hR, e1, e2, eqSS_self s e3, Option.bind_some, bne_self, cond_false, Bool.not_true, markSS_1 l hR, lt_false (show ¬ (1 + (tot l : Int) < 0) by omega), markSS_1 s e3, heldSS_1 s e3, pos_tot s]
end Go.Wk
