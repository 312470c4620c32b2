/-
  Plain law: NeedMatrix. No program in sight. Our own work.
-/
import Derived.Test.YtipkpdobbeggnaaLawNeed
import Derived.Test.YtipkpdobbeggnaaLawTabOk
import Derived.Test.YtipkpdobbeggnaaLawHeldSS
import Derived.Test.YtipkpdobbeggnaaLawEnd
namespace Go.Wk
open Go Go.RowKit

theorem need_same (R : List (List Int)) (hR : FitsSS R) (t : Int) (T : List Int) (hT : T.length ≤ 1048576) : ∃ r c, m_spec_NeedMatrix R t T = some (r, c) ∧ m_impl_NeedMatrix R t T = some (r, c) ∧ FitsSS r := by
  have hnil : FitsSS ([] : List (List Int)) := ⟨by simp, by simp⟩
  unfold m_spec_NeedMatrix m_impl_NeedMatrix
  rw [matSpec_eq R hR, matImpl_eq R hR, tabSpec_eq T hT, tabImpl_eq T hT]
  unfold m_impl_ratioOk
  rw [in_eq, within_eq]
  cases hm : matOk R with
  | false => cases tabOk T <;> exact ⟨_, _, rfl, rfl, hnil⟩
  | true =>
    cases tabOk T with
    | false => exact ⟨_, _, rfl, rfl, hnil⟩
    | true =>
      cases decide ((-200000 : Int) ≤ t ∧ t ≤ 200000) with
      | false => exact ⟨_, _, rfl, rfl, hnil⟩
      | true =>
        have hs := matOk_sqr hm
        simp only [Option.bind_some, Bool.not_true, cond_false, needSpec_eq R hs t T hT, needImpl_eq R hs t T hT]
        exact ⟨_, _, rfl, rfl, needM_fits R t T hs.1⟩

theorem law_FnExactNeedMatrix (R : List (List Int)) (t : Int) (T : List Int) (kR : R.length ≤ maxLen ∧ ∀ x ∈ R, (x.length ≤ maxLen ∧ ∀ xy ∈ x, ((Lit.int .i64 xy).wf = true))) (_kt : (Lit.int .i64 t).wf = true) (_kT : T.length ≤ maxLen ∧ ∀ x ∈ T, ((Lit.int .i64 x).wf = true)) : m_laws_FnExactNeedMatrix R t T = some true := by
  unfold m_laws_FnExactNeedMatrix
  by_cases hT : T.length ≤ 1048576
  case neg => rw [decide_eq_true (show (1048576 : Int) < (T.length : Int) by omega)]; rfl
  rw [decide_eq_false (show ¬ (1048576 : Int) < (T.length : Int) by omega), cond_false]
  obtain ⟨r, hr, hc⟩ := szInt64SS_eq R 1048576 (by omega) (by omega) kR.1 (fun x hx => (kR.2 x hx).1)
  rw [hr, Option.bind_some]
  rcases hc with hc | ⟨hc, hc2, hR⟩
  · rw [decide_eq_true hc]; rfl
  rw [decide_eq_false (by omega), cond_false]
  obtain ⟨s, c, e1, e2, e3⟩ := need_same R hR t T hT
  have h2 := fits_tot' hR
  simp only [toInt64SS_eq _ hR, toInt64S_eq _ hT, eqSS_self R hR, eq_len T hT, e1, e2, eqSS_self s e3, Option.bind_some, bne_self, cond_false, Bool.not_true, markSS_1 R hR, markInt64S_eq T (1 + (tot R : Int)) (by omega) (by omega), lt_false (show ¬ (1 + (tot R : Int) + (T.length : Int) < 0) by omega), markSS_1 s e3, heldSS_1 s e3, pos_tot s]
end Go.Wk
