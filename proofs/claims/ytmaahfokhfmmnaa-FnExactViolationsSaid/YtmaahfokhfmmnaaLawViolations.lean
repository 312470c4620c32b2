/-
  Plain law: Violations. No program in sight. Our own work.
-/
import Derived.Test.YtmaahfokhfmmnaaLawAssign
import Derived.Test.YtmaahfokhfmmnaaLawMarkP
import Derived.Test.YtmaahfokhfmmnaaLawHeldSS
import Derived.Test.YtmaahfokhfmmnaaLawEnd
namespace Go.Wk
open Go Go.RowKit

theorem viol_fits (p : GProblem) (h : ProbOk p) (l : List Int) (hl : l.length = p.Domains.length) : FitsSS (violN p l) := by
  have hn := h.n2
  unfold violN
  constructor
  · rw [List.length_flatMap]
    have key : ∀ (m : List Nat), (List.map (fun i => (((List.range' (i + 1) (l.length - (i + 1))).filter (nearN p l i)).map fun j : Nat => [(i : Int), (j : Int)]).length) m).sum ≤ m.length * 24 := by
      intro m
      induction m with
      | nil => simp
      | cons x m ih =>
        have := viol_row p l x
        simp only [List.map_cons, List.sum_cons, List.length_cons, Nat.add_mul]
        omega
    have := key (List.range' 0 l.length)
    rw [List.length_range'] at this
    omega
  · intro x hx
    obtain ⟨i, _, hx⟩ := List.mem_flatMap.1 hx
    obtain ⟨j, _, rfl⟩ := List.mem_map.1 hx
    simp

theorem law_FnExactViolations (a : GProblem) (l : List Int) (k : okGProblem a) (_kl : l.length ≤ maxLen ∧ ∀ x ∈ l, ((Lit.int .i64 x).wf = true)) : m_laws_FnExactViolations a l = some true := by
  unfold m_laws_FnExactViolations
  by_cases h1 : (1048576 : Int) < (l.length : Int)
  · rw [decide_eq_true h1]; rfl
  rw [decide_eq_false h1, cond_false]
  obtain ⟨r, hr, hc⟩ := szProblem_eq a k 1048576 (by omega) (by omega)
  rw [hr, Option.bind_some]
  rcases hc with hc | ⟨hc, hc2, ha⟩
  · rw [decide_eq_true hc]; rfl
  rw [decide_eq_false (by omega), cond_false]
  have e : ∃ r c, m_spec_Violations a l = some (r, c) ∧ m_impl_Violations a l = some (r, c) ∧ FitsSS r := by
    unfold m_spec_Violations m_impl_Violations
    rw [probSpec_eq _ ha, probImpl_eq _ ha]
    have hnil : FitsSS ([] : List (List Int)) := ⟨by simp, by simp⟩
    cases ho : probOk a with
    | false => exact ⟨[], 1, rfl, rfl, hnil⟩
    | true =>
      have hp := probOk_true ho
      simp only [Option.bind_some, Bool.not_true, cond_false, fitsSpec_eq a hp, fitsImpl_eq a hp]
      cases hf : fitsN a l with
      | false => exact ⟨[], 6, rfl, rfl, hnil⟩
      | true =>
        simp only [Bool.not_true, cond_false, brokenSpec_eq a hp l (fits_chans hp hf), violImpl_eq a hp l (fits_chans hp hf), Option.bind_some]
        exact ⟨_, 0, rfl, rfl, viol_fits a hp l (fits_chans hp hf).1⟩
  obtain ⟨s, c, e1, e2, e3⟩ := e
  have h2 := fits_tot ha.1
  have h3 := fits_tot ha.2
  simp only [toProblem_eq _ ha, eqProblem_self _ ha, toInt64S_eq l (by omega), eq_len l (by omega), e1, e2, eqSS_self s e3, Option.bind_some, bne_self, cond_false, Bool.not_true, markProblem_eq a ha 1 (by omega) (by omega), markInt64S_eq l (1 + (tot a.Domains : Int) + (tot a.Apart : Int)) (by omega) (by omega), lt_false (show ¬ (1 + (tot a.Domains : Int) + (tot a.Apart : Int) + (l.length : Int) < 0) by omega), markSS_1 s e3, heldSS_1 s e3, pos_tot s]
end Go.Wk
