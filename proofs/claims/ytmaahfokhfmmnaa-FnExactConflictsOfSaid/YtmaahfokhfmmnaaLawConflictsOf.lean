/-
  Plain law: ConflictsOf. No program in sight. Our own work.
-/
import Derived.Test.YtmaahfokhfmmnaaLawState
namespace Go.Wk
open Go Go.RowKit

theorem law_FnExactConflictsOf (a : GProblem) (l : List Int) (i : Int) (k : okGProblem a) (_kl : l.length ≤ maxLen ∧ ∀ x ∈ l, ((Lit.int .i64 x).wf = true)) (_ki : (Lit.int .i64 i).wf = true) : m_laws_FnExactConflictsOf a l i = some true := by
  unfold m_laws_FnExactConflictsOf
  by_cases h1 : (1048576 : Int) < (l.length : Int)
  · rw [decide_eq_true h1]; rfl
  rw [decide_eq_false h1, cond_false]
  obtain ⟨r, hr, hc⟩ := szProblem_eq a k 1048576 (by omega) (by omega)
  rw [hr, Option.bind_some]
  rcases hc with hc | ⟨hc, hc2, ha⟩
  · rw [decide_eq_true hc]; rfl
  rw [decide_eq_false (by omega), cond_false]
  have e : ∃ c, m_spec_ConflictsOf a l i = some c ∧ m_impl_ConflictsOf a l i = some c := by
    unfold m_spec_ConflictsOf m_impl_ConflictsOf
    rw [askSpec_eq' _ ha _ (by omega), stateCode_eq _ ha _ (by omega) _ (by simp), Option.bind_some, Option.bind_some]
    by_cases h0 : askN a l [i] = 0
    case neg =>
      have e : (askN a l [i] != 0) = true := by simp only [bne_iff_ne, ne_eq]; exact h0
      rw [e]; exact ⟨_, rfl, rfl⟩
    have e : (askN a l [i] != 0) = false := by rw [h0]; rfl
    rw [e, cond_false, cond_false]
    obtain ⟨hp, hs, hi⟩ := askN_zero h0
    have hi' := hi i (List.mem_singleton.2 rfl)
    obtain ⟨n, rfl⟩ := Int.eq_ofNat_of_zero_le hi'.1
    have hs' := stateN_true hs
    have hnl : n < l.length := by omega
    have hv := hs'.2 n hnl
    have hr : ∀ k, k < l.length → -1 ≤ l.getD k 0 ∧ l.getD k 0 ≤ 999 := fun k hk => by have := hs'.2 k hk; omega
    rw [idx_getD 0 hnl, Option.bind_some, Option.bind_some, confSpec_eq a (probOk_true hp) l hs'.1 hr n hnl _ (by omega), confImpl_eq a (probOk_true hp) l hs'.1 hr n hnl _ (by omega)]
    exact ⟨_, rfl, rfl⟩
  obtain ⟨c, h1', h2⟩ := e
  simp only [toProblem_eq _ ha, eqProblem_self _ ha, toInt64S_eq l (by omega), eqInt64S_eq l l (by omega), h1', h2, Option.bind_some, bne_self, cond_false, Bool.not_true, decide_true]
end Go.Wk
