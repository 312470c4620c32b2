/-
  Plain law: RepairItem. No program in sight. Our own work.
-/
import Derived.Test.YtmaahfokhfmmnaaLawFree
import Derived.Test.YtmaahfokhfmmnaaLawMarkP
import Derived.Test.YtmaahfokhfmmnaaLawEnd
namespace Go.Wk
open Go Go.RowKit

theorem repair_same (a : GProblem) (ha : FitsP a) (l : List Int) (hl : l.length ≤ 1048576) (i : Int) : ∃ r c, m_spec_RepairItem a l i = some (r, c) ∧ m_impl_RepairItem a l i = some (r, c) ∧ r.length ≤ 1048576 := by
  unfold m_spec_RepairItem m_impl_RepairItem m_impl_FreeChannels
  rw [askSpec_eq' _ ha _ hl, stateCode_eq _ ha _ hl _ (by simp), Option.bind_some, Option.bind_some]
  by_cases h0 : askN a l [i] = 0
  case neg =>
    have e : (askN a l [i] != 0) = true := by simp only [bne_iff_ne, ne_eq]; exact h0
    simp only [e, cond_true, Option.bind_some]
    exact ⟨[], _, rfl, rfl, by simp⟩
  have e : (askN a l [i] != 0) = false := by rw [h0]; rfl
  rw [e, cond_false, cond_false]
  obtain ⟨hp, hs, hi⟩ := askN_zero h0
  have hp' := probOk_true hp
  have hi' := hi i (List.mem_singleton.2 rfl)
  obtain ⟨n, rfl⟩ := Int.eq_ofNat_of_zero_le hi'.1
  have hs' := stateN_true hs
  have hn := hp'.n2
  have hnl : n < a.Domains.length := by omega
  simp only [l19Free_eq a hp' l hs n hnl, choImpl_eq a hp' l (state_part hs) n hnl, Option.bind_some]
  have e0 : ((0 : Int) != 0) = false := rfl
  rw [e0, cond_false]
  cases hc : choN a l n with
  | nil => exact ⟨[], 3, rfl, rfl, by simp⟩
  | cons x xs =>
    have h1 : (((x :: xs).length : Int) == 0) = false := by simp only [List.length_cons, beq_eq_false_iff_ne, ne_eq]; omega
    have h2 : idx (x :: xs) (0 : Int) = some x := rfl
    have h3 : inB l (n : Int) = some () := inB_nat (by omega)
    simp only [h1, cond_false, m_spec_l00Own, m_slices_Clone_int64_int64, own_eq l hl, Option.bind_some, h2, h3]
    exact ⟨_, 0, rfl, rfl, by simp; omega⟩

theorem law_FnExactRepairItem (a : GProblem) (l : List Int) (i : Int) (k : okGProblem a) (_kl : l.length ≤ maxLen ∧ ∀ x ∈ l, ((Lit.int .i64 x).wf = true)) (_ki : (Lit.int .i64 i).wf = true) : m_laws_FnExactRepairItem a l i = some true := by
  unfold m_laws_FnExactRepairItem
  by_cases h1 : (1048576 : Int) < (l.length : Int)
  · rw [decide_eq_true h1]; rfl
  rw [decide_eq_false h1, cond_false]
  obtain ⟨r, hr, hc⟩ := szProblem_eq a k 1048576 (by omega) (by omega)
  rw [hr, Option.bind_some]
  rcases hc with hc | ⟨hc, hc2, ha⟩
  · rw [decide_eq_true hc]; rfl
  rw [decide_eq_false (by omega), cond_false]
  obtain ⟨s, c, e1, e2, e3⟩ := repair_same a ha l (by omega) i
  have h2 := fits_tot ha.1
  have h3 := fits_tot ha.2
  simp only [toProblem_eq _ ha, eqProblem_self _ ha, toInt64S_eq l (by omega), eq_len l (by omega), e1, e2, eq_len s (by omega), Option.bind_some, bne_self, cond_false, Bool.not_true, markProblem_eq a ha 1 (by omega) (by omega), markInt64S_eq l (1 + (tot a.Domains : Int) + (tot a.Apart : Int)) (by omega) (by omega), lt_false (show ¬ (1 + (tot a.Domains : Int) + (tot a.Apart : Int) + (l.length : Int) < 0) by omega), mark_len s (by omega), held_len s (by omega), pos_len s]
end Go.Wk
