/-
  Plain law: SwapItems. No program in sight. Our own work.
-/
import Derived.Test.YtcofngddgljhdaaLawBad
import Derived.Test.YtcofngddgljhdaaLawMarkP
import Derived.Test.YtcofngddgljhdaaLawEnd
namespace Go.Wk
open Go Go.RowKit

theorem goodSpec_eq (p : GProblem) (h : ProbOk p) (l : List Int) (hs : StA p l) : m_spec_l19Good p l = some (fitsN p l && (((violN p l).length : Int) == 0)) := by
  have hn := h.n2
  have hlen := hs.len
  rw [← bad_none p h l hs]
  unfold m_spec_l19Good
  refine all_loop_n l.length _ (fun i => !decide (0 < badN p l i)) (fun i hi => ?_) ?_
  · simp only [m_spec_l19Good_B1, lt_true hi, cond_true, badSpec_eq p h l hs i hi, Option.bind_some]
    rw [w64_id (n := (i : Int) + 1) (by omega) (by omega)]
    cases decide (0 < badN p l i) <;> rfl
  · simp only [m_spec_l19Good_B1, lt_self, cond_false, Option.map_some]

theorem swap_same (a : GProblem) (ha : FitsP a) (l : List Int) (hl : l.length ≤ 1048576) (i j : Int) : ∃ r c, m_spec_SwapItems a l i j = some (r, c) ∧ m_impl_SwapItems a l i j = some (r, c) ∧ r.length ≤ 1048576 := by
  unfold m_spec_SwapItems m_impl_SwapItems
  rw [askSpec_eq' _ ha _ hl, stateCode_eq _ ha _ hl _ (by simp), in_eq, w64_id (n := (l.length : Int) - 1) (by omega) (by omega)]
  unfold askN
  cases ho : probOk a with
  | false => exact ⟨[], 1, rfl, rfl, by simp⟩
  | true =>
    cases hst : stateN a l with
    | false => exact ⟨[], 6, rfl, rfl, by simp⟩
    | true =>
      have hp := probOk_true ho
      have hn := hp.n2
      have hs0 := stateN_true hst
      have hs : StA a l := ⟨hs0.1, hs0.2⟩
      have z0 : ((0 : Int) != 0) = false := rfl
      have z2 : ((2 : Int) != 0) = true := rfl
      by_cases ci : 0 ≤ i ∧ i ≤ (l.length : Int) - 1
      case neg =>
        simp only [if_true, List.all_cons, List.all_nil, Bool.and_true, decide_eq_false ci, Bool.false_and, Bool.false_eq_true, if_false, Option.bind_some, z2, cond_true]
        exact ⟨[], 2, rfl, rfl, by simp⟩
      by_cases cj : 0 ≤ j ∧ j ≤ (l.length : Int) - 1
      case neg =>
        simp only [if_true, List.all_cons, List.all_nil, Bool.and_true, decide_eq_true ci, decide_eq_false cj, Bool.true_and, Bool.false_eq_true, if_false, Option.bind_some, z0, z2, cond_true, cond_false, Bool.not_false]
        exact ⟨[], 2, rfl, rfl, by simp⟩
      simp only [if_true, List.all_cons, List.all_nil, Bool.and_true, decide_eq_true ci, decide_eq_true cj, Option.bind_some, z0, cond_false, Bool.not_true]
      cases e : (i == j) with
      | true => exact ⟨[], 2, rfl, rfl, by simp⟩
      | false =>
        obtain ⟨n, rfl⟩ := Int.eq_ofNat_of_zero_le ci.1
        obtain ⟨m, rfl⟩ := Int.eq_ofNat_of_zero_le cj.1
        have hnl : n < l.length := by omega
        have hml : m < l.length := by omega
        have hs2 : StA a ((l.set n (l.getD m 0)).set m (l.getD n 0)) := (hs.set (hs.rng m hml)).set (hs.rng n hnl)
        have hm2 : inB (l.set n (l.getD m 0)) (m : Int) = some () := inB_nat (by simpa using hml)
        simp only [cond_false, m_spec_l00Own, m_slices_Clone_int64_int64, own_eq l hl, Option.bind_some, idx_getD 0 hnl, idx_getD 0 hml, inB_nat hnl, hm2, Int.toNat_natCast, goodSpec_eq a hp _ hs2, m_impl_ValidAssignment, probImpl_eq _ ha, ho, cond_true, fitsImpl_eq a hp]
        cases hf : fitsN a ((l.set n (l.getD m 0)).set m (l.getD n 0)) with
        | false => exact ⟨[], 3, rfl, rfl, by simp⟩
        | true =>
          simp only [cond_true, violImpl_eq a hp _ (fits_chans hp hf), Option.bind_some, Bool.true_and]
          cases (((violN a ((l.set n (l.getD m 0)).set m (l.getD n 0))).length : Int) == 0) with
          | false => exact ⟨[], 3, rfl, rfl, by simp⟩
          | true => exact ⟨_, 0, rfl, rfl, by simp; omega⟩

theorem law_FnExactSwapItems (a : GProblem) (l : List Int) (i j : Int) (k : okGProblem a) (_kl : l.length ≤ maxLen ∧ ∀ x ∈ l, ((Lit.int .i64 x).wf = true)) (_ki : (Lit.int .i64 i).wf = true) (_kj : (Lit.int .i64 j).wf = true) : m_laws_FnExactSwapItems a l i j = some true := by
  unfold m_laws_FnExactSwapItems
  by_cases h1 : (1048576 : Int) < (l.length : Int)
  · rw [decide_eq_true h1]; rfl
  rw [decide_eq_false h1, cond_false]
  obtain ⟨r, hr, hc⟩ := szProblem_eq a k 1048576 (by omega) (by omega)
  rw [hr, Option.bind_some]
  rcases hc with hc | ⟨hc, hc2, ha⟩
  · rw [decide_eq_true hc]; rfl
  rw [decide_eq_false (by omega), cond_false]
  obtain ⟨s, c, e1, e2, e3⟩ := swap_same a ha l (by omega) i j
  have h2 := fits_tot ha.1
  have h3 := fits_tot ha.2
  simp only [toProblem_eq _ ha, eqProblem_self _ ha, toInt64S_eq l (by omega), eq_len l (by omega), e1, e2, eq_len s (by omega), Option.bind_some, bne_self, cond_false, Bool.not_true, markProblem_eq a ha 1 (by omega) (by omega), markInt64S_eq l (1 + (tot a.Domains : Int) + (tot a.Apart : Int)) (by omega) (by omega), lt_false (show ¬ (1 + (tot a.Domains : Int) + (tot a.Apart : Int) + (l.length : Int) < 0) by omega), mark_len s (by omega), held_len s (by omega), pos_len s]
end Go.Wk
