/-
  Plain law: ChainOf. No program in sight. Our own work.
-/
import Derived.Test.YtfadnbelnfofbaaLawChain
import Derived.Test.YtfadnbelnfofbaaLawMarkP
import Derived.Test.YtfadnbelnfofbaaLawEnd
namespace Go.Wk
open Go Go.RowKit

theorem chainOf_same (p : GProblem) (hf : FitsP p) (l : List Int) (hl : l.length ≤ 1048576) (i c : Int) : ∃ r k, m_spec_ChainOf p l i c = some (r, k) ∧ m_impl_ChainOf p l i c = some (r, k) ∧ r.length ≤ 1048576 := by
  unfold m_spec_ChainOf m_impl_ChainOf
  rw [askChain_eq p hf l hl, codeChain_eq p hf l hl, Option.bind_some, Option.bind_some]
  by_cases h : chainN p l i c = 0
  · have e : (chainN p l i c != 0) = false := bneF h
    obtain ⟨h1, h2, ⟨n, rfl, hn, _⟩, _⟩ := chainN_zero h
    obtain ⟨s, s1, s2, s3, s4⟩ := chain_both (probOk_true h1) (stateN_true h2).1 hn c
    have := nodup_len s3 s4
    rw [e, cond_false, cond_false, s1, s2]
    exact ⟨s, 0, rfl, rfl, by omega⟩
  · have e : (chainN p l i c != 0) = true := bneT h
    rw [e]
    exact ⟨[], _, rfl, rfl, by simp⟩
theorem law_FnExactChainOf (a : GProblem) (l : List Int) (i j : Int) (k : okGProblem a) (_kl : l.length ≤ maxLen ∧ ∀ x ∈ l, ((Lit.int .i64 x).wf = true)) (_ki : (Lit.int .i64 i).wf = true) (_kj : (Lit.int .i64 j).wf = true) : m_laws_FnExactChainOf a l i j = some true := by
  unfold m_laws_FnExactChainOf
  by_cases h1 : (1048576 : Int) < (l.length : Int)
  · rw [decide_eq_true h1]; rfl
  rw [decide_eq_false h1, cond_false]
  obtain ⟨r, hr, hc⟩ := szProblem_eq a k 1048576 (by omega) (by omega)
  rw [hr, Option.bind_some]
  rcases hc with hc | ⟨hc, hc2, ha⟩
  · rw [decide_eq_true hc]; rfl
  rw [decide_eq_false (by omega), cond_false]
  obtain ⟨s, c, e1, e2, e3⟩ := chainOf_same a ha l (by omega) i j
  have h2 := fits_tot ha.1
  have h3 := fits_tot ha.2
  simp only [toProblem_eq _ ha, eqProblem_self _ ha, toInt64S_eq l (by omega), eq_len l (by omega), e1, e2, eq_len s (by omega), Option.bind_some, bne_self, cond_false, Bool.not_true, markProblem_eq a ha 1 (by omega) (by omega), markInt64S_eq l (1 + (tot a.Domains : Int) + (tot a.Apart : Int)) (by omega) (by omega), lt_false (show ¬ (1 + (tot a.Domains : Int) + (tot a.Apart : Int) + (l.length : Int) < 0) by omega), mark_len s (by omega), held_len s (by omega), pos_len s]
end Go.Wk
