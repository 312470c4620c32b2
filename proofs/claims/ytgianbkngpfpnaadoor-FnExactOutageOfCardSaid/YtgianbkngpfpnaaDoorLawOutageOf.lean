/-
  Plain law: OutageOf. No program in sight. Our own work.
-/
import Derived.Test.YtgianbkngpfpnaaDoorLawFade
namespace Go.Wk
open Go Go.RowKit

theorem law_FnExactOutageOf (f d c m : Int) : m_laws_FnExactOutageOf f d c m = some true := by
  unfold m_laws_FnExactOutageOf m_spec_OutageOf m_impl_OutageOf m_spec_l13Margin m_impl_marginOk
  rw [specAsk3, implAsk3, Option.bind_some]
  simp only [in_eq, within_eq, Option.bind_some]
  cases hh : hopOk f d c
  · simp only [cond_false, Bool.not_false, cond_true, Option.bind_some, bne_self]
  · simp only [cond_true, Bool.not_true, cond_false]
    by_cases hm : 0 ≤ m ∧ m ≤ 100000
    · obtain ⟨f', d', c', rfl, rfl, rfl, hf, hd, hc, _⟩ := hopOk_nat hh
      obtain ⟨m', rfl⟩ := Int.eq_ofNat_of_zero_le hm.1
      simp only [decide_eq_true hm, Bool.not_true, cond_false, Option.bind_some, specFade hf hd hc (show m' ≤ 100000 by omega), implFade hf hd hc (show m' ≤ 100000 by omega), bne_self]
    · simp only [decide_eq_false hm, Bool.not_false, cond_true, Option.bind_some, bne_self, cond_false]
end Go.Wk
