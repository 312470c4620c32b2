/-
  Plain law: ChannelCount. No program in sight. Our own work.
-/
import Derived.Test.YtbogkiihgejbnaaLawBandOk
namespace Go.Wk
open Go Go.RowKit

theorem law_FnExactChannelCount (a : GBand) (k : okGBand a) : m_laws_FnExactChannelCount a = some true := by
  unfold m_laws_FnExactChannelCount
  obtain ⟨r, hr, hr1, hr2⟩ := szBand_eq a 1048576 (by omega) (by omega) k.1
  rw [hr, Option.bind_some]
  rcases hr2 with h | ⟨h, _⟩
  · rw [decide_eq_true h]; rfl
  · have hn : ¬ r < 0 := by omega
    rw [decide_eq_false hn, cond_false]
    unfold m_spec_ChannelCount m_impl_ChannelCount
    simp only [toBand_eq, Option.bind_some, okSpec_eq, okImpl_eq]
    cases hb : bandOk a with
    | false => rfl
    | true =>
      simp only [Bool.not_true, cond_false, countSpec_eq a (bandOk_nums hb), countImpl_eq a (bandOk_nums hb), Option.bind_some, bne_self]
end Go.Wk
