/-
  Plain law: Discrimination. No program in sight. Our own work.
-/
import Derived.Test.YtbhegklilcpbmaaDoorLawDisc
namespace Go.Wk
open Go Go.RowKit

theorem discrimination_same (e f : GMask) (he : FitsMask e) (hf : FitsMask f) (s : Int) : ∃ v c, m_spec_Discrimination e f s = some (v, c) ∧ m_impl_Discrimination e f s = some (v, c) := by
  unfold m_spec_Discrimination m_impl_Discrimination m_spec_l08Shift m_impl_shiftOk
  rw [askSpec2 e f he hf, askImpl2 e f he hf]
  simp only [Option.bind_some, in_eq, within_eq]
  cases hm : (mOk e && mOk f)
  · exact ⟨0, 1, rfl, rfl⟩
  · simp only [Bool.and_eq_true] at hm
    simp only [Bool.not_true, cond_false]
    by_cases hs : -1000000 ≤ s ∧ s ≤ 1000000
    · obtain ⟨v, _, _, vs, vi⟩ := disc_both (mOk_true hm.1) (mOk_true hm.2) hs
      rw [decide_eq_true hs, vs, vi]
      exact ⟨v, 0, rfl, rfl⟩
    · rw [decide_eq_false hs]
      exact ⟨0, 2, rfl, rfl⟩
theorem law_FnExactDiscrimination (e f : GMask) (s : Int) (ke : okGMask e) (kf : okGMask f) (_ks : (Lit.int .i64 s).wf = true) : m_laws_FnExactDiscrimination e f s = some true := by
  unfold m_laws_FnExactDiscrimination
  obtain ⟨r, hr, hc⟩ := szMask_eq e ke 1048576 (by omega) (by omega)
  rw [hr, Option.bind_some]
  rcases hc with hc | ⟨hc, hc2, he⟩
  · rw [decide_eq_true hc]; rfl
  rw [decide_eq_false (by omega), cond_false]
  obtain ⟨r2, hr2, hd⟩ := szMask_eq f kf r hc hc2
  rw [hr2, Option.bind_some]
  rcases hd with hd | ⟨hd, hd2, hf⟩
  · rw [decide_eq_true hd]; rfl
  rw [decide_eq_false (by omega), cond_false]
  obtain ⟨v, c, e1, e2⟩ := discrimination_same e f he hf s
  simp only [toMask_eq he, toMask_eq hf, eqMask_self he, eqMask_self hf, e1, e2, Option.bind_some, bne_self, cond_false, Bool.not_true]
end Go.Wk
