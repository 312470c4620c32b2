/-
  Plain law: SameRaster. No program in sight. Our own work.
-/
import Derived.Test.YtdilkjbhbglpbaaLawRaster
namespace Go.Wk
open Go Go.RowKit

theorem law_FnExactSameRaster (a b : GRaster) (ka : okGRaster a) (kb : okGRaster b) : m_laws_FnExactSameRaster a b = some true := by
  unfold m_laws_FnExactSameRaster
  obtain ⟨r, hr, hc⟩ := szRaster_eq a ka 1048576 (by omega) (by omega)
  rw [hr, Option.bind_some]
  rcases hc with hc | ⟨hc, hc2⟩
  · rw [decide_eq_true hc]; rfl
  rw [decide_eq_false (by omega), cond_false]
  obtain ⟨r2, hr2, hd⟩ := szRaster_eq b kb r hc (by omega)
  rw [hr2, Option.bind_some]
  rcases hd with hd | ⟨hd, hd2⟩
  · rw [decide_eq_true hd]; rfl
  rw [decide_eq_false (by omega), cond_false]
  have e : m_impl_SameRaster a b = m_spec_SameRaster a b := by
    unfold m_impl_SameRaster m_spec_SameRaster m_impl_sameSize
    rw [sameN _ _ (by omega), sameN _ _ (by omega), equalN _ _ (by omega), equalN _ _ (by omega)]
    cases a.Step == b.Step <;> cases a.Width == b.Width <;> cases a.Height == b.Height <;> cases decide (a.Server = b.Server) <;> rfl
  have e2 : ∃ c, m_spec_SameRaster a b = some c := by
    unfold m_spec_SameRaster
    rw [sameN _ _ (by omega), sameN _ _ (by omega)]
    cases a.Step == b.Step <;> cases a.Width == b.Width <;> cases a.Height == b.Height <;> cases decide (a.Server = b.Server) <;> exact ⟨_, rfl⟩
  obtain ⟨c, hc'⟩ := e2
  simp only [toRaster_eq a (by omega) (by omega), toRaster_eq b (by omega) (by omega), eqRaster_self a (by omega) (by omega), eqRaster_self b (by omega) (by omega), e, hc', Option.bind_some, bne_self, cond_false, Bool.not_true]
end Go.Wk
