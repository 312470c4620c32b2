/-
  Plain law: ValidRaster. No program in sight. Our own work.
-/
import Derived.Test.YtdilkjbhbglpbaaLawRasterOk
namespace Go.Wk
open Go Go.RowKit

theorem law_FnExactValidRaster (a : GRaster) (ka : okGRaster a) : m_laws_FnExactValidRaster a = some true := by
  unfold m_laws_FnExactValidRaster
  obtain ⟨r, hr, hc⟩ := szRaster_eq a ka 1048576 (by omega) (by omega)
  rw [hr, Option.bind_some]
  rcases hc with hc | ⟨hc, hc2⟩
  · rw [decide_eq_true hc]; rfl
  rw [decide_eq_false (by omega), cond_false]
  simp only [toRaster_eq a (by omega) (by omega), eqRaster_self a (by omega) (by omega), m_spec_ValidRaster, rasterSpec_eq a (by omega), rasterImpl_eq a (by omega) (by omega), Option.bind_some, bne_self, cond_false, Bool.not_true]
end Go.Wk
