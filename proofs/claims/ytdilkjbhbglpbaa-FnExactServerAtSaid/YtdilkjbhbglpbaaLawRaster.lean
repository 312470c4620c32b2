/-
  Plain laws: copying, comparing and checking rasters. No program in sight. Our own work.
-/
import Derived.Test.YtdilkjbhbglpbaaLawSz
import Derived.Test.YtdilkjbhbglpbaaLawWithin
namespace Go.Wk
open Go Go.RowKit

theorem szRaster_eq (a : GRaster) (k : okGRaster a) (left : Int) (h0 : 0 ≤ left) (h1 : left ≤ 1048576) : Left (m_laws_szRaster a left) left (a.Server.length + a.Level.length) := by
  unfold m_laws_szRaster
  obtain ⟨r, hr, hc⟩ := szInt64S_eq a.Server left h0 h1 k.2.2.2.1.1
  rw [hr, Option.bind_some]
  rcases hc with hc | ⟨hc, hc2⟩
  · exact ⟨-1, by rw [decide_eq_true hc]; rfl, .inl (by omega)⟩
  · rw [decide_eq_false (by omega), cond_false]
    obtain ⟨r2, hr2, hd⟩ := szInt64S_eq a.Level r hc (by omega) k.2.2.2.2.1
    rw [hr2, Option.bind_some]
    rcases hd with hd | ⟨hd, hd2⟩
    · exact ⟨-1, by rw [decide_eq_true hd]; rfl, .inl (by omega)⟩
    · exact ⟨r2, by rw [decide_eq_false (by omega)]; rfl, .inr ⟨hd, by omega⟩⟩
theorem toRaster_eq (a : GRaster) (h1 : a.Server.length ≤ 1048576) (h2 : a.Level.length ≤ 1048576) : m_laws_toRaster a = some a := by
  unfold m_laws_toRaster
  rw [toInt64S_eq _ h1, Option.bind_some, toInt64S_eq _ h2]
  rfl
theorem eqRaster_self (a : GRaster) (h1 : a.Server.length ≤ 1048576) (h2 : a.Level.length ≤ 1048576) : m_laws_eqRaster a a = some true := by
  unfold m_laws_eqRaster
  simp only [bne_self, cond_false, eqInt64S_eq _ _ (show a.Server.length ≤ 9223372036854775806 by omega), eqInt64S_eq _ _ (show a.Level.length ≤ 9223372036854775806 by omega), Option.bind_some, decide_true, Bool.not_true]

theorem sameN (a b : List Int) (h : a.length ≤ 9223372036854775806) : m_spec_l00Same a b = some (decide (a = b)) := by
  unfold m_spec_l00Same
  by_cases hl : a.length = b.length
  · have h1 : ((a.length : Int) != (b.length : Int)) = false := by simp [hl]
    rw [h1, cond_false]
    have := eq_gen (fun x y => some (decide (x = y))) a b h hl (fun _ _ _ _ => rfl)
    rw [← this]
    congr 1
  · have h1 : ((a.length : Int) != (b.length : Int)) = true := by simp; omega
    have h2 : decide (a = b) = false := by simp only [decide_eq_false_iff_not]; intro e; exact hl (by rw [e])
    rw [h1, cond_true, h2]
theorem equalN (a b : List Int) (h : a.length ≤ 9223372036854775806) : m_slices_Equal_int64_int64 a b = some (decide (a = b)) := by
  unfold m_slices_Equal_int64_int64
  by_cases hl : a.length = b.length
  · have h1 : ((a.length : Int) != (b.length : Int)) = false := by simp [hl]
    rw [h1, cond_false]
    have := eq_gen (fun x y => some (decide (x = y))) a b h hl (fun _ _ _ _ => rfl)
    rw [← this]
    congr 1
  · have h1 : ((a.length : Int) != (b.length : Int)) = true := by simp; omega
    have h2 : decide (a = b) = false := by simp only [decide_eq_false_iff_not]; intro e; exact hl (by rw [e])
    rw [h1, cond_true, h2]
end Go.Wk
