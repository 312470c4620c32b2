/-
  Plain law: SameProblem. No program in sight. Our own work.
-/
import Derived.Test.YtmaahfokhfmmnaaLawProblem
import Derived.Test.YtmaahfokhfmmnaaLawSame
namespace Go.Wk
open Go Go.RowKit

theorem law_FnExactSameProblem (a b : GProblem) (ka : okGProblem a) (kb : okGProblem b) : m_laws_FnExactSameProblem a b = some true := by
  unfold m_laws_FnExactSameProblem
  obtain ⟨r, hr, hc⟩ := szProblem_eq a ka 1048576 (by omega) (by omega)
  rw [hr, Option.bind_some]
  rcases hc with hc | ⟨hc, hc2, ha⟩
  · rw [decide_eq_true hc]; rfl
  rw [decide_eq_false (by omega), cond_false]
  obtain ⟨r2, hr2, hd⟩ := szProblem_eq b kb r hc (by omega)
  rw [hr2, Option.bind_some]
  rcases hd with hd | ⟨hd, hd2, hb⟩
  · rw [decide_eq_true hd]; rfl
  rw [decide_eq_false (by omega), cond_false]
  have s1 : ∀ x y, FitsSS x → m_spec_l17Lists x y = some (decide (x = y)) := fun x y h => eqSS_gen m_spec_l00Same (fun a b h => sameN a b (by omega)) x y h
  have s2 : ∀ x y, FitsSS x → m_slices_EqualFunc_SSint64_SSint64_int64_int64 x y (fun x => m_slices_Equal_int64_int64 x.1 x.2) = some (decide (x = y)) := fun x y h => eqSS_gen m_slices_Equal_int64_int64 (fun a b h => equalN a b (by omega)) x y h
  have e : ∃ c, m_spec_SameProblem a b = some c ∧ m_impl_SameProblem a b = some c := by
    unfold m_impl_SameProblem m_spec_SameProblem
    rw [s1 _ _ ha.1, s1 _ _ ha.2, s2 _ _ ha.1, s2 _ _ ha.2]
    cases decide (a.Domains = b.Domains) <;> exact ⟨_, rfl, rfl⟩
  obtain ⟨c, h1, h2⟩ := e
  simp only [toProblem_eq _ ha, toProblem_eq _ hb, eqProblem_self _ ha, eqProblem_self _ hb, h1, h2, Option.bind_some, bne_self, cond_false, Bool.not_true]
end Go.Wk
