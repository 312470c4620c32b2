/-
  Plain laws: copying and comparing problems. No program in sight. Our own work.
-/
import Derived.Test.YtfadnbelnfofbaaLawEqP
namespace Go.Wk
open Go Go.RowKit

theorem szProblem_eq (a : GProblem) (k : okGProblem a) (left : Int) (h0 : 0 ≤ left) (h1 : left ≤ 1048576) : LeftP (m_laws_szProblem a left) left (FitsP a) := by
  unfold m_laws_szProblem
  obtain ⟨r, hr, hc⟩ := szInt64SS_eq a.Domains left h0 h1 k.1.1 (fun x hx => (k.1.2 x hx).1)
  rw [hr, Option.bind_some]
  rcases hc with hc | ⟨hc, hc2, hf⟩
  · exact ⟨-1, by rw [decide_eq_true hc]; rfl, .inl (by omega)⟩
  · rw [decide_eq_false (by omega), cond_false]
    obtain ⟨r2, hr2, hd⟩ := szInt64SS_eq a.Apart r hc (by omega) k.2.1 (fun x hx => (k.2.2 x hx).1)
    rw [hr2, Option.bind_some]
    rcases hd with hd | ⟨hd, hd2, hf2⟩
    · exact ⟨-1, by rw [decide_eq_true hd]; rfl, .inl (by omega)⟩
    · exact ⟨r2, by rw [decide_eq_false (by omega)]; rfl, .inr ⟨hd, by omega, hf, hf2⟩⟩
theorem toProblem_eq (a : GProblem) (h : FitsP a) : m_laws_toProblem a = some a := by
  unfold m_laws_toProblem
  rw [toInt64SS_eq _ h.1, Option.bind_some, toInt64SS_eq _ h.2]
  rfl
end Go.Wk
