/-
  Plain laws: the degree of an item. No program in sight. Our own work.
-/
import Derived.Test.YtfadnbelnfofbaaLawProbOk
import Derived.Test.YtfadnbelnfofbaaPlainC
namespace Go.Wk
open Go Go.RowKit

def degN (l : List Int) : Int := l.foldl (fun v x => w64 (v + x)) 0
theorem degSpec_eq (p : GProblem) (h : ProbOk p) (k : Nat) (hk : k < p.Domains.length) : m_spec_l17Degree p (k : Int) = some (degN (p.Apart.getD k [])) := by
  have hl := h.len
  have hn := h.n2
  have hr := h.row k hk
  unfold m_spec_l17Degree
  have hka : k < p.Apart.length := by omega
  rw [fold_loop (p.Apart.getD k []) (fun v x => w64 (v + x)) (fun v => v) _ (fun j hj v => ?_) (fun v => ?_) 0]
  · rfl
  · have hj2 : j < p.Apart.length := by omega
    simp only [m_spec_l17Degree_B2, lt_true hj2, cond_true, idx_getD [] hka, idx_lt_nat hj, Option.bind_some]
    rw [w64_id (n := (j : Int) + 1) (by omega) (by omega)]; rfl
  · have e : (p.Apart.getD k []).length = p.Apart.length := by omega
    simp only [m_spec_l17Degree_B2, e, lt_self, cond_false, Option.map_some]
theorem degImpl_eq (p : GProblem) (h : ProbOk p) (k : Nat) (hk : k < p.Domains.length) : m_impl_Problem_degree p (k : Int) = some (degN (p.Apart.getD k [])) := by
  have hl := h.len
  have hn := h.n2
  have hr := h.row k hk
  unfold m_impl_Problem_degree
  have hka : k < p.Apart.length := by omega
  rw [idx_getD [] hka, Option.bind_some]
  rw [fold_loop (p.Apart.getD k []) (fun v x => w64 (v + x)) (fun v => v) _ (fun j hj v => ?_) (fun v => ?_) 0]
  · rfl
  · simp only [m_impl_Problem_degree_B3, lt_true hj, cond_true, idx_lt_nat hj, Option.bind_some]
    rw [w64_id (n := (j : Int) + 1) (by omega) (by omega)]; rfl
  · simp only [m_impl_Problem_degree_B3, lt_self, cond_false, Option.map_some]
end Go.Wk
