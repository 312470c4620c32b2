/-
  Plain laws: the conflicts of an item. No program in sight. Our own work.
-/
import Derived.Test.YtfadnbelnfofbaaLawState
namespace Go.Wk
open Go Go.RowKit

def closeN (p : GProblem) (l : List Int) (i : Nat) (c : Int) (j : Nat) : Bool := decide (j ≠ i) && decide (c - l.getD j 0 < apartAt p i j ∧ l.getD j 0 - c < apartAt p i j)
def confN (p : GProblem) (l : List Int) (i : Nat) (c : Int) : Int := (List.range l.length).foldl (fun v j => if closeN p l i c j then w64 (v + 1) else v) 0
theorem nearS_eq (a b c : Int) (ha : -1 ≤ a ∧ a ≤ 999) (hb : -1 ≤ b ∧ b ≤ 999) : m_spec_l19Near a b c = some (decide (a - b < c ∧ b - a < c)) := by
  unfold m_spec_l19Near
  rw [w64_id (n := a - b) (by omega) (by omega), w64_id (n := b - a) (by omega) (by omega)]
  by_cases h : a - b < c
  · rw [decide_eq_true h]
    simp only [cond_true, Option.bind_some]; congr 1; rw [Bool.eq_iff_iff]; simp only [decide_eq_true_eq]; omega
  · rw [decide_eq_false h]
    simp only [cond_false, Option.bind_some]; congr 1; symm; simp only [decide_eq_false_iff_not]; omega
theorem confSpec_eq (p : GProblem) (h : ProbOk p) (l : List Int) (hc : l.length = p.Domains.length) (hr : ∀ k, k < l.length → -1 ≤ l.getD k 0 ∧ l.getD k 0 ≤ 999) (i : Nat) (hi : i < l.length) (c : Int) (hcc : -1 ≤ c ∧ c ≤ 999) : m_spec_l19Conflicts p l (i : Int) c = some (confN p l i c) := by
  have hn := h.n2
  have hl := h.len
  unfold m_spec_l19Conflicts
  have key := fold_loop (List.range l.length) (fun v j => if closeN p l i c j then w64 (v + 1) else v) (fun v : Int => v) (fun s : (Int × Int) => m_spec_l19Conflicts_B2 p l (i : Int) c s.1 s.2) (fun j hj v => ?_) (fun v => ?_) 0
  · exact (congrArg (fun o => Option.bind o fun x => some x) key).trans rfl
  · rw [List.length_range] at hj
    rw [List.getElem_range]
    have hia : i < p.Apart.length := by omega
    have hrr := h.row i (by omega)
    have hj2 : j < (p.Apart.getD i []).length := by omega
    simp only [m_spec_l19Conflicts_B2, lt_true hj, cond_true]
    rw [w64_id (n := (j : Int) + 1) (by omega) (by omega)]
    unfold closeN
    by_cases hji : j = i
    · have e : ((j : Int) != (i : Int)) = false := by rw [hji]; exact bne_self _
      rw [e, decide_eq_false (show ¬ j ≠ i from fun h => h hji)]; rfl
    · have e : ((j : Int) != (i : Int)) = true := by simp only [bne_iff_ne, ne_eq]; omega
      rw [e, decide_eq_true hji]
      simp only [cond_true, idx_getD 0 hj, idx_getD [] hia, idx_getD 0 hj2, Option.bind_some, nearS_eq c _ _ hcc (hr j hj), Bool.true_and]
      have en : decide (c - l.getD j 0 < (p.Apart.getD i []).getD j 0 ∧ l.getD j 0 - c < (p.Apart.getD i []).getD j 0) = decide (c - l.getD j 0 < apartAt p i j ∧ l.getD j 0 - c < apartAt p i j) := rfl
      rw [en]
      cases decide (c - l.getD j 0 < apartAt p i j ∧ l.getD j 0 - c < apartAt p i j) <;> rfl
  · rw [List.length_range]
    simp only [m_spec_l19Conflicts_B2, lt_self, cond_false, Option.map_some]
end Go.Wk
