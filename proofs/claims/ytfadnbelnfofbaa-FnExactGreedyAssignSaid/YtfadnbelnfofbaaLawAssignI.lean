/-
  Plain laws: assignments and what they violate. No program in sight. Our own work.
-/
import Derived.Test.YtfadnbelnfofbaaLawProbOk
import Derived.Test.YtfadnbelnfofbaaLawHas
import Derived.Test.YtfadnbelnfofbaaPlainD
namespace Go.Wk
open Go Go.RowKit

def fitsN (p : GProblem) (l : List Int) : Bool := decide (l.length = p.Domains.length) && (List.range l.length).all fun k => hasN (p.Domains.getD k []) (l.getD k 0)
theorem dom_len {p : GProblem} (h : ProbOk p) {k : Nat} (hk : k < p.Domains.length) : (p.Domains.getD k []).length ≤ 32 := by
  have := h.dom k hk
  unfold domOk at this
  simp only [Bool.and_eq_true, decide_eq_true_eq] at this
  exact this.1.2
theorem dom_rng {p : GProblem} (h : ProbOk p) {k : Nat} (hk : k < p.Domains.length) {x : Int} (hx : x ∈ p.Domains.getD k []) : 0 ≤ x ∧ x ≤ 999 := by
  have := h.dom k hk
  unfold domOk at this
  simp only [Bool.and_eq_true, List.all_eq_true, decide_eq_true_eq] at this
  exact this.2.2 x hx
theorem has_mem {l : List Int} {x : Int} (h : hasN l x = true) : x ∈ l := by
  unfold hasN at h
  rw [List.any_eq_true] at h
  obtain ⟨y, hy, e⟩ := h
  rw [decide_eq_true_eq] at e
  rw [← e]; exact hy
theorem fitsImpl_eq (p : GProblem) (h : ProbOk p) (l : List Int) : m_impl_Problem_isAssignment p l = some (fitsN p l) := by
  have hn := h.n2
  unfold m_impl_Problem_isAssignment fitsN
  by_cases c : l.length = p.Domains.length
  case neg =>
    have e : ((l.length : Int) != (p.Domains.length : Int)) = true := by simp only [bne_iff_ne, ne_eq]; omega
    rw [e, decide_eq_false c]; rfl
  have e : ((l.length : Int) != (p.Domains.length : Int)) = false := by rw [c]; exact bne_self _
  rw [e, decide_eq_true c, cond_false, Bool.true_and]
  have key := all_loop_g l.length (fun s : Int => m_impl_Problem_isAssignment_B1 p l s) (fun k => hasN (p.Domains.getD k []) (l.getD k 0)) true false 0 (by omega) (fun j h => absurd h (by omega)) (fun k _ hk hp => ?_) (fun _ => ?_)
  · rw [if_bool] at key; exact key
  · have hk2 : k < p.Domains.length := by omega
    have hd := dom_len h hk2
    simp only [m_impl_Problem_isAssignment_B1, lt_true hk, cond_true, idx_getD 0 hk, idx_getD [] hk2, Option.bind_some, containsN_eq _ _ (show (p.Domains.getD k []).length ≤ 1048576 by omega)]
    rw [w64_id (n := (k : Int) + 1) (by omega) (by omega)]
    cases hasN (p.Domains.getD k []) (l.getD k 0) <;> rfl
  · simp only [m_impl_Problem_isAssignment_B1, lt_self, cond_false, Option.map_some]
/-- Each item has a channel between 0 and 999. -/
def Chans (p : GProblem) (l : List Int) : Prop := l.length = p.Domains.length ∧ ∀ k, k < l.length → -1 ≤ l.getD k 0 ∧ l.getD k 0 ≤ 999
theorem fits_chans {p : GProblem} (h : ProbOk p) {l : List Int} (hf : fitsN p l = true) : Chans p l := by
  unfold fitsN at hf
  simp only [Bool.and_eq_true, decide_eq_true_eq] at hf
  refine ⟨hf.1, fun k hk => ?_⟩
  have := range_all_true hf.2 k hk
  have := dom_rng h (show k < p.Domains.length by omega) (has_mem this)
  omega
def nearN (p : GProblem) (l : List Int) (i j : Nat) : Bool := decide (l.getD i 0 - l.getD j 0 < apartAt p i j ∧ l.getD j 0 - l.getD i 0 < apartAt p i j)
def violN (p : GProblem) (l : List Int) : List (List Int) := (List.range' 0 l.length).flatMap fun i => ((List.range' (i + 1) (l.length - (i + 1))).filter (nearN p l i)).map fun j : Nat => [(i : Int), (j : Int)]
theorem viol_row (p : GProblem) (l : List Int) (i : Nat) : (((List.range' (i + 1) (l.length - (i + 1))).filter (nearN p l i)).map fun j : Nat => [(i : Int), (j : Int)]).length ≤ l.length := by
  rw [List.length_map]
  exact Nat.le_trans (List.length_filter_le _ _) (by rw [List.length_range']; omega)
theorem near_impl (a b c : Int) (ha : -1 ≤ a ∧ a ≤ 999) (hb : -1 ≤ b ∧ b ≤ 999) : (m_impl_abs (w64 (a - b))).map (fun x => decide (x < c)) = some (decide (a - b < c ∧ b - a < c)) := by
  unfold m_impl_abs
  rw [w64_id (n := a - b) (by omega) (by omega), w64_id (n := 0 - (a - b)) (by omega) (by omega), Option.map_some]
  congr 1
  rw [Bool.eq_iff_iff]; simp only [decide_eq_true_eq]
  split <;> omega
theorem violImpl_eq (p : GProblem) (h : ProbOk p) (l : List Int) (hc : Chans p l) : m_impl_Problem_violations p l = some (violN p l) := by
  have hn := h.n2
  have hl := h.len
  have hc1 := hc.1
  unfold m_impl_Problem_violations
  have key := flat_loop l.length 0 0 l.length (fun i => ((List.range' (i + 1) (l.length - (i + 1))).filter (nearN p l i)).map fun j : Nat => [(i : Int), (j : Int)]) (fun s : (Int × (List (List Int))) => m_impl_Problem_violations_B3 p l s.1 s.2) [] (by omega) (by simp) (fun k _ => viol_row p l k) (fun i _ hi acc hacc => ?_) (fun acc => ?_)
  · rw [List.nil_append, Nat.sub_zero] at key
    exact (congrArg (fun o => Option.bind o fun x => some x) key).trans rfl
  · simp only [m_impl_Problem_violations_B3, lt_true hi, cond_true]
    rw [w64_id (n := (i : Int) + 1) (by omega) (by omega)]
    have hacc2 : acc.length ≤ 24 * 24 := Nat.le_trans hacc (by rw [Nat.zero_add]; exact Nat.mul_le_mul (by omega) (by omega))
    have inner := app_loop l.length (i + 1) acc.length (nearN p l i) (fun j : Nat => [(i : Int), (j : Int)]) (fun s : (Int × (List (List Int))) => m_impl_Problem_violations_B8 p l (i : Int) s.1 s.2) acc (by omega) (by omega) (fun j _ hj acc2 ha2 => ?_) (fun acc2 => ?_)
    · have e : (((i + 1 : Nat) : Int), acc) = ((i : Int) + 1, acc) := rfl
      rw [e] at inner
      rw [inner]; rfl
    · have hia : i < p.Apart.length := by omega
      have hr := h.row i (by omega)
      have hj2 : j < (p.Apart.getD i []).length := by omega
      simp only [m_impl_Problem_violations_B8, lt_true hj, cond_true, idx_getD 0 hi, idx_getD 0 hj, idx_getD [] hia, idx_getD 0 hj2, Option.bind_some]
      have ni := near_impl (l.getD i 0) (l.getD j 0) ((p.Apart.getD i []).getD j 0) (hc.2 i hi) (hc.2 j hj)
      obtain ⟨x, hx, hx2⟩ := Option.map_eq_some_iff.1 ni
      rw [hx, Option.bind_some, hx2, w64_id (n := (j : Int) + 1) (by omega) (by omega)]
      show _ = some (Sum.inl (((j + 1 : Nat) : Int), if nearN p l i j = true then _ else _))
      have en : decide (l.getD i 0 - l.getD j 0 < (p.Apart.getD i []).getD j 0 ∧ l.getD j 0 - l.getD i 0 < (p.Apart.getD i []).getD j 0) = nearN p l i j := rfl
      rw [en]
      cases nearN p l i j with
      | false => rfl
      | true =>
        rw [cond_true, appL_of (by simp only [List.length_singleton]; omega)]
        rfl
    · simp only [m_impl_Problem_violations_B8, lt_self, cond_false, Option.map_some]
  · simp only [m_impl_Problem_violations_B3, lt_self, cond_false, Option.map_some]
end Go.Wk
