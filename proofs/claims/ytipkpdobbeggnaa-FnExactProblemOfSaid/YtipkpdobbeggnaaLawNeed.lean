/-
  Plain laws: the matrix of needs. No program in sight. Our own work.
-/
import Derived.Test.YtipkpdobbeggnaaLawMatrix
import Derived.Test.YtipkpdobbeggnaaPlainF
namespace Go.Wk
open Go Go.RowKit

def stepsN (T : List Int) (need : Int) : Int := match T.findIdx? (fun x => decide (need ≤ x)) with | some k => (k : Int) | none => (T.length : Int)
def rat (R : List (List Int)) (i j : Nat) : Int := (R.getD i []).getD j 0
def needN (R : List (List Int)) (t : Int) (T : List Int) (i j : Nat) : Int := if i = j then 0 else stepsN T (w64 (t - (if rat R j i < rat R i j then rat R j i else rat R i j)))
def needRow (R : List (List Int)) (t : Int) (T : List Int) (i : Nat) : List Int := (List.range R.length).map (needN R t T i)
def needM (R : List (List Int)) (t : Int) (T : List Int) : List (List Int) := (List.range R.length).map (needRow R t T)
def Sqr (R : List (List Int)) : Prop := R.length ≤ 24 ∧ ∀ i, i < R.length → (R.getD i []).length = R.length

theorem needM_fits (R : List (List Int)) (t : Int) (T : List Int) (h : R.length ≤ 24) : FitsSS (needM R t T) := by
  unfold needM needRow FitsSS
  simp only [List.length_map, List.length_range, List.mem_map]
  refine ⟨by omega, ?_⟩
  rintro x ⟨i, _, rfl⟩
  simp only [List.length_map, List.length_range]; omega
theorem matOk_sqr {R : List (List Int)} (h : matOk R = true) : Sqr R := by
  unfold matOk at h
  rw [Bool.and_eq_true, decide_eq_true_eq] at h
  refine ⟨h.1.2, fun i hi => ?_⟩
  have := List.all_eq_true.mp h.2 (R.getD i []) (by rw [getD_lt [] hi]; exact List.getElem_mem hi)
  unfold ratN at this
  rw [Bool.and_eq_true, decide_eq_true_eq] at this
  exact this.1

theorem stepsSpec_eq (T : List Int) (hT : T.length ≤ 1048576) (need : Int) : m_spec_l08Steps T need = some (stepsN T need) := by
  unfold m_spec_l08Steps stepsN
  have := first_loop T (fun s : Int => m_spec_l08Steps_B2 T need s) (fun x => decide (need ≤ x)) (fun k => (k : Int)) (T.length : Int) (fun k hk => ?_) ?_
  · refine (congrArg (fun o => Option.bind o fun x => some x) this).trans ?_
    simp only [Option.bind_some]; rfl
  · simp only [m_spec_l08Steps_B2, lt_true hk, cond_true, idx_lt_nat hk, Option.bind_some]
    rw [w64_id (by omega) (by omega)]
    by_cases c : need ≤ T[k]
    · rw [decide_eq_true c, decide_eq_false (show ¬ T[k] < need by omega)]; rfl
    · rw [decide_eq_false c, decide_eq_true (show T[k] < need by omega)]; rfl
  · simp only [m_spec_l08Steps_B2, lt_self, cond_false, Option.bind_some, Option.map_some]

theorem needSpec_row (R : List (List Int)) (h : Sqr R) (t : Int) (T : List Int) (hT : T.length ≤ 1048576) (i : Nat) (hi : i < R.length) :
    loopM (fun s : (Int × (List Int)) => m_spec_l16Need_B11 R t T (i : Int) s.1 s.2) ((0 : Int), ([] : (List Int))) = some (needRow R t T i) := by
  have h1 := h.1
  refine build_loop (bytes := 8) R.length (needN R t T i) (by omega) _ (fun j hj acc => ?_) (fun acc => ?_)
  · simp only [m_spec_l16Need_B11, lt_true hj, cond_true]
    rw [w64_id (n := (j : Int) + 1) (by omega) (by omega)]
    unfold needN
    by_cases c : i = j
    · subst c
      rw [if_pos rfl, bne_self]
      simp only [cond_false, Option.bind_some]; rfl
    · have e : ((i : Int) != (j : Int)) = true := by simp only [bne_iff_ne, ne_eq]; omega
      have l1 : i < (R.getD j []).length := by rw [h.2 j hj]; exact hi
      have l2 : j < (R.getD i []).length := by rw [h.2 i hi]; exact hj
      have em : m_spec_l00Min (rat R i j) (rat R j i) = some (if rat R j i < rat R i j then rat R j i else rat R i j) := by
        unfold m_spec_l00Min
        by_cases c1 : rat R i j < rat R j i
        · rw [decide_eq_true c1, if_neg (by omega)]; rfl
        · rw [decide_eq_false c1]
          by_cases c2 : rat R j i < rat R i j
          · rw [if_pos c2]; rfl
          · rw [if_neg c2]
            have : rat R i j = rat R j i := by omega
            rw [this]; rfl
      rw [e, if_neg c]
      simp only [cond_true, idx_getD [] hi, idx_getD [] hj, Option.bind_some, idx_getD 0 l1, idx_getD 0 l2]
      have em' := em
      unfold rat at em' ⊢
      simp only [em', Option.bind_some, stepsSpec_eq T hT]; rfl
  · simp only [m_spec_l16Need_B11, lt_self, cond_false, Option.map_some]

theorem needSpec_eq (R : List (List Int)) (h : Sqr R) (t : Int) (T : List Int) (hT : T.length ≤ 1048576) : m_spec_l16Need R t T = some (needM R t T) := by
  have h1 := h.1
  unfold m_spec_l16Need
  have := build_loop (bytes := 24) R.length (needRow R t T) (by omega) (fun s : (Int × (List (List Int))) => m_spec_l16Need_B4 R t T s.1 s.2) (fun i hi acc => ?_) (fun acc => ?_)
  · exact (congrArg (fun o => Option.bind o fun x => some x) this).trans rfl
  · simp only [m_spec_l16Need_B4, lt_true hi, cond_true, needSpec_row R h t T hT i hi, Option.bind_some]
    rw [w64_id (n := (i : Int) + 1) (by omega) (by omega)]; rfl
  · simp only [m_spec_l16Need_B4, lt_self, cond_false, Option.map_some]

theorem needIdx_eq (T : List Int) (hT : T.length ≤ 1048576) (need : Int) : m_slices_IndexFunc_int64_int64 T (fun x => m_impl_needMatrix_1 x need) = some (match T.findIdx? (fun x => decide (need ≤ x)) with | some k => (k : Int) | none => -1) :=
  indexFunc_eq T _ (fun x => decide (need ≤ x)) (fun x _ => rfl) (by omega)

theorem needImpl_row (R : List (List Int)) (h : Sqr R) (t : Int) (T : List Int) (hT : T.length ≤ 1048576) (i : Nat) (hi : i < R.length) :
    loopM (fun s : (Int × (List Int)) => m_impl_needMatrix_B11 R t T (i : Int) s.1 s.2) ((0 : Int), List.replicate R.length (0 : Int)) = some (needRow R t T i) := by
  have h1 := h.1
  have := loop_for (body := fun s : (Int × (List Int)) => m_impl_needMatrix_B11 R t T (i : Int) s.1 s.2) (r := needRow R t T i) R.length (fun k => ((k : Int), (List.range k).map (needN R t T i) ++ List.replicate (R.length - k) (0 : Int))) (fun j hj => ?_) ?_
  · simpa using this
  · simp only [m_impl_needMatrix_B11, lt_true hj, cond_true]
    rw [w64_id (n := (j : Int) + 1) (by omega) (by omega)]
    have eset : ∀ v w : Int, ((List.range j).map (needN R t T i) ++ v :: List.replicate (R.length - j - 1) (0 : Int)).set j w = (List.range j).map (needN R t T i) ++ w :: List.replicate (R.length - j - 1) (0 : Int) := by
      intro v w
      rw [List.set_append_right _ _ (by simp)]
      simp
    have e1 : List.replicate (R.length - j) (0 : Int) = 0 :: List.replicate (R.length - j - 1) (0 : Int) := by
      rw [show R.length - j = (R.length - j - 1) + 1 by omega]; rfl
    have e2 : ∀ v : Int, v = needN R t T i j → (List.range j).map (needN R t T i) ++ v :: List.replicate (R.length - j - 1) (0 : Int) = (List.range (j + 1)).map (needN R t T i) ++ List.replicate (R.length - (j + 1)) (0 : Int) := by
      intro v hv
      rw [hv, List.range_succ, List.map_append, List.append_assoc]; rfl
    rw [e1]
    by_cases c : i = j
    · have e : ((i : Int) == (j : Int)) = true := by rw [c]; exact beq_self_eq_true _
      rw [e]
      simp only [cond_true, Option.bind_some]
      rw [e2 0 (by unfold needN; rw [if_pos c])]; rfl
    · have e : ((i : Int) == (j : Int)) = false := by simp only [beq_eq_false_iff_ne, ne_eq]; omega
      have l1 : i < (R.getD j []).length := by rw [h.2 j hj]; exact hi
      have l2 : j < (R.getD i []).length := by rw [h.2 i hi]; exact hj
      have ib : ∀ v : Int, inB ((List.range j).map (needN R t T i) ++ v :: List.replicate (R.length - j - 1) (0 : Int)) (j : Int) = some () := fun v => inB_nat (by simp)
      have en : needN R t T i j = stepsN T (w64 (t - (if rat R j i < rat R i j then rat R j i else rat R i j))) := by unfold needN; rw [if_neg c]
      rw [e]
      simp only [cond_false, idx_getD [] hi, idx_getD [] hj, Option.bind_some, idx_getD 0 l1, idx_getD 0 l2, ib, needIdx_eq T hT, Int.toNat_natCast, eset]
      unfold stepsN at en
      unfold rat at en
      revert en
      cases T.findIdx? (fun x => decide (w64 (t - if (R.getD j []).getD i 0 < (R.getD i []).getD j 0 then (R.getD j []).getD i 0 else (R.getD i []).getD j 0) ≤ x)) with
      | some k =>
        intro en
        simp only [decide_eq_true (show (0 : Int) ≤ (k : Int) by omega), cond_true, Option.bind_some]
        rw [e2 _ en.symm]; rfl
      | none =>
        intro en
        simp only [decide_eq_false (show ¬ (0 : Int) ≤ -1 by omega), cond_false, Option.bind_some]
        rw [e2 _ en.symm]; rfl
  · simp only [m_impl_needMatrix_B11, lt_self, cond_false, Option.map_some, Nat.sub_self, List.replicate_zero, List.append_nil]; rfl

theorem needImpl_eq (R : List (List Int)) (h : Sqr R) (t : Int) (T : List Int) (hT : T.length ≤ 1048576) : m_impl_needMatrix R t T = some (needM R t T) := by
  have h1 := h.1
  unfold m_impl_needMatrix
  have := build_loop (bytes := 24) R.length (needRow R t T) (by omega) (fun s : (Int × (List (List Int))) => m_impl_needMatrix_B3 R t T s.1 s.2) (fun i hi acc => ?_) (fun acc => ?_)
  · exact (congrArg (fun o => Option.bind o fun x => some x) this).trans rfl
  · simp only [m_impl_needMatrix_B3, lt_true hi, cond_true, mkL_nat (bytes := 8) (0 : Int) (show R.length * 8 ≤ 140737488355328 by omega), needImpl_row R h t T hT i hi, Option.bind_some]
    rw [w64_id (n := (i : Int) + 1) (by omega) (by omega)]; rfl
  · simp only [m_impl_needMatrix_B3, lt_self, cond_false, Option.map_some]
end Go.Wk
