/-
  Plain law: ExceedanceOf. No program in sight. Our own work.
-/
import Derived.Test.YtbogkiihgejbnaaLawTable
namespace Go.Wk
open Go Go.RowKit

def exP : List Int := [(0 : Int), (8 : Int), (30 : Int), (60 : Int), (100 : Int), (150 : Int), (200 : Int)]
def exV : List Int := [(50000 : Int), (10000 : Int), (1000 : Int), (100 : Int), (10 : Int), (1 : Int), (0 : Int)]
theorem exS_step (x : Int) (k : Nat) (hk : k < 7) (h : exP[k]'(by exact hk) < x) : m_spec_l11Table_B3 x exP exV (k : Int) = some (.inl ((k + 1 : Nat) : Int)) := by
  have e : w64 ((exP.length : Int) - 1) = 6 := w64_id (n := 6) (by omega) (by omega)
  unfold m_spec_l11Table_B3
  rw [e, decide_eq_true (by omega), cond_true, idx_lt_nat (l := exP) (k := k) hk, Option.bind_some, decide_eq_false (by omega), cond_false, w64_id (by omega) (by omega)]
  rfl
theorem exS_stop1 (x : Int) (h0 : 0 ≤ x) (h1 : x ≤ 8) : m_spec_l11Table_B3 x exP exV 1 = some (.inr (lineN 0 50000 8 10000 x)) := by
  have e : w64 ((exP.length : Int) - 1) = 6 := w64_id (n := 6) (by omega) (by omega)
  have e1 : w64 ((1 : Int) - 1) = 0 := w64_id (n := 0) (by omega) (by omega)
  have i1 : idx exP (1 : Int) = some 8 := rfl
  have i2 : idx exP (0 : Int) = some 0 := rfl
  have i3 : idx exV (1 : Int) = some 10000 := rfl
  have i4 : idx exV (0 : Int) = some 50000 := rfl
  unfold m_spec_l11Table_B3
  rw [e, decide_eq_true (by omega), cond_true, i1, Option.bind_some, decide_eq_true h1, cond_true, e1, i2, Option.bind_some, i4, Option.bind_some, Option.bind_some, i3, Option.bind_some]
  rw [line_eq _ _ _ _ _ (by unfold Small; omega) (by unfold Small; omega) (by unfold Small; omega) (by unfold Small; omega) (by unfold Small; omega)]
  rfl
theorem exS_stop2 (x : Int) (h0 : 0 ≤ x) (h1 : x ≤ 30) : m_spec_l11Table_B3 x exP exV 2 = some (.inr (lineN 8 10000 30 1000 x)) := by
  have e : w64 ((exP.length : Int) - 1) = 6 := w64_id (n := 6) (by omega) (by omega)
  have e1 : w64 ((2 : Int) - 1) = 1 := w64_id (n := 1) (by omega) (by omega)
  have i1 : idx exP (2 : Int) = some 30 := rfl
  have i2 : idx exP (1 : Int) = some 8 := rfl
  have i3 : idx exV (2 : Int) = some 1000 := rfl
  have i4 : idx exV (1 : Int) = some 10000 := rfl
  unfold m_spec_l11Table_B3
  rw [e, decide_eq_true (by omega), cond_true, i1, Option.bind_some, decide_eq_true h1, cond_true, e1, i2, Option.bind_some, i4, Option.bind_some, Option.bind_some, i3, Option.bind_some]
  rw [line_eq _ _ _ _ _ (by unfold Small; omega) (by unfold Small; omega) (by unfold Small; omega) (by unfold Small; omega) (by unfold Small; omega)]
  rfl
theorem exS_stop3 (x : Int) (h0 : 0 ≤ x) (h1 : x ≤ 60) : m_spec_l11Table_B3 x exP exV 3 = some (.inr (lineN 30 1000 60 100 x)) := by
  have e : w64 ((exP.length : Int) - 1) = 6 := w64_id (n := 6) (by omega) (by omega)
  have e1 : w64 ((3 : Int) - 1) = 2 := w64_id (n := 2) (by omega) (by omega)
  have i1 : idx exP (3 : Int) = some 60 := rfl
  have i2 : idx exP (2 : Int) = some 30 := rfl
  have i3 : idx exV (3 : Int) = some 100 := rfl
  have i4 : idx exV (2 : Int) = some 1000 := rfl
  unfold m_spec_l11Table_B3
  rw [e, decide_eq_true (by omega), cond_true, i1, Option.bind_some, decide_eq_true h1, cond_true, e1, i2, Option.bind_some, i4, Option.bind_some, Option.bind_some, i3, Option.bind_some]
  rw [line_eq _ _ _ _ _ (by unfold Small; omega) (by unfold Small; omega) (by unfold Small; omega) (by unfold Small; omega) (by unfold Small; omega)]
  rfl
theorem exS_stop4 (x : Int) (h0 : 0 ≤ x) (h1 : x ≤ 100) : m_spec_l11Table_B3 x exP exV 4 = some (.inr (lineN 60 100 100 10 x)) := by
  have e : w64 ((exP.length : Int) - 1) = 6 := w64_id (n := 6) (by omega) (by omega)
  have e1 : w64 ((4 : Int) - 1) = 3 := w64_id (n := 3) (by omega) (by omega)
  have i1 : idx exP (4 : Int) = some 100 := rfl
  have i2 : idx exP (3 : Int) = some 60 := rfl
  have i3 : idx exV (4 : Int) = some 10 := rfl
  have i4 : idx exV (3 : Int) = some 100 := rfl
  unfold m_spec_l11Table_B3
  rw [e, decide_eq_true (by omega), cond_true, i1, Option.bind_some, decide_eq_true h1, cond_true, e1, i2, Option.bind_some, i4, Option.bind_some, Option.bind_some, i3, Option.bind_some]
  rw [line_eq _ _ _ _ _ (by unfold Small; omega) (by unfold Small; omega) (by unfold Small; omega) (by unfold Small; omega) (by unfold Small; omega)]
  rfl
theorem exS_stop5 (x : Int) (h0 : 0 ≤ x) (h1 : x ≤ 150) : m_spec_l11Table_B3 x exP exV 5 = some (.inr (lineN 100 10 150 1 x)) := by
  have e : w64 ((exP.length : Int) - 1) = 6 := w64_id (n := 6) (by omega) (by omega)
  have e1 : w64 ((5 : Int) - 1) = 4 := w64_id (n := 4) (by omega) (by omega)
  have i1 : idx exP (5 : Int) = some 150 := rfl
  have i2 : idx exP (4 : Int) = some 100 := rfl
  have i3 : idx exV (5 : Int) = some 1 := rfl
  have i4 : idx exV (4 : Int) = some 10 := rfl
  unfold m_spec_l11Table_B3
  rw [e, decide_eq_true (by omega), cond_true, i1, Option.bind_some, decide_eq_true h1, cond_true, e1, i2, Option.bind_some, i4, Option.bind_some, Option.bind_some, i3, Option.bind_some]
  rw [line_eq _ _ _ _ _ (by unfold Small; omega) (by unfold Small; omega) (by unfold Small; omega) (by unfold Small; omega) (by unfold Small; omega)]
  rfl
theorem exS_stop6 (x : Int) (h0 : 0 ≤ x) (h1 : x ≤ 200) : m_spec_l11Table_B3 x exP exV 6 = some (.inr (lineN 150 1 200 0 x)) := by
  have e : w64 ((exP.length : Int) - 1) = 6 := w64_id (n := 6) (by omega) (by omega)
  have e1 : w64 ((6 : Int) - 1) = 5 := w64_id (n := 5) (by omega) (by omega)
  have i1 : idx exP (6 : Int) = some 200 := rfl
  have i2 : idx exP (5 : Int) = some 150 := rfl
  have i3 : idx exV (6 : Int) = some 0 := rfl
  have i4 : idx exV (5 : Int) = some 1 := rfl
  unfold m_spec_l11Table_B3
  rw [e, decide_eq_true (by omega), cond_true, i1, Option.bind_some, decide_eq_true h1, cond_true, e1, i2, Option.bind_some, i4, Option.bind_some, Option.bind_some, i3, Option.bind_some]
  rw [line_eq _ _ _ _ _ (by unfold Small; omega) (by unfold Small; omega) (by unfold Small; omega) (by unfold Small; omega) (by unfold Small; omega)]
  rfl
def exN (x : Int) : Int := if x ≤ 8 then lineN 0 50000 8 10000 x else if x ≤ 30 then lineN 8 10000 30 1000 x else if x ≤ 60 then lineN 30 1000 60 100 x else if x ≤ 100 then lineN 60 100 100 10 x else if x ≤ 150 then lineN 100 10 150 1 x else lineN 150 1 200 0 x
theorem exSpec_eq (x : Int) (h0 : 0 ≤ x) (h1 : x ≤ 200) : m_spec_l13Exceed x = some (exN x) := by
  have hh : m_spec_l11Table x exP exV = some (exN x) := by
    have key : loopM (fun s : Int => m_spec_l11Table_B3 x exP exV s) 1 = some (exN x) := by
      by_cases h1 : x ≤ 8
      · unfold exN; rw [if_pos h1]
        have e := loopM_inr (exS_stop1 x h0 (by omega))
        exact e
      by_cases h2 : x ≤ 30
      · unfold exN; rw [if_neg h1, if_pos h2]
        have e := loopM_inr (exS_stop2 x h0 (by omega))
        exact (loopM_inl (exS_step x 1 (by omega) (by show (8 : Int) < x; omega))).trans (e)
      by_cases h3 : x ≤ 60
      · unfold exN; rw [if_neg h1, if_neg h2, if_pos h3]
        have e := loopM_inr (exS_stop3 x h0 (by omega))
        exact (loopM_inl (exS_step x 1 (by omega) (by show (8 : Int) < x; omega))).trans ((loopM_inl (exS_step x 2 (by omega) (by show (30 : Int) < x; omega))).trans (e))
      by_cases h4 : x ≤ 100
      · unfold exN; rw [if_neg h1, if_neg h2, if_neg h3, if_pos h4]
        have e := loopM_inr (exS_stop4 x h0 (by omega))
        exact (loopM_inl (exS_step x 1 (by omega) (by show (8 : Int) < x; omega))).trans ((loopM_inl (exS_step x 2 (by omega) (by show (30 : Int) < x; omega))).trans ((loopM_inl (exS_step x 3 (by omega) (by show (60 : Int) < x; omega))).trans (e)))
      by_cases h5 : x ≤ 150
      · unfold exN; rw [if_neg h1, if_neg h2, if_neg h3, if_neg h4, if_pos h5]
        have e := loopM_inr (exS_stop5 x h0 (by omega))
        exact (loopM_inl (exS_step x 1 (by omega) (by show (8 : Int) < x; omega))).trans ((loopM_inl (exS_step x 2 (by omega) (by show (30 : Int) < x; omega))).trans ((loopM_inl (exS_step x 3 (by omega) (by show (60 : Int) < x; omega))).trans ((loopM_inl (exS_step x 4 (by omega) (by show (100 : Int) < x; omega))).trans (e))))
      unfold exN; rw [if_neg h1, if_neg h2, if_neg h3, if_neg h4, if_neg h5]
      have e := loopM_inr (exS_stop6 x h0 (by omega))
      exact (loopM_inl (exS_step x 1 (by omega) (by show (8 : Int) < x; omega))).trans ((loopM_inl (exS_step x 2 (by omega) (by show (30 : Int) < x; omega))).trans ((loopM_inl (exS_step x 3 (by omega) (by show (60 : Int) < x; omega))).trans ((loopM_inl (exS_step x 4 (by omega) (by show (100 : Int) < x; omega))).trans ((loopM_inl (exS_step x 5 (by omega) (by show (150 : Int) < x; omega))).trans (e)))))
    unfold m_spec_l11Table
    have i1 : idx exP (0 : Int) = some 0 := rfl
    have i2 : idx exV (0 : Int) = some 50000 := rfl
    rw [i1, Option.bind_some]
    by_cases h : x ≤ 0
    · rw [decide_eq_true h, cond_true, i2, Option.bind_some]
      unfold exN lineN
      rw [if_pos (by omega), if_pos (by omega)]
    · rw [decide_eq_false h, cond_false]; exact key
  unfold m_spec_l13Exceed
  show ((m_spec_l11Table x exP exV).bind fun x5 => some x5) = _
  rw [hh]; rfl
def exT : List (List Int) := [([(0 : Int), (50000 : Int)] : (List Int)), ([(8 : Int), (10000 : Int)] : (List Int)), ([(30 : Int), (1000 : Int)] : (List Int)), ([(60 : Int), (100 : Int)] : (List Int)), ([(100 : Int), (10 : Int)] : (List Int)), ([(150 : Int), (1 : Int)] : (List Int)), ([(200 : Int), (0 : Int)] : (List Int))]
theorem exI_step (x : Int) (k : Nat) (hk : k < 6) (h : exP[k]'(by show k < 7; omega) < x) : m_impl_exceedanceOf_B3 x (k : Int) = some (.inl ((k + 1 : Nat) : Int)) := by
  have e : (idx exT (k : Int)).bind (fun r => idx r 0) = some (exP[k]'(by show k < 7; omega)) := by
    match k, hk with
    | 0, _ => rfl
    | 1, _ => rfl
    | 2, _ => rfl
    | 3, _ => rfl
    | 4, _ => rfl
    | 5, _ => rfl
  have e2 : m_impl_exceedanceOf_B3 x (k : Int) = (((bif (decide ((k : Int) < (6 : Int))) then ((idx exT (k : Int)).bind fun x8 => ((idx x8 (0 : Int)).bind fun x9 => some (decide (x9 < x)))) else some false) : Option Bool).bind fun x6 => (bif x6 then some (Sum.inl (w64 ((k : Int) + (1 : Int)))) else Option.map Sum.inr (some (k : Int)))) := rfl
  rw [e2, decide_eq_true (by omega), cond_true, ← Option.bind_assoc, e, Option.bind_some, Option.bind_some, decide_eq_true h, cond_true, w64_id (by omega) (by omega)]
  rfl
theorem exI_stop1 (x : Int) (h1 : x ≤ 8) : m_impl_exceedanceOf_B3 x 1 = some (.inr 1) := by
  have e2 : m_impl_exceedanceOf_B3 x 1 = ((some (decide ((8 : Int) < x)) : Option Bool).bind fun x6 => (bif x6 then some (Sum.inl (w64 ((1 : Int) + (1 : Int)))) else Option.map Sum.inr (some (1 : Int)))) := rfl
  rw [e2, decide_eq_false (by omega)]; rfl
theorem exI_stop2 (x : Int) (h1 : x ≤ 30) : m_impl_exceedanceOf_B3 x 2 = some (.inr 2) := by
  have e2 : m_impl_exceedanceOf_B3 x 2 = ((some (decide ((30 : Int) < x)) : Option Bool).bind fun x6 => (bif x6 then some (Sum.inl (w64 ((2 : Int) + (1 : Int)))) else Option.map Sum.inr (some (2 : Int)))) := rfl
  rw [e2, decide_eq_false (by omega)]; rfl
theorem exI_stop3 (x : Int) (h1 : x ≤ 60) : m_impl_exceedanceOf_B3 x 3 = some (.inr 3) := by
  have e2 : m_impl_exceedanceOf_B3 x 3 = ((some (decide ((60 : Int) < x)) : Option Bool).bind fun x6 => (bif x6 then some (Sum.inl (w64 ((3 : Int) + (1 : Int)))) else Option.map Sum.inr (some (3 : Int)))) := rfl
  rw [e2, decide_eq_false (by omega)]; rfl
theorem exI_stop4 (x : Int) (h1 : x ≤ 100) : m_impl_exceedanceOf_B3 x 4 = some (.inr 4) := by
  have e2 : m_impl_exceedanceOf_B3 x 4 = ((some (decide ((100 : Int) < x)) : Option Bool).bind fun x6 => (bif x6 then some (Sum.inl (w64 ((4 : Int) + (1 : Int)))) else Option.map Sum.inr (some (4 : Int)))) := rfl
  rw [e2, decide_eq_false (by omega)]; rfl
theorem exI_stop5 (x : Int) (h1 : x ≤ 150) : m_impl_exceedanceOf_B3 x 5 = some (.inr 5) := by
  have e2 : m_impl_exceedanceOf_B3 x 5 = ((some (decide ((150 : Int) < x)) : Option Bool).bind fun x6 => (bif x6 then some (Sum.inl (w64 ((5 : Int) + (1 : Int)))) else Option.map Sum.inr (some (5 : Int)))) := rfl
  rw [e2, decide_eq_false (by omega)]; rfl
theorem exI_stop6 (x : Int) : m_impl_exceedanceOf_B3 x 6 = some (.inr 6) := rfl
def exJ (x : Int) : Int := if x ≤ 8 then 1 else if x ≤ 30 then 2 else if x ≤ 60 then 3 else if x ≤ 100 then 4 else if x ≤ 150 then 5 else 6
theorem exJ_eq (x : Int) : loopM (fun s : Int => m_impl_exceedanceOf_B3 x s) 1 = some (exJ x) := by
  by_cases h1 : x ≤ 8
  · unfold exJ; rw [if_pos h1]
    have e := loopM_inr (exI_stop1 x h1)
    exact e
  by_cases h2 : x ≤ 30
  · unfold exJ; rw [if_neg h1, if_pos h2]
    have e := loopM_inr (exI_stop2 x h2)
    exact (loopM_inl (exI_step x 1 (by omega) (by show (8 : Int) < x; omega))).trans (e)
  by_cases h3 : x ≤ 60
  · unfold exJ; rw [if_neg h1, if_neg h2, if_pos h3]
    have e := loopM_inr (exI_stop3 x h3)
    exact (loopM_inl (exI_step x 1 (by omega) (by show (8 : Int) < x; omega))).trans ((loopM_inl (exI_step x 2 (by omega) (by show (30 : Int) < x; omega))).trans (e))
  by_cases h4 : x ≤ 100
  · unfold exJ; rw [if_neg h1, if_neg h2, if_neg h3, if_pos h4]
    have e := loopM_inr (exI_stop4 x h4)
    exact (loopM_inl (exI_step x 1 (by omega) (by show (8 : Int) < x; omega))).trans ((loopM_inl (exI_step x 2 (by omega) (by show (30 : Int) < x; omega))).trans ((loopM_inl (exI_step x 3 (by omega) (by show (60 : Int) < x; omega))).trans (e)))
  by_cases h5 : x ≤ 150
  · unfold exJ; rw [if_neg h1, if_neg h2, if_neg h3, if_neg h4, if_pos h5]
    have e := loopM_inr (exI_stop5 x h5)
    exact (loopM_inl (exI_step x 1 (by omega) (by show (8 : Int) < x; omega))).trans ((loopM_inl (exI_step x 2 (by omega) (by show (30 : Int) < x; omega))).trans ((loopM_inl (exI_step x 3 (by omega) (by show (60 : Int) < x; omega))).trans ((loopM_inl (exI_step x 4 (by omega) (by show (100 : Int) < x; omega))).trans (e))))
  unfold exJ; rw [if_neg h1, if_neg h2, if_neg h3, if_neg h4, if_neg h5]
  have e := loopM_inr (exI_stop6 x)
  exact (loopM_inl (exI_step x 1 (by omega) (by show (8 : Int) < x; omega))).trans ((loopM_inl (exI_step x 2 (by omega) (by show (30 : Int) < x; omega))).trans ((loopM_inl (exI_step x 3 (by omega) (by show (60 : Int) < x; omega))).trans ((loopM_inl (exI_step x 4 (by omega) (by show (100 : Int) < x; omega))).trans ((loopM_inl (exI_step x 5 (by omega) (by show (150 : Int) < x; omega))).trans (e)))))
theorem exImpl_eq (x : Int) (h0 : 0 ≤ x) (h1 : x ≤ 200) : m_impl_exceedanceOf x = some (exN x) := by
  unfold m_impl_exceedanceOf
  rw [exJ_eq, Option.bind_some]
  by_cases h1' : x ≤ 8
  · have ej : exJ x = 1 := by unfold exJ; rw [if_pos h1']
    have en : exN x = lineN 0 50000 8 10000 x := by unfold exN; rw [if_pos h1']
    have e1 : w64 ((1 : Int) - 1) = 0 := w64_id (n := 0) (by omega) (by omega)
    rw [ej, en, e1]
    show ((m_impl_blend 0 50000 8 10000 x).bind fun x20 => some x20) = _
    rw [blend_eq _ _ _ _ _ (by unfold Small; omega) (by unfold Small; omega) (by unfold Small; omega) (by unfold Small; omega) (by unfold Small; omega)]
    rfl
  by_cases h2' : x ≤ 30
  · have ej : exJ x = 2 := by unfold exJ; rw [if_neg h1', if_pos h2']
    have en : exN x = lineN 8 10000 30 1000 x := by unfold exN; rw [if_neg h1', if_pos h2']
    have e1 : w64 ((2 : Int) - 1) = 1 := w64_id (n := 1) (by omega) (by omega)
    rw [ej, en, e1]
    show ((m_impl_blend 8 10000 30 1000 x).bind fun x20 => some x20) = _
    rw [blend_eq _ _ _ _ _ (by unfold Small; omega) (by unfold Small; omega) (by unfold Small; omega) (by unfold Small; omega) (by unfold Small; omega)]
    rfl
  by_cases h3' : x ≤ 60
  · have ej : exJ x = 3 := by unfold exJ; rw [if_neg h1', if_neg h2', if_pos h3']
    have en : exN x = lineN 30 1000 60 100 x := by unfold exN; rw [if_neg h1', if_neg h2', if_pos h3']
    have e1 : w64 ((3 : Int) - 1) = 2 := w64_id (n := 2) (by omega) (by omega)
    rw [ej, en, e1]
    show ((m_impl_blend 30 1000 60 100 x).bind fun x20 => some x20) = _
    rw [blend_eq _ _ _ _ _ (by unfold Small; omega) (by unfold Small; omega) (by unfold Small; omega) (by unfold Small; omega) (by unfold Small; omega)]
    rfl
  by_cases h4' : x ≤ 100
  · have ej : exJ x = 4 := by unfold exJ; rw [if_neg h1', if_neg h2', if_neg h3', if_pos h4']
    have en : exN x = lineN 60 100 100 10 x := by unfold exN; rw [if_neg h1', if_neg h2', if_neg h3', if_pos h4']
    have e1 : w64 ((4 : Int) - 1) = 3 := w64_id (n := 3) (by omega) (by omega)
    rw [ej, en, e1]
    show ((m_impl_blend 60 100 100 10 x).bind fun x20 => some x20) = _
    rw [blend_eq _ _ _ _ _ (by unfold Small; omega) (by unfold Small; omega) (by unfold Small; omega) (by unfold Small; omega) (by unfold Small; omega)]
    rfl
  by_cases h5' : x ≤ 150
  · have ej : exJ x = 5 := by unfold exJ; rw [if_neg h1', if_neg h2', if_neg h3', if_neg h4', if_pos h5']
    have en : exN x = lineN 100 10 150 1 x := by unfold exN; rw [if_neg h1', if_neg h2', if_neg h3', if_neg h4', if_pos h5']
    have e1 : w64 ((5 : Int) - 1) = 4 := w64_id (n := 4) (by omega) (by omega)
    rw [ej, en, e1]
    show ((m_impl_blend 100 10 150 1 x).bind fun x20 => some x20) = _
    rw [blend_eq _ _ _ _ _ (by unfold Small; omega) (by unfold Small; omega) (by unfold Small; omega) (by unfold Small; omega) (by unfold Small; omega)]
    rfl
  have ej : exJ x = 6 := by unfold exJ; rw [if_neg h1', if_neg h2', if_neg h3', if_neg h4', if_neg h5']
  have en : exN x = lineN 150 1 200 0 x := by unfold exN; rw [if_neg h1', if_neg h2', if_neg h3', if_neg h4', if_neg h5']
  have e1 : w64 ((6 : Int) - 1) = 5 := w64_id (n := 5) (by omega) (by omega)
  rw [ej, en, e1]
  show ((m_impl_blend 150 1 200 0 x).bind fun x20 => some x20) = _
  rw [blend_eq _ _ _ _ _ (by unfold Small; omega) (by unfold Small; omega) (by unfold Small; omega) (by unfold Small; omega) (by unfold Small; omega)]
  rfl

theorem law_FnExactExceedanceOf (x : Int) : m_laws_FnExactExceedanceOf x = some true := by
  unfold m_laws_FnExactExceedanceOf m_spec_ExceedanceOf m_impl_ExceedanceOf m_spec_l11Rate
  simp only [in_eq, within_eq, Option.bind_some]
  by_cases h : 0 ≤ x ∧ x ≤ 200
  · simp only [decide_eq_true h, Bool.not_true, cond_false, exSpec_eq x h.1 h.2, exImpl_eq x h.1 h.2, Option.bind_some, bne_self]
  · simp only [decide_eq_false h, Bool.not_false, cond_true, Option.bind_some, bne_self, cond_false]
end Go.Wk
