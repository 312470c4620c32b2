/-
  Plain laws: pairs counted twice. No program in sight. Our own work.
-/
import Derived.Test.YtfadnbelnfofbaaLawCount
namespace Go.Wk
open Go Go.RowKit

def sumN (n : Nat) (f : Nat → Nat) : Nat := ((List.range n).map f).sum
theorem sumN_succ (n : Nat) (f : Nat → Nat) : sumN (n + 1) f = sumN n f + f n := by
  unfold sumN; rw [List.range_succ, List.map_append, List.sum_append]; simp
theorem sumN_add (n : Nat) (f g : Nat → Nat) : sumN n (fun i => f i + g i) = sumN n f + sumN n g := by
  induction n with
  | zero => rfl
  | succ n ih => rw [sumN_succ, sumN_succ, sumN_succ, ih]; omega
theorem sumN_congr {n : Nat} {f g : Nat → Nat} (h : ∀ i, i < n → f i = g i) : sumN n f = sumN n g := by
  induction n with
  | zero => rfl
  | succ n ih => rw [sumN_succ, sumN_succ, ih (fun i hi => h i (by omega)), h n (by omega)]
theorem cnt_sum (n : Nat) (q : Nat → Bool) : ((List.range n).filter q).length = sumN n (fun i => if q i then 1 else 0) := by
  induction n with
  | zero => rfl
  | succ n ih => rw [List.range_succ, List.filter_append, List.length_append, ih, sumN_succ]; cases hq : q n <;> simp [hq]
/-- Pairs of a symmetric relation are counted twice. -/
theorem twice (M : Nat → Nat → Bool) (hs : ∀ i j, M i j = M j i) (h0 : ∀ i, M i i = false) (n : Nat) :
    sumN n (fun i => ((List.range n).filter (M i)).length) = 2 * sumN n (fun i => ((List.range' (i + 1) (n - (i + 1))).filter (M i)).length) := by
  induction n with
  | zero => rfl
  | succ n ih =>
    have e1 : sumN n (fun i => ((List.range (n + 1)).filter (M i)).length) = sumN n (fun i => ((List.range n).filter (M i)).length) + ((List.range n).filter (M n)).length := by
      rw [cnt_sum n (M n), ← sumN_add]
      refine sumN_congr fun i hi => ?_
      rw [List.range_succ, List.filter_append, List.length_append, hs n i]
      cases hq : M i n <;> simp [hq]
    have e2 : sumN n (fun i => ((List.range' (i + 1) (n + 1 - (i + 1))).filter (M i)).length) = sumN n (fun i => ((List.range' (i + 1) (n - (i + 1))).filter (M i)).length) + ((List.range n).filter (M n)).length := by
      rw [cnt_sum n (M n), ← sumN_add]
      refine sumN_congr fun i hi => ?_
      have e : n + 1 - (i + 1) = (n - (i + 1)) + 1 := by omega
      rw [e, List.range'_concat, List.filter_append, List.length_append, hs n i]
      have e' : i + 1 + 1 * (n - (i + 1)) = n := by omega
      rw [e']
      cases hq : M i n <;> simp [hq]
    rw [sumN_succ, sumN_succ, e1, e2, ih, List.range_succ, List.filter_append, List.length_append]
    have e3 : n + 1 - (n + 1) = 0 := by omega
    rw [e3]
    simp [h0 n]
    omega
theorem foldSum (g : Nat → Int) (f : Nat → Nat) : ∀ (js : List Nat) (v : Int), (∀ j ∈ js, g j = (f j : Int) ∧ f j ≤ 1048576) → 0 ≤ v → v + 1048576 * js.length ≤ 4611686018427387904 → js.foldl (fun v j => w64 (v + g j)) v = v + ((js.map f).sum : Nat) := by
  intro js
  induction js with
  | nil => intro v _ _ _; simp
  | cons x js ih =>
    intro v hg h0 h1
    have hx := hg x (by simp)
    simp only [List.length_cons] at h1
    rw [List.foldl_cons, hx.1, w64_id (by omega) (by omega), ih _ (fun j hj => hg j (by simp [hj])) (by omega) (by omega)]
    simp only [List.map_cons, List.sum_cons]; omega
end Go.Wk
