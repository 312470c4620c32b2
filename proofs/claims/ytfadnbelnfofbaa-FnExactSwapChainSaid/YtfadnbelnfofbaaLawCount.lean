/-
  Plain laws: the conflicts of an item are counted. No program in sight. Our own work.
-/
import Derived.Test.YtfadnbelnfofbaaLawConf
namespace Go.Wk
open Go Go.RowKit

theorem cnt_fold (q : Nat → Bool) : ∀ (l : List Nat) (v : Int), 0 ≤ v → v + l.length ≤ 4611686018427387904 → l.foldl (fun v j => if q j then w64 (v + 1) else v) v = v + (l.filter q).length := by
  intro l
  induction l with
  | nil => intro v _ _; simp
  | cons x l ih =>
    intro v h0 h1
    simp only [List.length_cons] at h1
    rw [List.foldl_cons, List.filter_cons]
    cases hq : q x with
    | true =>
      simp only [if_true]
      rw [w64_id (by omega) (by omega), ih _ (by omega) (by omega)]
      simp only [List.length_cons]; omega
    | false => simp only [Bool.false_eq_true, if_false]; exact ih v h0 (by omega)
theorem confN_cnt (p : GProblem) (l : List Int) (hl : l.length ≤ 1048576) (i : Nat) (c : Int) : confN p l i c = ((List.range l.length).filter (closeN p l i c)).length := by
  unfold confN
  rw [cnt_fold _ _ 0 (by omega) (by simp; omega)]; omega
end Go.Wk
