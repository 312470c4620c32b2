/-
  Plain laws: marking a slice of int64, and finding the marks again. No program in sight. Our own work.
-/
import Derived.Test.YtfadnbelnfofbaaLawS
import Derived.Test.YtfadnbelnfofbaaPlainE
namespace Go.Wk
open Go Go.RowKit

def markL (n : Nat) (k : Int) : List Int := (List.range n).map fun (i : Nat) => k + (i : Int)
theorem markL_len (n : Nat) (k : Int) : (markL n k).length = n := by simp [markL]
theorem markL_succ (n : Nat) (k : Int) : markL (n + 1) k = markL n k ++ [k + (n : Int)] := by simp [markL, List.range_succ]

theorem markInt64S_eq (l : List Int) (k : Int) (h0 : 0 ≤ k) (h1 : k + l.length ≤ 4611686018427387904) : m_laws_markInt64S l k = some (k + l.length, markL l.length k) := by
  unfold m_laws_markInt64S
  have key : loopM (fun s : (Int × Int × (List Int)) => m_laws_markInt64S_B3 s.1 s.2.1 s.2.2) (k, (0 : Int), l) = some (k + l.length, markL l.length k) := by
    have := loop_for (body := fun s : (Int × Int × (List Int)) => m_laws_markInt64S_B3 s.1 s.2.1 s.2.2) (r := (k + (l.length : Int), markL l.length k)) l.length
      (fun j => (k + (j : Int), (j : Int), markL j k ++ l.drop j)) (fun j hj => ?_) ?_
    · simpa [markL] using this
    · have hlen : (markL j k ++ l.drop j).length = l.length := by rw [List.length_append, markL_len, List.length_drop]; omega
      have h2 : decide ((j : Int) < ((markL j k ++ l.drop j).length : Int)) = true := by rw [hlen]; simpa using hj
      simp only [m_laws_markInt64S_B3, h2, cond_true, inB_nat (by rw [hlen]; exact hj), Option.bind_some, Int.toNat_natCast]
      rw [w64_id (by omega) (by omega), w64_id (by omega) (by omega)]
      have h3 : (markL j k ++ l.drop j).set j (k + (j : Int)) = markL (j + 1) k ++ l.drop (j + 1) := by
        rw [List.set_append_right _ _ (by rw [markL_len]; omega), markL_len, Nat.sub_self, List.drop_eq_getElem_cons hj, List.set_cons_zero, markL_succ, List.append_assoc]
        rfl
      rw [h3]
      have e1 : k + (j : Int) + 1 = k + ((j + 1 : Nat) : Int) := by omega
      have e2 : (j : Int) + 1 = ((j + 1 : Nat) : Int) := by omega
      rw [e1, e2]
    · have hlen : (markL l.length k ++ l.drop l.length).length = l.length := by rw [List.length_append, markL_len, List.length_drop]; omega
      have h2 : decide ((l.length : Int) < ((markL l.length k ++ l.drop l.length).length : Int)) = false := by rw [hlen]; simp
      simp only [m_laws_markInt64S_B3, h2, cond_false]
      rw [List.drop_length, List.append_nil]
      rfl
  rw [key]
  rfl

theorem heldInt64S_eq (n : Nat) (k : Int) (h0 : 0 ≤ k) (h1 : k + n ≤ 4611686018427387904) : m_laws_heldInt64S (markL n k) k = some (k + n) := by
  unfold m_laws_heldInt64S
  have := loop_for (body := fun s : (Int × Int) => m_laws_heldInt64S_B1 (markL n k) s.1 s.2) (r := k + (n : Int)) n (fun j => (k + (j : Int), (j : Int))) (fun j hj => ?_) ?_
  · simpa using this
  · have h2 : decide ((j : Int) < ((markL n k).length : Int)) = true := by rw [markL_len]; simpa using hj
    have h3 : idx (markL n k) (j : Int) = some (k + (j : Int)) := by rw [idx_lt_nat (by rw [markL_len]; exact hj)]; simp [markL]
    have h4 : (k + (j : Int) != k + (j : Int)) = false := by simp
    simp only [m_laws_heldInt64S_B1, h2, cond_true, h3, Option.bind_some, h4, cond_false]
    rw [w64_id (by omega) (by omega), w64_id (by omega) (by omega)]
    have e1 : k + (j : Int) + 1 = k + ((j + 1 : Nat) : Int) := by omega
    have e2 : (j : Int) + 1 = ((j + 1 : Nat) : Int) := by omega
    rw [e1, e2]
  · have h2 : decide ((n : Int) < ((markL n k).length : Int)) = false := by rw [markL_len]; simp
    simp only [m_laws_heldInt64S_B1, h2, cond_false]
    rfl

end Go.Wk
