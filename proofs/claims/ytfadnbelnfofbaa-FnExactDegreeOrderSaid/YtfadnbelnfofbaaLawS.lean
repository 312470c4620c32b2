/-
  Plain laws: copying and comparing slices of int64. No program in sight. Our own work.
-/
import Derived.Test.YtfadnbelnfofbaaPlain
import Derived.Test.YtfadnbelnfofbaaMod
namespace Go.Wk
open Go Go.RowKit

theorem mkL_len {α : Type} {bytes n : Nat} (z : α) (h : n * bytes ≤ 140737488355328) : mkL bytes (n : Int) z = some (List.replicate n z) := by
  unfold mkL
  rw [if_pos ⟨by omega, by have : ((n * bytes : Nat) : Int) = (n : Int) * bytes := by simp
                           omega⟩]
  simp

theorem toInt64S_eq (l : List Int) (h : l.length ≤ 1048576) : m_laws_toInt64S l = some l := by
  unfold m_laws_toInt64S
  rw [mkL_len _ (by omega), Option.bind_some]
  have := to_gen some l 0 (by omega) (fun _ _ => rfl)
  exact (congrArg (fun o => Option.bind o fun x => some x) this).trans rfl

theorem eqInt64S_eq (a b : List Int) (h : a.length ≤ 9223372036854775806) : m_laws_eqInt64S a b = some (decide (a = b)) := by
  unfold m_laws_eqInt64S
  by_cases hl : a.length = b.length
  · have h1 : ((a.length : Int) != (b.length : Int)) = false := by simp [hl]
    rw [h1, cond_false]
    have := eq_gen (fun x y => some (decide (x = y))) a b h hl (fun _ _ _ _ => rfl)
    rw [← this]
    congr 1
  · have h1 : ((a.length : Int) != (b.length : Int)) = true := by simp; omega
    have h2 : decide (a = b) = false := by simp only [decide_eq_false_iff_not]; intro e; exact hl (by rw [e])
    rw [h1, cond_true, h2]

end Go.Wk
