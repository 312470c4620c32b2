/-
  Plain laws: copying and comparing slices of int64; ChangesBetween. No program in sight. Our own work.
-/
import Derived.Test.YtbogkiihgejbnaaPlain
import Derived.Test.YtbogkiihgejbnaaMod
namespace Go.Wk
open Go Go.RowKit

theorem mkL_len {α : Type} {bytes n : Nat} (z : α) (h : n * bytes ≤ 140737488355328) : mkL bytes (n : Int) z = some (List.replicate n z) := by
  unfold mkL
  rw [if_pos ⟨by omega, by have : ((n * bytes : Nat) : Int) = (n : Int) * bytes := by simp
                           omega⟩]
  simp

theorem toInt64S_eq (l : List Int) (h : l.length ≤ 1048576) : m_laws_toInt64S l = some l := by
  unfold m_laws_toInt64S
  rw [mkL_len _ (by omega), Option.bind_some]
  have := to_gen some l 0 (by omega) (fun _ _ => rfl)
  exact (congrArg (fun o => Option.bind o fun x => some x) this).trans rfl

theorem eqInt64S_eq (a b : List Int) (h : a.length ≤ 9223372036854775806) : m_laws_eqInt64S a b = some (decide (a = b)) := by
  unfold m_laws_eqInt64S
  by_cases hl : a.length = b.length
  · have h1 : ((a.length : Int) != (b.length : Int)) = false := by simp [hl]
    rw [h1, cond_false]
    have := eq_gen (fun x y => some (decide (x = y))) a b h hl (fun _ _ _ _ => rfl)
    rw [← this]
    congr 1
  · have h1 : ((a.length : Int) != (b.length : Int)) = true := by simp; omega
    have h2 : decide (a = b) = false := by simp only [decide_eq_false_iff_not]; intro e; exact hl (by rw [e])
    rw [h1, cond_true, h2]

/-- Both count where two slices part. -/
theorem changes_same (a b : List Int) : m_impl_ChangesBetween a b = m_spec_ChangesBetween a b := rfl
def parts : List Int → List Int → Int
  | x :: a, y :: b => (if x = y then 0 else 1) + parts a b
  | _, _ => 0
theorem parts_le : ∀ (a b : List Int), 0 ≤ parts a b ∧ parts a b ≤ a.length
  | [], _ => by simp [parts]
  | _ :: _, [] => by simp [parts]; omega
  | x :: a, y :: b => by
    have := parts_le a b
    simp only [parts, List.length_cons]
    split <;> omega
theorem parts_snoc : ∀ (a b : List Int) (k : Nat) (h1 : k < a.length) (h2 : k < b.length), parts (a.take (k + 1)) (b.take (k + 1)) = parts (a.take k) (b.take k) + if a[k] = b[k] then 0 else 1
  | x :: a, y :: b, 0, _, _ => by simp [parts]
  | x :: a, y :: b, k + 1, h1, h2 => by
    have := parts_snoc a b k (by simpa using h1) (by simpa using h2)
    simp only [List.take_succ_cons, parts, this, List.getElem_cons_succ]
    omega
  | [], _, _, h1, _ => by simp at h1
  | _ :: _, [], _, _, h2 => by simp at h2

theorem changes_eq (a b : List Int) (h : a.length ≤ 1048576) : ∃ r, m_spec_ChangesBetween a b = some r := by
  unfold m_spec_ChangesBetween
  by_cases hl : a.length = b.length
  · have h1 : ((a.length : Int) != (b.length : Int)) = false := by simp [hl]
    rw [h1, cond_false]
    refine ⟨parts a b, ?_⟩
    have := loop_for (body := fun s : Int × Int => m_spec_ChangesBetween_B2 a b s.1 s.2) (r := parts a b) a.length (fun k => (parts (a.take k) (b.take k), (k : Int))) (fun k hk => ?_) ?_
    · simp only [List.take_zero, parts] at this
      have e : ((0 : Int), ((0 : Nat) : Int)) = ((0 : Int), (0 : Int)) := rfl
      rw [e] at this
      rw [this]; rfl
    · have hk2 : k < b.length := by omega
      have hlt : decide ((k : Int) < (a.length : Int)) = true := by simpa using hk
      have hb := parts_le (a.take k) (b.take k)
      have hb2 : (a.take k).length ≤ k := by simp; omega
      simp only [m_spec_ChangesBetween_B2, hlt, cond_true, idx_lt_nat hk, idx_lt_nat hk2, Option.bind_some]
      rw [parts_snoc a b k hk hk2]
      by_cases he : a[k] = b[k]
      · have : (a[k] != b[k]) = false := by simp [he]
        rw [this, cond_false, Option.bind_some, w64_id (by omega) (by omega), if_pos he]
        simp
      · have : (a[k] != b[k]) = true := by simp [he]
        rw [this, cond_true, Option.bind_some, w64_id (by omega) (by omega), w64_id (by omega) (by omega), if_neg he]
        rfl
    · have hlt : decide ((a.length : Int) < (a.length : Int)) = false := by simp
      simp only [m_spec_ChangesBetween_B2, hlt, cond_false, List.take_length]
      rw [List.take_of_length_le (by omega)]
      rfl
  · have h1 : ((a.length : Int) != (b.length : Int)) = true := by simp; omega
    rw [h1, cond_true]
    exact ⟨_, rfl⟩

theorem law_FnExactChangesBetween (a b : List Int) : m_laws_FnExactChangesBetween a b = some true := by
  unfold m_laws_FnExactChangesBetween
  by_cases h1 : (1048576 : Int) < (a.length : Int)
  · rw [decide_eq_true h1]; rfl
  by_cases h2 : (1048576 : Int) < (b.length : Int)
  · rw [decide_eq_false h1, decide_eq_true h2]; rfl
  have ha := toInt64S_eq a (by omega)
  have hb := toInt64S_eq b (by omega)
  obtain ⟨r, hr⟩ := changes_eq a b (by omega)
  rw [decide_eq_false h1, decide_eq_false h2]
  simp only [cond_false, ha, hb, Option.bind_some, changes_same, hr, bne_self_eq_false, eqInt64S_eq a a (by omega), eqInt64S_eq b b (by omega), decide_true, Bool.not_true]
end Go.Wk
