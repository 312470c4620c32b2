/-
  Plain laws: IndexFunc and ContainsFunc over slices of slices. No program in sight. Our own work.
-/
import Derived.Test.YtfadnbelnfofbaaLawWithin
namespace Go.Wk
open Go Go.RowKit

theorem indexFuncS_eq (l : List (List Int)) (f : List Int → Option Bool) (p : List Int → Bool) (hf : ∀ x ∈ l, f x = some (p x)) (hl : l.length ≤ 9223372036854775806) : m_slices_IndexFunc_SSint64_int64 l f = some (match l.findIdx? p with | some k => (k : Int) | none => -1) := by
  unfold m_slices_IndexFunc_SSint64_int64
  refine first_loop l _ p (fun k => (k : Int)) (-1) (fun k hk => ?_) ?_
  · simp only [m_slices_IndexFunc_SSint64_int64_B1, lt_true hk, cond_true, idx_lt_nat hk, Option.bind_some, hf _ (List.getElem_mem hk)]
    rw [w64_id (by omega) (by omega)]
    cases p l[k] <;> rfl
  · simp only [m_slices_IndexFunc_SSint64_int64_B1, lt_self, cond_false, Option.map_some]
theorem containsFuncS_eq (l : List (List Int)) (f : List Int → Option Bool) (p : List Int → Bool) (hf : ∀ x ∈ l, f x = some (p x)) (hl : l.length ≤ 9223372036854775806) : m_slices_ContainsFunc_SSint64_int64 l f = some (l.any p) := by
  unfold m_slices_ContainsFunc_SSint64_int64
  rw [indexFuncS_eq l f p hf hl, Option.bind_some]
  congr 1
  cases h : l.findIdx? p with
  | none =>
    rw [List.findIdx?_eq_none_iff] at h
    have : l.any p = false := by rw [List.any_eq_false]; intro x hx; simp [h x hx]
    rw [this]; rfl
  | some k =>
    rw [List.findIdx?_eq_some_iff_getElem] at h
    obtain ⟨hk, hp, _⟩ := h
    have : l.any p = true := by rw [List.any_eq_true]; exact ⟨l[k], List.getElem_mem hk, hp⟩
    rw [this]
    simp
end Go.Wk
