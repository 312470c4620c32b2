/-
  Plain laws: lists of outages. No program in sight. Our own work.
-/
import Derived.Test.YtdilkjbhbglpbaaLawWithin
namespace Go.Wk
open Go Go.RowKit

def outOk (l : List Int) : Bool := l.all fun x => decide ((0 : Int) ≤ x ∧ x ≤ 1000000)
def outCode (l : List Int) : Int := if 64 < l.length then 5 else if outOk l then 0 else 2

theorem askSpec_eq (l : List Int) : m_spec_l13Ask l = some (outCode l) := by
  unfold m_spec_l13Ask outCode
  by_cases h : 64 < l.length
  · have h' : (64 : Int) < (l.length : Int) := by omega
    rw [decide_eq_true h', if_pos h]; rfl
  · have h' : ¬ (64 : Int) < (l.length : Int) := by omega
    rw [decide_eq_false h', if_neg h, cond_false]
    have := first_loop l (fun s : Int => m_spec_l13Ask_B1 l s) (fun x => !decide ((0 : Int) ≤ x ∧ x ≤ 1000000)) (fun _ => (2 : Int)) 0 (fun k hk => ?_) ?_
    · rw [this]
      congr 1
      unfold outOk
      cases hf : l.findIdx? (fun x => !decide ((0 : Int) ≤ x ∧ x ≤ 1000000)) with
      | none =>
        rw [List.findIdx?_eq_none_iff] at hf
        rw [if_pos (by rw [List.all_eq_true]; intro x hx; simpa using hf x hx)]
      | some k =>
        rw [List.findIdx?_eq_some_iff_getElem] at hf
        obtain ⟨hk, hp, _⟩ := hf
        rw [if_neg]
        rw [Bool.not_eq_true, List.all_eq_false]
        exact ⟨l[k], List.getElem_mem hk, fun hc => by rw [hc] at hp; simp at hp⟩
    · simp only [m_spec_l13Ask_B1, lt_true hk, cond_true, idx_lt_nat hk, Option.bind_some, m_spec_l13Outage, in_eq]
      rw [w64_id (by omega) (by omega)]
      cases decide ((0 : Int) ≤ l[k] ∧ l[k] ≤ 1000000) <;> rfl
    · simp only [m_spec_l13Ask_B1, lt_self, cond_false, Option.map_some]
theorem codeImpl_eq (l : List Int) : m_impl_outagesCode l = some (outCode l) := by
  unfold m_impl_outagesCode outCode
  by_cases h : 64 < l.length
  · have h' : (64 : Int) < (l.length : Int) := by omega
    rw [decide_eq_true h', if_pos h]; rfl
  · have h' : ¬ (64 : Int) < (l.length : Int) := by omega
    rw [decide_eq_false h', if_neg h, cond_false, allWithin_eq l _ _ (by omega), Option.bind_some]
    show _ = some (if outOk l = true then _ else _)
    have : (l.all fun x => decide ((0 : Int) ≤ x ∧ x ≤ 1000000)) = outOk l := rfl
    rw [this]
    cases outOk l <;> rfl
theorem outCode_zero {l : List Int} (h : outCode l = 0) : l.length ≤ 64 ∧ ∀ (k : Nat) (hk : k < l.length), 0 ≤ l[k] ∧ l[k] ≤ 1000000 := by
  unfold outCode at h
  split at h
  · simp at h
  · split at h
    · rename_i h1 h2
      refine ⟨by omega, fun k hk => ?_⟩
      unfold outOk at h2
      rw [List.all_eq_true] at h2
      simpa using h2 _ (List.getElem_mem hk)
    · simp at h
end Go.Wk
