/-
  Plain law: BandNamed. No program in sight. Our own work.
-/
import Derived.Test.YtdilkjbhbglpbaaLawBandS
namespace Go.Wk
open Go Go.RowKit

theorem find_at (l : List GBand) (hl : l.length ≤ 1048576) (name : ByteArray) : m_spec_l15Find l name = some (match l.findIdx? (fun b => b.Name.toList == name.toList) with | some k => (k : Int) | none => -1) := by
  unfold m_spec_l15Find
  exact find_list l (by omega) (fun b => some (b.Name.toList == name.toList)) (fun b => b.Name.toList == name.toList) (fun _ _ => rfl) (fun k => k) (-1)
theorem named_at (l : List GBand) (hl : l.length ≤ 1048576) (name : ByteArray) : m_impl_bandNamed l name = some (match l.findIdx? (fun b => b.Name.toList == name.toList) with | some k => (k : Int) | none => -1) := by
  unfold m_impl_bandNamed m_slices_IndexFunc_impl_Band_impl_Band
  have := find_list l (by omega) (fun b => m_impl_bandNamed_1 b name) (fun b => b.Name.toList == name.toList) (fun _ _ => rfl) (fun k => k) (-1)
  exact (congrArg (fun o => Option.bind o fun x => some x) this).trans rfl

theorem law_FnExactBandNamed (l : List GBand) (name : ByteArray) (k : l.length ≤ maxLen ∧ ∀ x ∈ l, okGBand x) (_ : name.size ≤ maxLen) : m_laws_FnExactBandNamed l name = some true := by
  unfold m_laws_FnExactBandNamed
  cases decide ((1048576 : Int) < (name.size : Int)) with
  | true => rfl
  | false =>
  rw [cond_false]
  obtain ⟨r, hr, hc⟩ := szBandS_eq l 1048576 (by omega) (by omega) k.1 k.2
  rw [hr, Option.bind_some]
  rcases hc with hc | ⟨h1, _, h2, _⟩
  · rw [decide_eq_true hc]; rfl
  rw [lt_false (by omega), cond_false]
  have e : ∃ b c, m_spec_BandNamed l name = some (b, c) ∧ m_impl_BandNamed l name = some (b, c) := by
    unfold m_spec_BandNamed m_impl_BandNamed
    simp only [specList_eq l h2, implList_eq l h2, find_at l h2, named_at l h2, Option.bind_some]
    cases bandsOk l with
    | false => exact ⟨_, _, rfl, rfl⟩
    | true =>
      simp only [Bool.not_true, cond_false]
      cases hf : l.findIdx? (fun b => b.Name.toList == name.toList) with
      | none => exact ⟨_, _, rfl, rfl⟩
      | some j =>
        have hj : j < l.length := (List.findIdx?_eq_some_iff_getElem.1 hf).1
        simp only [lt_false (show ¬ ((j : Int) < 0) by omega), cond_false, idx_lt_nat hj, Option.bind_some]
        exact ⟨_, _, rfl, rfl⟩
  obtain ⟨b, c, e1, e2⟩ := e
  simp only [toBandS_eq l h2, Option.bind_some, e1, e2, eqBand_eq, decide_true, Bool.not_true, cond_false, bne_self, eqBandS_eq l l h2]
end Go.Wk
