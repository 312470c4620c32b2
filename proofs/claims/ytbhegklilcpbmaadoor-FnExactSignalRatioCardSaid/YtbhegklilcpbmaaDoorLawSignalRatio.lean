/-
  Plain law: SignalRatio. No program in sight. Our own work.
-/
import Derived.Test.YtbhegklilcpbmaaDoorLawSig
namespace Go.Wk
open Go Go.RowKit

theorem signal_same {L C T : List Int} (hL : L.length ≤ 1048576) (hC : C.length ≤ 1048576) (hT : T.length ≤ 1048576) (s : Int) : ∃ v c, m_spec_SignalRatio L C T s = some (v, c) ∧ m_impl_SignalRatio L C T s = some (v, c) := by
  unfold m_spec_SignalRatio m_impl_SignalRatio m_impl_indexValid_int64
  simp only [rowSpec_eq L hL, rowImpl_eq L hL, chSpec_eq C hC, chImpl_eq C hC, tabSpec_eq T hT, tabImpl_eq T hT, Option.bind_some, in_eq, within_eq]
  cases h1 : rowOkN L
  · exact ⟨0, 1, rfl, rfl⟩
  cases h2 : chansOk C L.length
  · cases h3 : tabOk T <;> exact ⟨0, 1, rfl, rfl⟩
  cases h3 : tabOk T
  · exact ⟨0, 1, rfl, rfl⟩
  have hl := (row_get h1).1
  have hc := chans_get h2
  rw [w64_id (by omega) (by omega)]
  by_cases hs : 0 ≤ s ∧ s ≤ (L.length : Int) - 1
  · obtain ⟨k, rfl⟩ := Int.eq_ofNat_of_zero_le hs.1
    have hk : k < L.length := by omega
    rw [decide_eq_true hs, idx_getD 0 (show k < C.length by omega)]
    simp only [Bool.not_true, cond_false, Option.bind_some]
    by_cases hn : C.getD k 0 < 0
    · rw [decide_eq_true hn]; exact ⟨0, 6, rfl, rfl⟩
    · rw [decide_eq_false hn]
      obtain ⟨v, _, _, vs, vi⟩ := ratio_both h1 h2 h3 hk
      rw [vs, vi]
      exact ⟨v, 0, rfl, rfl⟩
  · rw [decide_eq_false hs]; exact ⟨0, 2, rfl, rfl⟩
theorem law_FnExactSignalRatio (L C T : List Int) (s : Int) : m_laws_FnExactSignalRatio L C T s = some true := by
  unfold m_laws_FnExactSignalRatio
  by_cases h1 : (1048576 : Int) < (L.length : Int)
  · rw [decide_eq_true h1]; rfl
  by_cases h2 : (1048576 : Int) < (C.length : Int)
  · rw [decide_eq_false h1, decide_eq_true h2]; rfl
  by_cases h3 : (1048576 : Int) < (T.length : Int)
  · rw [decide_eq_false h1, decide_eq_false h2, decide_eq_true h3]; rfl
  obtain ⟨v, c, e1, e2⟩ := signal_same (L := L) (C := C) (T := T) (by omega) (by omega) (by omega) s
  simp only [decide_eq_false h1, decide_eq_false h2, decide_eq_false h3, cond_false, toInt64S_eq L (by omega), toInt64S_eq C (by omega), toInt64S_eq T (by omega), Option.bind_some, e1, e2, bne_self, eqInt64S_eq L L (by omega), eqInt64S_eq C C (by omega), eqInt64S_eq T T (by omega), decide_true, Bool.not_true]
end Go.Wk
