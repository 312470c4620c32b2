/-
  Plain law: DiscriminationTable. No program in sight. Our own work.
-/
import Derived.Test.YtbhegklilcpbmaaDoorLawDisc
import Derived.Test.YtbhegklilcpbmaaDoorLawEnd
import Derived.Test.YtbhegklilcpbmaaDoorPlainD
namespace Go.Wk
open Go Go.RowKit

theorem disc_table {e f : GMask} (he : MaskOk e) (hf : MaskOk f) {r c first : Int} (hr : 1 ≤ r ∧ r ≤ 100000) (hc : 1 ≤ c ∧ c ≤ 10) (hfirst : -1000000 ≤ first ∧ first ≤ 1000000) :
    ∀ (n k : Nat) (most : Int) (out : List Int), (k : Int) + n = c → out.length = k → 0 ≤ most → most ≤ 2000000 → ∃ t : List Int, t.length ≤ 10 ∧
      loopM (fun s : (Int × Int × (List Int)) => m_spec_DiscriminationTable_B17 e f r c first s.1 s.2.1 s.2.2) (most, (k : Int), out) = some t ∧
      loopM (fun s : (Int × Int × (List Int)) => m_impl_DiscriminationTable_B16 e f r c first s.1 s.2.1 s.2.2) (first + most, (k : Int), out) = some t := by
  intro n
  induction n with
  | zero =>
    intro k most out hk hl h0 h1
    refine ⟨out, by omega, loopM_inr ?_, loopM_inr ?_⟩
    · simp only [m_spec_DiscriminationTable_B17]; rw [decide_eq_false (by omega)]; rfl
    · simp only [m_impl_DiscriminationTable_B16]; rw [decide_eq_false (by omega)]; rfl
  | succ n ih =>
    intro k most out hk hl h0 h1
    have p0 : 0 ≤ (k : Int) * r := Int.mul_nonneg (by omega) (by omega)
    have p1 : (k : Int) * r ≤ 10 * 100000 := Int.mul_le_mul (by omega) (by omega) (by omega) (by omega)
    obtain ⟨v, v0, v1, vs, vi⟩ := disc_both he hf (s := (k : Int) * r) (by omega)
    have ew : w64 ((k : Int) * r) = (k : Int) * r := w64_id (by omega) (by omega)
    have ed : w64 (v - first) = v - first := w64_id (by omega) (by omega)
    obtain ⟨m2, hm2⟩ : ∃ m2 : Int, m2 = if v - first < most then most else v - first := ⟨_, rfl⟩
    have hm2b : 0 ≤ m2 ∧ m2 ≤ 2000000 := by rw [hm2]; split <;> omega
    have es : m_spec_l00Max most (v - first) = some m2 := by
      unfold m_spec_l00Max
      rw [hm2]
      by_cases c : v - first < most
      · rw [decide_eq_true c, if_pos c]; rfl
      · rw [decide_eq_false c, if_neg c]; rfl
    have eg : (if v > first + most then v else first + most) = first + m2 := by rw [hm2]; split <;> split <;> omega
    have ex : (if (0 : Int) > w64 (first + m2 - first) then (0 : Int) else w64 (first + m2 - first)) = m2 := by
      rw [w64_id (by omega) (by omega), if_neg (by omega)]; omega
    have ea : appL 8 out [m2] = some (out ++ [m2]) := appL_of (by rw [List.length_singleton]; omega)
    obtain ⟨t, t0, t1, t2⟩ := ih (k + 1) m2 (out ++ [m2]) (by omega) (by rw [List.length_append, List.length_singleton, hl]) hm2b.1 hm2b.2
    refine ⟨t, t0, ?_, ?_⟩
    · rw [loopM_inl (s' := (m2, ((k + 1 : Nat) : Int), out ++ [m2])) (by
        simp only [m_spec_DiscriminationTable_B17]
        rw [decide_eq_true (by omega), cond_true, ew, vs, Option.bind_some, ed, es, Option.bind_some, ea, Option.bind_some, w64_id (by omega) (by omega)]
        rfl)]
      exact t1
    · rw [loopM_inl (s' := (first + m2, ((k + 1 : Nat) : Int), out ++ [m2])) (by
        simp only [m_impl_DiscriminationTable_B16]
        rw [decide_eq_true (by omega), cond_true, ew, vi, Option.bind_some, eg, ex, ea, Option.bind_some, w64_id (by omega) (by omega)]
        rfl)]
      exact t2
theorem table_same (e f : GMask) (he : FitsMask e) (hf : FitsMask f) (r c : Int) : ∃ (t : List Int) (code : Int), t.length ≤ 10 ∧ m_spec_DiscriminationTable e f r c = some (t, code) ∧ m_impl_DiscriminationTable e f r c = some (t, code) := by
  unfold m_spec_DiscriminationTable m_impl_DiscriminationTable
  rw [askSpec2 e f he hf, askImpl2 e f he hf]
  simp only [Option.bind_some, in_eq, within_eq]
  cases hm : (mOk e && mOk f)
  · exact ⟨[], 1, by simp, rfl, rfl⟩
  · simp only [Bool.and_eq_true] at hm
    simp only [Bool.not_true, cond_false]
    by_cases hr : 1 ≤ r ∧ r ≤ 100000
    · by_cases hc : 1 ≤ c ∧ c ≤ 10
      · obtain ⟨first, f0, f1, fs, fi⟩ := disc_both (mOk_true hm.1) (mOk_true hm.2) (s := 0) (by omega)
        obtain ⟨t, t0, t1, t2⟩ := disc_table (mOk_true hm.1) (mOk_true hm.2) hr hc ⟨f0, f1⟩ c.toNat 0 0 [] (by omega) rfl (by omega) (by omega)
        rw [Int.add_zero] at t2
        have t1' : loopM (fun s : (Int × Int × (List Int)) => m_spec_DiscriminationTable_B17 e f r c first s.1 s.2.1 s.2.2) ((0 : Int), (0 : Int), ([] : List Int)) = some t := t1
        have t2' : loopM (fun s : (Int × Int × (List Int)) => m_impl_DiscriminationTable_B16 e f r c first s.1 s.2.1 s.2.2) (first, (0 : Int), ([] : List Int)) = some t := t2
        simp only [decide_eq_true hr, decide_eq_true hc, Bool.not_true, cond_false, Option.bind_some, fs, fi, t1', t2']
        exact ⟨t, 0, t0, rfl, rfl⟩
      · simp only [decide_eq_true hr, decide_eq_false hc, Bool.not_true, Bool.not_false, cond_false, cond_true, Option.bind_some]
        exact ⟨[], 2, by simp, rfl, rfl⟩
    · simp only [decide_eq_false hr, Bool.not_false, cond_true, Option.bind_some]
      exact ⟨[], 2, by simp, rfl, rfl⟩

theorem markMask_eq {m : GMask} (h : FitsMask m) (k : Int) (h0 : 0 ≤ k) (h1 : k ≤ 10000000) : m_laws_markMask m k = some (k + (m.Offsets.length : Int) + (m.Losses.length : Int), markL m.Offsets.length k, markL m.Losses.length (k + (m.Offsets.length : Int))) := by
  have ho := h.1
  have hl := h.2
  unfold m_laws_markMask
  rw [markInt64S_eq _ _ h0 (by omega), Option.bind_some, markInt64S_eq _ _ (by omega) (by omega)]
  rfl
theorem law_FnExactDiscriminationTable (e f : GMask) (r c : Int) (ke : okGMask e) (kf : okGMask f) (_kr : (Lit.int .i64 r).wf = true) (_kc : (Lit.int .i64 c).wf = true) : m_laws_FnExactDiscriminationTable e f r c = some true := by
  unfold m_laws_FnExactDiscriminationTable
  obtain ⟨q, hq, hd⟩ := szMask_eq e ke 1048576 (by omega) (by omega)
  rw [hq, Option.bind_some]
  rcases hd with hd | ⟨hd, hd2, he⟩
  · rw [decide_eq_true hd]; rfl
  rw [decide_eq_false (by omega), cond_false]
  obtain ⟨q2, hq2, hg⟩ := szMask_eq f kf q hd hd2
  rw [hq2, Option.bind_some]
  rcases hg with hg | ⟨hg, hg2, hf⟩
  · rw [decide_eq_true hg]; rfl
  rw [decide_eq_false (by omega), cond_false]
  obtain ⟨t, code, t0, e1, e2⟩ := table_same e f he hf r c
  have a1 := he.1
  have a2 := he.2
  have a3 := hf.1
  have a4 := hf.2
  have m1 := markMask_eq he 1 (by omega) (by omega)
  have m2 := markMask_eq hf (1 + (e.Offsets.length : Int) + (e.Losses.length : Int)) (by omega) (by omega)
  have n0 : decide (1 + (e.Offsets.length : Int) + (e.Losses.length : Int) + (f.Offsets.length : Int) + (f.Losses.length : Int) < 0) = false := by rw [decide_eq_false_iff_not]; omega
  simp only [toMask_eq he, toMask_eq hf, eqMask_self he, eqMask_self hf, e1, e2, Option.bind_some, eq_len t (by omega), m1, m2, n0, mark_len t (by omega), held_len t (by omega), pos_len, bne_self, cond_false, Bool.not_true]
end Go.Wk
