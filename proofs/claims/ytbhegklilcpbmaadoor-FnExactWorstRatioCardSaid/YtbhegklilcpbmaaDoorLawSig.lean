/-
  Plain laws: the ratio of a signal to the sum of the others. No program in sight. Our own work.
-/
import Derived.Test.YtbhegklilcpbmaaDoorLawRows
import Derived.Test.YtbhegklilcpbmaaDoorLawTabOk
import Derived.Test.YtbhegklilcpbmaaDoorLawMax
import Derived.Test.YtbhegklilcpbmaaDoorLawPart
import Derived.Test.YtbhegklilcpbmaaDoorLawTable
import Derived.Test.YtbhegklilcpbmaaDoorPlainD
namespace Go.Wk
open Go Go.RowKit

/-! ### what is asked of channels -/
def chansOk (l : List Int) (n : Nat) : Bool := (l.all fun x => decide ((-1 : Int) ≤ x ∧ x ≤ 999)) && decide (l.length = n)
theorem chSpec_eq (l : List Int) (hl : l.length ≤ 1048576) (n : Nat) : m_spec_l16Channels l (n : Int) = some (chansOk l n) := by
  unfold m_spec_l16Channels chansOk
  have key := all_loop_g l.length (fun s : Int => m_spec_l16Channels_B1 l (n : Int) s) (fun k => decide ((-1 : Int) ≤ l.getD k 0 ∧ l.getD k 0 ≤ 999)) (decide (l.length = n)) false 0 (by omega) (fun j h => absurd h (by omega)) (fun k _ hk hp => ?_) (fun _ => ?_)
  · rw [all_range_get l 0 (fun x => decide ((-1 : Int) ≤ x ∧ x ≤ 999))] at key
    refine key.trans ?_
    cases (l.all fun x => decide ((-1 : Int) ≤ x ∧ x ≤ 999)) <;> cases decide (l.length = n) <;> rfl
  · simp only [m_spec_l16Channels_B1, lt_true hk, cond_true, idx_getD 0 hk, Option.bind_some, in_eq]
    rw [w64_id (n := (k : Int) + 1) (by omega) (by omega)]
    cases decide ((-1 : Int) ≤ l.getD k 0 ∧ l.getD k 0 ≤ 999) <;> rfl
  · simp only [m_spec_l16Channels_B1, lt_self, cond_false, Option.map_some]
    congr 2; rw [Bool.eq_iff_iff]; simp only [beq_iff_eq, decide_eq_true_eq]; omega
theorem chImpl_eq (l : List Int) (hl : l.length ≤ 1048576) (n : Nat) : m_impl_channelsOk l (n : Int) = some (chansOk l n) := by
  unfold m_impl_channelsOk chansOk
  rw [allWithin_eq _ _ _ (by omega)]
  by_cases h : l.length = n
  · have e : ((l.length : Int) == (n : Int)) = true := by simp [h]
    rw [e, decide_eq_true h, Bool.and_true]; rfl
  · have e : ((l.length : Int) == (n : Int)) = false := by simp; omega
    rw [e, decide_eq_false h, Bool.and_false]; rfl
theorem chans_get {l : List Int} {n : Nat} (h : chansOk l n = true) : l.length = n ∧ ∀ k, k < l.length → -1 ≤ l.getD k 0 ∧ l.getD k 0 ≤ 999 := by
  unfold chansOk at h
  rw [Bool.and_eq_true, decide_eq_true_eq, List.all_eq_true] at h
  refine ⟨h.2, fun k hk => ?_⟩
  have := h.1 (l.getD k 0) (by rw [getD_lt 0 hk]; exact List.getElem_mem _)
  rwa [decide_eq_true_eq] at this
theorem row_get {l : List Int} (h : rowOkN l = true) : (1 ≤ l.length ∧ l.length ≤ 24) ∧ ∀ k, k < l.length → -300000 ≤ l.getD k 0 ∧ l.getD k 0 ≤ 300000 := by
  unfold rowOkN at h
  rw [Bool.and_eq_true, decide_eq_true_eq, List.all_eq_true] at h
  refine ⟨h.1, fun k hk => ?_⟩
  have := h.2 (l.getD k 0) (by rw [getD_lt 0 hk]; exact List.getElem_mem _)
  rwa [decide_eq_true_eq] at this
theorem tab_get {l : List Int} (h : tabOk l = true) : (1 ≤ l.length ∧ l.length ≤ 64) ∧ ∀ k, k < l.length → 0 ≤ l.getD k 0 ∧ l.getD k 0 ≤ 120000 := by
  unfold tabOk at h
  simp only [Bool.and_eq_true, decide_eq_true_eq, List.all_eq_true] at h
  exact ⟨h.1.1, fun k hk => h.2.2 (l.getD k 0) (by rw [getD_lt 0 hk]; exact List.getElem_mem _)⟩

/-! ### sums of powers -/
theorem max_spec (l : List Int) (hl : l.length ≤ 1048576) : ∀ (n k : Nat) (v : Int), k + n = l.length → v ∈ l → (∀ j (h : j < l.length), j < k → l[j] ≤ v) → ∃ m, loopM (fun s : (Int × Int) => m_spec_l02Sum_B3 l s.1 s.2) (v, (k : Int)) = some m ∧ m ∈ l ∧ ∀ x ∈ l, x ≤ m := by
  intro n
  induction n with
  | zero =>
    intro k v hk hv hm
    refine ⟨v, loopM_inr ?_, hv, fun x hx => ?_⟩
    · simp only [m_spec_l02Sum_B3]; rw [decide_eq_false (by omega)]; rfl
    · obtain ⟨j, hj, rfl⟩ := List.getElem_of_mem hx
      exact hm j hj (by omega)
  | succ n ih =>
    intro k v hk hv hm
    have hkl : k < l.length := by omega
    have es : ∀ a b : Int, m_spec_l00Max a b = some (if b < a then a else b) := fun a b => by
      unfold m_spec_l00Max
      by_cases h : b < a
      · rw [decide_eq_true h, if_pos h]; rfl
      · rw [decide_eq_false h, if_neg h]; rfl
    obtain ⟨m, h1, h2, h3⟩ := ih (k + 1) (if l[k] < v then v else l[k]) (by omega) (by split; exact hv; exact List.getElem_mem _) (fun j hj hjk => by
      by_cases e : j = k
      · subst e; split <;> omega
      · have := hm j hj (by omega); split <;> omega)
    refine ⟨m, ?_, h2, h3⟩
    rw [loopM_inl (s' := ((if l[k] < v then v else l[k]), ((k + 1 : Nat) : Int))) (by
      simp only [m_spec_l02Sum_B3, lt_true hkl, cond_true, idx_lt_nat hkl, Option.bind_some, es]
      rw [w64_id (by omega) (by omega)]; rfl)]
    exact h1
theorem sum_both {l : List Int} (h0 : 0 < l.length) (hl : l.length ≤ 24) (hx : ∀ x ∈ l, -300000 ≤ x ∧ x ≤ 300000) : ∃ v, -1000000 ≤ v ∧ v ≤ 1000000 ∧ m_spec_l02Sum l = some v ∧ m_impl_sumDb l = some v := by
  obtain ⟨m, m1, m2, m3⟩ := maxL_eq l h0 (by omega)
  obtain ⟨m', p1, p2, p3⟩ := max_spec l (by omega) (l.length - 1) 1 l[0] (by omega) (List.getElem_mem _) (fun j hj hj1 => by cases j with | zero => exact Int.le_refl _ | succ j => omega)
  have em : m' = m := by have a := m3 m' p2; have b := p3 m m2; omega
  subst em
  have hmb := hx m' p2
  have key : ∀ (n k a : Nat), k + n = l.length → a ≤ k * 1000000000 → ∃ a' : Nat, a' ≤ 24000000000 ∧
      loopM (fun s : (Int × Int) => m_spec_l02Sum_B11 l m' s.1 s.2) ((a : Int), (k : Int)) = some (a' : Int) ∧ loopM (fun s : (Int × Int) => m_impl_sumDb_B3 l m' s.1 s.2) ((a : Int), (k : Int)) = some (a' : Int) := by
    intro n
    induction n with
    | zero =>
      intro k a hk ha
      refine ⟨a, by omega, loopM_inr ?_, loopM_inr ?_⟩
      · simp only [m_spec_l02Sum_B11]; rw [decide_eq_false (by omega)]; rfl
      · simp only [m_impl_sumDb_B3]; rw [decide_eq_false (by omega)]; rfl
    | succ n ih =>
      intro k a hk ha
      have hkl : k < l.length := by omega
      have hb := hx l[k] (List.getElem_mem _)
      have hle := p3 l[k] (List.getElem_mem _)
      have ew : w64 (l[k] - m') = l[k] - m' := w64_id (by omega) (by omega)
      obtain ⟨q, q0, qs, qi⟩ := part_both (v := l[k] - m') (by omega) (by omega)
      obtain ⟨a', g1, g2, g3⟩ := ih (k + 1) (a + q) (by omega) (by omega)
      refine ⟨a', g1, ?_, ?_⟩
      · rw [loopM_inl (s' := (((a + q : Nat) : Int), ((k + 1 : Nat) : Int))) (by
          simp only [m_spec_l02Sum_B11, lt_true hkl, cond_true, idx_lt_nat hkl, Option.bind_some, ew, qs]
          rw [w64_id (by omega) (by omega), w64_id (by omega) (by omega)]; rfl)]
        exact g2
      · rw [loopM_inl (s' := (((a + q : Nat) : Int), ((k + 1 : Nat) : Int))) (by
          simp only [m_impl_sumDb_B3, lt_true hkl, cond_true, idx_lt_nat hkl, Option.bind_some, ew, qi]
          rw [w64_id (by omega) (by omega), w64_id (by omega) (by omega)]; rfl)]
        exact g3
  obtain ⟨a', g1, g2, g3⟩ := key l.length 0 0 (by omega) (by omega)
  have g2' : loopM (fun s : (Int × Int) => m_spec_l02Sum_B11 l m' s.1 s.2) ((0 : Int), (0 : Int)) = some (a' : Int) := g2
  have g3' : loopM (fun s : (Int × Int) => m_impl_sumDb_B3 l m' s.1 s.2) ((0 : Int), (0 : Int)) = some (a' : Int) := g3
  have la := (lg_bounds a').1
  have na := nd_le (u := a') (k := 11) (by omega) (by omega)
  have i0 : idx l (0 : Int) = some l[0] := idx_lt_nat (k := 0) h0
  have p1' : loopM (fun s : (Int × Int) => m_spec_l02Sum_B3 l s.1 s.2) (l[0], (1 : Int)) = some m' := p1
  have ee : w64 (w64 (m' - 90000) + (lg a' : Int)) = m' - 90000 + (lg a' : Int) := by rw [w64_id (n := m' - 90000) (by omega) (by omega), w64_id (by omega) (by omega)]
  refine ⟨m' - 90000 + (lg a' : Int), by omega, by omega, ?_, ?_⟩
  · unfold m_spec_l02Sum
    rw [i0, Option.bind_some, p1', Option.bind_some, g2', Option.bind_some, specLog (by omega), Option.bind_some, ee]
  · unfold m_impl_sumDb
    rw [m1, Option.bind_some, g3', Option.bind_some, implLog (by omega), Option.bind_some, ee]

/-! ### the ratio -/
theorem others_both {L C T : List Int} {s : Nat} (hL : rowOkN L = true) (hC : chansOk C L.length = true) (hT : tabOk T = true) (hs : s < L.length) :
    ∀ (n k : Nat) (out : List Int), k + n = L.length → out.length ≤ k → (∀ x ∈ out, -300000 ≤ x ∧ x ≤ 300000) → ∃ r : List Int, r.length ≤ 24 ∧ (∀ x ∈ r, -300000 ≤ x ∧ x ≤ 300000) ∧
      loopM (fun q : (Int × (List Int)) => m_spec_l16Ratio_B4 L C T (s : Int) q.1 q.2) ((k : Int), out) = some r ∧ loopM (fun q : (Int × (List Int)) => m_impl_signalRatio_B3 L C T (s : Int) q.1 q.2) ((k : Int), out) = some r := by
  obtain ⟨hL1, hL2⟩ := row_get hL
  obtain ⟨hC1, hC2⟩ := chans_get hC
  obtain ⟨hT1, hT2⟩ := tab_get hT
  intro n
  induction n with
  | zero =>
    intro k out hk ho hx
    refine ⟨out, by omega, hx, loopM_inr ?_, loopM_inr ?_⟩
    · simp only [m_spec_l16Ratio_B4]; rw [decide_eq_false (by omega)]; rfl
    · simp only [m_impl_signalRatio_B3]; rw [decide_eq_false (by omega)]; rfl
  | succ n ih =>
    intro k out hk ho hx
    have hkl : k < L.length := by omega
    have hkc : k < C.length := by omega
    have hsc : s < C.length := by omega
    have b1 := hC2 k hkc
    have b2 := hC2 s hsc
    have b3 := hL2 k hkl
    obtain ⟨d, hd⟩ : ∃ d : Nat, (d : Int) = if C.getD k 0 - C.getD s 0 < 0 then -(C.getD k 0 - C.getD s 0) else C.getD k 0 - C.getD s 0 := ⟨(if C.getD k 0 - C.getD s 0 < 0 then -(C.getD k 0 - C.getD s 0) else C.getD k 0 - C.getD s 0).toNat, by split <;> omega⟩
    have hdb : d ≤ 1000 := by split at hd <;> omega
    have ea : m_impl_abs (w64 (C.getD k 0 - C.getD s 0)) = some (d : Int) := by rw [w64_id (by omega) (by omega), abs_eq _ (by omega), hd]
    have ep : m_spec_l16Apart (C.getD k 0) (C.getD s 0) = some (d : Int) := by
      unfold m_spec_l16Apart m_spec_l00Max
      rw [w64_id (n := C.getD k 0 - C.getD s 0) (by omega) (by omega), w64_id (n := C.getD s 0 - C.getD k 0) (by omega) (by omega), hd]
      by_cases c : C.getD s 0 - C.getD k 0 < C.getD k 0 - C.getD s 0
      · rw [decide_eq_true c, if_neg (by omega)]; rfl
      · rw [decide_eq_false c]
        show some (C.getD s 0 - C.getD k 0) = _
        congr 1; split <;> omega
    have ev : m_impl_indexValid_int64 T (d : Int) = some (decide (d < T.length)) := by
      unfold m_impl_indexValid_int64
      rw [w64_id (by omega) (by omega), within_eq, Option.bind_some]
      congr 1; rw [Bool.eq_iff_iff]; simp only [decide_eq_true_eq]; omega
    have nx := ih (k + 1)
    have sk : ∀ out', out'.length ≤ k + 1 → (∀ x ∈ out', -300000 ≤ x ∧ x ≤ 300000) →
        m_spec_l16Ratio_B4 L C T (s : Int) (k : Int) out = some (.inl (((k + 1 : Nat) : Int), out')) → m_impl_signalRatio_B3 L C T (s : Int) (k : Int) out = some (.inl (((k + 1 : Nat) : Int), out')) →
        ∃ r : List Int, r.length ≤ 24 ∧ (∀ x ∈ r, -300000 ≤ x ∧ x ≤ 300000) ∧
          loopM (fun q : (Int × (List Int)) => m_spec_l16Ratio_B4 L C T (s : Int) q.1 q.2) ((k : Int), out) = some r ∧ loopM (fun q : (Int × (List Int)) => m_impl_signalRatio_B3 L C T (s : Int) q.1 q.2) ((k : Int), out) = some r := by
      intro out' h1 h2 h3 h4
      obtain ⟨r, r1, r2, r3, r4⟩ := nx out' (by omega) h1 h2
      exact ⟨r, r1, r2, (loopM_inl h3).trans r3, (loopM_inl h4).trans r4⟩
    have ew : w64 ((k : Int) + 1) = ((k + 1 : Nat) : Int) := by rw [w64_id (by omega) (by omega)]; omega
    by_cases c1 : k = s
    · have e1 : ((k : Int) == (s : Int)) = true := by simp [c1]
      have e2 : ((k : Int) != (s : Int)) = false := by simp [c1]
      refine sk out (by omega) hx ?_ ?_
      · simp only [m_spec_l16Ratio_B4, lt_true hkl, cond_true, e1, Option.bind_some, ew]
      · simp only [m_impl_signalRatio_B3, lt_true hkl, cond_true, idx_getD 0 hkl, idx_getD 0 hkc, idx_getD 0 hsc, Option.bind_some, ea, e2, cond_false, ew]
    · have e1 : ((k : Int) == (s : Int)) = false := by simp; omega
      have e2 : ((k : Int) != (s : Int)) = true := by simp; omega
      by_cases c2 : C.getD k 0 < 0
      · refine sk out (by omega) hx ?_ ?_
        · simp only [m_spec_l16Ratio_B4, lt_true hkl, cond_true, e1, cond_false, idx_getD 0 hkc, Option.bind_some, decide_eq_true c2, ew]
        · simp only [m_impl_signalRatio_B3, lt_true hkl, cond_true, idx_getD 0 hkl, idx_getD 0 hkc, idx_getD 0 hsc, Option.bind_some, ea, e2, decide_eq_false (show ¬ (0 : Int) ≤ C.getD k 0 by omega), cond_false, ew]
      · by_cases c3 : d < T.length
        · have b4 := hT2 d c3
          have el : w64 (L.getD k 0 - T.getD d 0) = L.getD k 0 - T.getD d 0 := w64_id (by omega) (by omega)
          obtain ⟨y, hy⟩ : ∃ y : Int, y = if L.getD k 0 - T.getD d 0 < -300000 then -300000 else L.getD k 0 - T.getD d 0 := ⟨_, rfl⟩
          have hyb : -300000 ≤ y ∧ y ≤ 300000 := by rw [hy]; split <;> omega
          have es : m_spec_l00Max (-300000) (L.getD k 0 - T.getD d 0) = some y := by
            unfold m_spec_l00Max
            rw [hy]
            by_cases c : L.getD k 0 - T.getD d 0 < -300000
            · rw [decide_eq_true c, if_pos c]; rfl
            · rw [decide_eq_false c, if_neg c]; rfl
          have ei : (if (-300000 : Int) > L.getD k 0 - T.getD d 0 then (-300000 : Int) else L.getD k 0 - T.getD d 0) = y := by rw [hy]
          have eap : appL 8 out [y] = some (out ++ [y]) := appL_of (by rw [List.length_singleton]; omega)
          refine sk (out ++ [y]) (by rw [List.length_append, List.length_singleton]; omega) (fun x hx' => ?_) ?_ ?_
          · rcases List.mem_append.1 hx' with h | h
            · exact hx x h
            · rw [List.mem_singleton.1 h]; exact hyb
          · simp only [m_spec_l16Ratio_B4, lt_true hkl, cond_true, e1, cond_false, idx_getD 0 hkl, idx_getD 0 hkc, idx_getD 0 hsc, Option.bind_some, decide_eq_false c2, ep, lt_true c3, idx_getD 0 c3, el, es, eap, ew]
          · simp only [m_impl_signalRatio_B3, lt_true hkl, cond_true, idx_getD 0 hkl, idx_getD 0 hkc, idx_getD 0 hsc, Option.bind_some, ea, e2, decide_eq_true (show (0 : Int) ≤ C.getD k 0 by omega), ev, decide_eq_true c3, idx_getD 0 c3, el, ei, eap, ew]
        · refine sk out (by omega) hx ?_ ?_
          · simp only [m_spec_l16Ratio_B4, lt_true hkl, cond_true, e1, cond_false, idx_getD 0 hkc, idx_getD 0 hsc, Option.bind_some, decide_eq_false c2, ep, decide_eq_false (show ¬ (d : Int) < (T.length : Int) by omega), ew]
          · simp only [m_impl_signalRatio_B3, lt_true hkl, cond_true, idx_getD 0 hkl, idx_getD 0 hkc, idx_getD 0 hsc, Option.bind_some, ea, e2, decide_eq_true (show (0 : Int) ≤ C.getD k 0 by omega), ev, decide_eq_false c3, cond_false, ew]
theorem ratio_both {L C T : List Int} {s : Nat} (hL : rowOkN L = true) (hC : chansOk C L.length = true) (hT : tabOk T = true) (hs : s < L.length) :
    ∃ v, -200000 ≤ v ∧ v ≤ 200000 ∧ m_spec_l16Ratio L C T (s : Int) = some v ∧ m_impl_signalRatio L C T (s : Int) = some v := by
  obtain ⟨hL1, hL2⟩ := row_get hL
  obtain ⟨r, r1, r2, r3, r4⟩ := others_both hL hC hT hs L.length 0 [] (by omega) (by simp) (by simp)
  have r3' : loopM (fun q : (Int × (List Int)) => m_spec_l16Ratio_B4 L C T (s : Int) q.1 q.2) ((0 : Int), ([] : List Int)) = some r := r3
  have r4' : loopM (fun q : (Int × (List Int)) => m_impl_signalRatio_B3 L C T (s : Int) q.1 q.2) ((0 : Int), ([] : List Int)) = some r := r4
  unfold m_spec_l16Ratio m_impl_signalRatio
  rw [r3', r4', Option.bind_some, Option.bind_some]
  cases r with
  | nil => exact ⟨200000, by omega, by omega, rfl, rfl⟩
  | cons y r =>
    have e1 : (((y :: r).length : Int) == 0) = false := by simp; omega
    rw [e1]
    obtain ⟨v, v0, v1, vs, vi⟩ := sum_both (l := y :: r) (by simp) r1 r2
    have b := hL2 s hs
    simp only [cond_false, List.isEmpty_cons, idx_getD 0 hs, Option.bind_some, vs, vi]
    rw [w64_id (by omega) (by omega)]
    obtain ⟨d, hd⟩ : ∃ d : Int, d = L.getD s 0 - v := ⟨_, rfl⟩
    rw [← hd]
    refine ⟨if 200000 < (if -200000 > d then -200000 else d) then 200000 else (if -200000 > d then -200000 else d), by split <;> split <;> omega, by split <;> split <;> omega, ?_, rfl⟩
    unfold m_spec_l00Min m_spec_l00Max
    by_cases c1 : 200000 < d
    · rw [decide_eq_true c1, cond_true, Option.bind_some, decide_eq_false (by omega), cond_false, Option.bind_some]
      congr 1; (repeat' split) <;> omega
    · rw [decide_eq_false c1, cond_false, Option.bind_some]
      by_cases c2 : d < -200000
      · rw [decide_eq_true c2, cond_true, Option.bind_some]
        congr 1; (repeat' split) <;> omega
      · rw [decide_eq_false c2, cond_false, Option.bind_some]
        congr 1; (repeat' split) <;> omega
end Go.Wk
