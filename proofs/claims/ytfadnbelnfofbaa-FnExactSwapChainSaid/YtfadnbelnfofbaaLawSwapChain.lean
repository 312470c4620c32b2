/-
  Plain law: SwapChain. No program in sight. Our own work.
-/
import Derived.Test.YtfadnbelnfofbaaLawChain
import Derived.Test.YtfadnbelnfofbaaLawBad
import Derived.Test.YtfadnbelnfofbaaLawMarkP
import Derived.Test.YtfadnbelnfofbaaLawEnd
namespace Go.Wk
open Go Go.RowKit

theorem goodSpec_eq (p : GProblem) (h : ProbOk p) (l : List Int) (hs : StA p l) : m_spec_l19Good p l = some (fitsN p l && (((violN p l).length : Int) == 0)) := by
  have hn := h.n2
  have hlen := hs.len
  rw [← bad_none p h l hs]
  unfold m_spec_l19Good
  refine all_loop_n l.length _ (fun i => !decide (0 < badN p l i)) (fun i hi => ?_) ?_
  · simp only [m_spec_l19Good_B1, lt_true hi, cond_true, badSpec_eq p h l hs i hi, Option.bind_some]
    rw [w64_id (n := (i : Int) + 1) (by omega) (by omega)]
    cases decide (0 < badN p l i) <;> rfl
  · simp only [m_spec_l19Good_B1, lt_self, cond_false, Option.map_some]

/-- Both swap the chain's two channels alike. -/
theorem swapC_loop (p : GProblem) {l : List Int} {it : Nat} (hit : it < l.length) {ch : Int} (hne : ch ≠ l.getD it 0) (h9 : 0 ≤ ch ∧ ch ≤ 999) (hst : StA p l) {s : List Int} (hnd : s.Nodup) (hb : ∀ x ∈ s, 0 ≤ x ∧ x < (l.length : Int)) (ho : ∀ x ∈ s, ofTwo l (l.getD it 0) ch x) (hsl : s.length ≤ 1048576) :
    ∀ (m i : Nat) (v : List Int), i + m = s.length → StA p v → (∀ x ∈ s.drop i, v.getD x.toNat 0 = l.getD x.toNat 0) → ∃ v', StA p v' ∧
      loopM (fun z : (Int × (List Int)) => m_spec_SwapChain_B8 l (it : Int) ch s z.1 z.2) ((i : Int), v) = some v' ∧
      loopM (fun z : (Int × (List Int)) => m_impl_SwapChain_B9 ch (l.getD it 0) s z.1 z.2) ((i : Int), v) = some v' := by
  intro m
  induction m with
  | zero =>
    intro i v hi hv hd
    refine ⟨v, hv, loopM_inr ?_, loopM_inr ?_⟩
    · simp only [m_spec_SwapChain_B8]; rw [decide_eq_false (by omega)]; rfl
    · simp only [m_impl_SwapChain_B9]; rw [decide_eq_false (by omega)]; rfl
  | succ m ih =>
    intro i v hi hv hd
    have his : i < s.length := by omega
    have hdr : s.drop i = s[i] :: s.drop (i + 1) := List.drop_eq_getElem_cons his
    have hxm : s[i] ∈ s := List.getElem_mem his
    have hxb := hb _ hxm
    have hxo := ho _ hxm
    obtain ⟨q, hq⟩ := Int.eq_ofNat_of_zero_le hxb.1
    have hql : q < l.length := by omega
    have hvl : v.length = l.length := by rw [hv.len, hst.len]
    have hqv : q < v.length := by omega
    have hvq : v.getD q 0 = l.getD q 0 := by
      have := hd s[i] (by rw [hdr]; exact List.mem_cons_self)
      rwa [hq, Int.toNat_natCast] at this
    have hnd' : s[i] ∉ s.drop (i + 1) := by
      have : (s.drop i).Nodup := (List.drop_sublist i s).nodup hnd
      rw [hdr] at this
      exact (List.nodup_cons.1 this).1
    have es : idx s (i : Int) = some (q : Int) := by rw [idx_getD 0 his, getD_lt 0 his, hq]
    have ew : w64 ((i : Int) + 1) = ((i + 1 : Nat) : Int) := by rw [w64_id (by omega) (by omega)]; omega
    have hf9 := hst.rng it hit
    unfold ofTwo at hxo
    rw [hq, Int.toNat_natCast] at hxo
    have keep : ∀ w : Int, ∀ x ∈ s.drop (i + 1), (v.set q w).getD x.toNat 0 = l.getD x.toNat 0 := by
      intro w x hx
      have hxs : x ∈ s := List.mem_of_mem_drop hx
      have hxq : x.toNat ≠ q := by
        intro e
        have := hb x hxs
        exact hnd' (by rw [hq, ← e, Int.toNat_of_nonneg this.1]; exact hx)
      rw [List.getD_eq_getElem?_getD, List.getElem?_set_ne (Ne.symm hxq), ← List.getD_eq_getElem?_getD]
      exact hd x (by rw [hdr]; exact List.mem_cons_of_mem _ hx)
    by_cases b1 : l.getD q 0 = ch
    · obtain ⟨v', k1, k2, k3⟩ := ih (i + 1) (v.set q (l.getD it 0)) (by omega) (hv.set hf9) (keep _)
      refine ⟨v', k1, ?_, ?_⟩
      · rw [loopM_inl (s' := (((i + 1 : Nat) : Int), v.set q (l.getD it 0))) ?_]
        · exact k2
        · simp only [m_spec_SwapChain_B8, lt_true his, cond_true, es, Option.bind_some, idx_getD 0 hql, beqT b1, idx_getD 0 hit, inB_nat hqv, Int.toNat_natCast, ew]
      · rw [loopM_inl (s' := (((i + 1 : Nat) : Int), v.set q (l.getD it 0))) ?_]
        · exact k3
        · simp only [m_impl_SwapChain_B9, lt_true his, cond_true, es, Option.bind_some, idx_getD 0 hqv, hvq, beqF (show ¬ l.getD q 0 = l.getD it 0 by rw [b1]; exact hne), cond_false, inB_nat hqv, Int.toNat_natCast, ew]
    · obtain ⟨v', k1, k2, k3⟩ := ih (i + 1) (v.set q ch) (by omega) (hv.set h9) (keep _)
      have b2 := hxo.resolve_right b1
      refine ⟨v', k1, ?_, ?_⟩
      · rw [loopM_inl (s' := (((i + 1 : Nat) : Int), v.set q ch)) ?_]
        · exact k2
        · simp only [m_spec_SwapChain_B8, lt_true his, cond_true, es, Option.bind_some, idx_getD 0 hql, beqF b1, cond_false, inB_nat hqv, Int.toNat_natCast, ew]
      · rw [loopM_inl (s' := (((i + 1 : Nat) : Int), v.set q ch)) ?_]
        · exact k3
        · simp only [m_impl_SwapChain_B9, lt_true his, cond_true, es, Option.bind_some, idx_getD 0 hqv, hvq, beqT b2, inB_nat hqv, Int.toNat_natCast, ew]

theorem swapC_same (a : GProblem) (ha : FitsP a) (l : List Int) (hl : l.length ≤ 1048576) (i ch : Int) : ∃ r c, m_spec_SwapChain a l i ch = some (r, c) ∧ m_impl_SwapChain a l i ch = some (r, c) ∧ r.length ≤ 1048576 := by
  unfold m_spec_SwapChain m_impl_SwapChain
  rw [askChain_eq a ha l hl, codeChain_eq a ha l hl, Option.bind_some, Option.bind_some]
  by_cases h : chainN a l i ch = 0
  case neg =>
    have e : (chainN a l i ch != 0) = true := bneT h
    rw [e]
    exact ⟨[], _, rfl, rfl, by simp⟩
  have e : (chainN a l i ch != 0) = false := bneF h
  obtain ⟨h1, h2, ⟨n, rfl, hn, hne⟩, h9⟩ := chainN_zero h
  have hp := probOk_true h1
  have hs0 := stateN_true h2
  have hs : StA a l := ⟨hs0.1, hs0.2⟩
  have hn2 := hp.n2
  obtain ⟨s, s1, s2, s3, s4, s5⟩ := chain_both' hp hs0.1 hn ch
  have hsl := nodup_len s3 s4
  obtain ⟨v, hv, k1, k2⟩ := swapC_loop a hn hne h9 hs s3 s4 s5 (by omega) s.length 0 l (by omega) hs (fun _ _ => rfl)
  have k1' : loopM (fun z : (Int × (List Int)) => m_spec_SwapChain_B8 l (n : Int) ch s z.1 z.2) ((0 : Int), l) = some v := k1
  have k2' : loopM (fun z : (Int × (List Int)) => m_impl_SwapChain_B9 ch (l.getD n 0) s z.1 z.2) ((0 : Int), l) = some v := k2
  have hvl := hv.len
  simp only [e, cond_false, s1, s2, m_spec_l00Own, m_slices_Clone_int64_int64, own_eq l hl, Option.bind_some, idx_getD 0 hn, k1', k2', goodSpec_eq a hp _ hv, m_impl_ValidAssignment, probImpl_eq _ ha, h1, cond_true, fitsImpl_eq a hp]
  cases hf : fitsN a v with
  | false => exact ⟨[], 3, rfl, rfl, by simp⟩
  | true =>
    simp only [cond_true, violImpl_eq a hp _ (fits_chans hp hf), Option.bind_some, Bool.true_and]
    cases (((violN a v).length : Int) == 0) with
    | false => exact ⟨[], 3, rfl, rfl, by simp⟩
    | true => exact ⟨_, 0, rfl, rfl, by omega⟩

theorem law_FnExactSwapChain (a : GProblem) (l : List Int) (i j : Int) (k : okGProblem a) (_kl : l.length ≤ maxLen ∧ ∀ x ∈ l, ((Lit.int .i64 x).wf = true)) (_ki : (Lit.int .i64 i).wf = true) (_kj : (Lit.int .i64 j).wf = true) : m_laws_FnExactSwapChain a l i j = some true := by
  unfold m_laws_FnExactSwapChain
  by_cases h1 : (1048576 : Int) < (l.length : Int)
  · rw [decide_eq_true h1]; rfl
  rw [decide_eq_false h1, cond_false]
  obtain ⟨r, hr, hc⟩ := szProblem_eq a k 1048576 (by omega) (by omega)
  rw [hr, Option.bind_some]
  rcases hc with hc | ⟨hc, hc2, ha⟩
  · rw [decide_eq_true hc]; rfl
  rw [decide_eq_false (by omega), cond_false]
  obtain ⟨s, c, e1, e2, e3⟩ := swapC_same a ha l (by omega) i j
  have h2 := fits_tot ha.1
  have h3 := fits_tot ha.2
  simp only [toProblem_eq _ ha, eqProblem_self _ ha, toInt64S_eq l (by omega), eq_len l (by omega), e1, e2, eq_len s (by omega), Option.bind_some, bne_self, cond_false, Bool.not_true, markProblem_eq a ha 1 (by omega) (by omega), markInt64S_eq l (1 + (tot a.Domains : Int) + (tot a.Apart : Int)) (by omega) (by omega), lt_false (show ¬ (1 + (tot a.Domains : Int) + (tot a.Apart : Int) + (l.length : Int) < 0) by omega), mark_len s (by omega), held_len s (by omega), pos_len s]
end Go.Wk
