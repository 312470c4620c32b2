/-
  Plain law: PartProblem. No program in sight. Our own work.
-/
import Derived.Test.YtmaahfokhfmmnaaLawRises
import Derived.Test.YtmaahfokhfmmnaaLawAssign
import Derived.Test.YtmaahfokhfmmnaaLawEnd
import Derived.Test.YtmaahfokhfmmnaaLawEndP
namespace Go.Wk
open Go Go.RowKit

def prow (p : GProblem) (l : List Int) (i : Int) : List Int := l.map fun k => (p.Apart.getD i.toNat []).getD k.toNat 0
def partD (p : GProblem) (l : List Int) : List (List Int) := l.map fun i => p.Domains.getD i.toNat []
def partA (p : GProblem) (l : List Int) : List (List Int) := l.map (prow p l)

theorem part_row (p : GProblem) (h : ProbOk p) (l : List Int) (hl : l.length ≤ 24) (hi : ∀ x ∈ l, 0 ≤ x ∧ x ≤ (p.Domains.length : Int) - 1) (body : Int × List Int → Option ((Int × List Int) ⊕ List Int)) (i : Int)
    (hstep : ∀ (k : Nat) (hk : k < l.length) (acc : List Int), body ((k : Int), acc) = (appL 8 acc [(p.Apart.getD i.toNat []).getD (l[k]).toNat 0]).bind fun z => some (Sum.inl (((k + 1 : Nat) : Int), z))) (hend : ∀ acc, body ((l.length : Int), acc) = some (.inr acc)) :
    loopM body ((0 : Int), []) = some (prow p l i) := by
  have hlen : (prow p l i).length = l.length := by simp [prow]
  have := loop_for (body := body) (r := prow p l i) l.length (fun k => ((k : Int), (prow p l i).take k)) (fun k hk => ?_) ?_
  · simpa using this
  · rw [hstep k hk]
    have hk' : k < (prow p l i).length := by omega
    have e : (p.Apart.getD i.toNat []).getD (l[k]).toNat 0 = (prow p l i)[k] := by simp [prow]
    rw [e, take_app hk' (by omega)]
    rfl
  · rw [← hlen, List.take_length, hlen]; exact hend _

theorem mem_nat {p : GProblem} {x : Int} (h : 0 ≤ x ∧ x ≤ (p.Domains.length : Int) - 1) : ∃ n : Nat, x = (n : Int) ∧ n < p.Domains.length := by
  obtain ⟨n, rfl⟩ := Int.eq_ofNat_of_zero_le h.1
  exact ⟨n, rfl, by omega⟩

theorem partSpec_loop (p : GProblem) (h : ProbOk p) (l : List Int) (hl : l.length ≤ 24) (hi : ∀ x ∈ l, 0 ≤ x ∧ x ≤ (p.Domains.length : Int) - 1) : loopM (fun s : (Int × (List (List Int)) × (List (List Int))) => m_spec_PartProblem_B18 p l s.1 s.2.1 s.2.2) ((0 : Int), ([] : (List (List Int))), ([] : (List (List Int)))) = some (partA p l, partD p l) := by
  have l1 : (partA p l).length = l.length := by simp [partA]
  have l2 : (partD p l).length = l.length := by simp [partD]
  have := loop_for (body := fun s : (Int × (List (List Int)) × (List (List Int))) => m_spec_PartProblem_B18 p l s.1 s.2.1 s.2.2) (r := (partA p l, partD p l)) l.length (fun k => ((k : Int), (partA p l).take k, (partD p l).take k)) (fun k hk => ?_) ?_
  · simpa using this
  · obtain ⟨n, hn, hnl⟩ := mem_nat (hi l[k] (List.getElem_mem hk))
    have hd := dom_len h hnl
    have inner := part_row p h l hl hi (fun s : (Int × (List Int)) => m_spec_PartProblem_B36 p l (k : Int) s.1 s.2) l[k] (fun j hj acc => ?_) (fun acc => ?_)
    · have e1 : p.Domains.getD n [] = (partD p l)[k] := by simp [partD, hn]
      have e2 : prow p l l[k] = (partA p l)[k] := by simp [partA]
      have hown := own_eq (partD p l)[k] (by rw [← e1]; omega)
      have inner2 : loopM (fun s : (Int × (List Int)) => m_spec_PartProblem_B36 p l (k : Int) s.1 s.2) ((0 : Int), ([] : List Int)) = some (prow p l l[k]) := inner
      simp only [m_spec_PartProblem_B18, lt_true hk, cond_true, idx_lt_nat hk, Option.bind_some, inner2]
      simp only [hn, idx_getD [] hnl, Option.bind_some, m_spec_l00Own, e1, hown, take_app (show k < (partD p l).length by omega) (show (partD p l).length * 25 ≤ 140737488355328 by omega)]
      rw [← hn, e2, take_app (show k < (partA p l).length by omega) (by omega), Option.bind_some, w64_id (by omega) (by omega)]
      rfl
    · obtain ⟨m, hm, hml⟩ := mem_nat (hi l[j] (List.getElem_mem hj))
      have ha : n < p.Apart.length := by have := h.len; omega
      have ha2 : m < (p.Apart.getD n []).length := by have := h.row n hnl; omega
      simp only [m_spec_PartProblem_B36, lt_true hj, cond_true, idx_lt_nat hk, idx_lt_nat hj, Option.bind_some]
      simp only [hn, hm, idx_getD [] ha, idx_getD 0 ha2, Option.bind_some, Int.toNat_natCast]
      rw [w64_id (by omega) (by omega)]
      rfl
    · simp only [m_spec_PartProblem_B36, lt_self, cond_false, Option.map_some]
  · have e1 : (partA p l).take l.length = partA p l := by rw [← l1, List.take_length]
    have e2 : (partD p l).take l.length = partD p l := by rw [← l2, List.take_length]
    simp only [m_spec_PartProblem_B18, lt_self, cond_false, Option.map_some, e1, e2]

theorem partImpl_loop (p : GProblem) (h : ProbOk p) (l : List Int) (hl : l.length ≤ 24) (hi : ∀ x ∈ l, 0 ≤ x ∧ x ≤ (p.Domains.length : Int) - 1) : loopM (fun s : (Int × (List (List Int)) × (List (List Int))) => m_impl_PartProblem_B19 p l s.1 s.2.1 s.2.2) ((0 : Int), ([] : (List (List Int))), ([] : (List (List Int)))) = some (partA p l, partD p l) := by
  have l1 : (partA p l).length = l.length := by simp [partA]
  have l2 : (partD p l).length = l.length := by simp [partD]
  have := loop_for (body := fun s : (Int × (List (List Int)) × (List (List Int))) => m_impl_PartProblem_B19 p l s.1 s.2.1 s.2.2) (r := (partA p l, partD p l)) l.length (fun k => ((k : Int), (partA p l).take k, (partD p l).take k)) (fun k hk => ?_) ?_
  · simpa using this
  · obtain ⟨n, hn, hnl⟩ := mem_nat (hi l[k] (List.getElem_mem hk))
    have hd := dom_len h hnl
    have inner := part_row p h l hl hi (fun s : (Int × (List Int)) => m_impl_PartProblem_B36 p l (n : Int) s.1 s.2) l[k] (fun j hj acc => ?_) (fun acc => ?_)
    · have e1 : p.Domains.getD n [] = (partD p l)[k] := by simp [partD, hn]
      have e2 : prow p l l[k] = (partA p l)[k] := by simp [partA]
      have hown := own_eq (partD p l)[k] (by rw [← e1]; omega)
      have inner2 : loopM (fun s : (Int × (List Int)) => m_impl_PartProblem_B36 p l (n : Int) s.1 s.2) ((0 : Int), ([] : List Int)) = some (prow p l l[k]) := inner
      simp only [m_impl_PartProblem_B19, lt_true hk, cond_true, idx_lt_nat hk, Option.bind_some]
      simp only [hn, inner2, idx_getD [] hnl, Option.bind_some, m_slices_Clone_int64_int64, e1, hown, take_app (show k < (partD p l).length by omega) (show (partD p l).length * 25 ≤ 140737488355328 by omega)]
      rw [← hn, e2, take_app (show k < (partA p l).length by omega) (by omega), Option.bind_some, w64_id (by omega) (by omega)]
      rfl
    · obtain ⟨m, hm, hml⟩ := mem_nat (hi l[j] (List.getElem_mem hj))
      have ha : n < p.Apart.length := by have := h.len; omega
      have ha2 : m < (p.Apart.getD n []).length := by have := h.row n hnl; omega
      simp only [m_impl_PartProblem_B36, lt_true hj, cond_true, idx_lt_nat hj, Option.bind_some]
      simp only [hn, hm, idx_getD [] ha, idx_getD 0 ha2, Option.bind_some, Int.toNat_natCast]
      rw [w64_id (by omega) (by omega)]
      rfl
    · simp only [m_impl_PartProblem_B36, lt_self, cond_false, Option.map_some]
  · have e1 : (partA p l).take l.length = partA p l := by rw [← l1, List.take_length]
    have e2 : (partD p l).take l.length = partD p l := by rw [← l2, List.take_length]
    simp only [m_impl_PartProblem_B19, lt_self, cond_false, Option.map_some, e1, e2]

theorem part_len {p : GProblem} {l : List Int} (h : ProbOk p) (hr : (List.range l.length).all (risesN l) = true) (hi : ∀ x ∈ l, 0 ≤ x ∧ x ≤ (p.Domains.length : Int) - 1) : l.length ≤ 24 := by
  have hn := h.n2
  have key : ∀ k, k < l.length → (k : Int) ≤ l.getD k 0 := by
    intro k
    induction k with
    | zero => intro hk; have := hi l[0] (List.getElem_mem hk); rw [getD_lt 0 hk]; omega
    | succ k ih =>
      intro hk
      have h1 := ih (by omega)
      have h2 := range_all_true hr (k + 1) hk
      unfold risesN at h2
      simp only [decide_eq_true_eq, Nat.add_sub_cancel] at h2
      omega
  rcases Nat.lt_or_ge 24 l.length with hk | hk
  · have h1 := key 24 hk
    have h2 := hi l[24] (List.getElem_mem hk)
    rw [getD_lt 0 hk] at h1
    omega
  · exact hk

theorem part_same (a : GProblem) (ha : FitsP a) (l : List Int) (hl : l.length ≤ 1048576) : ∃ r c, m_spec_PartProblem a l = some (r, c) ∧ m_impl_PartProblem a l = some (r, c) ∧ FitsP r := by
  unfold m_spec_PartProblem m_impl_PartProblem
  rw [probSpec_eq _ ha, probImpl_eq _ ha, Option.bind_some, Option.bind_some]
  have hnil : FitsP (GProblem.mk [] []) := ⟨⟨by simp, by simp⟩, by simp, by simp⟩
  cases ho : probOk a with
  | false => exact ⟨_, 1, rfl, rfl, hnil⟩
  | true =>
    have hp := probOk_true ho
    have hn := hp.n2
    simp only [Bool.not_true, cond_false]
    rw [w64_id (by omega) (by omega)]
    simp only [risesSpec_eq l hl, allWithin_eq l _ _ (show l.length ≤ 9223372036854775806 by omega), Option.bind_some]
    by_cases h0 : l.length = 0
    · have e0 : ((l.length : Int) == 0) = true := by rw [h0]; rfl
      rw [e0]
      cases ((List.range l.length).all (risesN l) && l.all fun x => decide ((0 : Int) ≤ x ∧ x ≤ (a.Domains.length : Int) - 1)) <;> exact ⟨_, 2, rfl, rfl, hnil⟩
    · have e0 : ((l.length : Int) == 0) = false := by rw [beq_eq_false_iff_ne]; omega
      rw [e0]
      simp only [cond_false, incImpl_eq l (by omega) hl, Option.bind_some]
      cases hr : (List.range l.length).all (risesN l) with
      | false => exact ⟨_, 2, rfl, rfl, hnil⟩
      | true =>
        cases hw : l.all (fun x => decide ((0 : Int) ≤ x ∧ x ≤ (a.Domains.length : Int) - 1)) with
        | false => exact ⟨_, 2, rfl, rfl, hnil⟩
        | true =>
          have hi : ∀ x ∈ l, 0 ≤ x ∧ x ≤ (a.Domains.length : Int) - 1 := fun x hx => by
            have := List.all_eq_true.1 hw x hx; simpa using this
          have h24 := part_len hp hr hi
          simp only [Bool.not_true, Bool.and_self, cond_false, Option.bind_some, partSpec_loop a hp l h24 hi, partImpl_loop a hp l h24 hi]
          refine ⟨_, 0, rfl, rfl, ⟨by simp [partD]; omega, fun x hx => ?_⟩, by simp [partA]; omega, fun x hx => ?_⟩
          · unfold partD at hx
            obtain ⟨i, hil, rfl⟩ := List.mem_map.1 hx
            obtain ⟨n, rfl, hnl⟩ := mem_nat (hi i hil)
            have := dom_len hp hnl
            rw [Int.toNat_natCast]; omega
          · unfold partA at hx
            obtain ⟨i, hil, rfl⟩ := List.mem_map.1 hx
            simp [prow]; omega

theorem law_FnExactPartProblem (a : GProblem) (l : List Int) (k : okGProblem a) (_kl : l.length ≤ maxLen ∧ ∀ x ∈ l, ((Lit.int .i64 x).wf = true)) : m_laws_FnExactPartProblem a l = some true := by
  unfold m_laws_FnExactPartProblem
  by_cases h1 : (1048576 : Int) < (l.length : Int)
  · rw [decide_eq_true h1]; rfl
  rw [decide_eq_false h1, cond_false]
  obtain ⟨r, hr, hc⟩ := szProblem_eq a k 1048576 (by omega) (by omega)
  rw [hr, Option.bind_some]
  rcases hc with hc | ⟨hc, hc2, ha⟩
  · rw [decide_eq_true hc]; rfl
  rw [decide_eq_false (by omega), cond_false]
  obtain ⟨s, c, e1, e2, e3⟩ := part_same a ha l (by omega)
  have h2 := fits_tot ha.1
  have h3 := fits_tot ha.2
  simp only [toProblem_eq _ ha, eqProblem_self _ ha, toInt64S_eq l (by omega), eq_len l (by omega), e1, e2, eqProblem_self s e3, Option.bind_some, bne_self, cond_false, Bool.not_true, markP_1 a ha, markInt64S_eq l (1 + (tot a.Domains : Int) + (tot a.Apart : Int)) (by omega) (by omega), lt_false (show ¬ (1 + (tot a.Domains : Int) + (tot a.Apart : Int) + (l.length : Int) < 0) by omega), markP_1 s e3, heldP_1 s e3, pos_P s]
end Go.Wk
