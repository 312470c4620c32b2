/-
  Plain law: GreedyAssign. No program in sight. Our own work.
-/
import Derived.Test.YtfadnbelnfofbaaLawChoices
import Derived.Test.YtfadnbelnfofbaaLawCompact
import Derived.Test.YtfadnbelnfofbaaLawChain
import Derived.Test.YtfadnbelnfofbaaLawRepeat
import Derived.Test.YtfadnbelnfofbaaLawMarkP
import Derived.Test.YtfadnbelnfofbaaLawEnd
import Derived.Test.YtfadnbelnfofbaaSeq
import Derived.Test.YtfadnbelnfofbaaPlainF
namespace Go.Wk
open Go Go.RowKit

theorem items_eq (p : GProblem) (hn : p.Domains.length ≤ 1048576) : m_impl_Problem_items p = some (below p.Domains.length) := by
  unfold m_impl_Problem_items
  rw [mkL_nat (bytes := 8) (0 : Int) (by omega), Option.bind_some]
  have := fill_loop p.Domains.length (fun k : Nat => (k : Int)) (0 : Int) (fun s : (Int × (List Int)) => m_impl_Problem_items_B5 (List.replicate p.Domains.length (0 : Int)) s.1 s.2) (fun k hk v hv => ?_) (fun v hv => ?_)
  · rw [this]; rfl
  · have hk' : k < v.length := by omega
    simp only [m_impl_Problem_items_B5, List.length_replicate, lt_true hk, cond_true, inB_nat hk', Option.bind_some, Int.toNat_natCast]
    rw [w64_id (by omega) (by omega)]; rfl
  · simp only [m_impl_Problem_items_B5, List.length_replicate, lt_self, cond_false, Option.map_some]
theorem equalN (a b : List Int) (h : a.length ≤ 9223372036854775806) : m_slices_Equal_int64_int64 a b = some (decide (a = b)) := by
  unfold m_slices_Equal_int64_int64
  by_cases hl : a.length = b.length
  · have h1 : ((a.length : Int) != (b.length : Int)) = false := bneF (by omega)
    rw [h1, cond_false]
    have := eq_gen (fun x y => some (decide (x = y))) a b h hl (fun _ _ _ _ => rfl)
    rw [← this]
    congr 1
  · have h1 : ((a.length : Int) != (b.length : Int)) = true := bneT (by omega)
    have h2 : decide (a = b) = false := by simp only [decide_eq_false_iff_not]; intro e; exact hl (by rw [e])
    rw [h1, cond_true, h2]
theorem empty_eq (n : Nat) (hn : n ≤ 1048576) : m_spec_l18Empty (n : Int) = some (List.replicate n (-1)) := by
  unfold m_spec_l18Empty
  have := build_loop (bytes := 8) n (fun _ => (-1 : Int)) (by omega) (fun s : (Int × (List Int)) => m_spec_l18Empty_B4 (n : Int) s.1 s.2) (fun k hk acc => ?_) (fun acc => ?_)
  · rw [this, Option.bind_some]
    congr 1
    apply List.ext_getElem?
    intro i
    by_cases hi : i < n
    · rw [List.getElem?_map, List.getElem?_range hi, List.getElem?_replicate, if_pos hi]; rfl
    · rw [List.getElem?_eq_none (by rw [List.length_map, List.length_range]; omega), List.getElem?_eq_none (by rw [List.length_replicate]; omega)]
  · simp only [m_spec_l18Empty_B4, lt_true hk, cond_true]
    rw [w64_id (by omega) (by omega)]; rfl
  · simp only [m_spec_l18Empty_B4, lt_self, cond_false, Option.map_some]

theorem below_pw (n : Nat) : (below n).Pairwise (· < ·) := by
  unfold below
  rw [List.pairwise_map]
  exact List.pairwise_lt_range.imp (fun h => by omega)
/-- Each item once. -/
def Once (n : Nat) (l : List Int) : Prop := l.Nodup ∧ ∀ x ∈ l, 0 ≤ x ∧ x < (n : Int)
theorem compact_whole {z : List Int} (h : (Lib.compact z).length = z.length) : Lib.compact z = z := by
  refine Lib.compact_all z (fun j hj => ?_)
  unfold Lib.compact Lib.compactUpTo at h
  rw [List.length_map] at h
  have h2 : ((List.range z.length).filter (Lib.keeps z.toArray)).length = (List.range z.length).length := by rw [h, List.length_range]
  exact List.length_filter_eq_length_iff.1 h2 j (List.mem_range.2 hj)
/-- The program's test for it. -/
theorem once_iff {n : Nat} {l : List Int} (hl : l.length = n) : Lib.compact (sortL l) = below n ↔ Once n l := by
  constructor
  · intro h
    have hm : ∀ x, x ∈ l ↔ x ∈ below n := fun x => by rw [← h, compact_mem, sortL_mem]
    have hlen : (Lib.compact (sortL l)).length = (sortL l).length := by rw [h, below_len, sortL_len, hl]
    have hw := compact_whole hlen
    have hp : (sortL l).Pairwise (· < ·) := by rw [← hw, h]; exact below_pw n
    have hnd : (sortL l).Nodup := hp.imp (fun h e => by omega)
    exact ⟨(List.mergeSort_perm l _).nodup_iff.1 hnd, fun x hx => below_mem.1 ((hm x).1 hx)⟩
  · rintro ⟨h1, h2⟩
    refine strict_ext (compact_pw (sortL_pw l)) (below_pw n) (fun x => ?_)
    rw [compact_mem, sortL_mem]
    refine ⟨fun hx => below_mem.2 (h2 x hx), fun hx => Classical.byContradiction fun hn => ?_⟩
    have := nodup_len (c := x :: l) (n := n) (List.nodup_cons.2 ⟨hn, h1⟩) (fun y hy => by
      rcases List.mem_cons.1 hy with rfl | hy
      · exact below_mem.1 hx
      · exact h2 y hy)
    rw [List.length_cons] at this
    omega

open Classical in
/-- The reference's test for it. -/
theorem once_loop (p : GProblem) (hn : p.Domains.length ≤ 24) (l : List Int) (hl : l.length ≤ 1048576) (r : List Int × Int)
    (hE : Once p.Domains.length l → (bif ((l.length : Int) != (p.Domains.length : Int)) then some (([] : (List Int)), (2 : Int)) else ((m_spec_l18Empty (l.length : Int)).bind fun x18 => (loopM (fun s : (Int × (List Int)) => m_spec_GreedyAssign_B21 p l s.1 s.2) ((0 : Int), x18)))) = some r) :
    ∀ (m k : Nat) (s : List Int), k + m = l.length → Once p.Domains.length (l.take k) → (∀ x, x ∈ s ↔ x ∈ l.take k) → s.length ≤ k →
      loopM (fun s : ((List Int) × Int) => m_spec_GreedyAssign_B3 p l s.1 s.2) (s, (k : Int)) = some (if Once p.Domains.length l then r else ([], 2)) := by
  intro m
  induction m with
  | zero =>
    intro k s hk ho hm hs
    have e : k = l.length := by omega
    subst e
    rw [List.take_length] at ho
    rw [if_pos ho]
    refine loopM_inr ?_
    simp only [m_spec_GreedyAssign_B3, lt_self, cond_false, hE ho, Option.map_some]
  | succ m ih =>
    intro k s hk ho hm hs
    have hkl : k < l.length := by omega
    have ei : idx l (k : Int) = some l[k] := idx_lt_nat hkl
    have ew : w64 ((k : Int) + 1) = ((k + 1 : Nat) : Int) := by rw [w64_id (by omega) (by omega)]; omega
    have ein : m_spec_l17Item p l[k] = some (decide (0 ≤ l[k] ∧ l[k] ≤ (p.Domains.length : Int) - 1)) := by
      unfold m_spec_l17Item
      rw [w64_id (by omega) (by omega), in_eq]; rfl
    have eh : m_spec_l00Has s l[k] = some (decide (l[k] ∈ s)) := by rw [hasSpec_eq _ _ (by omega), hasN_iff]
    have htk : l.take (k + 1) = l.take k ++ [l[k]] := List.take_succ_eq_append_getElem hkl
    by_cases c : (0 ≤ l[k] ∧ l[k] ≤ (p.Domains.length : Int) - 1) ∧ l[k] ∉ s
    · have hk1 : Once p.Domains.length (l.take (k + 1)) := by
        refine ⟨?_, fun x hx => ?_⟩
        · rw [htk, List.nodup_append]
          exact ⟨ho.1, by simp, fun a ha b hb e => by rw [List.mem_singleton] at hb; subst hb; subst e; exact c.2 ((hm _).2 ha)⟩
        · rw [htk] at hx
          rcases List.mem_append.1 hx with hx | hx
          · exact ho.2 x hx
          · rw [List.mem_singleton] at hx; rw [hx]; omega
      have hpl := put_len s l[k]
      rw [loopM_inl (s' := (put s l[k], ((k + 1 : Nat) : Int))) ?_]
      · refine ih (k + 1) (put s l[k]) (by omega) hk1 (fun x => ?_) (by omega)
        rw [put_mem, htk, List.mem_append, List.mem_singleton, hm x]
        exact Or.comm
      · simp only [m_spec_GreedyAssign_B3, lt_true hkl, cond_true, ei, Option.bind_some, ein, decide_eq_true c.1, Bool.not_true, cond_false, eh, decide_eq_false c.2, putSpec_eq s l[k] (by omega), ew]
    · have hno : ¬ Once p.Domains.length l := by
        rintro ⟨h1, h2⟩
        have hx := h2 l[k] (List.getElem_mem hkl)
        refine c ⟨by omega, fun hs' => ?_⟩
        have hin := (hm _).1 hs'
        have h3 : (l.take (k + 1)).Nodup := (List.take_sublist _ _).nodup h1
        rw [htk, List.nodup_append] at h3
        exact h3.2.2 _ hin _ (List.mem_singleton.2 rfl) rfl
      rw [if_neg hno]
      refine loopM_inr ?_
      simp only [m_spec_GreedyAssign_B3, lt_true hkl, cond_true, ei, Option.bind_some, ein]
      by_cases c1 : 0 ≤ l[k] ∧ l[k] ≤ (p.Domains.length : Int) - 1
      · have c2 : l[k] ∈ s := Classical.byContradiction fun hh => c ⟨c1, hh⟩
        simp only [decide_eq_true c1, Bool.not_true, cond_false, eh, Option.bind_some, decide_eq_true c2, cond_true, Option.map_some]
      · simp only [decide_eq_false c1, Bool.not_false, cond_true, Option.bind_some, Option.map_some]

/-- Both assign alike. -/
theorem greedy_loop (p : GProblem) (h : ProbOk p) (o : List Int) (ho : ∀ x ∈ o, 0 ≤ x ∧ x < (p.Domains.length : Int)) (hol : o.length ≤ 1048576) : ∀ (m k : Nat) (l : List Int), k + m = o.length → l.length = p.Domains.length → (∀ j, j < l.length → -1 ≤ l.getD j 0 ∧ l.getD j 0 ≤ 999) →
    ∃ r c, loopM (fun s : (Int × (List Int)) => m_spec_GreedyAssign_B21 p o s.1 s.2) ((k : Int), l) = some (r, c) ∧ loopM (fun s : (Int × (List Int)) => m_impl_GreedyAssign_B19 p o s.1 s.2) ((k : Int), l) = some (r, c) ∧ r.length ≤ 1048576 := by
  have hn := h.n2
  intro m
  induction m with
  | zero =>
    intro k l hk hl hr
    have e : k = o.length := by omega
    subst e
    refine ⟨l, 0, loopM_inr ?_, loopM_inr ?_, by omega⟩
    · simp only [m_spec_GreedyAssign_B21, lt_self, cond_false, Option.map_some]
    · simp only [m_impl_GreedyAssign_B19, lt_self, cond_false, Option.map_some]
  | succ m ih =>
    intro k l hk hl hr
    have hko : k < o.length := by omega
    have hb := ho o[k] (List.getElem_mem hko)
    obtain ⟨b, hbe⟩ := Int.eq_ofNat_of_zero_le hb.1
    have hbl : b < l.length := by omega
    have hpa : PartA p l := ⟨by omega, hr⟩
    have ei : idx o (k : Int) = some (b : Int) := by rw [idx_lt_nat hko, hbe]
    have ew : w64 ((k : Int) + 1) = ((k + 1 : Nat) : Int) := by rw [w64_id (by omega) (by omega)]; omega
    have eS := choSpec_eq p h l hpa b (by omega)
    have eI := choImpl_eq p h l hpa b (by omega)
    cases hc : choN p l b with
    | nil =>
      rw [hc] at eS eI
      have z : ((([] : List Int).length : Int) == 0) = true := rfl
      refine ⟨[], 3, loopM_inr ?_, loopM_inr ?_, by simp⟩
      · simp only [m_spec_GreedyAssign_B21, lt_true hko, cond_true, ei, Option.bind_some, eS, z, Option.map_some]
      · simp only [m_impl_GreedyAssign_B19, lt_true hko, cond_true, ei, Option.bind_some, eI, z, Option.map_some]
    | cons c cs =>
      have hcm : c ∈ choN p l b := by rw [hc]; simp
      have hrc := dom_rng h (k := b) (by omega) (choN_mem hcm).1
      rw [hc] at eS eI
      have z : (((c :: cs).length : Int) == 0) = false := beq_eq_false_iff_ne.2 (by rw [List.length_cons]; omega)
      have i0 : idx (c :: cs) (0 : Int) = some c := rfl
      obtain ⟨r, cc, r1, r2, r3⟩ := ih (k + 1) (l.set b c) (by omega) (by rw [List.length_set]; exact hl) (fun j hj => by
        rw [List.length_set] at hj
        have := hr j hj
        simp only [List.getD_eq_getElem?_getD, List.getElem?_set] at this ⊢
        split
        · rename_i e
          subst e
          simp; omega
        · exact this)
      refine ⟨r, cc, (loopM_inl (s' := (((k + 1 : Nat) : Int), l.set b c)) ?_).trans r1, (loopM_inl (s' := (((k + 1 : Nat) : Int), l.set b c)) ?_).trans r2, r3⟩
      · simp only [m_spec_GreedyAssign_B21, lt_true hko, cond_true, ei, Option.bind_some, eS, z, cond_false, i0, inB_nat hbl, ew, Int.toNat_natCast]
      · simp only [m_impl_GreedyAssign_B19, lt_true hko, cond_true, ei, Option.bind_some, eI, z, cond_false, i0, inB_nat hbl, ew, Int.toNat_natCast]

theorem greedy_same (a : GProblem) (ha : FitsP a) (l : List Int) (hl : l.length ≤ 1048576) : ∃ r c, m_spec_GreedyAssign a l = some (r, c) ∧ m_impl_GreedyAssign a l = some (r, c) ∧ r.length ≤ 1048576 := by
  unfold m_spec_GreedyAssign m_impl_GreedyAssign
  rw [probSpec_eq _ ha, probImpl_eq _ ha]
  cases hok : probOk a with
  | false => exact ⟨[], 1, rfl, rfl, by simp⟩
  | true =>
    have hp := probOk_true hok
    have hn := hp.n2
    have o0 : Once a.Domains.length (l.take 0) := ⟨by simp, by simp⟩
    by_cases hlen : l.length = a.Domains.length
    · have e1 : ((l.length : Int) != (a.Domains.length : Int)) = false := bneF (by omega)
      have imp : ((m_slices_Values_int64_int64 l).bind fun x5 => ((m_slices_Sorted_int64 x5).bind fun x6 => ((m_slices_Compact_int64_int64 x6).bind fun x9 => ((m_impl_Problem_items a).bind fun x12 => ((m_slices_Equal_int64_int64 x9 x12).bind fun x13 => some (!x13)))))) = some (!decide (Lib.compact (sortL l) = below a.Domains.length)) := by
        unfold m_slices_Values_int64_int64 m_slices_Sorted_int64 sortedM m_slices_Compact_int64_int64 compactM
        have hcl := comp_le (sortL l)
        rw [sortL_len] at hcl
        rw [Option.bind_some, if_pos (by omega), Option.bind_some, Option.bind_some, items_eq a (by omega), Option.bind_some, equalN _ _ (by omega), Option.bind_some]
      by_cases ho : Once a.Domains.length l
      · obtain ⟨r, c, r1, r2, r3⟩ := greedy_loop a hp l ho.2 hl l.length 0 (List.replicate a.Domains.length (-1)) (by omega) (by simp) (fun j hj => by
          rw [List.length_replicate] at hj
          simp [hj])
        have r1 : loopM (fun s : (Int × (List Int)) => m_spec_GreedyAssign_B21 a l s.1 s.2) ((0 : Int), List.replicate a.Domains.length (-1)) = some (r, c) := r1
        have r2 : loopM (fun s : (Int × (List Int)) => m_impl_GreedyAssign_B19 a l s.1 s.2) ((0 : Int), List.replicate a.Domains.length (-1)) = some (r, c) := r2
        have sp := once_loop a hn l hl (r, c) (fun _ => by rw [e1, cond_false, empty_eq _ hl, Option.bind_some, hlen]; exact r1) l.length 0 [] (by omega) o0 (by simp) (by simp)
        have sp : loopM (fun s : ((List Int) × Int) => m_spec_GreedyAssign_B3 a l s.1 s.2) (([] : List Int), (0 : Int)) = _ := sp
        rw [if_pos ho] at sp
        have ed : decide (Lib.compact (sortL l) = below a.Domains.length) = true := decide_eq_true ((once_iff hlen).2 ho)
        refine ⟨r, c, ?_, ?_, r3⟩
        · simp only [Option.bind_some, Bool.not_true, cond_false, sp]
        · rw [ed] at imp
          unfold m_impl_Problem_unassigned
          simp only [Option.bind_some, Bool.not_true, cond_false, e1, imp, repeat_eq (-1) a.Domains.length (by omega), r2]
      · have ed : decide (Lib.compact (sortL l) = below a.Domains.length) = false := decide_eq_false (fun e => ho ((once_iff hlen).1 e))
        have sp := once_loop a hn l hl ([], 2) (fun h => absurd h ho) l.length 0 [] (by omega) o0 (by simp) (by simp)
        have sp : loopM (fun s : ((List Int) × Int) => m_spec_GreedyAssign_B3 a l s.1 s.2) (([] : List Int), (0 : Int)) = _ := sp
        rw [if_neg ho] at sp
        refine ⟨[], 2, ?_, ?_, by simp⟩
        · simp only [Option.bind_some, Bool.not_true, cond_false, sp]
        · rw [ed] at imp
          simp only [Option.bind_some, Bool.not_true, cond_false, e1, imp, Bool.not_false, cond_true]
    · have e1 : ((l.length : Int) != (a.Domains.length : Int)) = true := bneT (by omega)
      have sp := once_loop a hn l hl ([], 2) (fun _ => by rw [e1]; rfl) l.length 0 [] (by omega) o0 (by simp) (by simp)
      have sp : loopM (fun s : ((List Int) × Int) => m_spec_GreedyAssign_B3 a l s.1 s.2) (([] : List Int), (0 : Int)) = _ := sp
      rw [ite_self] at sp
      refine ⟨[], 2, ?_, ?_, by simp⟩
      · simp only [Option.bind_some, Bool.not_true, cond_false, sp]
      · simp only [Option.bind_some, Bool.not_true, cond_false, e1, cond_true]

theorem law_FnExactGreedyAssign (a : GProblem) (l : List Int) (k : okGProblem a) (_kl : l.length ≤ maxLen ∧ ∀ x ∈ l, ((Lit.int .i64 x).wf = true)) : m_laws_FnExactGreedyAssign a l = some true := by
  unfold m_laws_FnExactGreedyAssign
  by_cases h1 : (1048576 : Int) < (l.length : Int)
  · rw [decide_eq_true h1]; rfl
  rw [decide_eq_false h1, cond_false]
  obtain ⟨r, hr, hc⟩ := szProblem_eq a k 1048576 (by omega) (by omega)
  rw [hr, Option.bind_some]
  rcases hc with hc | ⟨hc, hc2, ha⟩
  · rw [decide_eq_true hc]; rfl
  rw [decide_eq_false (by omega), cond_false]
  obtain ⟨s, c, e1, e2, e3⟩ := greedy_same a ha l (by omega)
  have h2 := fits_tot ha.1
  have h3 := fits_tot ha.2
  simp only [toProblem_eq _ ha, eqProblem_self _ ha, toInt64S_eq l (by omega), eq_len l (by omega), e1, e2, eq_len s (by omega), Option.bind_some, bne_self, cond_false, Bool.not_true, markProblem_eq a ha 1 (by omega) (by omega), markInt64S_eq l (1 + (tot a.Domains : Int) + (tot a.Apart : Int)) (by omega) (by omega), lt_false (show ¬ (1 + (tot a.Domains : Int) + (tot a.Apart : Int) + (l.length : Int) < 0) by omega), mark_len s (by omega), held_len s (by omega), pos_len s]
end Go.Wk
