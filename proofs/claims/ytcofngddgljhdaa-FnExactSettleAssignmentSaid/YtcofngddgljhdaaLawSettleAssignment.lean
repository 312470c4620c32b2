/-
  Plain law: SettleAssignment. No program in sight. Our own work.
-/
import Derived.Test.YtcofngddgljhdaaLawChoices
import Derived.Test.YtcofngddgljhdaaLawMarkP
import Derived.Test.YtcofngddgljhdaaLawEnd
namespace Go.Wk
open Go Go.RowKit

/-- An assignment without violations. -/
structure Good (p : GProblem) (l : List Int) : Prop where
  len : l.length = p.Domains.length
  mem : ∀ k, k < l.length → l.getD k 0 ∈ p.Domains.getD k []
  far : ∀ i j, i < l.length → j < l.length → i ≠ j → ¬ (l.getD i 0 - l.getD j 0 < apartAt p i j ∧ l.getD j 0 - l.getD i 0 < apartAt p i j)

theorem good_of {p : GProblem} (h : ProbOk p) {l : List Int} (hf : fitsN p l = true) (hv : violN p l = []) : Good p l := by
  have hf' := hf
  unfold fitsN at hf'
  rw [Bool.and_eq_true, decide_eq_true_eq] at hf'
  have hlt : ∀ i j, i < j → j < l.length → ¬ (l.getD i 0 - l.getD j 0 < apartAt p i j ∧ l.getD j 0 - l.getD i 0 < apartAt p i j) := by
    intro i j hij hj hc
    unfold violN at hv
    rw [List.flatMap_eq_nil_iff] at hv
    have h1 := hv i (by rw [List.mem_range'_1]; omega)
    rw [List.map_eq_nil_iff, List.filter_eq_nil_iff] at h1
    have h2 := h1 j (by rw [List.mem_range'_1]; omega)
    apply h2
    unfold nearN
    rw [decide_eq_true_eq]; exact hc
  refine ⟨hf'.1, fun k hk => has_mem (range_all_true hf'.2 k hk), fun i j hi hj hij => ?_⟩
  rcases Nat.lt_or_gt_of_ne hij with hl | hl
  · exact hlt i j hl hj
  · have := hlt j i hl hi
    rw [h.sym i j (by omega) (by omega)]
    omega
theorem good_part {p : GProblem} (h : ProbOk p) {l : List Int} (hg : Good p l) : PartA p l :=
  ⟨by have := hg.len; omega, fun k hk => by have := dom_rng h (k := k) (by have := hg.len; omega) (hg.mem k hk); omega⟩
theorem good_free {p : GProblem} {l : List Int} (hg : Good p l) {i : Nat} (hi : i < l.length) : l.getD i 0 ∈ choN p l i := by
  unfold choN
  rw [List.mem_filter]
  refine ⟨hg.mem i hi, ?_⟩
  unfold freeN
  rw [List.all_eq_true]
  intro j hj
  have hj' : j < l.length := by simpa using hj
  unfold clashN
  by_cases c : j = i
  · rw [decide_eq_false (show ¬ j ≠ i by omega)]; rfl
  · have := hg.far i j hi hj' (by omega)
    rw [decide_eq_false this, Bool.and_false, Bool.and_false]; rfl
theorem good_set {p : GProblem} (h : ProbOk p) {l : List Int} (hg : Good p l) {i : Nat} (hi : i < l.length) {c : Int} (hc : c ∈ choN p l i) : Good p (l.set i c) := by
  obtain ⟨hm, hf⟩ := choN_mem hc
  have gs : ∀ k, k < l.length → (l.set i c).getD k 0 = if i = k then c else l.getD k 0 := by
    intro k hk
    simp only [List.getD_eq_getElem?_getD, List.getElem?_set]
    by_cases e : i = k
    · subst e; simp [hi]
    · simp [e]
  have hcl : ∀ j, j < l.length → j ≠ i → ¬ (c - l.getD j 0 < apartAt p i j ∧ l.getD j 0 - c < apartAt p i j) := by
    intro j hj hji hn
    unfold freeN at hf
    have := List.all_eq_true.1 hf j (by simpa using hj)
    unfold clashN at this
    have h0 := dom_rng h (k := j) (by have := hg.len; omega) (hg.mem j hj)
    rw [decide_eq_true hji, decide_eq_true h0.1, decide_eq_true hn] at this
    exact absurd this (by simp)
  refine ⟨by simpa using hg.len, fun k hk => ?_, fun a b ha hb hab => ?_⟩
  · rw [List.length_set] at hk
    rw [gs k hk]
    by_cases e : i = k
    · subst e; rw [if_pos rfl]; exact hm
    · rw [if_neg e]; exact hg.mem k hk
  · rw [List.length_set] at ha hb
    rw [gs a ha, gs b hb]
    by_cases ea : i = a
    · subst ea
      rw [if_pos rfl, if_neg hab]
      exact hcl b hb (Ne.symm hab)
    · rw [if_neg ea]
      by_cases eb : i = b
      · subst eb
        rw [if_pos rfl, h.sym a i (by have := hg.len; omega) (by have := hg.len; omega)]
        have := hcl a ha hab
        omega
      · rw [if_neg eb]; exact hg.far a b ha hb hab

def msum (l : List Int) : Nat := (l.map Int.toNat).sum
theorem msum_set : ∀ (l : List Int) (i : Nat) (c : Int), i < l.length → 0 ≤ c → c < l.getD i 0 → msum (l.set i c) < msum l
  | [], i, c, h, _, _ => absurd h (by simp)
  | x :: l, 0, c, _, h0, h1 => by
    have h1 : c < x := h1
    simp only [msum, List.set_cons_zero, List.map_cons, List.sum_cons]
    omega
  | x :: l, i + 1, c, h, h0, h1 => by
    have := msum_set l i c (by simpa using h) h0 (by simpa using h1)
    simp only [msum, List.set_cons_succ, List.map_cons, List.sum_cons] at this ⊢
    omega

theorem settle_row (p : GProblem) (h : ProbOk p) (o : List Int) : ∀ (m k : Nat) (b : Bool) (l : List Int), k + m = l.length → o.length = l.length → Good p l →
    ∃ b' l', loopM (fun s : (Bool × Int × (List Int)) => m_spec_SettleAssignment_B18 p s.1 s.2.1 s.2.2) (b, (k : Int), l) = some (b', l') ∧ loopM (fun s : (Bool × Int × (List Int)) => m_impl_SettleAssignment_B14 p o s.1 s.2.1 s.2.2) (b, (k : Int), l) = some (b', l') ∧ Good p l' ∧ (b' = true → b = true ∨ msum l' < msum l) ∧ msum l' ≤ msum l := by
  intro m
  induction m with
  | zero =>
    intro k b l hk ho hg
    have e : k = l.length := by omega
    subst e
    refine ⟨b, l, loopM_inr ?_, loopM_inr ?_, hg, fun hb => Or.inl hb, Nat.le_refl _⟩
    · simp only [m_spec_SettleAssignment_B18, lt_self, cond_false, Option.map_some]
    · simp only [m_impl_SettleAssignment_B14, ho, lt_self, cond_false, Option.map_some]
  | succ m ih =>
    intro k b l hk ho hg
    have hn := h.n2
    have hkl : k < l.length := by omega
    have hlen := hg.len
    have hfree := good_free hg hkl
    have eS := choSpec_eq p h l (good_part h hg) k (by omega)
    have eI := choImpl_eq p h l (good_part h hg) k (by omega)
    cases hc : choN p l k with
    | nil => rw [hc] at hfree; exact absurd hfree (by simp)
    | cons c cs =>
      rw [hc] at eS eI
      have hcm : c ∈ choN p l k := by rw [hc]; simp
      have i0 : idx (c :: cs) (0 : Int) = some c := rfl
      have hw : w64 ((k : Int) + 1) = ((k + 1 : Nat) : Int) := by rw [w64_id (by omega) (by omega)]; omega
      have hko : (k : Int) < (o.length : Int) := by omega
      by_cases hlt : c < l.getD k 0
      · have h0 := dom_rng h (k := k) (by omega) (choN_mem hcm).1
        have hms := msum_set l k c hkl h0.1 hlt
        obtain ⟨b', l', e1, e2, e3, e4, e5⟩ := ih (k + 1) true (l.set k c) (by rw [List.length_set]; omega) (by rw [List.length_set]; omega) (good_set h hg hkl hcm)
        refine ⟨b', l', (loopM_inl (s' := (true, ((k + 1 : Nat) : Int), l.set k c)) ?_).trans e1, (loopM_inl (s' := (true, ((k + 1 : Nat) : Int), l.set k c)) ?_).trans e2, e3, fun _ => Or.inr (by omega), by omega⟩
        · simp only [m_spec_SettleAssignment_B18, lt_true hkl, cond_true, eS, Option.bind_some, i0, idx_getD 0 hkl, decide_eq_true hlt, inB_nat hkl, hw, Int.toNat_natCast]
        · simp only [m_impl_SettleAssignment_B14, decide_eq_true hko, cond_true, eI, Option.bind_some, i0, idx_getD 0 hkl, decide_eq_true hlt, inB_nat hkl, hw, Int.toNat_natCast]
      · obtain ⟨b', l', e1, e2, e3, e4, e5⟩ := ih (k + 1) b l (by omega) ho hg
        refine ⟨b', l', (loopM_inl (s' := (b, ((k + 1 : Nat) : Int), l)) ?_).trans e1, (loopM_inl (s' := (b, ((k + 1 : Nat) : Int), l)) ?_).trans e2, e3, e4, e5⟩
        · simp only [m_spec_SettleAssignment_B18, lt_true hkl, cond_true, eS, Option.bind_some, i0, idx_getD 0 hkl, decide_eq_false hlt, cond_false, hw]
        · simp only [m_impl_SettleAssignment_B14, decide_eq_true hko, cond_true, eI, Option.bind_some, i0, idx_getD 0 hkl, decide_eq_false hlt, cond_false, hw]

theorem settle_all (p : GProblem) (h : ProbOk p) : ∀ (n : Nat) (l : List Int), msum l ≤ n → Good p l →
    ∃ r, loopM (fun s : (Bool × (List Int)) => m_spec_SettleAssignment_B13 p s.1 s.2) (true, l) = some r ∧ loopM (fun s : (Bool × (List Int)) => m_impl_SettleAssignment_B9 p s.1 s.2) (true, l) = some r ∧ Good p r := by
  intro n
  induction n with
  | zero =>
    intro l hl hg
    obtain ⟨b', l', e1, e2, e3, e4, e5⟩ := settle_row p h l l.length 0 false l (by omega) rfl hg
    have e1 : loopM (fun s : (Bool × Int × (List Int)) => m_spec_SettleAssignment_B18 p s.1 s.2.1 s.2.2) (false, (0 : Int), l) = some (b', l') := e1
    have e2 : loopM (fun s : (Bool × Int × (List Int)) => m_impl_SettleAssignment_B14 p l s.1 s.2.1 s.2.2) (false, (0 : Int), l) = some (b', l') := e2
    cases b' with
    | true => have := (e4 rfl).resolve_left (by simp); omega
    | false =>
      refine ⟨l', (loopM_inl (s' := (false, l')) ?_).trans (loopM_inr ?_), (loopM_inl (s' := (false, l')) ?_).trans (loopM_inr ?_), e3⟩
      · simp only [m_spec_SettleAssignment_B13, cond_true, e1, Option.bind_some]
      · simp only [m_spec_SettleAssignment_B13, cond_false, Option.map_some]
      · simp only [m_impl_SettleAssignment_B9, cond_true, e2, Option.bind_some]
      · simp only [m_impl_SettleAssignment_B9, cond_false, Option.map_some]
  | succ n ih =>
    intro l hl hg
    obtain ⟨b', l', e1, e2, e3, e4, e5⟩ := settle_row p h l l.length 0 false l (by omega) rfl hg
    have e1 : loopM (fun s : (Bool × Int × (List Int)) => m_spec_SettleAssignment_B18 p s.1 s.2.1 s.2.2) (false, (0 : Int), l) = some (b', l') := e1
    have e2 : loopM (fun s : (Bool × Int × (List Int)) => m_impl_SettleAssignment_B14 p l s.1 s.2.1 s.2.2) (false, (0 : Int), l) = some (b', l') := e2
    have s1 : (fun s : (Bool × (List Int)) => m_spec_SettleAssignment_B13 p s.1 s.2) (true, l) = some (.inl (b', l')) := by
      simp only [m_spec_SettleAssignment_B13, cond_true, e1, Option.bind_some]
    have s2 : (fun s : (Bool × (List Int)) => m_impl_SettleAssignment_B9 p s.1 s.2) (true, l) = some (.inl (b', l')) := by
      simp only [m_impl_SettleAssignment_B9, cond_true, e2, Option.bind_some]
    cases b' with
    | true =>
      have := (e4 rfl).resolve_left (by simp)
      obtain ⟨r, f1, f2, f3⟩ := ih l' (by omega) e3
      exact ⟨r, (loopM_inl s1).trans f1, (loopM_inl s2).trans f2, f3⟩
    | false =>
      refine ⟨l', (loopM_inl s1).trans (loopM_inr ?_), (loopM_inl s2).trans (loopM_inr ?_), e3⟩
      · simp only [m_spec_SettleAssignment_B13, cond_false, Option.map_some]
      · simp only [m_impl_SettleAssignment_B9, cond_false, Option.map_some]

theorem settle_same (a : GProblem) (ha : FitsP a) (l : List Int) (hl : l.length ≤ 1048576) : ∃ r c, m_spec_SettleAssignment a l = some (r, c) ∧ m_impl_SettleAssignment a l = some (r, c) ∧ r.length ≤ 1048576 := by
  unfold m_spec_SettleAssignment m_impl_SettleAssignment m_impl_ValidAssignment
  rw [probSpec_eq _ ha, probImpl_eq _ ha]
  cases ho : probOk a with
  | false => exact ⟨[], 1, rfl, rfl, by simp⟩
  | true =>
    have hp := probOk_true ho
    have hn := hp.n2
    simp only [Option.bind_some, cond_true, Bool.not_true, cond_false, fitsSpec_eq a hp, fitsImpl_eq a hp]
    cases hf : fitsN a l with
    | false => exact ⟨[], 6, rfl, rfl, by simp⟩
    | true =>
      simp only [cond_true, Bool.not_true, cond_false, brokenSpec_eq a hp l (fits_chans hp hf), violImpl_eq a hp l (fits_chans hp hf), Option.bind_some]
      cases hv : violN a l with
      | cons x xs =>
        have e1 : decide ((0 : Int) < ((x :: xs).length : Int)) = true := by rw [decide_eq_true_eq]; simp only [List.length_cons]; omega
        have e2 : (((x :: xs).length : Int) == 0) = false := by simp only [List.length_cons, beq_eq_false_iff_ne, ne_eq]; omega
        simp only [e1, e2]
        exact ⟨[], 6, rfl, rfl, by simp⟩
      | nil =>
        have hg := good_of hp hf hv
        obtain ⟨r, e1, e2, e3⟩ := settle_all a hp _ l (Nat.le_refl _) hg
        have z1 : decide ((0 : Int) < (([] : List (List Int)).length : Int)) = false := rfl
        have z2 : ((([] : List (List Int)).length : Int) == 0) = true := rfl
        simp only [z1, z2, cond_false, Bool.not_true, m_spec_l00Own, m_slices_Clone_int64_int64, own_eq l hl, Option.bind_some, e1, e2]
        exact ⟨r, 0, rfl, rfl, by have := e3.len; omega⟩

theorem law_FnExactSettleAssignment (a : GProblem) (l : List Int) (k : okGProblem a) (_kl : l.length ≤ maxLen ∧ ∀ x ∈ l, ((Lit.int .i64 x).wf = true)) : m_laws_FnExactSettleAssignment a l = some true := by
  unfold m_laws_FnExactSettleAssignment
  by_cases h1 : (1048576 : Int) < (l.length : Int)
  · rw [decide_eq_true h1]; rfl
  rw [decide_eq_false h1, cond_false]
  obtain ⟨r, hr, hc⟩ := szProblem_eq a k 1048576 (by omega) (by omega)
  rw [hr, Option.bind_some]
  rcases hc with hc | ⟨hc, hc2, ha⟩
  · rw [decide_eq_true hc]; rfl
  rw [decide_eq_false (by omega), cond_false]
  obtain ⟨s, c, e1, e2, e3⟩ := settle_same a ha l (by omega)
  have h2 := fits_tot ha.1
  have h3 := fits_tot ha.2
  simp only [toProblem_eq _ ha, eqProblem_self _ ha, toInt64S_eq l (by omega), eq_len l (by omega), e1, e2, eq_len s (by omega), Option.bind_some, bne_self, cond_false, Bool.not_true, markProblem_eq a ha 1 (by omega) (by omega), markInt64S_eq l (1 + (tot a.Domains : Int) + (tot a.Apart : Int)) (by omega) (by omega), lt_false (show ¬ (1 + (tot a.Domains : Int) + (tot a.Apart : Int) + (l.length : Int) < 0) by omega), mark_len s (by omega), held_len s (by omega), pos_len s]
end Go.Wk
