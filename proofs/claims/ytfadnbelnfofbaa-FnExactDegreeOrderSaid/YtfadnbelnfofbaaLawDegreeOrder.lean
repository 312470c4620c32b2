/-
  Plain law: DegreeOrder. No program in sight. Our own work.
-/
import Derived.Test.YtfadnbelnfofbaaLawStable
import Derived.Test.YtfadnbelnfofbaaLawChain
import Derived.Test.YtfadnbelnfofbaaLawDeg
import Derived.Test.YtfadnbelnfofbaaLawMarkP
import Derived.Test.YtfadnbelnfofbaaLawEnd
import Derived.Test.YtfadnbelnfofbaaPlainF
namespace Go.Wk
open Go Go.RowKit

theorem cmp64_eq (a b : Int) : m_cmp_Compare_int64 a b = some (if a < b then -1 else if b < a then 1 else 0) := by
  unfold m_cmp_Compare_int64 m_cmp_isNaN_int64
  simp only [bne_self, Option.bind_some, cond_false]
  by_cases h1 : a < b
  · rw [decide_eq_true h1, if_pos h1]; rfl
  · rw [decide_eq_false h1, if_neg h1]
    by_cases h2 : b < a
    · rw [decide_eq_true h2, if_pos h2]; rfl
    · rw [decide_eq_false h2, if_neg h2]; rfl
/-- An item's degree. -/
def dg (p : GProblem) (x : Int) : Int := degN (p.Apart.getD x.toNat [])
theorem degS {p : GProblem} (h : ProbOk p) {x : Int} (h1 : 0 ≤ x ∧ x < (p.Domains.length : Int)) : m_spec_l17Degree p x = some (dg p x) := by
  obtain ⟨k, rfl⟩ := Int.eq_ofNat_of_zero_le h1.1
  rw [degSpec_eq p h k (by omega)]
  unfold dg; rw [Int.toNat_natCast]
theorem degI {p : GProblem} (h : ProbOk p) {x : Int} (h1 : 0 ≤ x ∧ x < (p.Domains.length : Int)) : m_impl_Problem_degree p x = some (dg p x) := by
  obtain ⟨k, rfl⟩ := Int.eq_ofNat_of_zero_le h1.1
  rw [degImpl_eq p h k (by omega)]
  unfold dg; rw [Int.toNat_natCast]
theorem cmp_ok {p : GProblem} (h : ProbOk p) : CmpOk (dg p) (fun x => 0 ≤ x ∧ x < (p.Domains.length : Int)) (fun x => m_impl_DegreeOrder_1 x.1 x.2 p) := by
  intro x y hx hy
  refine ⟨if dg p y < dg p x then -1 else if dg p x < dg p y then 1 else 0, ?_, ?_⟩
  · show m_impl_DegreeOrder_1 x y p = _
    unfold m_impl_DegreeOrder_1
    rw [degI h hy, Option.bind_some, degI h hx, Option.bind_some, cmp64_eq, Option.bind_some]
  · split
    · constructor <;> intro _ <;> omega
    · split <;> constructor <;> intro _ <;> omega

/-- A list of all items in order. -/
structure Ord (d : Int → Int) (n : Nat) (l : List Int) : Prop where
  len : l.length = n
  so : ∀ t u, t < u → u < n → Prec d (ga l t) (ga l u)
  bd : ∀ t, t < n → 0 ≤ ga l t ∧ ga l t < (n : Int)
theorem Ord.pw {d : Int → Int} {n : Nat} {l : List Int} (h : Ord d n l) : l.Pairwise (Prec d) := by
  rw [List.pairwise_iff_getElem]
  intro i j hi hj hij
  have := h.so i j hij (by have := h.len; omega)
  unfold ga at this
  rwa [getD_lt 0 hi, getD_lt 0 hj] at this
theorem Ord.nd {d : Int → Int} {n : Nat} {l : List Int} (h : Ord d n l) : l.Nodup := h.pw.imp (fun {x y} hp e => by subst e; exact hp.ne hp)
theorem Ord.mem {d : Int → Int} {n : Nat} {l : List Int} (h : Ord d n l) (x : Int) : x ∈ l ↔ x ∈ below n := by
  have hb : ∀ y ∈ l, 0 ≤ y ∧ y < (n : Int) := fun y hy => by
    obtain ⟨i, hi, e⟩ := List.getElem_of_mem hy
    have := h.bd i (by have := h.len; omega)
    unfold ga at this
    rw [getD_lt 0 hi, e] at this
    exact this
  refine ⟨fun hx => below_mem.2 (hb x hx), fun hx => Classical.byContradiction fun hn => ?_⟩
  have := nodup_len (c := x :: l) (n := n) (List.nodup_cons.2 ⟨hn, h.nd⟩) (fun y hy => by
    rcases List.mem_cons.1 hy with rfl | hy
    · exact below_mem.1 hx
    · exact hb y hy)
  rw [List.length_cons] at this
  have := h.len
  omega
theorem Ord.uniq {d : Int → Int} {n : Nat} {u v : List Int} (hu : Ord d n u) (hv : Ord d n v) : u = v :=
  List.Perm.eq_of_pairwise (fun x y _ _ h1 h2 => absurd h2 h1.ne) hu.pw hv.pw ((List.perm_ext_iff_of_nodup hu.nd hv.nd).2 fun x => by rw [hu.mem, hv.mem])

theorem ord_inner {p : GProblem} (h : ProbOk p) (i : Nat) (hi : i < p.Domains.length) (v : List Int) (hl : v.length = i) (hb : ∀ t, t < i → 0 ≤ ga v t ∧ ga v t < (i : Int)) : ∀ (j : Nat), j ≤ i → (∀ t, j ≤ t → t < i → dg p (ga v t) < dg p (i : Int)) →
    ∃ s : Nat, loopM (fun z : Int => m_spec_l18Order_B9 p (i : Int) v z) (j : Int) = some (s : Int) ∧ s ≤ i ∧ (∀ t, s ≤ t → t < i → dg p (ga v t) < dg p (i : Int)) ∧ (0 < s → ¬ dg p (ga v (s - 1)) < dg p (i : Int)) := by
  have hn := h.n2
  intro j
  induction j with
  | zero =>
    intro hj hd
    refine ⟨0, loopM_inr ?_, hj, hd, fun h => by omega⟩
    simp only [m_spec_l18Order_B9]; rfl
  | succ j ih =>
    intro hj hd
    have e2 : w64 (((j + 1 : Nat) : Int) - 1) = (j : Int) := by rw [w64_id (by omega) (by omega)]; omega
    have hjb := hb j (by omega)
    have b1 : m_spec_l17Degree p (ga v j) = some (dg p (ga v j)) := degS h ⟨hjb.1, by omega⟩
    have b2 : m_spec_l17Degree p (i : Int) = some (dg p (i : Int)) := degS h ⟨by omega, by omega⟩
    by_cases hq : dg p (ga v j) < dg p (i : Int)
    · obtain ⟨s, k1, k2, k3, k4⟩ := ih (by omega) (fun t h1 h2 => by
        by_cases e : t = j
        · rw [e]; exact hq
        · exact hd t (by omega) h2)
      refine ⟨s, ?_, k2, k3, k4⟩
      rw [loopM_inl ?_]
      · exact k1
      · simp only [m_spec_l18Order_B9, decide_eq_true (show (0 : Int) < ((j + 1 : Nat) : Int) by omega), cond_true, e2, idx_ga (show j < v.length by omega), Option.bind_some, b1, b2, decide_eq_true hq]
    · refine ⟨j + 1, loopM_inr ?_, hj, hd, fun _ => by rw [Nat.add_sub_cancel]; exact hq⟩
      simp only [m_spec_l18Order_B9, decide_eq_true (show (0 : Int) < ((j + 1 : Nat) : Int) by omega), cond_true, e2, idx_ga (show j < v.length by omega), Option.bind_some, b1, b2, decide_eq_false hq, cond_false, Option.map_some]
theorem ga_put (v : List Int) (x : Int) (s : Nat) (hs : s ≤ v.length) (t : Nat) : ga (v.take s ++ [x] ++ v.drop s) t = if t < s then ga v t else if t = s then x else ga v (t - 1) := by
  unfold ga
  simp only [List.getD_eq_getElem?_getD]
  have hl : (v.take s).length = s := by rw [List.length_take]; omega
  rw [List.append_assoc]
  by_cases c : t < s
  · rw [if_pos c, List.getElem?_append_left (by omega), List.getElem?_take_of_lt c]
  · rw [if_neg c, List.getElem?_append_right (by omega), hl]
    by_cases c2 : t = s
    · rw [if_pos c2, c2, Nat.sub_self]; rfl
    · rw [if_neg c2]
      obtain ⟨k, hk⟩ : ∃ k, t - s = k + 1 := ⟨t - s - 1, by omega⟩
      rw [hk, List.singleton_append, List.getElem?_cons_succ, List.getElem?_drop]
      congr 2
      omega
theorem ord_loop {p : GProblem} (h : ProbOk p) : ∀ (m i : Nat) (v : List Int), i + m = p.Domains.length → Ord (dg p) i v → ∃ r, loopM (fun z : (Int × (List Int)) => m_spec_l18Order_B4 p z.1 z.2) ((i : Int), v) = some r ∧ Ord (dg p) p.Domains.length r := by
  have hn := h.n2
  intro m
  induction m with
  | zero =>
    intro i v hi ho
    have e : i = p.Domains.length := by omega
    subst e
    refine ⟨v, loopM_inr ?_, ho⟩
    simp only [m_spec_l18Order_B4, lt_self, cond_false, Option.map_some]
  | succ m ih =>
    intro i v hi ho
    have hil : i < p.Domains.length := by omega
    have hl := ho.len
    obtain ⟨s, s1, s2, s3, s4⟩ := ord_inner h i hil v hl ho.bd i (Nat.le_refl _) (fun t h1 h2 => by omega)
    have low : ∀ t, t < s → Prec (dg p) (ga v t) (i : Int) := fun t ht => by
      have hb := ho.bd (s - 1) (by omega)
      have p1 : Prec (dg p) (ga v (s - 1)) (i : Int) := (prec_left hb.2).1 (s4 (by omega))
      by_cases e : t = s - 1
      · rw [e]; exact p1
      · exact (ho.so t (s - 1) (by omega) (by omega)).trans p1
    have high : ∀ t, s ≤ t → t < i → Prec (dg p) (i : Int) (ga v t) := fun t h1 h2 => .inl (s3 t h1 h2)
    have e2 : w64 ((i : Int) + 1) = ((i + 1 : Nat) : Int) := by rw [w64_id (by omega) (by omega)]; omega
    obtain ⟨r, r1, r2⟩ := ih (i + 1) (v.take s ++ [(i : Int)] ++ v.drop s) (by omega) ⟨by simp; omega, fun t u h1 h2 => by
        rw [ga_put v _ s (by omega), ga_put v _ s (by omega)]
        by_cases c1 : u < s
        · rw [if_pos (show t < s by omega), if_pos c1]; exact ho.so t u h1 (by omega)
        · rw [if_neg c1]
          by_cases c2 : u = s
          · rw [if_pos c2, if_pos (by omega)]; exact low t (by omega)
          · rw [if_neg c2]
            by_cases c3 : t < s
            · rw [if_pos c3]
              exact ho.so t (u - 1) (by omega) (by omega)
            · rw [if_neg c3]
              by_cases c4 : t = s
              · rw [if_pos c4]; exact high _ (by omega) (by omega)
              · rw [if_neg c4]; exact ho.so _ _ (by omega) (by omega),
      fun t ht => by
        rw [ga_put v _ s (by omega)]
        split
        · have := ho.bd t (by omega); omega
        · split
          · omega
          · have := ho.bd (t - 1) (by omega); omega⟩
    refine ⟨r, ?_, r2⟩
    have s1' : loopM (fun z : Int => m_spec_l18Order_B9 p (i : Int) v z) (v.length : Int) = some (s : Int) := by rw [hl]; exact s1
    have hcut : cutB v (s : Int) = some () := by unfold cutB; rw [if_pos (by omega)]
    have htl : (v.take s).length = s := by rw [List.length_take]; omega
    have a1 : m_spec_l00Own (v.take s) = some (v.take s) := by unfold m_spec_l00Own; rw [own_eq _ (by omega)]; rfl
    have a2 : appL 8 (v.take s) [(i : Int)] = some (v.take s ++ [(i : Int)]) := appL_of (by rw [List.length_singleton]; omega)
    have a3 : appL 8 (v.take s ++ [(i : Int)]) (v.drop s) = some (v.take s ++ [(i : Int)] ++ v.drop s) := appL_of (by rw [List.length_append, List.length_singleton, List.length_drop]; omega)
    rw [loopM_inl ?_]
    · exact r1
    · simp only [m_spec_l18Order_B4, lt_true hil, cond_true, s1', Option.bind_some, hcut, Int.toNat_natCast, a1, a2, a3, e2]

theorem order_same (a : GProblem) (ha : FitsP a) : ∃ r c, m_spec_DegreeOrder a = some (r, c) ∧ m_impl_DegreeOrder a = some (r, c) ∧ r.length ≤ 1048576 := by
  unfold m_spec_DegreeOrder m_impl_DegreeOrder
  rw [probSpec_eq _ ha, probImpl_eq _ ha]
  cases hok : probOk a with
  | false => exact ⟨[], 1, rfl, rfl, by simp⟩
  | true =>
    have hp := probOk_true hok
    have hn := hp.n2
    obtain ⟨r, r1, r2⟩ := ord_loop hp a.Domains.length 0 [] (by omega) ⟨rfl, fun t u _ h => by omega, fun t h => by omega⟩
    have r1 : loopM (fun z : (Int × (List Int)) => m_spec_l18Order_B4 a z.1 z.2) ((0 : Int), ([] : List Int)) = some r := r1
    have fill : loopM (fun s : (Int × (List Int)) => m_impl_DegreeOrder_B7 (List.replicate a.Domains.length (0 : Int)) s.1 s.2) ((0 : Int), List.replicate a.Domains.length (0 : Int)) = some (below a.Domains.length) := by
      have := fill_loop a.Domains.length (fun k : Nat => (k : Int)) (0 : Int) (fun s : (Int × (List Int)) => m_impl_DegreeOrder_B7 (List.replicate a.Domains.length (0 : Int)) s.1 s.2) (fun k hk v hv => ?_) (fun v hv => ?_)
      · rw [this]; rfl
      · have hk' : k < v.length := by omega
        simp only [m_impl_DegreeOrder_B7, List.length_replicate, lt_true hk, cond_true, inB_nat hk', Option.bind_some, Int.toNat_natCast]
        rw [w64_id (by omega) (by omega)]; rfl
      · simp only [m_impl_DegreeOrder_B7, List.length_replicate, lt_self, cond_false, Option.map_some]
    have hbl := below_len a.Domains.length
    have gb : ∀ t, t < a.Domains.length → ga (below a.Domains.length) t = (t : Int) := fun t ht => by
      unfold ga below
      rw [List.getD_eq_getElem?_getD, List.getElem?_map, List.getElem?_range ht]; rfl
    obtain ⟨w, w1, w2, w3⟩ := stable_eq (cmp_ok hp) (below a.Domains.length) (by omega) (fun i j _ h2 h3 => by rw [gb i (by omega), gb j (by omega)]; omega) (fun t ht => by rw [gb t (by omega)]; omega)
    have ow : Ord (dg a) a.Domains.length w := ⟨by omega, fun t u h1 h2 => w3.so t u (Nat.zero_le _) h1 (by omega), fun t ht => by
      obtain ⟨u, _, u2, u3⟩ := w3.inn t (Nat.zero_le _) (by omega)
      rw [u3, gb u (by omega)]; omega⟩
    have e := r2.uniq ow
    refine ⟨r, 0, ?_, ?_, by have := r2.len; omega⟩
    · unfold m_spec_l18Order
      simp only [Option.bind_some, Bool.not_true, cond_false, r1]
    · rw [mkL_nat (bytes := 8) (0 : Int) (by omega)]
      simp only [Option.bind_some, Bool.not_true, cond_false, fill, w1]
      rw [e]

theorem law_FnExactDegreeOrder (a : GProblem) (k : okGProblem a) : m_laws_FnExactDegreeOrder a = some true := by
  unfold m_laws_FnExactDegreeOrder
  obtain ⟨r, hr, hc⟩ := szProblem_eq a k 1048576 (by omega) (by omega)
  rw [hr, Option.bind_some]
  rcases hc with hc | ⟨hc, hc2, ha⟩
  · rw [decide_eq_true hc]; rfl
  rw [decide_eq_false (by omega), cond_false]
  obtain ⟨s, c, e1, e2, e3⟩ := order_same a ha
  simp only [toProblem_eq _ ha, eqProblem_self _ ha, e1, e2, eq_len s (by omega), Option.bind_some, bne_self, cond_false, Bool.not_true, markProblem_eq a ha 1 (by omega) (by omega), lt_false (show ¬ (1 + (tot a.Domains : Int) + (tot a.Apart : Int) < 0) by omega), mark_len s (by omega), held_len s (by omega), pos_len s]
end Go.Wk
