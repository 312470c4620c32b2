/-
  Plain law: SaturationAssign. No program in sight. Our own work.
-/
import Derived.Test.YtcofngddgljhdaaLawChoices
import Derived.Test.YtcofngddgljhdaaLawDeg
import Derived.Test.YtcofngddgljhdaaLawRepeat
import Derived.Test.YtcofngddgljhdaaLawMarkP
import Derived.Test.YtcofngddgljhdaaLawEnd
namespace Go.Wk
open Go Go.RowKit

theorem cmp_eq (a b : Int) : m_cmp_Compare_int a b = some (if a < b then -1 else if b < a then 1 else 0) := by
  unfold m_cmp_Compare_int m_cmp_isNaN_int
  simp only [bne_self, Option.bind_some, cond_false]
  by_cases h1 : a < b
  · rw [decide_eq_true h1, if_pos h1]; rfl
  · rw [decide_eq_false h1, if_neg h1]
    by_cases h2 : b < a
    · rw [decide_eq_true h2, if_pos h2]; rfl
    · rw [decide_eq_false h2, if_neg h2]; rfl
theorem cmp64_eq (a b : Int) : m_cmp_Compare_int64 a b = some (if a < b then -1 else if b < a then 1 else 0) := by
  unfold m_cmp_Compare_int64 m_cmp_isNaN_int64
  simp only [bne_self, Option.bind_some, cond_false]
  by_cases h1 : a < b
  · rw [decide_eq_true h1, if_pos h1]; rfl
  · rw [decide_eq_false h1, if_neg h1]
    by_cases h2 : b < a
    · rw [decide_eq_true h2, if_pos h2]; rfl
    · rw [decide_eq_false h2, if_neg h2]; rfl
theorem or_eq (a b : Int) : m_cmp_Or_int [a, b] = some (if a ≠ 0 then a else b) := by
  unfold m_cmp_Or_int
  have := first_loop [a, b] (fun s : Int => m_cmp_Or_int_B1 [a, b] s) (fun x => x != 0) (fun k => [a, b].getD k 0) 0 (fun k hk => ?_) ?_
  · rw [this]
    by_cases ha : a = 0 <;> by_cases hb : b = 0 <;> simp [List.findIdx?_cons, ha, hb]
  · have hk2 : k < 2 := hk
    simp only [m_cmp_Or_int_B1, lt_true hk, cond_true, idx_getD 0 hk, Option.bind_some]
    rw [w64_id (by omega) (by omega), ← getD_lt 0 hk]
    cases ([a, b].getD k 0 != 0) <;> rfl
  · simp only [m_cmp_Or_int_B1, lt_self, cond_false, Option.map_some]

/-- Some items have a channel, m have none. -/
structure SPart (p : GProblem) (l : List Int) (m : Nat) : Prop where
  len : l.length = p.Domains.length
  rng : ∀ k, k < l.length → -1 ≤ l.getD k 0 ∧ l.getD k 0 ≤ 999
  cnt : l.count (-1) = m
theorem SPart.pa {p : GProblem} {l : List Int} {m : Nat} (h : SPart p l m) : PartA p l := ⟨by have := h.len; omega, h.rng⟩

theorem next_same (p : GProblem) (h : ProbOk p) (l : List Int) {m0 : Nat} (hs : SPart p l m0) : ∀ (m k : Nat) (v v4 : Int), k + m = l.length → (v = -1 ∨ ∃ b : Nat, v = (b : Int) ∧ b < l.length ∧ l.getD b 0 = -1 ∧ v4 = ((choN p l b).length : Int)) →
    ∃ w : Int, loopM (fun s : (Int × Int × Int) => m_spec_l18Next_B2 p l s.1 s.2.1 s.2.2) (v, v4, (k : Int)) = some w ∧ loopM (fun s : (Int × Int) => m_impl_SaturationAssign_B11 p l s.1 s.2) (v, (k : Int)) = some w ∧
      ((∃ b : Nat, w = (b : Int) ∧ b < l.length ∧ l.getD b 0 = -1) ∨ (v = -1 ∧ ∀ j, k ≤ j → j < l.length → l.getD j 0 ≠ -1)) := by
  have hn := h.n2
  have hlen := hs.len
  intro m
  induction m with
  | zero =>
    intro k v v4 hk hv
    have e : k = l.length := by omega
    subst e
    refine ⟨v, loopM_inr ?_, loopM_inr ?_, ?_⟩
    · simp only [m_spec_l18Next_B2, lt_self, cond_false, Option.map_some]
    · simp only [m_impl_SaturationAssign_B11, lt_self, cond_false, Option.map_some]
    · rcases hv with hv | ⟨b, h1, h2, h3, _⟩
      · exact .inr ⟨hv, fun j h1 h2 => by omega⟩
      · exact .inl ⟨b, h1, h2, h3⟩
  | succ m ih =>
    intro k v v4 hk hv
    have hkl : k < l.length := by omega
    have hw : w64 ((k : Int) + 1) = ((k + 1 : Nat) : Int) := by rw [w64_id (by omega) (by omega)]; omega
    have hrk := hs.rng k hkl
    by_cases c : 0 ≤ l.getD k 0
    · -- the item has a channel
      obtain ⟨w, h1, h2, h3⟩ := ih (k + 1) v v4 (by omega) hv
      refine ⟨w, (loopM_inl (s' := (v, v4, ((k + 1 : Nat) : Int))) ?_).trans h1, (loopM_inl (s' := (v, ((k + 1 : Nat) : Int))) ?_).trans h2, ?_⟩
      · simp only [m_spec_l18Next_B2, lt_true hkl, cond_true, idx_getD 0 hkl, Option.bind_some, decide_eq_true c, hw]
      · simp only [m_impl_SaturationAssign_B11, lt_true hkl, cond_true, idx_getD 0 hkl, Option.bind_some, decide_eq_true c, hw]
      · rcases h3 with h3 | ⟨h3, h4⟩
        · exact .inl h3
        · refine .inr ⟨h3, fun j hj1 hj2 => ?_⟩
          rcases Nat.lt_or_ge k j with hkj | hkj
          · exact h4 j (by omega) hj2
          · have : j = k := by omega
            subst this; omega
    · have ck : l.getD k 0 = -1 := by omega
      have eSk := choSpec_eq p h l hs.pa k (by omega)
      have eIk := choImpl_eq p h l hs.pa k (by omega)
      -- the item is taken
      have take : ∀ (vv : Int), (∃ b : Nat, vv = (b : Int) ∧ b < l.length ∧ l.getD b 0 = -1) ∨ (((k : Int) = -1) ∧ ∀ j, k + 1 ≤ j → j < l.length → l.getD j 0 ≠ -1) → (∃ b : Nat, vv = (b : Int) ∧ b < l.length ∧ l.getD b 0 = -1) := by
        intro vv hh
        rcases hh with hh | ⟨hh, _⟩
        · exact hh
        · omega
      rcases hv with hv | ⟨b, hb1, hb2, hb3, hb4⟩
      · obtain ⟨w, h1, h2, h3⟩ := ih (k + 1) (k : Int) ((choN p l k).length : Int) (by omega) (.inr ⟨k, rfl, hkl, ck, rfl⟩)
        have hneg : decide (v < 0) = true := by rw [hv]; rfl
        refine ⟨w, (loopM_inl (s' := ((k : Int), ((choN p l k).length : Int), ((k + 1 : Nat) : Int))) ?_).trans h1, (loopM_inl (s' := ((k : Int), ((k + 1 : Nat) : Int))) ?_).trans h2, .inl (take w h3)⟩
        · simp only [m_spec_l18Next_B2, lt_true hkl, cond_true, idx_getD 0 hkl, Option.bind_some, decide_eq_false c, cond_false, eSk, hneg, hw]
        · simp only [m_impl_SaturationAssign_B11, lt_true hkl, cond_true, idx_getD 0 hkl, Option.bind_some, decide_eq_false c, cond_false, hneg, hw]
      · subst hb1
        have eIb := choImpl_eq p h l hs.pa b (by omega)
        have hneg : decide ((b : Int) < 0) = false := lt_false (by omega)
        have dSk := degSpec_eq p h k (by omega)
        have dSb := degSpec_eq p h b (by omega)
        have dIk := degImpl_eq p h k (by omega)
        have dIb := degImpl_eq p h b (by omega)
        -- both tests, as one word
        have cond : ∃ t : Bool, (bif (decide (((choN p l k).length : Int) < v4)) then some true else (bif (((choN p l k).length : Int) == v4) then some (decide (degN (p.Apart.getD b []) < degN (p.Apart.getD k []))) else some false)) = some t ∧
            decide ((if (if ((choN p l k).length : Int) < ((choN p l b).length : Int) then (-1 : Int) else if ((choN p l b).length : Int) < ((choN p l k).length : Int) then 1 else 0) ≠ 0 then (if ((choN p l k).length : Int) < ((choN p l b).length : Int) then (-1 : Int) else if ((choN p l b).length : Int) < ((choN p l k).length : Int) then 1 else 0) else (if degN (p.Apart.getD b []) < degN (p.Apart.getD k []) then (-1 : Int) else if degN (p.Apart.getD k []) < degN (p.Apart.getD b []) then 1 else 0)) < 0) = t := by
          rw [hb4]
          by_cases c1 : ((choN p l k).length : Int) < ((choN p l b).length : Int)
          · refine ⟨true, by rw [decide_eq_true c1]; rfl, ?_⟩
            rw [if_pos c1, if_pos (by omega)]; rfl
          · by_cases c2 : ((choN p l b).length : Int) < ((choN p l k).length : Int)
            · have e : (((choN p l k).length : Int) == ((choN p l b).length : Int)) = false := by simp only [beq_eq_false_iff_ne, ne_eq]; omega
              refine ⟨false, by rw [decide_eq_false c1, e]; rfl, ?_⟩
              rw [if_neg c1, if_pos c2, if_pos (by omega)]; rfl
            · have e : (((choN p l k).length : Int) == ((choN p l b).length : Int)) = true := by rw [beq_iff_eq]; omega
              refine ⟨decide (degN (p.Apart.getD b []) < degN (p.Apart.getD k [])), by rw [decide_eq_false c1, e]; rfl, ?_⟩
              rw [if_neg c1, if_neg c2, if_neg (by omega)]
              by_cases c3 : degN (p.Apart.getD b []) < degN (p.Apart.getD k [])
              · rw [if_pos c3, decide_eq_true c3]; rfl
              · rw [if_neg c3, decide_eq_false c3]
                split <;> rfl
        obtain ⟨t, t1, t2⟩ := cond
        have spec1 : m_spec_l18Next_B2 p l (b : Int) v4 (k : Int) = some (.inl (bif t then ((k : Int), ((choN p l k).length : Int), ((k + 1 : Nat) : Int)) else ((b : Int), v4, ((k + 1 : Nat) : Int)))) := by
          simp only [m_spec_l18Next_B2, lt_true hkl, cond_true, idx_getD 0 hkl, Option.bind_some, decide_eq_false c, cond_false, eSk, hneg, dSk, dSb, t1, hw]
          cases t <;> rfl
        have impl1 : m_impl_SaturationAssign_B11 p l (b : Int) (k : Int) = some (.inl (bif t then ((k : Int), ((k + 1 : Nat) : Int)) else ((b : Int), ((k + 1 : Nat) : Int)))) := by
          simp only [m_impl_SaturationAssign_B11, lt_true hkl, cond_true, idx_getD 0 hkl, Option.bind_some, decide_eq_false c, cond_false, eIk, eIb, hneg, dIk, dIb, cmp_eq, cmp64_eq, or_eq, t2, hw]
          cases t <;> rfl
        cases t with
        | true =>
          obtain ⟨w, h1, h2, h3⟩ := ih (k + 1) (k : Int) ((choN p l k).length : Int) (by omega) (.inr ⟨k, rfl, hkl, ck, rfl⟩)
          exact ⟨w, (loopM_inl (body := fun s : (Int × Int × Int) => m_spec_l18Next_B2 p l s.1 s.2.1 s.2.2) (s := ((b : Int), v4, (k : Int))) spec1).trans h1, (loopM_inl (body := fun s : (Int × Int) => m_impl_SaturationAssign_B11 p l s.1 s.2) (s := ((b : Int), (k : Int))) impl1).trans h2, .inl (take w h3)⟩
        | false =>
          obtain ⟨w, h1, h2, h3⟩ := ih (k + 1) (b : Int) v4 (by omega) (.inr ⟨b, rfl, hb2, hb3, hb4⟩)
          refine ⟨w, (loopM_inl (body := fun s : (Int × Int × Int) => m_spec_l18Next_B2 p l s.1 s.2.1 s.2.2) (s := ((b : Int), v4, (k : Int))) spec1).trans h1, (loopM_inl (body := fun s : (Int × Int) => m_impl_SaturationAssign_B11 p l s.1 s.2) (s := ((b : Int), (k : Int))) impl1).trans h2, ?_⟩
          rcases h3 with h3 | ⟨h3, _⟩
          · exact .inl h3
          · omega

theorem sat_same (p : GProblem) (h : ProbOk p) : ∀ (m k : Nat) (l : List Int), k + m = p.Domains.length → SPart p l m →
    ∃ r c, loopM (fun s : (Int × (List Int)) => m_spec_SaturationAssign_B6 p s.1 s.2) ((k : Int), l) = some (r, c) ∧ loopM (fun s : (List Int) => m_impl_SaturationAssign_B6 p s) l = some (r, c) ∧ r.length ≤ 1048576 := by
  have hn := h.n2
  intro m
  induction m with
  | zero =>
    intro k l hk hs
    have hlen := hs.len
    have e : k = l.length := by omega
    have hno : hasN l (-1) = false := by
      have := List.count_eq_zero.1 hs.cnt
      cases hh : hasN l (-1) with
      | false => rfl
      | true => exact absurd (has_mem hh) this
    refine ⟨l, 0, loopM_inr ?_, loopM_inr ?_, by omega⟩
    · subst e
      simp only [m_spec_SaturationAssign_B6, lt_self, cond_false, Option.map_some]
    · simp only [m_impl_SaturationAssign_B6, containsN_eq l (-1) (by omega), hno, Option.bind_some, cond_false, Option.map_some]
  | succ m ih =>
    intro k l hk hs
    have hlen := hs.len
    have hkl : k < l.length := by omega
    have hmem : (-1 : Int) ∈ l := List.count_pos_iff.1 (by rw [hs.cnt]; omega)
    have hyes : hasN l (-1) = true := by
      unfold hasN; rw [List.any_eq_true]; exact ⟨-1, hmem, by rw [decide_eq_true_eq]⟩
    obtain ⟨w, h1, h2, h3⟩ := next_same p h l hs l.length 0 (-1) 0 (by omega) (.inl rfl)
    have h1 : loopM (fun s : (Int × Int × Int) => m_spec_l18Next_B2 p l s.1 s.2.1 s.2.2) ((-1 : Int), (0 : Int), (0 : Int)) = some w := h1
    have h2 : loopM (fun s : (Int × Int) => m_impl_SaturationAssign_B11 p l s.1 s.2) ((-1 : Int), (0 : Int)) = some w := h2
    have hb : ∃ b : Nat, w = (b : Int) ∧ b < l.length ∧ l.getD b 0 = -1 := by
      rcases h3 with h3 | ⟨_, h3⟩
      · exact h3
      · obtain ⟨j, hj, e⟩ := List.getElem_of_mem hmem
        exact absurd (by rw [getD_lt 0 hj]; exact e) (h3 j (by omega) hj)
    obtain ⟨b, rfl, hbl, hbv⟩ := hb
    have eS := choSpec_eq p h l hs.pa b (by omega)
    have eI := choImpl_eq p h l hs.pa b (by omega)
    have nS : m_spec_l18Next p l = some (b : Int) := by unfold m_spec_l18Next; rw [h1]; rfl
    cases hc : choN p l b with
    | nil =>
      rw [hc] at eS eI
      have z : ((([] : List Int).length : Int) == 0) = true := rfl
      refine ⟨[], 3, loopM_inr ?_, loopM_inr ?_, by simp⟩
      · simp only [m_spec_SaturationAssign_B6, lt_true hkl, cond_true, nS, Option.bind_some, eS, z, Option.map_some]
      · simp only [m_impl_SaturationAssign_B6, containsN_eq l (-1) (by omega), hyes, Option.bind_some, cond_true, h2, eI, z, Option.map_some]
    | cons c cs =>
      have hcm : c ∈ choN p l b := by rw [hc]; simp
      have hr := dom_rng h (k := b) (by omega) (choN_mem hcm).1
      rw [hc] at eS eI
      have z : (((c :: cs).length : Int) == 0) = false := by simp only [List.length_cons, beq_eq_false_iff_ne, ne_eq]; omega
      have i0 : idx (c :: cs) (0 : Int) = some c := rfl
      have hw : w64 ((k : Int) + 1) = ((k + 1 : Nat) : Int) := by rw [w64_id (by omega) (by omega)]; omega
      have hs' : SPart p (l.set b c) m := by
        refine ⟨by simpa using hlen, fun j hj => ?_, ?_⟩
        · rw [List.length_set] at hj
          have := hs.rng j hj
          simp only [List.getD_eq_getElem?_getD, List.getElem?_set] at this ⊢
          split
          · rename_i e
            subst e
            simp; omega
          · exact this
        · rw [List.count_set hbl, hs.cnt]
          have e1 : l[b] = -1 := by rw [getD_lt 0 hbl] at hbv; exact hbv
          have e2 : (c == -1) = false := by simp only [beq_eq_false_iff_ne, ne_eq]; omega
          rw [e1, e2]; simp
      obtain ⟨r, cc, r1, r2, r3⟩ := ih (k + 1) (l.set b c) (by omega) hs'
      refine ⟨r, cc, (loopM_inl (s' := (((k + 1 : Nat) : Int), l.set b c)) ?_).trans r1, (loopM_inl (s' := l.set b c) ?_).trans r2, r3⟩
      · simp only [m_spec_SaturationAssign_B6, lt_true hkl, cond_true, nS, Option.bind_some, eS, z, cond_false, i0, inB_nat hbl, hw, Int.toNat_natCast]
      · simp only [m_impl_SaturationAssign_B6, containsN_eq l (-1) (by omega), hyes, Option.bind_some, cond_true, h2, eI, z, cond_false, i0, inB_nat hbl, Int.toNat_natCast]

theorem empty_eq (n : Nat) (hn : n ≤ 1048576) : m_spec_l18Empty (n : Int) = some (List.replicate n (-1)) := by
  unfold m_spec_l18Empty
  have := build_loop (bytes := 8) n (fun _ => (-1 : Int)) (by omega) (fun s : (Int × (List Int)) => m_spec_l18Empty_B4 (n : Int) s.1 s.2) (fun k hk acc => ?_) (fun acc => ?_)
  · rw [this, Option.bind_some]
    congr 1
    apply List.ext_getElem?
    intro i
    by_cases hi : i < n
    · rw [List.getElem?_map, List.getElem?_range hi, List.getElem?_replicate, if_pos hi]; rfl
    · rw [List.getElem?_eq_none (by rw [List.length_map, List.length_range]; omega), List.getElem?_eq_none (by rw [List.length_replicate]; omega)]
  · simp only [m_spec_l18Empty_B4, lt_true hk, cond_true]
    rw [w64_id (by omega) (by omega)]; rfl
  · simp only [m_spec_l18Empty_B4, lt_self, cond_false, Option.map_some]

theorem satur_same (a : GProblem) (ha : FitsP a) : ∃ r c, m_spec_SaturationAssign a = some (r, c) ∧ m_impl_SaturationAssign a = some (r, c) ∧ r.length ≤ 1048576 := by
  unfold m_spec_SaturationAssign m_impl_SaturationAssign
  rw [probSpec_eq _ ha, probImpl_eq _ ha]
  cases ho : probOk a with
  | false => exact ⟨[], 1, rfl, rfl, by simp⟩
  | true =>
    have hp := probOk_true ho
    have hn := hp.n2
    have hP : SPart a (List.replicate a.Domains.length (-1)) a.Domains.length := ⟨by simp, fun k hk => by
      rw [List.length_replicate] at hk
      simp [hk], by rw [List.count_replicate_self]⟩
    obtain ⟨r, c, e1, e2, e3⟩ := sat_same a hp a.Domains.length 0 _ (by omega) hP
    have e1 : loopM (fun s : (Int × (List Int)) => m_spec_SaturationAssign_B6 a s.1 s.2) ((0 : Int), List.replicate a.Domains.length (-1)) = some (r, c) := e1
    unfold m_impl_Problem_unassigned
    simp only [Option.bind_some, Bool.not_true, cond_false, empty_eq _ (show a.Domains.length ≤ 1048576 by omega), repeat_eq (-1) a.Domains.length (by omega), e1, e2]
    exact ⟨r, c, rfl, rfl, e3⟩

theorem law_FnExactSaturationAssign (a : GProblem) (k : okGProblem a) : m_laws_FnExactSaturationAssign a = some true := by
  unfold m_laws_FnExactSaturationAssign
  obtain ⟨r, hr, hc⟩ := szProblem_eq a k 1048576 (by omega) (by omega)
  rw [hr, Option.bind_some]
  rcases hc with hc | ⟨hc, hc2, ha⟩
  · rw [decide_eq_true hc]; rfl
  rw [decide_eq_false (by omega), cond_false]
  obtain ⟨s, c, e1, e2, e3⟩ := satur_same a ha
  simp only [toProblem_eq _ ha, eqProblem_self _ ha, e1, e2, eq_len s (by omega), Option.bind_some, bne_self, cond_false, Bool.not_true, markProblem_eq a ha 1 (by omega) (by omega), lt_false (show ¬ (1 + (tot a.Domains : Int) + (tot a.Apart : Int) < 0) by omega), mark_len s (by omega), held_len s (by omega), pos_len s]
end Go.Wk
