/-
  Plain law: MakeProblem. No program in sight. Our own work.
-/
import Derived.Test.YtmaahfokhfmmnaaLawItem
import Derived.Test.YtmaahfokhfmmnaaLawMaxS
import Derived.Test.YtmaahfokhfmmnaaLawEndP
namespace Go.Wk
open Go Go.RowKit

/-- A list is copied by appending its elements. -/
theorem copy_loop {α : Type} {bytes : Nat} (l : List α) (hl : l.length * (bytes + 1) ≤ 140737488355328) (hl2 : l.length ≤ 1048576) (body : Int × List α → Option ((Int × List α) ⊕ List α))
    (hstep : ∀ (k : Nat) (hk : k < l.length) (acc : List α), body ((k : Int), acc) = (appL bytes acc [l[k]]).bind fun z => some (Sum.inl (((k + 1 : Nat) : Int), z))) (hend : ∀ acc, body ((l.length : Int), acc) = some (.inr acc)) :
    loopM body ((0 : Int), []) = some l := by
  have := loop_for (body := body) (r := l) l.length (fun k => ((k : Int), l.take k)) (fun k hk => ?_) ?_
  · simpa using this
  · rw [hstep k hk, take_app hk hl]; rfl
  · rw [List.take_length]; exact hend _

theorem ownLists_eq (l : List (List Int)) (h : FitsSS l) : m_spec_l17OwnLists l = some l := by
  have h1 := h.1
  unfold m_spec_l17OwnLists
  have := copy_loop (bytes := 24) l (by omega) h1 (fun s : (Int × (List (List Int))) => m_spec_l17OwnLists_B4 l s.1 s.2) (fun k hk acc => ?_) (fun acc => ?_)
  · exact (congrArg (fun o => Option.bind o fun x => some x) this).trans rfl
  · simp only [m_spec_l17OwnLists_B4, lt_true hk, cond_true, idx_lt_nat hk, Option.bind_some, m_spec_l00Own, own_eq _ (h.2 _ (List.getElem_mem hk))]
    rw [w64_id (by omega) (by omega)]; rfl
  · simp only [m_spec_l17OwnLists_B4, lt_self, cond_false, Option.map_some]
theorem cloneLists_eq (l : List (List Int)) (h : FitsSS l) : m_impl_cloneLists l = some l := by
  have h1 := h.1
  unfold m_impl_cloneLists
  have := copy_loop (bytes := 24) l (by omega) h1 (fun s : (Int × (List (List Int))) => m_impl_cloneLists_B3 l s.1 s.2) (fun k hk acc => ?_) (fun acc => ?_)
  · exact (congrArg (fun o => Option.bind o fun x => some x) this).trans rfl
  · simp only [m_impl_cloneLists_B3, lt_true hk, cond_true, idx_lt_nat hk, Option.bind_some, m_slices_Clone_int64_int64, own_eq _ (h.2 _ (List.getElem_mem hk))]
    rw [w64_id (by omega) (by omega)]; rfl
  · simp only [m_impl_cloneLists_B3, lt_self, cond_false, Option.map_some]

/-! ### the pairs -/
def Sq (n : Nat) (A : List (List Int)) : Prop := A.length = n ∧ ∀ k, k < n → (A.getD k []).length = n
def badPair (n : Nat) (x : List Int) : Bool := decide (x.length ≠ 3) || (!decide (0 ≤ x.getD 0 0 ∧ x.getD 0 0 ≤ (n : Int) - 1) || (!decide (0 ≤ x.getD 1 0 ∧ x.getD 1 0 ≤ (n : Int) - 1) || (decide (x.getD 0 0 = x.getD 1 0) || !decide (0 ≤ x.getD 2 0 ∧ x.getD 2 0 ≤ 100))))
def raise (A : List (List Int)) (a b : Nat) (t : Int) : List (List Int) :=
  let d := if (A.getD a []).getD b 0 > t then (A.getD a []).getD b 0 else t
  (A.set a ((A.getD a []).set b d)).set b ((A.getD b []).set a d)
def pairsR (D : List (List Int)) (n : Nat) : List (List Int) → List (List Int) → GProblem × Int
  | [], A => (GProblem.mk D A, 0)
  | x :: r, A => if badPair n x then (GProblem.mk [] [], 2) else pairsR D n r (raise A (x.getD 0 0).toNat (x.getD 1 0).toNat (x.getD 2 0))

theorem raise_sq {n : Nat} {A : List (List Int)} (h : Sq n A) {a b : Nat} (ha : a < n) (hb : b < n) (t : Int) : Sq n (raise A a b t) := by
  unfold raise
  refine ⟨by simp [h.1], fun k hk => ?_⟩
  have h1 := h.1
  have hA : (A.getD a []).length = n := h.2 a ha
  have hB : (A.getD b []).length = n := h.2 b hb
  simp only [List.getD_eq_getElem?_getD, List.getElem?_set, List.length_set] at *
  split
  · split
    · simpa using hB
    · simp; omega
  · split
    · split
      · simpa using hA
      · simp; omega
    · exact h.2 k hk

theorem badPair_false {n : Nat} {x : List Int} (h : badPair n x = false) : x.length = 3 ∧ ∃ a b : Nat, x.getD 0 0 = (a : Int) ∧ x.getD 1 0 = (b : Int) ∧ a < n ∧ b < n ∧ a ≠ b ∧ 0 ≤ x.getD 2 0 ∧ x.getD 2 0 ≤ 100 := by
  unfold badPair at h
  simp only [Bool.or_eq_false_iff, decide_eq_false_iff_not, Bool.not_eq_false', decide_eq_true_eq] at h
  obtain ⟨h1, h2, h3, h4, h5⟩ := h
  obtain ⟨a, ha⟩ := Int.eq_ofNat_of_zero_le h2.1
  obtain ⟨b, hb⟩ := Int.eq_ofNat_of_zero_le h3.1
  exact ⟨by omega, a, b, ha, hb, by omega, by omega, by omega, h5.1, h5.2⟩

theorem set_getD_ne {A : List (List Int)} {a b : Nat} (h : a ≠ b) (x : List Int) : (A.set a x).getD b [] = A.getD b [] := by
  simp [List.getD_eq_getElem?_getD, List.getElem?_set, h]
theorem set_getD_eq {A : List (List Int)} {a : Nat} (h : a < A.length) (x : List Int) : (A.set a x).getD a [] = x := by
  simp [List.getD_eq_getElem?_getD, List.getElem?_set, h]

theorem pairsSpec (D : List (List Int)) (hD : D.length ≤ 24) (prs : List (List Int)) (hp : prs.length ≤ 1048576) : ∀ (m k : Nat) (A : List (List Int)), k + m = prs.length → Sq D.length A →
    loopM (fun s : (Int × (List (List Int))) => m_spec_MakeProblem_B29 D prs D s.1 s.2) ((k : Int), A) = some (pairsR D D.length (prs.drop k) A) := by
  intro m
  induction m with
  | zero =>
    intro k A hk _
    have e : k = prs.length := by omega
    subst e
    rw [List.drop_length]
    refine loopM_inr ?_
    simp only [m_spec_MakeProblem_B29, lt_self, cond_false, Option.map_some, pairsR]
  | succ m ih =>
    intro k A hk hA
    have hk' : k < prs.length := by omega
    rw [List.drop_eq_getElem_cons hk', pairsR]
    generalize hx : prs[k] = x
    have hw : w64 ((D.length : Int) - 1) = (D.length : Int) - 1 := w64_id (by omega) (by omega)
    cases hb : badPair D.length x with
    | true =>
      rw [if_pos rfl]
      refine loopM_inr ?_
      simp only [m_spec_MakeProblem_B29, lt_true hk', cond_true, idx_lt_nat hk', Option.bind_some, hx]
      by_cases h3 : x.length = 3
      case neg =>
        have e : ((x.length : Int) != 3) = true := by simp only [bne_iff_ne, ne_eq]; omega
        rw [e]; rfl
      have e : ((x.length : Int) != 3) = false := by rw [h3]; rfl
      have i0 : idx x (0 : Int) = some (x.getD 0 0) := idx_getD (k := 0) 0 (by omega)
      have i1 : idx x (1 : Int) = some (x.getD 1 0) := idx_getD (k := 1) 0 (by omega)
      have i2 : idx x (2 : Int) = some (x.getD 2 0) := idx_getD (k := 2) 0 (by omega)
      simp only [e, cond_false, i0, i1, i2, Option.bind_some, in_eq, hw]
      unfold badPair at hb
      rw [decide_eq_false (show ¬ x.length ≠ 3 by omega), Bool.false_or] at hb
      cases c0 : decide (0 ≤ x.getD 0 0 ∧ x.getD 0 0 ≤ (D.length : Int) - 1) with
      | false => rfl
      | true =>
        cases c1 : decide (0 ≤ x.getD 1 0 ∧ x.getD 1 0 ≤ (D.length : Int) - 1) with
        | false => rfl
        | true =>
          rw [c0, c1] at hb
          simp only [Bool.not_true, Bool.false_or] at hb
          have ee : (x.getD 0 0 == x.getD 1 0) = decide (x.getD 0 0 = x.getD 1 0) := by rw [Bool.eq_iff_iff]; simp
          simp only [Bool.not_true, cond_false, ee]
          cases c2 : decide (x.getD 0 0 = x.getD 1 0) with
          | true => rfl
          | false =>
            rw [c2, Bool.false_or] at hb
            simp only [cond_false, hb, Option.bind_some, cond_true]
            rfl
    | false =>
      rw [if_neg (by simp)]
      obtain ⟨h3, a, b, ha, hbb, han, hbn, hab, ht0, ht1⟩ := badPair_false hb
      have hs := raise_sq hA han hbn (x.getD 2 0)
      refine (loopM_inl (s' := (((k + 1 : Nat) : Int), raise A (x.getD 0 0).toNat (x.getD 1 0).toNat (x.getD 2 0))) ?_).trans (ih (k + 1) _ (by omega) (by rw [ha, hbb]; exact hs))
      simp only [m_spec_MakeProblem_B29, lt_true hk', cond_true, idx_lt_nat hk', Option.bind_some, hx]
      have e : ((x.length : Int) != 3) = false := by rw [h3]; rfl
      have i0 : idx x (0 : Int) = some (a : Int) := by rw [← ha]; exact idx_getD (k := 0) 0 (by omega)
      have i1 : idx x (1 : Int) = some (b : Int) := by rw [← hbb]; exact idx_getD (k := 1) 0 (by omega)
      have i2 : idx x (2 : Int) = some (x.getD 2 0) := idx_getD (k := 2) 0 (by omega)
      have c0 : decide (0 ≤ (a : Int) ∧ (a : Int) ≤ (D.length : Int) - 1) = true := by rw [decide_eq_true_eq]; omega
      have c1 : decide (0 ≤ (b : Int) ∧ (b : Int) ≤ (D.length : Int) - 1) = true := by rw [decide_eq_true_eq]; omega
      have c2 : ((a : Int) == (b : Int)) = false := by rw [beq_eq_false_iff_ne]; omega
      have c3 : decide (0 ≤ x.getD 2 0 ∧ x.getD 2 0 ≤ 100) = true := by rw [decide_eq_true_eq]; omega
      have hAl := hA.1
      have ra := hA.2 a han
      have rb := hA.2 b hbn
      have j1 : idx A (a : Int) = some (A.getD a []) := idx_getD [] (by omega)
      have j2 : idx (A.getD a []) (b : Int) = some ((A.getD a []).getD b 0) := idx_getD 0 (by omega)
      have u1 : inB (A.getD a []) (b : Int) = some () := inB_nat (by omega)
      simp only [e, cond_false, i0, i1, i2, Option.bind_some, in_eq, hw, c0, c1, c2, c3, Bool.not_true, j1, j2, maxS_eq, u1, Int.toNat_natCast]
      generalize hd : (if (A.getD a []).getD b 0 > x.getD 2 0 then (A.getD a []).getD b 0 else x.getD 2 0) = d
      have j3 : idx (A.set a ((A.getD a []).set b d)) (b : Int) = some (A.getD b []) := by
        rw [idx_getD [] (by simp; omega), set_getD_ne hab]
      have u2 : inB (A.getD b []) (a : Int) = some () := inB_nat (by omega)
      simp only [j3, Option.bind_some, u2]
      rw [w64_id (by omega) (by omega), ha, hbb]
      unfold raise
      rw [Int.toNat_natCast, Int.toNat_natCast, hd]
      rfl

theorem pairsImpl (D : List (List Int)) (hD : D.length ≤ 24) (prs : List (List Int)) (hp : prs.length ≤ 1048576) : ∀ (m k : Nat) (A : List (List Int)), k + m = prs.length → Sq D.length A →
    loopM (fun s : (Int × (List (List Int))) => m_impl_MakeProblem_B26 prs D s.1 s.2) ((k : Int), A) = some (pairsR D D.length (prs.drop k) A) := by
  intro m
  induction m with
  | zero =>
    intro k A hk _
    have e : k = prs.length := by omega
    subst e
    rw [List.drop_length]
    refine loopM_inr ?_
    simp only [m_impl_MakeProblem_B26, lt_self, cond_false, Option.map_some, pairsR]
  | succ m ih =>
    intro k A hk hA
    have hk' : k < prs.length := by omega
    rw [List.drop_eq_getElem_cons hk', pairsR]
    generalize hx : prs[k] = x
    have hit : ∀ i : Int, m_impl_Problem_hasItem (GProblem.mk D A) i = some (decide (0 ≤ i ∧ i ≤ (D.length : Int) - 1)) := fun i => itemImpl_eq (GProblem.mk D A) (by show D.length ≤ 1048576; omega) i
    cases hb : badPair D.length x with
    | true =>
      rw [if_pos rfl]
      refine loopM_inr ?_
      simp only [m_impl_MakeProblem_B26, lt_true hk', cond_true, idx_lt_nat hk', Option.bind_some, hx]
      by_cases h3 : x.length = 3
      case neg =>
        have e : ((x.length : Int) != 3) = true := by simp only [bne_iff_ne, ne_eq]; omega
        rw [e]; rfl
      have e : ((x.length : Int) != 3) = false := by rw [h3]; rfl
      have i0 : idx x (0 : Int) = some (x.getD 0 0) := idx_getD (k := 0) 0 (by omega)
      have i1 : idx x (1 : Int) = some (x.getD 1 0) := idx_getD (k := 1) 0 (by omega)
      have i2 : idx x (2 : Int) = some (x.getD 2 0) := idx_getD (k := 2) 0 (by omega)
      simp only [e, cond_false, i0, i1, i2, Option.bind_some, within_eq, hit]
      unfold badPair at hb
      rw [decide_eq_false (show ¬ x.length ≠ 3 by omega), Bool.false_or] at hb
      cases c0 : decide (0 ≤ x.getD 0 0 ∧ x.getD 0 0 ≤ (D.length : Int) - 1) with
      | false => rfl
      | true =>
        cases c1 : decide (0 ≤ x.getD 1 0 ∧ x.getD 1 0 ≤ (D.length : Int) - 1) with
        | false => rfl
        | true =>
          rw [c0, c1] at hb
          simp only [Bool.not_true, Bool.false_or] at hb
          have ee : (x.getD 0 0 == x.getD 1 0) = decide (x.getD 0 0 = x.getD 1 0) := by rw [Bool.eq_iff_iff]; simp
          simp only [Bool.not_true, cond_false, ee]
          cases c2 : decide (x.getD 0 0 = x.getD 1 0) with
          | true => rfl
          | false =>
            rw [c2, Bool.false_or] at hb
            simp only [cond_false, hb, Option.bind_some, cond_true]
            rfl
    | false =>
      rw [if_neg (by simp)]
      obtain ⟨h3, a, b, ha, hbb, han, hbn, hab, ht0, ht1⟩ := badPair_false hb
      have hs := raise_sq hA han hbn (x.getD 2 0)
      refine (loopM_inl (s' := (((k + 1 : Nat) : Int), raise A (x.getD 0 0).toNat (x.getD 1 0).toNat (x.getD 2 0))) ?_).trans (ih (k + 1) _ (by omega) (by rw [ha, hbb]; exact hs))
      simp only [m_impl_MakeProblem_B26, lt_true hk', cond_true, idx_lt_nat hk', Option.bind_some, hx]
      have e : ((x.length : Int) != 3) = false := by rw [h3]; rfl
      have i0 : idx x (0 : Int) = some (a : Int) := by rw [← ha]; exact idx_getD (k := 0) 0 (by omega)
      have i1 : idx x (1 : Int) = some (b : Int) := by rw [← hbb]; exact idx_getD (k := 1) 0 (by omega)
      have i2 : idx x (2 : Int) = some (x.getD 2 0) := idx_getD (k := 2) 0 (by omega)
      have c0 : decide (0 ≤ (a : Int) ∧ (a : Int) ≤ (D.length : Int) - 1) = true := by rw [decide_eq_true_eq]; omega
      have c1 : decide (0 ≤ (b : Int) ∧ (b : Int) ≤ (D.length : Int) - 1) = true := by rw [decide_eq_true_eq]; omega
      have c2 : ((a : Int) == (b : Int)) = false := by rw [beq_eq_false_iff_ne]; omega
      have c3 : decide (0 ≤ x.getD 2 0 ∧ x.getD 2 0 ≤ 100) = true := by rw [decide_eq_true_eq]; omega
      have hAl := hA.1
      have ra := hA.2 a han
      have rb := hA.2 b hbn
      have j1 : idx A (a : Int) = some (A.getD a []) := idx_getD [] (by omega)
      have j2 : idx (A.getD a []) (b : Int) = some ((A.getD a []).getD b 0) := idx_getD 0 (by omega)
      have u1 : inB (A.getD a []) (b : Int) = some () := inB_nat (by omega)
      simp only [e, cond_false, i0, i1, i2, Option.bind_some, within_eq, hit, c0, c1, c2, c3, Bool.not_true, m_impl_Problem_tighten, j1, j2, u1, Int.toNat_natCast]
      have hd : (if x.getD 2 0 > (A.getD a []).getD b 0 then x.getD 2 0 else (A.getD a []).getD b 0) = (if (A.getD a []).getD b 0 > x.getD 2 0 then (A.getD a []).getD b 0 else x.getD 2 0) := by
        split <;> split <;> omega
      rw [hd]
      generalize hd : (if (A.getD a []).getD b 0 > x.getD 2 0 then (A.getD a []).getD b 0 else x.getD 2 0) = d
      have j3 : idx (A.set a ((A.getD a []).set b d)) (b : Int) = some (A.getD b []) := by
        rw [idx_getD [] (by simp; omega), set_getD_ne hab]
      have j4 : idx (A.set a ((A.getD a []).set b d)) (a : Int) = some ((A.getD a []).set b d) := by
        rw [idx_getD [] (by simp; omega), set_getD_eq (by omega)]
      have j5 : idx ((A.getD a []).set b d) (b : Int) = some d := by
        rw [idx_nat, List.getElem?_set_self (by omega)]
      have u2 : inB (A.getD b []) (a : Int) = some () := inB_nat (by omega)
      simp only [j3, j4, j5, Option.bind_some, u2]
      rw [w64_id (by omega) (by omega), ha, hbb]
      unfold raise
      rw [Int.toNat_natCast, Int.toNat_natCast, hd]
      rfl

theorem pairs_fits (D : List (List Int)) (hD : FitsSS D) (hn : D.length ≤ 24) : ∀ (prs A : List (List Int)), Sq D.length A → FitsP (pairsR D D.length prs A).1
  | [], A, h => ⟨hD, by have := h.1; show A.length ≤ 1048576; omega, fun x hx => by
      obtain ⟨k, hk, rfl⟩ := List.getElem_of_mem (l := A) hx
      have h1 := h.1
      have := h.2 k (by omega)
      rw [getD_lt [] hk] at this
      omega⟩
  | x :: r, A, h => by
    rw [pairsR]
    cases hb : badPair D.length x with
    | true => exact ⟨⟨by simp, by simp⟩, by simp, by simp⟩
    | false =>
      obtain ⟨h3, a, b, ha, hbb, han, hbn, hab, ht0, ht1⟩ := badPair_false hb
      rw [if_neg (by simp), ha, hbb]
      exact pairs_fits D hD hn r _ (raise_sq h han hbn _)

/-! ### the start -/
def zeros (n : Nat) : List (List Int) := List.replicate n (List.replicate n 0)
theorem zeros_sq (n : Nat) : Sq n (zeros n) := ⟨by simp [zeros], fun k hk => by simp [zeros, List.getD_eq_getElem?_getD, hk]⟩
theorem zeros_take (n k : Nat) (hk : k ≤ n) : (zeros n).take k = List.replicate k (List.replicate n 0) := by simp [zeros, List.take_replicate, Nat.min_eq_left hk]

theorem make_same (D prs : List (List Int)) (hD : FitsSS D) (hp : FitsSS prs) : ∃ r c, m_spec_MakeProblem D prs = some (r, c) ∧ m_impl_MakeProblem D prs = some (r, c) ∧ FitsP r := by
  unfold m_spec_MakeProblem m_impl_MakeProblem
  have hnil : FitsP (GProblem.mk [] []) := ⟨⟨by simp, by simp⟩, by simp, by simp⟩
  rw [in_eq, domsImpl_eq, Option.bind_some, Option.bind_some]
  by_cases h1 : 1 ≤ D.length ∧ D.length ≤ 24
  case neg =>
    rw [decide_eq_false h1, decide_eq_false (show ¬ ((1 : Int) ≤ (D.length : Int) ∧ (D.length : Int) ≤ 24) by omega), Bool.false_and]
    exact ⟨_, 1, rfl, rfl, hnil⟩
  rw [decide_eq_true h1, decide_eq_true (show ((1 : Int) ≤ (D.length : Int) ∧ (D.length : Int) ≤ 24) by omega), Bool.true_and]
  simp only [Bool.not_true, cond_false, ownLists_eq D hD, Option.bind_some]
  have mk : mkL 8 (D.length : Int) (0 : Int) = some (List.replicate D.length 0) := mkL_nat _ (by omega)
  have hz : (zeros D.length).length = D.length := (zeros_sq D.length).1
  have htk : ∀ k, k < D.length → appL 24 ((zeros D.length).take k) [List.replicate D.length (0 : Int)] = some ((zeros D.length).take (k + 1)) := by
    intro k hk
    have hk' : k < (zeros D.length).length := by omega
    have e : (zeros D.length)[k] = List.replicate D.length 0 := by simp [zeros]
    rw [← e, take_app hk' (by omega)]
  have hall : (zeros D.length).take D.length = zeros D.length := by rw [List.take_of_length_le]; omega
  have specL : loopM (fun s : (Int × (List (List Int))) => m_spec_MakeProblem_B12 D prs D s.1 s.2) ((0 : Int), ([] : (List (List Int)))) = some (if D.all domOk then pairsR D D.length prs (zeros D.length) else (GProblem.mk [] [], 1)) := by
    have key : ∀ (m k : Nat), k + m = D.length → (∀ j (hj : j < D.length), j < k → domOk D[j] = true) → loopM (fun s : (Int × (List (List Int))) => m_spec_MakeProblem_B12 D prs D s.1 s.2) ((k : Int), (zeros D.length).take k) = some (if D.all domOk then pairsR D D.length prs (zeros D.length) else (GProblem.mk [] [], 1)) := by
      intro m
      induction m with
      | zero =>
        intro k hk hd
        have e : k = D.length := by omega
        subst e
        have ha : D.all domOk = true := by
          rw [List.all_eq_true]; intro x hx
          obtain ⟨j, hj, rfl⟩ := List.getElem_of_mem hx
          exact hd j hj hj
        rw [ha, if_pos rfl, hall]
        refine loopM_inr ?_
        have hps := pairsSpec D h1.2 prs hp.1 prs.length 0 (zeros D.length) (by omega) (zeros_sq _)
        have hps : loopM (fun s : (Int × (List (List Int))) => m_spec_MakeProblem_B29 D prs D s.1 s.2) ((0 : Int), zeros D.length) = some (pairsR D D.length prs (zeros D.length)) := hps
        simp only [m_spec_MakeProblem_B12, lt_self, cond_false, hps, Option.map_some]
      | succ m ih =>
        intro k hk hd
        have hk' : k < D.length := by omega
        cases hdk : domOk D[k] with
        | false =>
          have ha : D.all domOk = false := by rw [List.all_eq_false]; exact ⟨D[k], List.getElem_mem hk', by rw [hdk]; simp⟩
          rw [ha, if_neg (by simp)]
          refine loopM_inr ?_
          simp only [m_spec_MakeProblem_B12, lt_true hk', cond_true, idx_lt_nat hk', Option.bind_some, domSpec_eq, hdk, Bool.not_false, Option.map_some]
        | true =>
          refine (loopM_inl (s' := (((k + 1 : Nat) : Int), (zeros D.length).take (k + 1))) ?_).trans (ih (k + 1) (by omega) (fun j hj hjk => ?_))
          · simp only [m_spec_MakeProblem_B12, lt_true hk', cond_true, idx_lt_nat hk', Option.bind_some, domSpec_eq, hdk, Bool.not_true, cond_false, mk, htk k hk']
            rw [w64_id (by omega) (by omega)]; rfl
          · by_cases hjk' : j < k
            · exact hd j hj hjk'
            · have : j = k := by omega
              subst this; exact hdk
    have := key D.length 0 (by omega) (fun j _ h => absurd h (by omega))
    simpa using this
  have implL : loopM (fun s : (Int × (List (List Int))) => m_impl_MakeProblem_B13 D s.1 s.2) ((0 : Int), ([] : (List (List Int)))) = some (zeros D.length) := by
    have := loop_for (body := fun s : (Int × (List (List Int))) => m_impl_MakeProblem_B13 D s.1 s.2) (r := zeros D.length) D.length (fun k => ((k : Int), (zeros D.length).take k)) (fun k hk => ?_) ?_
    · simpa using this
    · simp only [m_impl_MakeProblem_B13, lt_true hk, cond_true, Option.bind_some, mk, htk k hk]
      rw [w64_id (by omega) (by omega)]; rfl
    · simp only [m_impl_MakeProblem_B13, lt_self, cond_false, hall, Option.map_some]
  rw [specL]
  cases hdm : D.all domOk with
  | false => exact ⟨_, 1, rfl, rfl, hnil⟩
  | true =>
    have hps := pairsImpl D h1.2 prs hp.1 prs.length 0 (zeros D.length) (by omega) (zeros_sq _)
    have hps : loopM (fun s : (Int × (List (List Int))) => m_impl_MakeProblem_B26 prs D s.1 s.2) ((0 : Int), zeros D.length) = some (pairsR D D.length prs (zeros D.length)) := hps
    simp only [Bool.not_true, cond_false, cloneLists_eq D hD, implL, Option.bind_some, hps, if_true]
    exact ⟨_, _, rfl, rfl, pairs_fits D hD h1.2 prs _ (zeros_sq _)⟩

theorem law_FnExactMakeProblem (D prs : List (List Int)) (kD : D.length ≤ maxLen ∧ ∀ x ∈ D, (x.length ≤ maxLen ∧ ∀ xy ∈ x, ((Lit.int .i64 xy).wf = true))) (kp : prs.length ≤ maxLen ∧ ∀ x ∈ prs, (x.length ≤ maxLen ∧ ∀ xy ∈ x, ((Lit.int .i64 xy).wf = true))) : m_laws_FnExactMakeProblem D prs = some true := by
  unfold m_laws_FnExactMakeProblem
  obtain ⟨r, hr, hc⟩ := szInt64SS_eq D 1048576 (by omega) (by omega) kD.1 (fun x hx => (kD.2 x hx).1)
  rw [hr, Option.bind_some]
  rcases hc with hc | ⟨hc, hc2, hD⟩
  · rw [decide_eq_true hc]; rfl
  rw [decide_eq_false (by omega), cond_false]
  obtain ⟨r2, hr2, hc'⟩ := szInt64SS_eq prs r hc (by omega) kp.1 (fun x hx => (kp.2 x hx).1)
  rw [hr2, Option.bind_some]
  rcases hc' with hc' | ⟨hc', hc2', hp⟩
  · rw [decide_eq_true hc']; rfl
  rw [decide_eq_false (by omega), cond_false]
  obtain ⟨s, c, e1, e2, e3⟩ := make_same D prs hD hp
  have h2 := fits_tot hD
  have h3 := fits_tot hp
  have h4 := hp.1
  simp only [toInt64SS_eq _ hD, toInt64SS_eq _ hp, eqSS_self D hD, eqSS_self prs hp, e1, e2, eqProblem_self s e3, Option.bind_some, bne_self, cond_false, Bool.not_true, markSS_1 D hD, markInt64SS_eq prs (1 + (tot D : Int)) (by omega) (by omega) (by omega), lt_false (show ¬ (1 + (tot D : Int) + (tot prs : Int) < 0) by omega), markP_1 s e3, heldP_1 s e3, pos_P s]
end Go.Wk
