/-
  Plain laws: valid problems. No program in sight. Our own work.
-/
import Derived.Test.YtfadnbelnfofbaaLawProblem
import Derived.Test.YtfadnbelnfofbaaLawDom
import Derived.Test.YtfadnbelnfofbaaPlainB
namespace Go.Wk
open Go Go.RowKit

def apartAt (p : GProblem) (i j : Nat) : Int := (p.Apart.getD i []).getD j 0
def rowNum (p : GProblem) (i : Nat) : Bool := decide ((p.Apart.getD i []).length = p.Domains.length) && (decide (apartAt p i i = 0) && (p.Apart.getD i []).all fun x => decide ((0 : Int) ≤ x ∧ x ≤ 100))
def rowSym (p : GProblem) (i : Nat) : Bool := (List.range i).all fun j => decide (apartAt p i j = apartAt p j i)
def itemOk (p : GProblem) (i : Nat) : Bool := domOk (p.Domains.getD i []) && (rowNum p i && rowSym p i)
def probOk (p : GProblem) : Bool := decide (1 ≤ p.Domains.length ∧ p.Domains.length ≤ 24 ∧ p.Apart.length = p.Domains.length) && (List.range p.Domains.length).all (itemOk p)

theorem domsImpl_eq (l : List (List Int)) : m_impl_domainsOk l = some (decide (1 ≤ l.length ∧ l.length ≤ 24) && l.all domOk) := by
  unfold m_impl_domainsOk
  by_cases h1 : 1 ≤ (l.length : Int)
  case neg => rw [decide_eq_false h1, decide_eq_false (show ¬ (1 ≤ l.length ∧ l.length ≤ 24) by omega)]; rfl
  by_cases h2 : (l.length : Int) ≤ 24
  case neg => rw [decide_eq_true h1, decide_eq_false h2, decide_eq_false (show ¬ (1 ≤ l.length ∧ l.length ≤ 24) by omega)]; rfl
  rw [decide_eq_true h1, decide_eq_true h2, decide_eq_true (show (1 ≤ l.length ∧ l.length ≤ 24) by omega)]
  rw [containsFuncS_eq l _ (fun x => !domOk x) (fun x _ => by unfold m_impl_domainsOk_1; rw [domImpl_eq]; rfl) (by omega)]
  simp only [cond_true, Option.bind_some, Bool.true_and]
  rw [List.not_any_eq_all_not]
  simp

theorem innerSpec (p : GProblem) (i : Nat) (hi : i < p.Domains.length) (hn : p.Domains.length ≤ 24) (hl : p.Apart.length = p.Domains.length) (hrow : ∀ j, j ≤ i → (p.Apart.getD j []).length = p.Domains.length) :
    loopM (fun s : Int => m_spec_l17Ok_B17 p (i : Int) s) 0 = some (if ((p.Apart.getD i []).all fun x => decide ((0 : Int) ≤ x ∧ x ≤ 100)) && rowSym p i then .inl ((i + 1 : Nat) : Int) else .inr false) := by
  have key := all_loop_g (β := Int ⊕ Bool) p.Domains.length (fun s : Int => m_spec_l17Ok_B17 p (i : Int) s) (fun k => decide (0 ≤ apartAt p i k ∧ apartAt p i k ≤ 100) && (decide (¬ k < i) || decide (apartAt p i k = apartAt p k i))) (.inl ((i + 1 : Nat) : Int)) (.inr false) 0 (by omega) (fun j h => absurd h (by omega)) (fun k _ hk hp => ?_) (fun _ => ?_)
  · refine key.trans ?_
    congr 2
    rw [all_range_and]
    congr 1
    have e1 : (List.range p.Domains.length).all (fun k => decide (0 ≤ apartAt p i k ∧ apartAt p i k ≤ 100)) = (p.Apart.getD i []).all fun x => decide ((0 : Int) ≤ x ∧ x ≤ 100) := by
      rw [← all_range_get (p.Apart.getD i []) 0, hrow i (by omega)]; rfl
    have e2 : (List.range p.Domains.length).all (fun k => decide (¬ k < i) || decide (apartAt p i k = apartAt p k i)) = rowSym p i := by
      unfold rowSym
      rw [Bool.eq_iff_iff]
      simp only [List.all_eq_true, List.mem_range, Bool.or_eq_true, decide_eq_true_eq]
      exact ⟨fun h x hx => (h x (by omega)).resolve_left (by omega), fun h x hx => by
        by_cases hxi : x < i
        · exact .inr (h x hxi)
        · exact .inl hxi⟩
    rw [e1, e2]
  · have hia : i < p.Apart.length := by omega
    have hka : k < p.Apart.length := by omega
    have hr := hrow i (by omega)
    have hk2 : k < (p.Apart.getD i []).length := by omega
    simp only [m_spec_l17Ok_B17, lt_true hk, cond_true, idx_getD [] hia, idx_getD 0 hk2, Option.bind_some, in_eq]
    rw [w64_id (n := (k : Int) + 1) (by omega) (by omega)]
    show _ = if (decide (0 ≤ (p.Apart.getD i []).getD k 0 ∧ (p.Apart.getD i []).getD k 0 ≤ 100) && (decide (¬ k < i) || decide ((p.Apart.getD i []).getD k 0 = (p.Apart.getD k []).getD i 0))) = true then _ else _
    by_cases c1 : 0 ≤ (p.Apart.getD i []).getD k 0 ∧ (p.Apart.getD i []).getD k 0 ≤ 100
    case neg => rw [decide_eq_false c1]; rfl
    rw [decide_eq_true c1]
    by_cases c2 : k < i
    · have hr2 := hrow k (by omega)
      have hi2 : i < (p.Apart.getD k []).length := by omega
      rw [decide_eq_true (show (k : Int) < (i : Int) by omega), decide_eq_false (show ¬ ¬ k < i by omega), idx_getD [] hka]
      simp only [Bool.not_true, cond_false, cond_true, Option.bind_some, idx_getD 0 hi2, Bool.true_and, Bool.false_or]
      by_cases c3 : (p.Apart.getD i []).getD k 0 = (p.Apart.getD k []).getD i 0
      · have : ((p.Apart.getD k []).getD i 0 != (p.Apart.getD i []).getD k 0) = false := by rw [c3]; exact bne_self _
        rw [decide_eq_true c3, this]; rfl
      · have : ((p.Apart.getD k []).getD i 0 != (p.Apart.getD i []).getD k 0) = true := by
          simp only [bne_iff_ne, ne_eq]; exact fun e => c3 e.symm
        rw [decide_eq_false c3, this]; rfl
    · rw [decide_eq_false (show ¬ (k : Int) < (i : Int) by omega), decide_eq_true c2]; rfl
  · simp only [m_spec_l17Ok_B17, lt_self, cond_false, Option.map_some]
    rw [w64_id (n := (i : Int) + 1) (by omega) (by omega)]
    rfl

theorem probSpec_eq (p : GProblem) (hf : FitsP p) : m_spec_l17Ok p = some (probOk p) := by
  have hf1 := hf.1.1
  have hf2 := hf.2.1
  unfold m_spec_l17Ok probOk
  by_cases h1 : (p.Domains.length : Int) < 1
  · rw [decide_eq_true h1, decide_eq_false (show ¬ (1 ≤ p.Domains.length ∧ p.Domains.length ≤ 24 ∧ p.Apart.length = p.Domains.length) by omega)]; rfl
  by_cases h2 : (24 : Int) < (p.Domains.length : Int)
  · rw [decide_eq_false h1, decide_eq_true h2, decide_eq_false (show ¬ (1 ≤ p.Domains.length ∧ p.Domains.length ≤ 24 ∧ p.Apart.length = p.Domains.length) by omega)]; rfl
  by_cases h3 : p.Apart.length = p.Domains.length
  case neg =>
    have e : ((p.Apart.length : Int) != (p.Domains.length : Int)) = true := by simp; omega
    rw [decide_eq_false h1, decide_eq_false h2, e, decide_eq_false (show ¬ (1 ≤ p.Domains.length ∧ p.Domains.length ≤ 24 ∧ p.Apart.length = p.Domains.length) by omega)]; rfl
  have e : ((p.Apart.length : Int) != (p.Domains.length : Int)) = false := by simp; omega
  rw [decide_eq_false h1, decide_eq_false h2, e, decide_eq_true (show (1 ≤ p.Domains.length ∧ p.Domains.length ≤ 24 ∧ p.Apart.length = p.Domains.length) by omega)]
  simp only [cond_false, Option.bind_some, Bool.true_and]
  have key := all_loop_g p.Domains.length (fun s : Int => m_spec_l17Ok_B5 p s) (itemOk p) true false 0 (by omega) (fun j h => absurd h (by omega)) (fun i _ hi hp => ?_) (fun _ => ?_)
  · rw [if_bool] at key; exact key
  · have hia : i < p.Apart.length := by omega
    simp only [m_spec_l17Ok_B5, lt_true hi, cond_true, idx_getD [] hi, idx_getD [] hia, Option.bind_some, domSpec_eq]
    unfold itemOk
    cases domOk (p.Domains.getD i []) with
    | false => rfl
    | true =>
      unfold rowNum
      by_cases c1 : (p.Apart.getD i []).length = p.Domains.length
      case neg =>
        have e : (((p.Apart.getD i []).length : Int) != (p.Domains.length : Int)) = true := by simp only [bne_iff_ne, ne_eq]; omega
        rw [decide_eq_false c1, e]; rfl
      have e : (((p.Apart.getD i []).length : Int) != (p.Domains.length : Int)) = false := by rw [c1]; exact bne_self _
      rw [decide_eq_true c1, e]
      have hi2 : i < (p.Apart.getD i []).length := by omega
      simp only [Bool.not_true, cond_false, idx_getD 0 hi2, Option.bind_some, Bool.true_and]
      show _ = if (decide ((p.Apart.getD i []).getD i 0 = 0) && ((p.Apart.getD i []).all fun x => decide ((0 : Int) ≤ x ∧ x ≤ 100)) && rowSym p i) = true then _ else _
      by_cases c2 : (p.Apart.getD i []).getD i 0 = 0
      case neg =>
        have e : ((p.Apart.getD i []).getD i 0 != 0) = true := by simp only [bne_iff_ne, ne_eq]; exact c2
        rw [decide_eq_false c2, e]; rfl
      have e : ((p.Apart.getD i []).getD i 0 != 0) = false := by rw [c2]; rfl
      rw [decide_eq_true c2, e, cond_false, Bool.true_and]
      rw [innerSpec p i hi (by omega) h3 (fun j hj => ?_)]
      · split <;> rfl
      · by_cases hji : j < i
        · have := hp j hji
          unfold itemOk rowNum at this
          simp only [Bool.and_eq_true, decide_eq_true_eq] at this
          exact this.2.1.1
        · have : j = i := by omega
          rw [this]; exact c1
  · simp only [m_spec_l17Ok_B5, lt_self, cond_false, Option.map_some]

theorem innerImpl (p : GProblem) (i : Nat) (hi : i < p.Domains.length) (hn : p.Domains.length ≤ 24) (hl : p.Apart.length = p.Domains.length) (hrow : ∀ j, j ≤ i → (p.Apart.getD j []).length = p.Domains.length) :
    loopM (fun s : Int => m_impl_ValidProblem_B15 p (i : Int) (p.Apart.getD i []) s) 0 = some (if rowSym p i then .inl ((i + 1 : Nat) : Int) else .inr false) := by
  refine all_loop_g (β := Int ⊕ Bool) i (fun s : Int => m_impl_ValidProblem_B15 p (i : Int) (p.Apart.getD i []) s) (fun j => decide (apartAt p i j = apartAt p j i)) (.inl ((i + 1 : Nat) : Int)) (.inr false) 0 (by omega) (fun j h => absurd h (by omega)) (fun k _ hk hp => ?_) (fun _ => ?_)
  · have hka : k < p.Apart.length := by omega
    have hr := hrow i (by omega)
    have hr2 := hrow k (by omega)
    have hk2 : k < (p.Apart.getD i []).length := by omega
    have hi2 : i < (p.Apart.getD k []).length := by omega
    simp only [m_impl_ValidProblem_B15, lt_true hk, cond_true, idx_getD 0 hk2, idx_getD [] hka, idx_getD 0 hi2, Option.bind_some]
    rw [w64_id (n := (k : Int) + 1) (by omega) (by omega)]
    show _ = if decide ((p.Apart.getD i []).getD k 0 = (p.Apart.getD k []).getD i 0) = true then _ else _
    by_cases c3 : (p.Apart.getD i []).getD k 0 = (p.Apart.getD k []).getD i 0
    · have : ((p.Apart.getD i []).getD k 0 != (p.Apart.getD k []).getD i 0) = false := by rw [c3]; exact bne_self _
      rw [decide_eq_true c3, this]; rfl
    · have : ((p.Apart.getD i []).getD k 0 != (p.Apart.getD k []).getD i 0) = true := by
        simp only [bne_iff_ne, ne_eq]; exact c3
      rw [decide_eq_false c3, this]; rfl
  · simp only [m_impl_ValidProblem_B15, lt_self, cond_false, Option.map_some]
    rw [w64_id (n := (i : Int) + 1) (by omega) (by omega)]
    rfl

theorem probImpl_eq (p : GProblem) (hf : FitsP p) : m_impl_ValidProblem p = some (probOk p) := by
  have hf1 := hf.1.1
  have hf2 := hf.2.1
  unfold m_impl_ValidProblem probOk
  rw [domsImpl_eq]
  have ea : (List.range p.Domains.length).all (itemOk p) = (p.Domains.all domOk && (List.range p.Domains.length).all fun i => rowNum p i && rowSym p i) := by
    rw [← all_range_get p.Domains [] domOk, ← all_range_and]; rfl
  by_cases h1 : 1 ≤ p.Domains.length ∧ p.Domains.length ≤ 24
  case neg =>
    rw [decide_eq_false h1, decide_eq_false (show ¬ (1 ≤ p.Domains.length ∧ p.Domains.length ≤ 24 ∧ p.Apart.length = p.Domains.length) by omega)]; rfl
  rw [decide_eq_true h1, ea]
  by_cases h3 : p.Apart.length = p.Domains.length
  case neg =>
    have e : ((p.Apart.length : Int) != (p.Domains.length : Int)) = true := by simp only [bne_iff_ne, ne_eq]; omega
    rw [e, decide_eq_false (show ¬ (1 ≤ p.Domains.length ∧ p.Domains.length ≤ 24 ∧ p.Apart.length = p.Domains.length) by omega)]
    cases p.Domains.all domOk <;> rfl
  have e : ((p.Apart.length : Int) != (p.Domains.length : Int)) = false := by rw [h3]; exact bne_self _
  rw [e, decide_eq_true (show (1 ≤ p.Domains.length ∧ p.Domains.length ≤ 24 ∧ p.Apart.length = p.Domains.length) by omega)]
  cases hd : p.Domains.all domOk with
  | false => rfl
  | true =>
    simp only [Bool.true_and, Option.bind_some, Bool.not_true, cond_false]
    have key := all_loop_g p.Apart.length (fun s : Int => m_impl_ValidProblem_B5 p s) (fun i => rowNum p i && rowSym p i) true false 0 (by omega) (fun j h => absurd h (by omega)) (fun i _ hia hp => ?_) (fun _ => ?_)
    · rw [if_bool, h3] at key; exact key
    · have hi : i < p.Domains.length := by omega
      simp only [m_impl_ValidProblem_B5, lt_true hia, cond_true, idx_getD [] hia, Option.bind_some]
      unfold rowNum
      by_cases c1 : (p.Apart.getD i []).length = p.Domains.length
      case neg =>
        have e : (((p.Apart.getD i []).length : Int) != (p.Domains.length : Int)) = true := by simp only [bne_iff_ne, ne_eq]; omega
        rw [decide_eq_false c1, e]; rfl
      have e : (((p.Apart.getD i []).length : Int) != (p.Domains.length : Int)) = false := by rw [c1]; exact bne_self _
      rw [decide_eq_true c1, e, cond_false, allWithin_eq _ _ _ (show (p.Apart.getD i []).length ≤ 9223372036854775806 by omega)]
      have hi2 : i < (p.Apart.getD i []).length := by omega
      simp only [idx_getD 0 hi2, Option.bind_some, Bool.true_and]
      show _ = if (decide ((p.Apart.getD i []).getD i 0 = 0) && ((p.Apart.getD i []).all fun x => decide ((0 : Int) ≤ x ∧ x ≤ 100)) && rowSym p i) = true then _ else _
      cases ((p.Apart.getD i []).all fun x => decide ((0 : Int) ≤ x ∧ x ≤ 100)) with
      | false => rw [Bool.and_false, Bool.false_and]; rfl
      | true =>
        by_cases c2 : (p.Apart.getD i []).getD i 0 = 0
        case neg =>
          have e : ((p.Apart.getD i []).getD i 0 != 0) = true := by simp only [bne_iff_ne, ne_eq]; exact c2
          rw [decide_eq_false c2, e]; rfl
        have e : ((p.Apart.getD i []).getD i 0 != 0) = false := by rw [c2]; rfl
        rw [decide_eq_true c2, e]
        simp only [Bool.not_true, cond_false, Option.bind_some, Bool.true_and]
        rw [innerImpl p i hi (by omega) h3 (fun j hj => ?_)]
        · split <;> rfl
        · by_cases hji : j < i
          · have := hp j hji
            unfold rowNum at this
            simp only [Bool.and_eq_true, decide_eq_true_eq] at this
            exact this.1.1
          · have : j = i := by omega
            rw [this]; exact c1
    · simp only [m_impl_ValidProblem_B5, lt_self, cond_false, Option.map_some]

structure ProbOk (p : GProblem) : Prop where
  n1 : 1 ≤ p.Domains.length
  n2 : p.Domains.length ≤ 24
  len : p.Apart.length = p.Domains.length
  row : ∀ i, i < p.Domains.length → (p.Apart.getD i []).length = p.Domains.length
  dom : ∀ i, i < p.Domains.length → domOk (p.Domains.getD i []) = true
  diag : ∀ i, i < p.Domains.length → apartAt p i i = 0
  rng : ∀ i j, i < p.Domains.length → j < p.Domains.length → 0 ≤ apartAt p i j ∧ apartAt p i j ≤ 100
  sym : ∀ i j, i < p.Domains.length → j < p.Domains.length → apartAt p i j = apartAt p j i
theorem probOk_true {p : GProblem} (h : probOk p = true) : ProbOk p := by
  unfold probOk at h
  simp only [Bool.and_eq_true, decide_eq_true_eq] at h
  obtain ⟨⟨h1, h2, h3⟩, h4⟩ := h
  have h5 := range_all_true h4
  have hi : ∀ i, i < p.Domains.length → domOk (p.Domains.getD i []) = true ∧ ((p.Apart.getD i []).length = p.Domains.length ∧ apartAt p i i = 0 ∧ ((p.Apart.getD i []).all fun x => decide ((0 : Int) ≤ x ∧ x ≤ 100)) = true) ∧ rowSym p i = true := by
    intro i hi
    have := h5 i hi
    unfold itemOk rowNum at this
    simp only [Bool.and_eq_true, decide_eq_true_eq] at this
    exact this
  have hs : ∀ i j, i < p.Domains.length → j < i → apartAt p i j = apartAt p j i := by
    intro i j hi' hj
    have := range_all_true (hi i hi').2.2 j hj
    simpa using this
  refine ⟨h1, h2, h3, fun i h => (hi i h).2.1.1, fun i h => (hi i h).1, fun i h => (hi i h).2.1.2.1, fun i j h hj => ?_, fun i j h hj => ?_⟩
  · have hr := (hi i h).2.1.1
    have ha := (hi i h).2.1.2.2
    rw [List.all_eq_true] at ha
    have hj2 : j < (p.Apart.getD i []).length := by omega
    have := ha ((p.Apart.getD i [])[j]) (List.getElem_mem hj2)
    unfold apartAt
    rw [getD_lt 0 hj2]
    simpa using this
  · rcases Nat.lt_trichotomy i j with hl | hl | hl
    · exact (hs j i hj hl).symm
    · rw [hl]
    · exact hs i j h hl
end Go.Wk
