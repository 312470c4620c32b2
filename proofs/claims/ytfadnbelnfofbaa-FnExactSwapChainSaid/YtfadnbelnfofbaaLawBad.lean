/-
  Plain laws: how bad an item is. No program in sight. Our own work.
-/
import Derived.Test.YtfadnbelnfofbaaLawPairs
import Derived.Test.YtfadnbelnfofbaaLawAssignI
namespace Go.Wk
open Go Go.RowKit

/-- A state: a channel for every item. -/
structure StA (p : GProblem) (l : List Int) : Prop where
  len : l.length = p.Domains.length
  rng : ∀ k, k < l.length → 0 ≤ l.getD k 0 ∧ l.getD k 0 ≤ 999
def badN (p : GProblem) (l : List Int) (i : Nat) : Int := if hasN (p.Domains.getD i []) (l.getD i 0) then confN p l i (l.getD i 0) else w64 (confN p l i (l.getD i 0) + 24)
theorem StA.wide {p : GProblem} {l : List Int} (h : StA p l) : ∀ k, k < l.length → -1 ≤ l.getD k 0 ∧ l.getD k 0 ≤ 999 := fun k hk => by have := h.rng k hk; omega
theorem StA.set {p : GProblem} {l : List Int} (h : StA p l) {i : Nat} {c : Int} (hc : 0 ≤ c ∧ c ≤ 999) : StA p (l.set i c) := by
  refine ⟨by simpa using h.len, fun k hk => ?_⟩
  rw [List.length_set] at hk
  have := h.rng k hk
  simp only [List.getD_eq_getElem?_getD, List.getElem?_set] at this ⊢
  split
  · rename_i e
    subst e
    simpa [hk] using hc
  · exact this

theorem badSpec_eq (p : GProblem) (h : ProbOk p) (l : List Int) (hs : StA p l) (i : Nat) (hi : i < l.length) : m_spec_l19Bad p l (i : Int) = some (badN p l i) := by
  have hn := h.n2
  have hl := hs.len
  unfold m_spec_l19Bad badN
  have hd := dom_len h (k := i) (by omega)
  simp only [idx_getD 0 hi, idx_getD [] (show i < p.Domains.length by omega), Option.bind_some, confSpec_eq p h l hl hs.wide i hi _ (hs.wide i hi), hasSpec_eq _ _ (show (p.Domains.getD i []).length ≤ 1048576 by omega)]
  cases hasN (p.Domains.getD i []) (l.getD i 0) <;> rfl
theorem close_sym (p : GProblem) (h : ProbOk p) (l : List Int) (i j : Nat) (hi : i < p.Domains.length) (hj : j < p.Domains.length) : closeN p l i (l.getD i 0) j = closeN p l j (l.getD j 0) i := by
  unfold closeN
  rw [h.sym i j hi hj, Bool.eq_iff_iff]
  simp only [Bool.and_eq_true, decide_eq_true_eq]
  constructor <;> rintro ⟨h1, h2⟩ <;> exact ⟨by omega, by omega⟩

theorem conf_cnt (p : GProblem) (l : List Int) (hl : l.length ≤ 1048576) (i : Nat) : confN p l i (l.getD i 0) = (((List.range l.length).filter (closeN p l i (l.getD i 0))).length : Int) := confN_cnt p l hl i _
/-- The conflicts of all items are twice the violations. -/
theorem viol_sum (p : GProblem) (h : ProbOk p) (l : List Int) (hs : StA p l) : sumN l.length (fun i => ((List.range l.length).filter (closeN p l i (l.getD i 0))).length) = 2 * (violN p l).length := by
  have hn := h.n2
  have hlen := hs.len
  have hM := twice (fun i j => if i < l.length ∧ j < l.length then closeN p l i (l.getD i 0) j else false) (fun i j => by
    by_cases hc : i < l.length ∧ j < l.length
    · rw [if_pos hc, if_pos ⟨hc.2, hc.1⟩]; exact close_sym p h l i j (by omega) (by omega)
    · rw [if_neg hc, if_neg (fun hh => hc ⟨hh.2, hh.1⟩)]) (fun i => by
    split
    · unfold closeN; simp
    · rfl) l.length
  have f1 : sumN l.length (fun i => ((List.range l.length).filter (fun j => if i < l.length ∧ j < l.length then closeN p l i (l.getD i 0) j else false)).length) = sumN l.length (fun i => ((List.range l.length).filter (closeN p l i (l.getD i 0))).length) := by
    refine sumN_congr fun i hi => ?_
    congr 1
    refine List.filter_congr fun j hj => ?_
    have hj' : j < l.length := by simpa using hj
    rw [if_pos ⟨hi, hj'⟩]
  have f2 : sumN l.length (fun i => ((List.range' (i + 1) (l.length - (i + 1))).filter (fun j => if i < l.length ∧ j < l.length then closeN p l i (l.getD i 0) j else false)).length) = (violN p l).length := by
    unfold violN
    rw [List.length_flatMap, ← List.range_eq_range']
    refine (sumN_congr fun i hi => ?_).trans rfl
    rw [List.length_map]
    congr 1
    refine List.filter_congr fun j hj => ?_
    rw [List.mem_range'_1] at hj
    rw [if_pos ⟨hi, by omega⟩]
    unfold closeN nearN
    rw [decide_eq_true (show j ≠ i by omega), Bool.true_and]
  rw [f1, f2] at hM
  exact hM
theorem sumN_zero {n : Nat} {f : Nat → Nat} : sumN n f = 0 ↔ ∀ i, i < n → f i = 0 := by
  induction n with
  | zero => simp [sumN]
  | succ n ih =>
    rw [sumN_succ]
    constructor
    · intro h i hi
      have h1 : sumN n f = 0 := by omega
      rcases Nat.lt_succ_iff_lt_or_eq.1 hi with hi | hi
      · exact ih.1 h1 i hi
      · subst hi; omega
    · intro h
      have := ih.2 fun i hi => h i (by omega)
      have := h n (by omega)
      omega
/-- No item is bad where the channels lie in their domains and none is violated. -/
theorem bad_none (p : GProblem) (h : ProbOk p) (l : List Int) (hs : StA p l) : ((List.range l.length).all fun i => !decide (0 < badN p l i)) = (fitsN p l && (((violN p l).length : Int) == 0)) := by
  have hn := h.n2
  have hlen := hs.len
  have hv := viol_sum p h l hs
  have hle : ∀ j, ((List.range l.length).filter (closeN p l j (l.getD j 0))).length ≤ 24 := fun j => by
    have := List.length_filter_le (closeN p l j (l.getD j 0)) (List.range l.length)
    rw [List.length_range] at this; omega
  have hbad : ∀ i, decide (0 < badN p l i) = false ↔ hasN (p.Domains.getD i []) (l.getD i 0) = true ∧ ((List.range l.length).filter (closeN p l i (l.getD i 0))).length = 0 := by
    intro i
    have h1 := conf_cnt p l (by omega) i
    have h2 := hle i
    unfold badN
    rw [decide_eq_false_iff_not]
    cases hasN (p.Domains.getD i []) (l.getD i 0) with
    | true =>
      rw [if_pos rfl]
      constructor
      · intro hh; exact ⟨rfl, by omega⟩
      · intro hh; have := hh.2; omega
    | false =>
      rw [if_neg (by simp), w64_id (by omega) (by omega)]
      constructor
      · intro hh; omega
      · intro hh; exact absurd hh.1 (by simp)
  rw [Bool.eq_iff_iff]
  simp only [List.all_eq_true, List.mem_range, Bool.not_eq_true', hbad, Bool.and_eq_true, beq_iff_eq]
  unfold fitsN
  simp only [Bool.and_eq_true, decide_eq_true_eq, List.all_eq_true, List.mem_range]
  constructor
  · intro hh
    refine ⟨⟨hlen, fun i hi => (hh i hi).1⟩, ?_⟩
    have := sumN_zero.2 fun i hi => (hh i hi).2
    omega
  · rintro ⟨⟨_, h1⟩, h2⟩ i hi
    refine ⟨h1 i hi, ?_⟩
    exact sumN_zero.1 (show sumN l.length (fun i => ((List.range l.length).filter (closeN p l i (l.getD i 0))).length) = 0 by omega) i hi
end Go.Wk
