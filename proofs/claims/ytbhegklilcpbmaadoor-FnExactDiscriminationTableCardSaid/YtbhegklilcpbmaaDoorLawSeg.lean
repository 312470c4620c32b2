/-
  Plain laws: tables read along straight lines, whatever the table. No program in sight. Our own work.
-/
import Derived.Test.YtbhegklilcpbmaaDoorLawTable
namespace Go.Wk
open Go Go.RowKit

/-- The first place from 1 on that is the last, or whose number is not below x. -/
theorem seg_exists (p : Nat → Int) (x : Int) : ∀ (m k last : Nat), last - k = m → k ≤ last → ∃ K, k ≤ K ∧ K ≤ last ∧ (∀ j, k ≤ j → j < K → p j < x) ∧ (K = last ∨ x ≤ p K)
  | 0, k, last, h, hk => ⟨k, Nat.le_refl _, hk, fun j h1 h2 => by omega, .inl (by omega)⟩
  | m + 1, k, last, h, hk => by
    by_cases hx : x ≤ p k
    · exact ⟨k, Nat.le_refl _, hk, fun j h1 h2 => by omega, .inr hx⟩
    · obtain ⟨K, h1, h2, h3, h4⟩ := seg_exists p x m (k + 1) last (by omega) (by omega)
      refine ⟨K, by omega, h2, fun j hj hjK => ?_, h4⟩
      by_cases e : j = k
      · subst e; omega
      · exact h3 j (by omega) hjK
theorem seg_loop {β : Type} {body : Int → Option (Int ⊕ β)} {p : Nat → Int} {x : Int} {last K : Nat} {r : β} (h1 : 1 ≤ K) (h2 : K ≤ last) (h3 : ∀ j, 1 ≤ j → j < K → p j < x)
    (hstep : ∀ k : Nat, 1 ≤ k → k < last → p k < x → body (k : Int) = some (.inl ((k + 1 : Nat) : Int))) (hend : body (K : Int) = some (.inr r)) : loopM body 1 = some r := by
  have := loop_for (body := body) (r := r) (K - 1) (fun k => ((k + 1 : Nat) : Int)) (fun k hk => hstep (k + 1) (by omega) (by omega) (h3 _ (by omega) (by omega))) (by rw [show K - 1 + 1 = K by omega]; exact hend)
  simpa using this

theorem rnd_bound {a b c : Int} (hc : 0 < c) (h0 : 0 ≤ b) (h1 : b ≤ c) : (0 ≤ a → 0 ≤ rnd (a * b) c ∧ rnd (a * b) c ≤ a) ∧ (a ≤ 0 → a ≤ rnd (a * b) c ∧ rnd (a * b) c ≤ 0) := by
  have pos : ∀ a : Int, 0 ≤ a → 0 ≤ (2 * (a * b) + c) / (2 * c) ∧ (2 * (a * b) + c) / (2 * c) ≤ a := by
    intro a ha
    have hm : 0 ≤ a * b := Int.mul_nonneg ha h0
    have hm2 : a * b ≤ a * c := Int.mul_le_mul_of_nonneg_left h1 ha
    refine ⟨Int.ediv_nonneg (by omega) (by omega), ?_⟩
    have : (2 * (a * b) + c) / (2 * c) < a + 1 := by
      rw [Int.ediv_lt_iff_lt_mul (by omega), Int.add_mul, show a * (2 * c) = 2 * (a * c) by rw [Int.mul_left_comm]]
      omega
    omega
  constructor
  · intro ha
    have hm : 0 ≤ a * b := Int.mul_nonneg ha h0
    unfold rnd
    rw [if_neg (by omega)]
    exact pos a ha
  · intro ha
    unfold rnd
    by_cases hm : a * b < 0
    · rw [if_pos hm]
      have := pos (-a) (by omega)
      rw [Int.neg_mul, show 2 * -(a * b) + c = c - 2 * (a * b) by omega] at this
      omega
    · have h00 : a * b ≤ 0 := by
        have := Int.mul_nonneg (show 0 ≤ -a by omega) h0
        rw [Int.neg_mul] at this; omega
      have e : a * b = 0 := by omega
      rw [e, if_neg (by omega)]
      have : (2 * 0 + c) / (2 * c) = 0 := Int.ediv_eq_zero_of_lt (by omega) (by omega)
      omega
/-- A line lies between its ends. -/
theorem line_between {x0 y0 x1 y1 x lo hi : Int} (hb : -300000000 ≤ lo ∧ hi ≤ 300000000) (h0 : lo ≤ y0 ∧ y0 ≤ hi) (h1 : lo ≤ y1 ∧ y1 ≤ hi) : lo ≤ lineN x0 y0 x1 y1 x ∧ lineN x0 y0 x1 y1 x ≤ hi := by
  unfold lineN
  split
  · exact h0
  · split
    · exact h1
    · have hr := rnd_bound (a := y1 - y0) (b := x - x0) (c := x1 - x0) (by omega) (by omega) (by omega)
      by_cases h : 0 ≤ y1 - y0
      · have := hr.1 h
        rw [w64_id (by omega) (by omega)]; omega
      · have := hr.2 (by omega)
        rw [w64_id (by omega) (by omega)]; omega
end Go.Wk
