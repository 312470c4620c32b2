/-
  Plain laws: a text read as a number. No program in sight. Our own work.
-/
import Derived.Test.YtbhegklilcpbmaaDoorLawDec
import Derived.Test.YtbhegklilcpbmaaDoorLawBand
import Derived.Test.YtbhegklilcpbmaaDoorErr
namespace Go.Wk
open Go Go.RowKit

theorem digitB_iff (c : UInt8) : digitB c = true ↔ 48 ≤ c.toNat ∧ c.toNat ≤ 57 := by unfold digitB; rw [decide_eq_true_eq]
/-- What digits spell. -/
def dvF (a : Nat) (ds : List UInt8) : Nat := ds.foldl (fun a c => 10 * a + (c.toNat - 48)) a
def dv (ds : List UInt8) : Nat := dvF 0 ds
theorem dv_snoc (ds : List UInt8) (c : UInt8) : dv (ds ++ [c]) = 10 * dv ds + (c.toNat - 48) := by unfold dv dvF; rw [List.foldl_append]; rfl
theorem dvF_lt : ∀ (ds : List UInt8) (a : Nat), (∀ c ∈ ds, digitB c = true) → dvF a ds < (a + 1) * 10 ^ ds.length := by
  intro ds
  induction ds with
  | nil => intro a _; show a < (a + 1) * 10 ^ 0; rw [Nat.pow_zero]; omega
  | cons c r ih =>
    intro a h
    have h1 := ih (10 * a + (c.toNat - 48)) fun x hx => h x (by simp [hx])
    have h2 := (digitB_iff c).1 (h c (by simp))
    have h3 : (10 * a + (c.toNat - 48) + 1) * 10 ^ r.length ≤ (10 * (a + 1)) * 10 ^ r.length := Nat.mul_le_mul_right _ (by omega)
    show dvF (10 * a + (c.toNat - 48)) r < (a + 1) * 10 ^ (r.length + 1)
    rw [Nat.pow_succ, Nat.mul_comm (10 ^ r.length) 10, ← Nat.mul_assoc, Nat.mul_comm (a + 1) 10]
    exact Nat.lt_of_lt_of_le h1 h3
theorem dv_lt (ds : List UInt8) (h : ∀ c ∈ ds, digitB c = true) : dv ds < 10 ^ ds.length := by
  have := dvF_lt ds 0 h
  rwa [Nat.zero_add, Nat.one_mul] at this
theorem dec_dig : ∀ (n u : Nat), u ≤ n → ∀ c ∈ Lib.decDigits u, digitB c = true := by
  intro n
  induction n with
  | zero =>
    intro u hu c hc
    have : u = 0 := by omega
    subst this
    rw [Lib.decDigits_one (by omega)] at hc
    rw [List.mem_singleton] at hc; subst hc; rfl
  | succ n ih =>
    intro u hu c hc
    rw [digitB_iff]
    by_cases h : u < 10
    · rw [Lib.decDigits_one h, List.mem_singleton] at hc
      subst hc
      rw [UInt8.toNat_ofNat']; omega
    · rw [Lib.decDigits, dif_neg h] at hc
      rcases List.mem_append.1 hc with hc | hc
      · exact (digitB_iff c).1 (ih (u / 10) (by omega) c hc)
      · rw [List.mem_singleton] at hc
        subst hc
        rw [UInt8.toNat_ofNat']; omega
theorem dec_ne (u : Nat) : Lib.decDigits u ≠ [] := by
  rw [Lib.decDigits]
  split <;> simp
theorem dec_head : ∀ (n u : Nat), u ≤ n → 0 < u → (Lib.decDigits u).headD 0 ≠ 48 := by
  intro n
  induction n with
  | zero => intro u h1 h2; omega
  | succ n ih =>
    intro u h1 h2 e
    by_cases h : u < 10
    · rw [Lib.decDigits_one h] at e
      have e : UInt8.ofNat (48 + u) = 48 := e
      have := congrArg UInt8.toNat e
      rw [UInt8.toNat_ofNat'] at this
      have h48 : (48 : UInt8).toNat = 48 := rfl
      omega
    · rw [Lib.decDigits, dif_neg h] at e
      refine ih (u / 10) (by omega) (by omega) ?_
      cases hd : Lib.decDigits (u / 10) with
      | nil => exact absurd hd (dec_ne _)
      | cons x r => rw [hd] at e; exact e
/-- A numeral spells its number, and no other text does. -/
theorem dec_dv : ∀ (n : Nat) (ds : List UInt8), ds.length ≤ n → (∀ c ∈ ds, digitB c = true) → ds ≠ [] → (ds.headD 0 = 48 → ds.length = 1) → Lib.decDigits (dv ds) = ds := by
  intro n
  induction n with
  | zero => intro ds h1 _ h2; exact absurd (List.length_eq_zero_iff.1 (by omega)) h2
  | succ n ih =>
    intro ds hl hd hne hh
    rcases List.eq_nil_or_concat ds with e | ⟨init, c, e⟩
    · exact absurd e hne
    · rw [List.concat_eq_append] at e
      subst e
      have hc := (digitB_iff c).1 (hd c (by simp))
      have ec : UInt8.ofNat (48 + (c.toNat - 48)) = c := by
        rw [show 48 + (c.toNat - 48) = c.toNat by omega, UInt8.ofNat_toNat]
      rw [dv_snoc]
      cases init with
      | nil =>
        have e0 : dv [] = 0 := rfl
        rw [e0, Nat.mul_zero, Nat.zero_add, Lib.decDigits_one (by omega), ec]; rfl
      | cons x r =>
        have hx : x ≠ 48 := fun e => by
          have := hh (by rw [e]; rfl)
          simp at this
        have hi := ih (x :: r) (by simp at hl ⊢; omega) (fun y hy => hd y (List.mem_append_left _ hy)) (by simp) (fun e => absurd e hx)
        have hpos : 0 < dv (x :: r) := by
          rcases Nat.eq_zero_or_pos (dv (x :: r)) with h0 | h0
          · rw [h0, Lib.decDigits_one (by omega)] at hi
            injection hi with h1 _
            exact absurd h1.symm hx
          · exact h0
        rw [Lib.decDigits, dif_neg (by omega), show (10 * dv (x :: r) + (c.toNat - 48)) / 10 = dv (x :: r) by omega, show (10 * dv (x :: r) + (c.toNat - 48)) % 10 = c.toNat - 48 by omega, hi, ec]

/-- A sign ahead. -/
def negW (w : List UInt8) : Bool := w.headD 0 == 45
def digW (w : List UInt8) : List UInt8 := if negW w then w.drop 1 else w
def canon (w : List UInt8) : Bool := decide (digW w ≠ [] ∧ (digW w).length ≤ 18 ∧ ((digW w).headD 0 = 48 → w.length = 1)) && (digW w).all digitB
def numV (w : List UInt8) : Int := if negW w then -(dv (digW w) : Int) else (dv (digW w) : Int)
theorem canon_itoa {w : List UInt8} (h : canon w = true) : Lib.itoa (numV w) = w ∧ -1000000000000000000 < numV w ∧ numV w < 1000000000000000000 := by
  unfold canon at h
  rw [Bool.and_eq_true, decide_eq_true_eq, List.all_eq_true] at h
  obtain ⟨⟨h1, h2, h3⟩, h4⟩ := h
  have hlt := dv_lt (digW w) h4
  have hle : 10 ^ (digW w).length ≤ 10 ^ 18 := Nat.pow_le_pow_right (by omega) h2
  have hd := dec_dv _ (digW w) (Nat.le_refl _) h4 h1 (fun e => by
    have := h3 e
    have hl : (digW w).length ≤ w.length := by unfold digW; split <;> simp
    have : 0 < (digW w).length := List.length_pos_iff.2 h1
    omega)
  unfold numV
  cases hn : negW w with
  | false =>
    have e : digW w = w := by unfold digW; rw [hn]; rfl
    rw [e] at hd hlt hle ⊢
    simp only [Bool.false_eq_true, if_false]
    refine ⟨?_, by omega, by omega⟩
    unfold Lib.itoa
    rw [if_neg (by omega), Int.toNat_natCast, hd]
  | true =>
    have e : digW w = w.drop 1 := by unfold digW; rw [hn]; rfl
    have hw : w = 45 :: w.drop 1 := by
      cases w with
      | nil => exact absurd hn (by decide)
      | cons c r =>
        have : c = 45 := by unfold negW at hn; simpa using hn
        rw [this]; rfl
    have hpos : 0 < dv (digW w) := by
      rcases Nat.eq_zero_or_pos (dv (digW w)) with h0 | h0
      · rw [h0, Lib.decDigits_one (by omega)] at hd
        have := h3 (by rw [← hd]; rfl)
        have hl : w.length = (w.drop 1).length + 1 := by rw [List.length_drop]; have := congrArg List.length hw; simp at this; omega
        rw [← e] at hl
        have : 0 < (digW w).length := List.length_pos_iff.2 h1
        omega
      · exact h0
    simp only [if_true]
    refine ⟨?_, by omega, by omega⟩
    unfold Lib.itoa
    rw [if_pos (by omega), Int.natAbs_neg, Int.natAbs_natCast, hd, e]
    exact hw.symm
theorem itoa_canon {n : Int} (h : (digW (Lib.itoa n)).length ≤ 18) : canon (Lib.itoa n) = true := by
  unfold canon
  rw [Bool.and_eq_true, decide_eq_true_eq, List.all_eq_true]
  unfold Lib.itoa at h ⊢
  by_cases hn : n < 0
  · rw [if_pos hn] at h ⊢
    have e : digW (45 :: Lib.decDigits n.natAbs) = Lib.decDigits n.natAbs := rfl
    rw [e] at h ⊢
    exact ⟨⟨dec_ne _, h, fun hh => absurd hh (dec_head _ _ (Nat.le_refl _) (by omega))⟩, dec_dig _ _ (Nat.le_refl _)⟩
  · rw [if_neg hn] at h ⊢
    have hng : negW (Lib.decDigits n.toNat) = false := by
      unfold negW
      cases hd : Lib.decDigits n.toNat with
      | nil => rfl
      | cons c r =>
        have := (digitB_iff c).1 (dec_dig _ n.toNat (Nat.le_refl _) c (by rw [hd]; simp))
        rw [beq_eq_false_iff_ne]
        intro e
        have e : c = 45 := e
        subst e
        have h45 : (45 : UInt8).toNat = 45 := rfl
        omega
    have e : digW (Lib.decDigits n.toNat) = Lib.decDigits n.toNat := by unfold digW; rw [hng]; rfl
    rw [e] at h ⊢
    refine ⟨⟨dec_ne _, h, fun hh => ?_⟩, dec_dig _ _ (Nat.le_refl _)⟩
    by_cases h0 : n.toNat = 0
    · rw [h0, Lib.decDigits_one (by omega)]; rfl
    · exact absurd hh (dec_head _ _ (Nat.le_refl _) (by omega))
end Go.Wk
