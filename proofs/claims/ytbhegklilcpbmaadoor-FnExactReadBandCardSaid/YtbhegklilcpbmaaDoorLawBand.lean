/-
  Plain laws: names and bands. No program in sight. Our own work.
-/
import Derived.Test.YtbhegklilcpbmaaDoorLawIn
namespace Go.Wk
open Go Go.RowKit

def smallB (c : UInt8) : Bool := decide (97 ≤ c.toNat ∧ c.toNat ≤ 122)
def digitB (c : UInt8) : Bool := decide (48 ≤ c.toNat ∧ c.toNat ≤ 57)
def nameOk (l : List UInt8) : Bool := decide (1 ≤ l.length ∧ l.length ≤ 10) && (smallB (l.headD 0) && l.all fun c => smallB c || digitB c)

theorem headD_get {α : Type} {z : α} : ∀ (l : List α) (h : 0 < l.length), l.headD z = l[0]
  | a :: l, _ => rfl
  | [], h => absurd h (by simp)
theorem small_eq (c : UInt8) : m_spec_l01Small (c.toNat : Int) = some (smallB c) := by
  unfold m_spec_l01Small smallB
  by_cases h : 97 ≤ c.toNat
  · have h1 : (97 : Int) ≤ (c.toNat : Int) := by omega
    have h2 : decide ((c.toNat : Int) ≤ 122) = decide (97 ≤ c.toNat ∧ c.toNat ≤ 122) := by
      rw [Bool.eq_iff_iff]; simp; omega
    simp [h1, h2]
  · have h1 : ¬ (97 : Int) ≤ (c.toNat : Int) := by omega
    simp [h1, h]
theorem digit_eq (c : UInt8) : m_spec_l01Digit (c.toNat : Int) = some (digitB c) := by
  unfold m_spec_l01Digit digitB
  by_cases h : 48 ≤ c.toNat
  · have h1 : (48 : Int) ≤ (c.toNat : Int) := by omega
    have h2 : decide ((c.toNat : Int) ≤ 57) = decide (48 ≤ c.toNat ∧ c.toNat ≤ 57) := by
      rw [Bool.eq_iff_iff]; simp; omega
    simp [h1, h2]
  · have h1 : ¬ (48 : Int) ≤ (c.toNat : Int) := by omega
    simp [h1, h]

theorem specNameLoop (s : ByteArray) (hs : s.size ≤ 10) : loopM (fun v : Int => m_spec_l01Name_B7 s v) 0 = some (s.data.toList.all fun c => smallB c || digitB c) := by
  have hl := ba_len s
  refine all_loop s.data.toList _ _ (fun k hk => ?_) ?_
  · have hk' : k < s.size := by omega
    simp only [m_spec_l01Name_B7, lt_true hk', cond_true, idx_lt_nat hk, Option.bind_some, small_eq, digit_eq]
    rw [w64_id (by omega) (by omega)]
    cases smallB s.data.toList[k] <;> cases digitB s.data.toList[k] <;> simp
  · simp only [m_spec_l01Name_B7, hl, lt_self, cond_false, Option.map_some]
theorem specName_eq (s : ByteArray) : m_spec_l01Name s = some (nameOk s.data.toList) := by
  have hl := ba_len s
  unfold m_spec_l01Name nameOk
  rw [toList_eq, toList_eq]
  have e0 : (ByteArray.mk #[]).data.toList = [] := rfl
  rw [e0]
  by_cases h1 : s.data.toList = []
  · have : (s.data.toList == ([] : List UInt8)) = true := by simp [h1]
    rw [this]
    have h0 : decide (1 ≤ s.data.toList.length ∧ s.data.toList.length ≤ 10) = false := by rw [h1]; decide
    rw [h0]; rfl
  · have h1' : (s.data.toList == ([] : List UInt8)) = false := by
      cases hq : s.data.toList with
      | nil => exact absurd hq h1
      | cons a b => rfl
    rw [h1', cond_false]
    have hpos : 0 < s.data.toList.length := List.length_pos_iff.2 h1
    by_cases h2 : (10 : Int) < (s.size : Int)
    · rw [decide_eq_true h2]
      have h0 : decide (1 ≤ s.data.toList.length ∧ s.data.toList.length ≤ 10) = false := by simp only [decide_eq_false_iff_not]; omega
      rw [h0]; rfl
    · rw [decide_eq_false h2]
      have h0 : decide (1 ≤ s.data.toList.length ∧ s.data.toList.length ≤ 10) = true := by simp only [decide_eq_true_eq]; omega
      have hi : idx s.data.toList (0 : Int) = some s.data.toList[0] := idx_lt_nat (k := 0) hpos
      have hh : s.data.toList.headD 0 = s.data.toList[0] := headD_get _ hpos
      rw [h0, hh, hi]
      simp only [cond_false, Option.bind_some, small_eq, specNameLoop s (by omega), Bool.true_and]
      cases smallB s.data.toList[0] <;> rfl

theorem implNameLoop (s : ByteArray) (hs : s.size ≤ 10) : m_impl_onlyNameBytes s = some (s.data.toList.all fun c => smallB c || digitB c) := by
  unfold m_impl_onlyNameBytes
  have hl := ba_len s
  refine all_loop s.data.toList _ _ (fun k hk => ?_) ?_
  · have hk' : k < s.size := by omega
    simp only [m_impl_onlyNameBytes_B1, lt_true hk', cond_true, idx_lt_nat hk, Option.bind_some]
    rw [w64_id (by omega) (by omega)]
    generalize s.data.toList[k] = c
    unfold smallB digitB
    by_cases a1 : c.toNat < 97 <;> by_cases a2 : 122 < c.toNat <;> by_cases a3 : c.toNat < 48 <;> by_cases a4 : 57 < c.toNat <;>
      first
      | omega
      | (have b1 : ((c.toNat : Int) < 97) = (c.toNat < 97) := by simp only [eq_iff_iff]; omega
         have b2 : ((122 : Int) < (c.toNat : Int)) = (122 < c.toNat) := by simp only [eq_iff_iff]; omega
         have b3 : ((c.toNat : Int) < 48) = (c.toNat < 48) := by simp only [eq_iff_iff]; omega
         have b4 : ((57 : Int) < (c.toNat : Int)) = (57 < c.toNat) := by simp only [eq_iff_iff]; omega
         have e1 : decide (97 ≤ c.toNat ∧ c.toNat ≤ 122) = (!decide (c.toNat < 97) && !decide (122 < c.toNat)) := by rw [Bool.eq_iff_iff]; simp
         have e2 : decide (48 ≤ c.toNat ∧ c.toNat ≤ 57) = (!decide (c.toNat < 48) && !decide (57 < c.toNat)) := by rw [Bool.eq_iff_iff]; simp
         simp [b1, b2, b3, b4, e1, e2, a1, a2, a3, a4])
  · simp only [m_impl_onlyNameBytes_B1, hl, lt_self, cond_false, Option.map_some]
theorem implName_eq (s : ByteArray) : m_impl_IsName s = some (nameOk s.data.toList) := by
  have hl := ba_len s
  unfold m_impl_IsName nameOk
  by_cases h1 : (s.size : Int) < 1
  · rw [decide_eq_true h1]
    have h0 : decide (1 ≤ s.data.toList.length ∧ s.data.toList.length ≤ 10) = false := by simp only [decide_eq_false_iff_not]; omega
    rw [h0]; rfl
  · rw [decide_eq_false h1, cond_false]
    have hpos : 0 < s.data.toList.length := by omega
    by_cases h2 : (10 : Int) < (s.size : Int)
    · rw [decide_eq_true h2]
      have h0 : decide (1 ≤ s.data.toList.length ∧ s.data.toList.length ≤ 10) = false := by simp only [decide_eq_false_iff_not]; omega
      rw [h0]; rfl
    · rw [decide_eq_false h2]
      have h0 : decide (1 ≤ s.data.toList.length ∧ s.data.toList.length ≤ 10) = true := by simp only [decide_eq_true_eq]; omega
      have hi : idx s.data.toList (0 : Int) = some s.data.toList[0] := idx_lt_nat (k := 0) hpos
      have hh : s.data.toList.headD 0 = s.data.toList[0] := headD_get _ hpos
      rw [h0, hh, hi]
      simp only [cond_false, Option.bind_some, implNameLoop s (by omega), Bool.true_and]
      unfold smallB
      generalize s.data.toList[0] = c
      by_cases a1 : c.toNat < 97
      · have b1 : (c.toNat : Int) < 97 := by omega
        have b2 : ¬ 97 ≤ c.toNat := by omega
        simp [b1, b2]
      · have b1 : ¬ (c.toNat : Int) < 97 := by omega
        by_cases a2 : 122 < c.toNat
        · have b3 : (122 : Int) < (c.toNat : Int) := by omega
          have b4 : ¬ c.toNat ≤ 122 := by omega
          simp [b1, b3, b4]
        · have b3 : ¬ (122 : Int) < (c.toNat : Int) := by omega
          have b4 : c.toNat ≤ 122 := by omega
          have b5 : 97 ≤ c.toNat := by omega
          simp [b1, b3, b4, b5]

theorem szBand_eq (b : GBand) (left : Int) (h0 : 0 ≤ left) (h1 : left ≤ 1048576) (hs : b.Name.size ≤ maxLen) : ∃ r, m_laws_szBand b left = some r ∧ r ≤ 1048576 ∧ (r < 0 ∨ 0 ≤ r ∧ r = left - b.Name.size) := by
  unfold maxLen at hs
  unfold m_laws_szBand
  rw [w64_id (by omega) (by omega)]
  by_cases h : left - (b.Name.size : Int) < 0
  · exact ⟨-1, by simp [h], by omega, .inl (by omega)⟩
  · exact ⟨_, by simp [h], by omega, .inr ⟨by omega, rfl⟩⟩
theorem toBand_eq (b : GBand) : m_laws_toBand b = some b := rfl

end Go.Wk
