/-
  Plain laws: Repeat of one element. No program in sight. Our own work.
-/
import Derived.Test.YtfadnbelnfofbaaPlainF
import Derived.Test.YtfadnbelnfofbaaMod
namespace Go.Wk
open Go Go.RowKit

theorem wrapU {n : Int} (h0 : 0 ≤ n) (h1 : n < 18446744073709551616) : IntKind.wrap .u64 n = n := by
  have e : IntKind.wrap .u64 n = n % 18446744073709551616 := by
    simp [IntKind.wrap, IntKind.bits, IntKind.signed]
  rw [e]
  exact Int.emod_eq_of_lt h0 h1
theorem andU {n : Nat} (h : n < 4294967296) : bitOp .and .u64 (n : Int) (4294967295 : Int) = some (n : Int) := by
  have e : (BitVec.ofInt 64 (n : Int) &&& BitVec.ofInt 64 (4294967295 : Int)).toNat = n := by
    have e1 : (BitVec.ofInt 64 (n : Int)).toNat = n := by
      rw [BitVec.toNat_ofInt]
      omega
    have e2 : (BitVec.ofInt 64 (4294967295 : Int)).toNat = 2 ^ 32 - 1 := by decide
    rw [BitVec.toNat_and, e1, e2, Nat.and_two_pow_sub_one_eq_mod]
    omega
  have e3 : bitOp .and .u64 (n : Int) (4294967295 : Int) = some (IntKind.wrap .u64 ((BitVec.ofInt 64 (n : Int) &&& BitVec.ofInt 64 (4294967295 : Int)).toNat : Int)) := rfl
  rw [e3, e, wrapU (by omega) (by omega)]
theorem shrU {n : Nat} (h : n < 4294967296) : bitOp .shr .u64 (n : Int) (32 : Int) = some (0 : Int) := by
  have e : bitOp .shr .u64 (n : Int) (32 : Int) = some ((n : Int).fdiv 4294967296) := rfl
  rw [e, Int.fdiv_eq_ediv_of_nonneg _ (by omega), Int.ediv_eq_zero_of_lt (by omega) (by omega)]
theorem mulU {n : Nat} (h : n < 4294967296) : m_math_bits_Mul 1 (n : Int) = some (0, (n : Int)) := by
  unfold m_math_bits_Mul m_math_bits_Mul64
  have a1 : bitOp .and .u64 (1 : Int) (4294967295 : Int) = some (1 : Int) := andU (n := 1) (by omega)
  have a0 : bitOp .and .u64 (0 : Int) (4294967295 : Int) = some (0 : Int) := andU (n := 0) (by omega)
  have s1 : bitOp .shr .u64 (1 : Int) (32 : Int) = some (0 : Int) := shrU (n := 1) (by omega)
  have s0 : bitOp .shr .u64 (0 : Int) (32 : Int) = some (0 : Int) := shrU (n := 0) (by omega)
  have w0 : IntKind.wrap .u64 (0 : Int) = 0 := wrapU (by omega) (by omega)
  have wn : IntKind.wrap .u64 (n : Int) = (n : Int) := wrapU (by omega) (by omega)
  simp only [a1, s1, andU h, shrU h, Option.bind_some, Int.one_mul, Int.zero_mul, Int.mul_zero, wn, w0, Int.add_zero, s0, a0]

theorem rep_loop (n : Nat) (hn : n ≤ 1048576) (x : Int) : ∀ (d k : Nat) (v : List Int), n - k ≤ d → 1 ≤ k → k ≤ n → v.length = n → v.take k = List.replicate k x →
    loopM (fun s : (Int × (List Int)) => m_slices_Repeat_int64_int64_B14 s.1 s.2) ((k : Int), v) = some (List.replicate n x) := by
  have hend : ∀ v : List Int, v.length = n → v.take n = List.replicate n x → loopM (fun s : (Int × (List Int)) => m_slices_Repeat_int64_int64_B14 s.1 s.2) ((n : Int), v) = some (List.replicate n x) := by
    intro v hv ht
    have e : v = List.replicate n x := by rw [← ht, List.take_of_length_le (by omega)]
    refine loopM_inr ?_
    simp only [m_slices_Repeat_int64_int64_B14, hv, lt_self, cond_false, Option.map_some]
    rw [e]
  intro d
  induction d with
  | zero =>
    intro k v hd h1 hk hv ht
    have e : k = n := by omega
    subst e
    exact hend v hv ht
  | succ d ih =>
    intro k v hd h1 hk hv ht
    by_cases hkn : k = n
    · subst hkn; exact hend v hv ht
    have hlt : (k : Int) < (v.length : Int) := by omega
    have hc : cutB v (k : Int) = some () := by unfold cutB; rw [if_pos (by omega)]
    have hml : (v.take k).length = k := by rw [List.length_take]; omega
    have hw : w64 ((k : Int) + ((min (v.take k).length (v.length - k) : Nat) : Int)) = ((k + min k (n - k) : Nat) : Int) := by
      rw [hml, hv, w64_id (by omega) (by omega)]; omega
    have hys : ((v.take k).take (v.length - k)).length = min k (n - k) := by rw [List.length_take, hml, hv]; omega
    have hol : (over v k ((v.take k).take (v.length - k))).length = n := by
      unfold over; rw [List.length_append, List.length_append, hml, hys, List.length_drop]; omega
    refine (loopM_inl (s' := (((k + min k (n - k) : Nat) : Int), over v k ((v.take k).take (v.length - k)))) ?_).trans (ih (k + min k (n - k)) _ (by omega) (by omega) (by omega) hol ?_)
    · simp only [m_slices_Repeat_int64_int64_B14, decide_eq_true hlt, cond_true, hc, Option.bind_some, Int.toNat_natCast, hw]
    · unfold over
      rw [List.take_left' (by rw [List.length_append, hml, hys]), ht, List.take_replicate, hv]
      rw [List.replicate_append_replicate]
      congr 1
      omega

theorem repeat_eq (x : Int) (n : Nat) (hn : n ≤ 1048576) : m_slices_Repeat_int64_int64 [x] (n : Int) = some (List.replicate n x) := by
  unfold m_slices_Repeat_int64_int64
  have h0 : decide ((n : Int) < 0) = false := by rw [decide_eq_false_iff_not]; omega
  have w1 : IntKind.wrap .u64 (([x] : List Int).length : Int) = 1 := wrapU (by simp) (by simp)
  have wn : IntKind.wrap .u64 (n : Int) = (n : Int) := wrapU (by omega) (by omega)
  have hb : decide ((9223372036854775807 : Int) < (n : Int)) = false := by rw [decide_eq_false_iff_not]; omega
  have hz : decide ((0 : Int) < (0 : Int)) = false := rfl
  have hmk : mkL 8 (w64 (n : Int)) (0 : Int) = some (List.replicate n 0) := by
    rw [w64_id (by omega) (by omega)]; exact mkL_nat _ (by omega)
  simp only [h0, cond_false, Option.bind_some, w1, wn, mulU (show n < 4294967296 by omega), hz, hb, hmk, List.length_replicate]
  cases n with
  | zero =>
    have := loopM_inr (body := fun s : (Int × (List Int)) => m_slices_Repeat_int64_int64_B14 s.1 s.2) (s := ((0 : Int), ([] : List Int))) (r := []) rfl
    exact (congrArg (fun o => Option.bind o fun x13 => some x13) this).trans rfl
  | succ m =>
    have e1 : min ([x] : List Int).length (m + 1 - 0) = 1 := by simp
    have e2 : over (List.replicate (m + 1) (0 : Int)) 0 (([x] : List Int).take (m + 1 - 0)) = x :: List.replicate m 0 := by
      unfold over; simp
    rw [e1, e2]
    have := rep_loop (m + 1) hn x (m + 1) 1 (x :: List.replicate m 0) (by omega) (by omega) (by omega) (by simp) (by simp)
    have this : loopM (fun s : (Int × (List Int)) => m_slices_Repeat_int64_int64_B14 s.1 s.2) (((1 : Nat) : Int), x :: List.replicate m 0) = _ := this
    rw [this]; rfl
end Go.Wk
