/-
  Plain laws: a number's decimal text. No program in sight. Our own work.
-/
import Derived.Test.YtbhegklilcpbmaaDoorMore
import Derived.Test.YtbhegklilcpbmaaDoorMod
import Derived.Test.YtbhegklilcpbmaaDoorPlainD
import Derived.Test.YtbhegklilcpbmaaDoorTab
import Derived.Test.YtbhegklilcpbmaaDoorStr
namespace Go.Wk
open Go Go.RowKit

/-- A number's digits, the last ahead. -/
def dl (u : Nat) : List Int := ((Lib.decDigits u).reverse).map fun b => (b.toNat : Int)
theorem dl_small {u : Nat} (h : u < 10) : dl u = [48 + (u : Int)] := by
  unfold dl
  rw [Lib.decDigits_one h]
  simp only [List.reverse_cons, List.reverse_nil, List.nil_append, List.map_cons, List.map_nil, UInt8.toNat_ofNat']
  congr 1
  omega
theorem dl_big {u : Nat} (h : ¬ u < 10) : dl u = (48 + ((u % 10 : Nat) : Int)) :: dl (u / 10) := by
  unfold dl
  rw [Lib.decDigits, dif_neg h]
  simp only [List.reverse_append, List.reverse_cons, List.reverse_nil, List.nil_append, List.cons_append, List.map_cons, UInt8.toNat_ofNat']
  congr 1
  omega
theorem dig_len : ∀ (m u : Nat), u < 10 ^ (m + 1) → (Lib.decDigits u).length ≤ m + 1 := by
  intro m
  induction m with
  | zero =>
    intro u hu
    rw [Lib.decDigits_one (by simpa using hu)]; simp
  | succ m ih =>
    intro u hu
    by_cases h : u < 10
    · rw [Lib.decDigits_one h]; simp
    · rw [Lib.decDigits, dif_neg h, List.length_append]
      have := ih (u / 10) (Nat.div_lt_of_lt_mul (by rw [Nat.pow_succ] at hu; omega))
      simp; omega
theorem itoa_len {n : Int} (h : -9223372036854775808 ≤ n ∧ n ≤ 9223372036854775807) : (Lib.itoa n).length ≤ 21 := by
  unfold Lib.itoa
  split
  · have := dig_len 19 n.natAbs (by omega)
    simp; omega
  · have := dig_len 19 n.toNat (by omega)
    omega
theorem rem_abs (v : Int) : (v.tmod 10 < 0 ∧ 0 - v.tmod 10 = ((v.natAbs % 10 : Nat) : Int)) ∨ (¬ v.tmod 10 < 0 ∧ v.tmod 10 = ((v.natAbs % 10 : Nat) : Int)) := by
  have h : (v.tmod 10).natAbs = v.natAbs % 10 := by rw [Int.natAbs_tmod]; rfl
  omega
theorem div_abs (v : Int) : (v.tdiv 10).natAbs = v.natAbs / 10 := by rw [Int.natAbs_tdiv]; rfl

theorem dec_loop : ∀ (m : Nat) (v : Int) (acc : List Int), v ≠ 0 → v.natAbs < 10 ^ (m + 1) → m ≤ 30 → acc.length + m ≤ 100 → -9223372036854775808 ≤ v ∧ v ≤ 9223372036854775807 →
    loopM (fun s : (Int × (List Int)) => m_spec_l01Dec_B4 s.1 s.2) (v, acc) = some (acc ++ dl v.natAbs) := by
  have step : ∀ (v : Int) (acc : List Int), v ≠ 0 → acc.length ≤ 100 → -9223372036854775808 ≤ v ∧ v ≤ 9223372036854775807 → m_spec_l01Dec_B4 v acc = some (Sum.inl (v.tdiv 10, acc ++ [48 + ((v.natAbs % 10 : Nat) : Int)])) := by
    intro v acc hv ha hr
    have hd := div_abs v
    have e1 : (v != (0 : Int)) = true := bne_iff_ne.2 hv
    have eap : appL 1 acc [48 + ((v.natAbs % 10 : Nat) : Int)] = some (acc ++ [48 + ((v.natAbs % 10 : Nat) : Int)]) := appL_of (by rw [List.length_singleton]; omega)
    have ew : IntKind.wrap .u8 (w64 (48 + ((v.natAbs % 10 : Nat) : Int))) = 48 + ((v.natAbs % 10 : Nat) : Int) := by
      rw [w64_id (by omega) (by omega)]
      have : ∀ x : Int, 0 ≤ x → x < 256 → IntKind.wrap .u8 x = x := by
        intro x h0 h1
        have : IntKind.wrap .u8 x = x % 256 := rfl
        rw [this, Int.emod_eq_of_lt h0 h1]
      exact this _ (by omega) (by omega)
    simp only [m_spec_l01Dec_B4, e1, cond_true]
    rcases rem_abs v with ⟨c, e⟩ | ⟨c, e⟩
    · rw [decide_eq_true c, cond_true, w64_id (by omega) (by omega), e]
      simp only [Option.bind_some, ew, eap]
      rw [w64_id (by omega) (by omega)]
    · rw [decide_eq_false c, cond_false, e]
      simp only [Option.bind_some, ew, eap]
      rw [w64_id (by omega) (by omega)]
  intro m
  induction m with
  | zero =>
    intro v acc hv hm hm2 ha hr
    have hd := div_abs v
    have hs : v.natAbs < 10 := by simpa using hm
    have hz : v.tdiv 10 = 0 := by omega
    rw [loopM_inl (step v acc hv (by omega) hr), hz, dl_small hs, Nat.mod_eq_of_lt hs]
    exact loopM_inr rfl
  | succ m ih =>
    intro v acc hv hm hm2 ha hr
    have hd := div_abs v
    rw [loopM_inl (step v acc hv (by omega) hr)]
    by_cases hs : v.natAbs < 10
    · have hz : v.tdiv 10 = 0 := by omega
      rw [hz, dl_small hs, Nat.mod_eq_of_lt hs]
      exact loopM_inr rfl
    · have hlt : (v.tdiv 10).natAbs < 10 ^ (m + 1) := by
        rw [hd]; exact Nat.div_lt_of_lt_mul (by rw [Nat.pow_succ] at hm; omega)
      rw [ih (v.tdiv 10) _ (by omega) hlt (by omega) (by rw [List.length_append, List.length_singleton]; omega) (by omega), dl_big hs, hd]
      simp
theorem rev_loop (x : List Int) (hx : x.length ≤ 1000) : ∀ (k : Nat) (acc : List Int), k ≤ x.length → acc.length + k ≤ 1000 → loopM (fun s : (Int × (List Int)) => m_spec_l01Dec_B20 x s.1 s.2) ((k : Int) - 1, acc) = some (acc ++ (x.take k).reverse) := by
  intro k
  induction k with
  | zero =>
    intro acc _ _
    rw [List.take_zero, List.reverse_nil, List.append_nil]
    exact loopM_inr rfl
  | succ k ih =>
    intro acc hk ha
    have hkx : k < x.length := by omega
    have e0 : ((k + 1 : Nat) : Int) - 1 = (k : Int) := by omega
    rw [e0, loopM_inl (s' := ((k : Int) - 1, acc ++ [x[k]])) ?_, ih _ (by omega) (by rw [List.length_append, List.length_singleton]; omega)]
    · rw [List.take_succ_eq_append_getElem hkx, List.reverse_append]; simp
    · have eap : appL 1 acc [x[k]] = some (acc ++ [x[k]]) := appL_of (by rw [List.length_singleton]; omega)
      simp only [m_spec_l01Dec_B20, decide_eq_true (show (0 : Int) ≤ (k : Int) by omega), cond_true, idx_lt_nat hkx, Option.bind_some, eap]
      rw [w64_id (by omega) (by omega)]
theorem str_map (l : List UInt8) : strOfNums (l.map fun b => (b.toNat : Int)) = ⟨l.toArray⟩ := by
  unfold strOfNums
  rw [List.map_map]
  congr 2
  have : (fun n : Int => UInt8.ofNat n.toNat) ∘ (fun b : UInt8 => (b.toNat : Int)) = id := by
    funext b
    simp
  rw [this, List.map_id]
theorem decSpec_eq {n : Int} (h : -9223372036854775808 ≤ n ∧ n ≤ 9223372036854775807) : m_spec_l01Dec n = some ⟨(Lib.itoa n).toArray⟩ := by
  unfold m_spec_l01Dec
  by_cases h0 : n = 0
  · subst h0
    have e : Lib.itoa 0 = [48] := by
      unfold Lib.itoa
      rw [if_neg (by omega), show (0 : Int).toNat = 0 from rfl, Lib.decDigits_one (by omega)]; rfl
    rw [e]; rfl
  · have e : (n == (0 : Int)) = false := beq_eq_false_iff_ne.2 h0
    have hdl := dig_len 19 n.natAbs (by omega)
    have hlen : (dl n.natAbs).length ≤ 20 := by unfold dl; rw [List.length_map, List.length_reverse]; exact hdl
    have lp := dec_loop 19 n [] h0 (by omega) (by omega) (by simp) h
    rw [List.nil_append] at lp
    rw [e, cond_false, lp, Option.bind_some]
    have hr : ∀ x : List Int, x.length ≤ 1000 → loopM (fun s : (Int × (List Int)) => m_spec_l01Dec_B20 x s.1 s.2) (w64 ((x.length : Int) - 1), []) = some x.reverse := by
      intro x hx
      rw [w64_id (by omega) (by omega), rev_loop x hx x.length [] (Nat.le_refl _) (by simp; omega), List.nil_append, List.take_length]
    by_cases hn : n < 0
    · have eap : appL 1 (dl n.natAbs) [(45 : Int)] = some (dl n.natAbs ++ [(45 : Int)]) := appL_of (by rw [List.length_singleton]; omega)
      rw [decide_eq_true hn, cond_true, eap]
      simp only [Option.bind_some]
      rw [hr _ (by rw [List.length_append, List.length_singleton]; omega), Option.bind_some]
      congr 1
      have : (dl n.natAbs ++ [(45 : Int)]).reverse = (Lib.itoa n).map fun b => (b.toNat : Int) := by
        unfold Lib.itoa dl
        rw [if_pos hn]
        simp
      rw [this, str_map]
    · rw [decide_eq_false hn, cond_false]
      simp only [Option.bind_some]
      rw [hr _ (by omega), Option.bind_some]
      congr 1
      have : (dl n.natAbs).reverse = (Lib.itoa n).map fun b => (b.toNat : Int) := by
        unfold Lib.itoa dl
        rw [if_neg hn, show n.natAbs = n.toNat by omega]
        simp
      rw [this, str_map]
theorem decImpl_eq {n : Int} (h : -9223372036854775808 ≤ n ∧ n ≤ 9223372036854775807) : m_impl_Decimal n = some ⟨(Lib.itoa n).toArray⟩ := by
  unfold m_impl_Decimal m_strconv_FormatInt fmtM
  rw [if_pos ⟨rfl, h⟩]; rfl
theorem catS_eq (a b : List UInt8) (h : a.length + b.length ≤ 9223372036854775807) : catS ⟨a.toArray⟩ ⟨b.toArray⟩ = some ⟨(a ++ b).toArray⟩ := by
  unfold catS
  rw [if_pos (by simpa [ByteArray.size] using h)]
  congr 1
end Go.Wk
