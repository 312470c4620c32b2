/-
  Plain laws: both read the same numbers. No program in sight. Our own work.
-/
import Derived.Test.YtbhegklilcpbmaaDoorLawNum
namespace Go.Wk
open Go Go.RowKit

theorem negW_eq (w : List UInt8) : (bif (decide ((0 : Int) < (w.length : Int))) then ((idx w (0 : Int)).bind fun y3 => some ((y3.toNat : Int) == (45 : Int))) else some false) = some (negW w) := by
  cases w with
  | nil => rfl
  | cons c r =>
    have e0 : idx (c :: r) (0 : Int) = some c := rfl
    rw [decide_eq_true (by rw [List.length_cons]; omega), cond_true, e0, Option.bind_some]
    congr 1
    unfold negW
    rw [Bool.eq_iff_iff, beq_iff_eq, beq_iff_eq]
    show ((c.toNat : Int) = 45) ↔ c = 45
    constructor
    · intro h
      exact UInt8.toNat_inj.1 (by have h45 : (45 : UInt8).toNat = 45 := rfl
                                  omega)
    · intro h; subst h; rfl
theorem num_loop (s : ByteArray) (x5 : Int) (hs : s.size ≤ 1048576) : ∀ (m i n : Nat), i + m = s.size → (n + 1) * 10 ^ m ≤ 10 ^ 18 →
    loopM (fun z : (Int × Int) => m_spec_l01Number_B13 s x5 z.1 z.2) ((n : Int), (i : Int)) = some (if (s.data.toList.drop i).all digitB then ((if x5 = 1 then -(dvF n (s.data.toList.drop i) : Int) else (dvF n (s.data.toList.drop i) : Int)), true) else (0, false)) := by
  have hsz : s.data.toList.length = s.size := by rw [Array.length_toList]; rfl
  intro m
  induction m with
  | zero =>
    intro i n hi hn
    have e : s.data.toList.drop i = [] := List.drop_eq_nil_of_le (by omega)
    rw [e]
    have hn2 : n < 1000000000000000000 := by omega
    refine loopM_inr ?_
    simp only [m_spec_l01Number_B13]
    rw [decide_eq_false (by omega)]
    have ed : dvF n [] = n := rfl
    have ea : ([] : List UInt8).all digitB = true := rfl
    rw [ed, ea, if_pos rfl]
    by_cases h5 : x5 = 1
    · have e5 : (x5 == (1 : Int)) = true := by rw [h5]; rfl
      simp only [cond_false, e5, cond_true, Option.bind_some, Option.map_some, if_pos h5]
      rw [w64_id (by omega) (by omega), Int.zero_sub]
    · have e5 : (x5 == (1 : Int)) = false := beq_eq_false_iff_ne.2 h5
      simp only [cond_false, e5, Option.bind_some, Option.map_some, if_neg h5]
  | succ m ih =>
    intro i n hi hn
    have hil : i < s.data.toList.length := by omega
    have ey : idx s.data.toList (i : Int) = some s.data.toList[i] := idx_lt_nat hil
    have ew : w64 ((i : Int) + 1) = ((i + 1 : Nat) : Int) := by rw [w64_id (by omega) (by omega)]; omega
    have ed : s.data.toList.drop i = s.data.toList[i] :: s.data.toList.drop (i + 1) := List.drop_eq_getElem_cons hil
    have h1 : 10 ≤ 10 ^ (m + 1) := by
      have : 1 ≤ 10 ^ m := Nat.one_le_pow _ _ (by omega)
      rw [Nat.pow_succ]; omega
    have hn2 : n < 100000000000000000 := by
      have : (n + 1) * 10 ≤ (n + 1) * 10 ^ (m + 1) := Nat.mul_le_mul_left _ h1
      omega
    rw [ed, List.all_cons]
    cases hd : digitB s.data.toList[i] with
    | false =>
      rw [Bool.false_and, if_neg (by decide)]
      refine loopM_inr ?_
      simp only [m_spec_l01Number_B13]
      rw [decide_eq_true (by omega)]
      simp only [cond_true, ey, Option.bind_some, digit_eq, hd, Bool.not_false, Option.map_some]
    | true =>
      have hr := (digitB_iff _).1 hd
      have hstep := ih (i + 1) (10 * n + ((s.data.toList[i]).toNat - 48)) (by omega) (by
        have h3 : (10 * n + ((s.data.toList[i]).toNat - 48) + 1) * 10 ^ m ≤ (10 * (n + 1)) * 10 ^ m := Nat.mul_le_mul_right _ (by omega)
        rw [Nat.pow_succ, Nat.mul_comm (10 ^ m) 10, ← Nat.mul_assoc, Nat.mul_comm (n + 1) 10] at hn
        exact Nat.le_trans h3 hn)
      rw [Bool.true_and, loopM_inl ?_]
      · exact hstep
      · have e1 : w64 ((10 : Int) * (n : Int)) = ((10 * n : Nat) : Int) := by rw [w64_id (by omega) (by omega)]; omega
        have e2 : IntKind.wrap .u8 (((s.data.toList[i]).toNat : Int) - 48) = (((s.data.toList[i]).toNat - 48 : Nat) : Int) := by
          have : ∀ x : Int, 0 ≤ x → x < 256 → IntKind.wrap .u8 x = x := by
            intro x h0 h1
            have : IntKind.wrap .u8 x = x % 256 := rfl
            rw [this, Int.emod_eq_of_lt h0 h1]
          rw [this _ (by omega) (by omega)]; omega
        have e3 : w64 (((10 * n : Nat) : Int) + (((s.data.toList[i]).toNat - 48 : Nat) : Int)) = ((10 * n + ((s.data.toList[i]).toNat - 48) : Nat) : Int) := by rw [w64_id (by omega) (by omega)]; omega
        have e4 : w64 ((((s.data.toList[i]).toNat - 48 : Nat)) : Int) = (((s.data.toList[i]).toNat - 48 : Nat) : Int) := w64_id (by omega) (by omega)
        simp only [m_spec_l01Number_B13]
        rw [decide_eq_true (by omega)]
        simp only [cond_true, ey, Option.bind_some, digit_eq, hd, Bool.not_true, cond_false, e1, e2, e4, e3, ew]
def numR (w : List UInt8) : Int × Bool := if canon w then (numV w, true) else (0, false)
theorem numSpec_eq (s : ByteArray) (hs : s.size ≤ 1048576) : m_spec_l01Number s = some (numR s.data.toList) := by
  have hsz : s.data.toList.length = s.size := by rw [Array.length_toList]; rfl
  have e1 := negW_eq s.data.toList
  rw [hsz] at e1
  unfold m_spec_l01Number
  rw [e1, Option.bind_some]
  obtain ⟨at', hat, e5, e6⟩ : ∃ at' : Nat, (at' = if negW s.data.toList then 1 else 0) ∧ ((bif negW s.data.toList then some (1 : Int) else some (0 : Int)) : Option Int) = some (at' : Int) ∧ digW s.data.toList = s.data.toList.drop at' := by
    unfold digW
    cases negW s.data.toList with
    | true => exact ⟨1, rfl, rfl, rfl⟩
    | false => exact ⟨0, rfl, rfl, rfl⟩
  have hal : at' ≤ s.size := by
    rw [hat]
    split
    · rename_i h
      cases hw : s.data.toList with
      | nil => rw [hw] at h; exact absurd h (by decide)
      | cons c r => have := congrArg List.length hw; rw [hsz, List.length_cons] at this; omega
    · omega
  have hdl : (digW s.data.toList).length = s.size - at' := by rw [e6, List.length_drop, hsz]
  rw [e5, Option.bind_some]
  -- the test ahead of the loop
  have e7 : ((bif ((s.size : Int) == (at' : Int)) then some true else (bif (decide ((18 : Int) < (w64 ((s.size : Int) - (at' : Int))))) then some true else ((idx s.data.toList (at' : Int)).bind fun y10 => (bif ((y10.toNat : Int) == (48 : Int)) then some (decide ((1 : Int) < (s.size : Int))) else some false)))) : Option Bool) = some (!decide (digW s.data.toList ≠ [] ∧ (digW s.data.toList).length ≤ 18 ∧ ((digW s.data.toList).headD 0 = 48 → s.data.toList.length = 1))) := by
    rw [w64_id (n := (s.size : Int) - (at' : Int)) (by omega) (by omega)]
    by_cases c1 : s.size = at'
    · have hnil : digW s.data.toList = [] := List.length_eq_zero_iff.1 (by omega)
      rw [show ((s.size : Int) == (at' : Int)) = true by rw [c1, beq_self_eq_true], cond_true, decide_eq_false (fun h => h.1 hnil)]; rfl
    · rw [show ((s.size : Int) == (at' : Int)) = false from beq_eq_false_iff_ne.2 (by omega), cond_false]
      by_cases c2 : 18 < s.size - at'
      · rw [decide_eq_true (by omega), cond_true, decide_eq_false (fun h => by have := h.2.1; omega)]; rfl
      · have hlt : at' < s.data.toList.length := by omega
        have hhd : (digW s.data.toList).headD 0 = s.data.toList[at'] := by rw [e6, List.drop_eq_getElem_cons hlt]; rfl
        have hne : digW s.data.toList ≠ [] := fun e => by rw [e] at hdl; simp at hdl; omega
        rw [decide_eq_false (by omega), cond_false, idx_lt_nat hlt, Option.bind_some, hhd]
        by_cases c3 : s.data.toList[at'] = 48
        · rw [show ((s.data.toList[at'].toNat : Int) == (48 : Int)) = true by rw [c3]; rfl, cond_true]
          congr 1
          rw [Bool.eq_iff_iff, decide_eq_true_eq, Bool.not_eq_true', decide_eq_false_iff_not]
          constructor
          · intro h hh
            have := hh.2.2 c3
            omega
          · intro h
            refine Classical.byContradiction fun hc => h ⟨hne, by omega, fun _ => by omega⟩
        · have : ((s.data.toList[at'].toNat : Int) == (48 : Int)) = false := by
            rw [beq_eq_false_iff_ne]
            intro e
            exact c3 (UInt8.toNat_inj.1 (by have h48 : (48 : UInt8).toNat = 48 := rfl
                                            omega))
          rw [this, cond_false, decide_eq_true ⟨hne, by omega, fun h => absurd h c3⟩]; rfl
  rw [e7, Option.bind_some]
  unfold numR canon
  by_cases hc : digW s.data.toList ≠ [] ∧ (digW s.data.toList).length ≤ 18 ∧ ((digW s.data.toList).headD 0 = 48 → s.data.toList.length = 1)
  · rw [decide_eq_true hc, Bool.not_true, cond_false, Bool.true_and]
    have hpw : 10 ^ (s.size - at') ≤ 10 ^ 18 := Nat.pow_le_pow_right (by omega) (by have := hc.2.1; omega)
    have lp := num_loop s (at' : Int) hs (s.size - at') at' 0 (by omega) (by rw [Nat.zero_add, Nat.one_mul]; exact hpw)
    have lp : loopM (fun z : (Int × Int) => m_spec_l01Number_B13 s (at' : Int) z.1 z.2) ((0 : Int), (at' : Int)) = _ := lp
    rw [lp, ← e6]
    unfold numV dv
    rw [hat]
    cases negW s.data.toList <;> rfl
  · rw [decide_eq_false hc, Bool.not_false, cond_true, Bool.false_and]; rfl

/-! ### the program's -/
theorem uint_ok : ∀ (ds : List UInt8) (acc : Nat), (∀ c ∈ ds, digitB c = true) → (acc + 1) * 10 ^ ds.length ≤ 10 ^ 18 → Lib.parseUintM (2 ^ 64 - 1) acc ds = .ok (dvF acc ds) := by
  intro ds
  induction ds with
  | nil => intro acc _ _; rfl
  | cons c r ih =>
    intro acc h hb
    have hc := (digitB_iff c).1 (h c (by simp))
    have h1 : 1 ≤ 10 ^ (r.length + 1) := Nat.one_le_pow _ _ (by omega)
    rw [List.length_cons] at hb
    have hacc : acc < 1000000000000000000 := by
      have : (acc + 1) * 1 ≤ (acc + 1) * 10 ^ (r.length + 1) := Nat.mul_le_mul_left _ h1
      omega
    unfold Lib.parseUintM
    rw [if_pos hc, if_neg (by omega), if_neg (by omega)]
    have e : acc * 10 + (c.toNat - 48) = 10 * acc + (c.toNat - 48) := by omega
    rw [e]
    refine ih _ (fun x hx => h x (by simp [hx])) ?_
    have h3 : (10 * acc + (c.toNat - 48) + 1) * 10 ^ r.length ≤ (10 * (acc + 1)) * 10 ^ r.length := Nat.mul_le_mul_right _ (by omega)
    rw [Nat.pow_succ, Nat.mul_comm (10 ^ r.length) 10, ← Nat.mul_assoc, Nat.mul_comm (acc + 1) 10] at hb
    exact Nat.le_trans h3 hb
theorem parse_canon {w : List UInt8} (h : canon w = true) : Lib.parseIntB 64 w = .ok (numV w) := by
  have hb := (canon_itoa h).2
  unfold canon at h
  rw [Bool.and_eq_true, decide_eq_true_eq, List.all_eq_true] at h
  obtain ⟨⟨h1, h2, h3⟩, h4⟩ := h
  have hpw : 10 ^ (digW w).length ≤ 10 ^ 18 := Nat.pow_le_pow_right (by omega) h2
  have hu := uint_ok (digW w) 0 h4 (by rw [Nat.zero_add, Nat.one_mul]; exact hpw)
  have hu2 : Lib.parseUintB 64 (digW w) = .ok (dv (digW w)) := by unfold Lib.parseUintB; rw [if_neg h1]; exact hu
  cases w with
  | nil => exact absurd rfl h1
  | cons c r =>
    unfold Lib.parseIntB
    by_cases hn : c = 45
    · subst hn
      have e : digW (45 :: r) = r := rfl
      have ev : numV (45 :: r) = -(dv r : Int) := rfl
      rw [e] at hu2
      rw [ev] at hb ⊢
      have t1 : (45 : UInt8).toNat = 43 ∨ (45 : UInt8).toNat = 45 := .inr rfl
      simp only [if_pos t1, hu2]
      have t2 : (45 : UInt8).toNat = 45 := rfl
      rw [if_neg (fun hh => hh.1 t2), if_neg (by omega), if_pos t2]
    · have hng : negW (c :: r) = false := by
        unfold negW
        exact beq_eq_false_iff_ne.2 hn
      have e : digW (c :: r) = c :: r := by unfold digW; rw [hng]; rfl
      have ev : numV (c :: r) = (dv (c :: r) : Int) := by unfold numV; rw [hng, e]; rfl
      rw [e] at hu2 h4
      rw [ev] at hb ⊢
      have hc := (digitB_iff c).1 (h4 c (by simp))
      have t1 : ¬ (c.toNat = 43 ∨ c.toNat = 45) := by omega
      have t2 : ¬ c.toNat = 45 := by omega
      simp only [if_neg t1, hu2]
      rw [if_neg (by omega), if_neg (by omega), if_neg t2]
theorem trim_dig (w : List UInt8) : Lib.trimPrefix w [45] = digW w := by
  unfold Lib.trimPrefix digW negW Lib.hasPrefix
  cases w with
  | nil => rfl
  | cons c r =>
    by_cases h : c = 45
    · subst h
      simp
    · have h' : ¬ (45 : UInt8) = c := fun e => h e.symm
      simp [h, h']
theorem parse_rng {w : List UInt8} {n : Int} (h : Lib.parseIntB 64 w = .ok n) : -9223372036854775808 ≤ n ∧ n ≤ 9223372036854775807 := by
  cases w with
  | nil =>
    have e : Lib.parseIntB 64 [] = .syntax := rfl
    rw [e] at h; cases h
  | cons c r =>
    unfold Lib.parseIntB at h
    cases hu : Lib.parseUintB 64 (if c.toNat = 43 ∨ c.toNat = 45 then r else c :: r) with
    | «syntax» => simp only [hu] at h; cases h
    | range => simp only [hu] at h; cases h
    | ok u =>
      simp only [hu] at h
      have e63 : 2 ^ (64 - 1) = 9223372036854775808 := by decide
      rw [e63] at h
      by_cases h1 : ¬ c.toNat = 45 ∧ 9223372036854775808 ≤ u
      · rw [if_pos h1] at h; cases h
      · rw [if_neg h1] at h
        by_cases h2 : c.toNat = 45 ∧ 9223372036854775808 < u
        · rw [if_pos h2] at h; cases h
        · rw [if_neg h2] at h
          injection h with h
          by_cases hn : c.toNat = 45
          · rw [if_pos hn] at h
            have : ¬ 9223372036854775808 < u := fun hh => h2 ⟨hn, hh⟩
            omega
          · rw [if_neg hn] at h
            have : ¬ 9223372036854775808 ≤ u := fun hh => h1 ⟨hn, hh⟩
            omega
theorem numImpl_eq (s : ByteArray) (hs : s.size ≤ 1048576) : m_impl_ReadDecimal s = some (numR s.data.toList) := by
  have hsz : s.data.toList.length = s.size := by rw [Array.length_toList]; rfl
  unfold m_impl_ReadDecimal m_strconv_ParseInt parseM
  rw [if_pos ⟨rfl, rfl, by omega⟩, Option.bind_some]
  have et : m_strings_TrimPrefix s (ByteArray.mk #[45]) = some ⟨(digW s.data.toList).toArray⟩ := by
    unfold m_strings_TrimPrefix trimM
    have : (ByteArray.mk #[45]).data.toList = [45] := rfl
    rw [this, trim_dig]
  have esz : (ByteArray.mk (digW s.data.toList).toArray).size = (digW s.data.toList).length := by
    show (digW s.data.toList).toArray.size = _
    rw [List.size_toArray]
  unfold numR parseR
  cases hc : canon s.data.toList with
  | true =>
    have hi := canon_itoa hc
    have hp := parse_canon hc
    have h18 : (digW s.data.toList).length ≤ 18 := by
      unfold canon at hc
      rw [Bool.and_eq_true, decide_eq_true_eq] at hc
      exact hc.1.2.1
    have hd := decImpl_eq (n := numV s.data.toList) (by omega)
    simp only [hp, cond_false, et, Option.bind_some, esz, decide_eq_false (show ¬ (18 : Int) < ((digW s.data.toList).length : Int) by omega), hd, hi.1]
    have e : (ByteArray.mk s.data.toList.toArray) = s := rfl
    rw [e, beq_self_eq_true]; rfl
  | false =>
    simp only [Bool.false_eq_true, if_false]
    cases hp : Lib.parseIntB 64 s.data.toList with
    | «syntax» => rfl
    | range => rfl
    | ok n =>
      have hr := parse_rng hp
      have hd := decImpl_eq (n := n) hr
      simp only [cond_false, et, Option.bind_some, esz]
      by_cases h18 : (digW s.data.toList).length ≤ 18
      · rw [decide_eq_false (show ¬ (18 : Int) < ((digW s.data.toList).length : Int) by omega), cond_false, hd, Option.bind_some]
        have hne : ((ByteArray.mk (Lib.itoa n).toArray).toList == s.toList) = false := by
          rw [beq_eq_false_iff_ne]
          intro e
          have e2 : Lib.itoa n = s.data.toList := by
            rw [toList_eq, toList_eq] at e
            exact e
          have := itoa_canon (n := n) (by rw [e2]; exact h18)
          rw [e2, hc] at this
          cases this
        rw [hne]; rfl
      · rw [decide_eq_true (show (18 : Int) < ((digW s.data.toList).length : Int) by omega)]; rfl
end Go.Wk
