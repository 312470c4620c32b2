/-
  Plain laws: lists of bands. No program in sight. Our own work.
-/
import Derived.Test.YtdilkjbhbglpbaaLawBandOk
import Derived.Test.YtdilkjbhbglpbaaPlainE
namespace Go.Wk
open Go Go.RowKit

theorem szBandS_eq (l : List GBand) (left : Int) (h0 : 0 ≤ left) (h1 : left ≤ 1048576) (hl : l.length ≤ maxLen) (hx : ∀ x ∈ l, okGBand x) : LeftQ (m_laws_szBandS l left) left (l.length ≤ 1048576 ∧ ∀ x ∈ l, x.Name.size ≤ 1048576) := by
  unfold m_laws_szBandS
  refine sz_gen m_laws_szBand l left (fun x => x.Name.size ≤ 1048576) h0 h1 hl (fun x hxl v hv0 hv1 => ?_)
  obtain ⟨r, hr, _, h⟩ := szBand_eq x v hv0 (by omega) (hx x hxl).1
  exact ⟨r, hr, h.imp id (fun h => ⟨h.1, by omega, by omega⟩)⟩
theorem toBandS_eq (l : List GBand) (h : l.length ≤ 1048576) : m_laws_toBandS l = some l := by
  unfold m_laws_toBandS
  exact to_list m_laws_toBand l _ 48 (by omega) (by omega) (fun x _ => toBand_eq x)
theorem ba_toList {a b : ByteArray} (h : a.toList = b.toList) : a = b := by
  rw [toList_eq, toList_eq] at h
  have : a.data = b.data := Array.ext' h
  cases a; cases b; simp_all
instance : DecidableEq GBand := fun a b => by
  cases a; cases b
  rename_i n1 l1 h1 r1 d1 n2 l2 h2 r2 d2
  exact decidable_of_iff (n1.toList = n2.toList ∧ l1 = l2 ∧ h1 = h2 ∧ r1 = r2 ∧ d1 = d2) ⟨fun ⟨a, b, c, d, e⟩ => by rw [ba_toList a, b, c, d, e], fun h => by injection h with a b c d e; subst a b c d e; exact ⟨rfl, rfl, rfl, rfl, rfl⟩⟩
theorem eqBand_eq (a b : GBand) : m_laws_eqBand a b = some (decide (a = b)) := by
  unfold m_laws_eqBand
  cases a; cases b
  rename_i n1 l1 h1 r1 d1 n2 l2 h2 r2 d2
  have e : decide (GBand.mk n1 l1 h1 r1 d1 = GBand.mk n2 l2 h2 r2 d2) = ((n1.toList == n2.toList) && ((l1 == l2) && ((h1 == h2) && ((r1 == r2) && (d1 == d2))))) := by
    rw [Bool.eq_iff_iff]
    simp only [decide_eq_true_eq, Bool.and_eq_true, beq_iff_eq, GBand.mk.injEq]
    exact ⟨fun ⟨a, b⟩ => ⟨by rw [a], b⟩, fun ⟨a, b⟩ => ⟨ba_toList a, b⟩⟩
  rw [e]
  simp only [bne]
  cases (n1.toList == n2.toList) <;> cases (l1 == l2) <;> cases (h1 == h2) <;> cases (r1 == r2) <;> cases (d1 == d2) <;> rfl
theorem eqBandS_eq (a b : List GBand) (h : a.length ≤ 1048576) : m_laws_eqBandS a b = some (decide (a = b)) := by
  unfold m_laws_eqBandS
  exact eq_list m_laws_eqBand a b (by omega) (fun x _ y _ => eqBand_eq x y)

/-! ### a valid list -/
theorem less_iff : ∀ (a b : List UInt8), (!Op.bytesLess a b) = (Op.bytesLess b a || b == a)
  | [], [] => rfl
  | _ :: _, [] => rfl
  | [], _ :: _ => rfl
  | a :: x, b :: y => by
    have ih := less_iff x y
    simp only [Op.bytesLess]
    by_cases h : a = b
    · subst h
      have h1 : ¬ a < a := by rw [UInt8.lt_iff_toNat_lt]; omega
      simp only [h1, decide_false, Bool.false_or, beq_self_eq_true, Bool.true_and, ih, List.cons_beq_cons]
    · have h2 : (a == b) = false := by simpa using h
      have h3 : (b == a) = false := by simpa using fun e => h e.symm
      simp only [h2, h3, Bool.false_and, Bool.or_false, List.cons_beq_cons]
      have h4 : a.toNat ≠ b.toNat := fun e => h (UInt8.toNat_inj.1 e)
      by_cases h5 : a < b
      · have h6 : ¬ b < a := by rw [UInt8.lt_iff_toNat_lt] at h5 ⊢; omega
        simp [h5, h6]
      · have h6 : b < a := by rw [UInt8.lt_iff_toNat_lt] at h5 ⊢; omega
        simp [h5, h6]

/-- Is the band at a place of the list good: valid, and its name behind the one before it. -/
def bandAt (l : List GBand) (k : Nat) : Bool := match l[k]? with
  | none => true
  | some b => bandOk b && (match k with | 0 => true | j + 1 => match l[j]? with | none => true | some c => Op.bytesLess c.Name.toList b.Name.toList)
def bandsOk (l : List GBand) : Bool := (List.range l.length).all (bandAt l) && decide (l.length ≤ 8)

theorem specList_eq (l : List GBand) (hl : l.length ≤ 1048576) : m_spec_l15List l = some (bandsOk l) := by
  unfold m_spec_l15List
  rw [show (0 : Int) = ((0 : Nat) : Int) from rfl, all_loop_g l.length (fun s : Int => m_spec_l15List_B1 l s) (bandAt l) (decide (l.length ≤ 8)) false 0 (by omega) (fun j hj => absurd hj (by omega)) (fun k _ hk _ => ?_) (fun _ => ?_)]
  · unfold bandsOk
    cases (List.range l.length).all (bandAt l) <;> simp
  · simp only [m_spec_l15List_B1, lt_true hk, cond_true, idx_lt_nat hk, Option.bind_some, okSpec_eq]
    have e1 : w64 ((k : Int) + 1) = ((k + 1 : Nat) : Int) := by rw [w64_id (by omega) (by omega)]; rfl
    unfold bandAt
    rw [List.getElem?_eq_getElem hk]
    cases hb : bandOk l[k] with
    | false => simp only [hb, Bool.not_false, cond_true, Option.bind_some, Bool.false_and]; rfl
    | true =>
      simp only [hb, Bool.not_true, cond_false, Bool.true_and]
      cases k with
      | zero => simp only [hb, Bool.true_and, Int.natCast_zero, Int.lt_irrefl, decide_false, cond_false, Option.bind_some]; rfl
      | succ j =>
        have h1 : decide ((0 : Int) < ((j + 1 : Nat) : Int)) = true := by rw [decide_eq_true_eq]; omega
        have h2 : w64 (((j + 1 : Nat) : Int) - 1) = (j : Int) := by rw [w64_id (by omega) (by omega)]; omega
        have hj : j < l.length := by omega
        simp only [h1, cond_true, h2, idx_lt_nat hj, Option.bind_some, List.getElem?_eq_getElem hj]
        cases Op.bytesLess l[j].Name.toList l[j + 1].Name.toList with
        | true => simp only [hb, Bool.true_and, Bool.not_true, cond_false, e1]; rfl
        | false => rfl
  · simp only [m_spec_l15List_B1, lt_self, cond_false, Option.map_some]
    congr 2
    rw [Bool.eq_iff_iff]; simp only [decide_eq_true_eq]; omega

theorem implList_eq (l : List GBand) (hl : l.length ≤ 1048576) : m_impl_ValidBands l = some (bandsOk l) := by
  unfold m_impl_ValidBands
  by_cases h8 : l.length ≤ 8
  case neg =>
    have h1 : decide ((8 : Int) < (l.length : Int)) = true := by simp; omega
    rw [h1, cond_true]
    unfold bandsOk
    rw [decide_eq_false h8, Bool.and_false]
  have h1 : decide ((8 : Int) < (l.length : Int)) = false := by simp; omega
  rw [h1, cond_false]
  rw [show (0 : Int) = ((0 : Nat) : Int) from rfl, all_loop_g l.length (fun s : Int => m_impl_ValidBands_B1 l s) (bandAt l) true false 0 (by omega) (fun j hj => absurd hj (by omega)) (fun k _ hk _ => ?_) (fun _ => ?_)]
  · unfold bandsOk
    rw [decide_eq_true h8]
    cases (List.range l.length).all (bandAt l) <;> rfl
  · simp only [m_impl_ValidBands_B1, lt_true hk, cond_true, idx_lt_nat hk, Option.bind_some, okImpl_eq]
    have e1 : w64 ((k : Int) + 1) = ((k + 1 : Nat) : Int) := by rw [w64_id (by omega) (by omega)]; rfl
    unfold bandAt
    rw [List.getElem?_eq_getElem hk]
    cases hb : bandOk l[k] with
    | false => simp only [hb, Bool.not_false, cond_true, Option.bind_some, Bool.false_and]; rfl
    | true =>
      simp only [hb, Bool.not_true, cond_false, Bool.true_and]
      cases k with
      | zero => simp only [hb, Bool.true_and, Int.natCast_zero, Int.lt_irrefl, decide_false, cond_false, Option.bind_some]; rfl
      | succ j =>
        have h1 : decide ((0 : Int) < ((j + 1 : Nat) : Int)) = true := by rw [decide_eq_true_eq]; omega
        have h2 : w64 (((j + 1 : Nat) : Int) - 1) = (j : Int) := by rw [w64_id (by omega) (by omega)]; omega
        have hj : j < l.length := by omega
        simp only [h1, cond_true, h2, idx_lt_nat hj, Option.bind_some, List.getElem?_eq_getElem hj, ← less_iff]
        cases Op.bytesLess l[j].Name.toList l[j + 1].Name.toList with
        | true => simp only [hb, Bool.true_and, Bool.not_true, cond_false, e1]; rfl
        | false => rfl
  · simp only [m_impl_ValidBands_B1, lt_self, cond_false]; rfl
end Go.Wk
