/-
  Plain laws: DeleteFunc. No program in sight. Our own work.
-/
import Derived.Test.YtcofngddgljhdaaLawWithin
namespace Go.Wk
open Go Go.RowKit

theorem del_loop (l : List Int) (hl : l.length ≤ 1048576) (del : Int → Option Bool) (q : Int → Bool) (hq : ∀ x ∈ l, del x = some (q x)) : ∀ (m j i : Nat) (v : List Int), j + m = l.length → i ≤ j → v.length = l.length → v.take i = (l.take j).filter (fun x => !q x) → v.drop j = l.drop j →
    ∃ v' : List Int, v'.length = l.length ∧ v'.take (l.filter (fun x => !q x)).length = l.filter (fun x => !q x) ∧ loopM (fun s : (Int × Int × (List Int)) => m_slices_DeleteFunc_int64_int64_B4 del s.1 s.2.1 s.2.2) ((i : Int), (j : Int), v) = some (((l.filter (fun x => !q x)).length : Int), v') := by
  intro m
  induction m with
  | zero =>
    intro j i v hj hij hv ht hd
    have e : j = l.length := by omega
    subst e
    rw [List.take_length] at ht
    have hi : i = (l.filter (fun x => !q x)).length := by rw [← ht, List.length_take]; omega
    refine ⟨v, hv, by rw [← hi]; exact ht, loopM_inr ?_⟩
    rw [← hi]
    simp only [m_slices_DeleteFunc_int64_int64_B4, hv, lt_self, cond_false, Option.map_some]
  | succ m ih =>
    intro j i v hj hij hv ht hd
    have hjl : j < l.length := by omega
    have hjv : j < v.length := by omega
    have hget : v[j] = l[j] := by
      have h1 : (v.drop j)[0]? = (l.drop j)[0]? := by rw [hd]
      rw [List.getElem?_drop, List.getElem?_drop] at h1
      simpa [hjl, hjv] using h1
    have hd1 : v.drop (j + 1) = l.drop (j + 1) := by
      have h1 : (v.drop j).drop 1 = (l.drop j).drop 1 := by rw [hd]
      simpa [List.drop_drop] using h1
    have hw : w64 ((j : Int) + 1) = ((j + 1 : Nat) : Int) := by rw [w64_id (by omega) (by omega)]; omega
    have hwi : w64 ((i : Int) + 1) = ((i + 1 : Nat) : Int) := by rw [w64_id (by omega) (by omega)]; omega
    have htk : (l.take (j + 1)).filter (fun x => !q x) = (l.take j).filter (fun x => !q x) ++ (if q l[j] then [] else [l[j]]) := by
      rw [List.take_succ_eq_append_getElem hjl, List.filter_append]
      congr 1
      cases hql : q l[j] <;> simp [hql]
    have hdel := hq l[j] (List.getElem_mem hjl)
    cases hql : q l[j] with
    | true =>
      rw [hql] at hdel htk
      obtain ⟨v', h1, h2, h3⟩ := ih (j + 1) i v (by omega) (by omega) hv (by rw [htk, ht]; simp) hd1
      refine ⟨v', h1, h2, (loopM_inl (s' := ((i : Int), ((j + 1 : Nat) : Int), v)) ?_).trans h3⟩
      simp only [m_slices_DeleteFunc_int64_int64_B4, lt_true hjv, cond_true, idx_lt_nat hjv, hget, Option.bind_some, hdel, Bool.not_true, cond_false, hw]
    | false =>
      rw [hql] at hdel htk
      have hiv : i < v.length := by omega
      obtain ⟨v', h1, h2, h3⟩ := ih (j + 1) (i + 1) (v.set i l[j]) (by omega) (by omega) (by simpa using hv) (by
        rw [htk, ← ht]
        simp only [Bool.false_eq_true, if_false]
        rw [List.take_succ_eq_append_getElem (by simpa using hiv), List.take_set, List.set_eq_of_length_le (by rw [List.length_take]; omega)]
        simp) (by
        rw [List.drop_set, if_pos (by omega)]; exact hd1)
      refine ⟨v', h1, h2, (loopM_inl (s' := (((i + 1 : Nat) : Int), ((j + 1 : Nat) : Int), v.set i l[j])) ?_).trans h3⟩
      simp only [m_slices_DeleteFunc_int64_int64_B4, lt_true hjv, cond_true, idx_lt_nat hjv, hget, Option.bind_some, hdel, Bool.not_false, inB_nat hiv, hw, hwi, Int.toNat_natCast]

theorem delete_eq (l : List Int) (hl : l.length ≤ 1048576) (del : Int → Option Bool) (q : Int → Bool) (hq : ∀ x ∈ l, del x = some (q x)) : m_slices_DeleteFunc_int64_int64 l del = some (l.filter (fun x => !q x)) := by
  unfold m_slices_DeleteFunc_int64_int64
  rw [indexFunc_eq l del q hq (by omega), Option.bind_some]
  cases h : l.findIdx? q with
  | none =>
    rw [List.findIdx?_eq_none_iff] at h
    have e : l.filter (fun x => !q x) = l := List.filter_eq_self.2 fun x hx => by simp [h x hx]
    rw [e]; rfl
  | some k =>
    rw [List.findIdx?_eq_some_iff_getElem] at h
    obtain ⟨hk, hp, hlt⟩ := h
    have ek : ((k : Int) == -1) = false := by simp only [beq_eq_false_iff_ne, ne_eq]; omega
    have hw : w64 ((k : Int) + 1) = ((k + 1 : Nat) : Int) := by rw [w64_id (by omega) (by omega)]; omega
    have htk : l.take k = (l.take (k + 1)).filter (fun x => !q x) := by
      rw [List.take_succ_eq_append_getElem hk, List.filter_append]
      have e : (l.take k).filter (fun x => !q x) = l.take k := List.filter_eq_self.2 fun x hx => by
        obtain ⟨j, hj, rfl⟩ := List.getElem_of_mem hx
        rw [List.length_take] at hj
        rw [List.getElem_take]
        have := hlt j (by omega)
        simpa using this
      rw [e]; simp [hp]
    obtain ⟨v', h1, h2, h3⟩ := del_loop l hl del q hq (l.length - (k + 1)) (k + 1) k l (by omega) (by omega) rfl htk rfl
    have hle : (l.filter (fun x => !q x)).length ≤ l.length := List.length_filter_le _ _
    have hc : ∀ w : List Int, w.length = l.length → cutB w ((l.filter (fun x => !q x)).length : Int) = some () := fun w hw => by
      unfold cutB; rw [if_pos (by omega)]
    have hol : (over v' (l.filter (fun x => !q x)).length (List.replicate (v'.length - (l.filter (fun x => !q x)).length) (0 : Int))).length = l.length := by
      unfold over; simp; omega
    simp only [ek, cond_false, hw, h3, Option.bind_some, Int.toNat_natCast, hc v' h1, hc _ hol]
    congr 1
    unfold over
    rw [List.append_assoc, List.take_append_of_le_length (by rw [List.length_take]; omega), List.take_take, Nat.min_self]
    exact h2
end Go.Wk
