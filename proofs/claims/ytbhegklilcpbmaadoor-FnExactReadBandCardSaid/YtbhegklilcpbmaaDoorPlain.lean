/-
  Plain lemmas on the words that the models are written in: loops, places in lists, int64. No program in sight. Our own work.
-/
import Derived.Test.YtbhegklilcpbmaaDoorTypes
namespace Go.Wk
open Go Go.RowKit

theorem w64_id {n : Int} (h1 : -9223372036854775808 ≤ n) (h2 : n ≤ 9223372036854775807) : w64 n = n := by
  exact IntWalk.i64_in n ⟨h1, h2⟩

/-- A loop that goes on at each of the states before the n-th, and ends there. -/
theorem loop_for {σ β : Type} {body : σ → Option (σ ⊕ β)} {r : β} (n : Nat) (st : Nat → σ) (hstep : ∀ k, k < n → body (st k) = some (.inl (st (k + 1)))) (hend : body (st n) = some (.inr r)) : loopM body (st 0) = some r := by
  have key : ∀ k, k ≤ n → loopM body (st (n - k)) = some r := by
    intro k
    induction k with
    | zero => intro _; exact loopM_inr hend
    | succ k ih =>
      intro hk
      have h := hstep (n - (k + 1)) (by omega)
      rw [show n - (k + 1) + 1 = n - k by omega] at h
      rw [loopM_inl h]
      exact ih (by omega)
  have := key n (Nat.le_refl _)
  rwa [Nat.sub_self] at this

theorem idx_nat {α : Type} (l : List α) (k : Nat) : idx l (k : Int) = l[k]? := by simp [idx]
theorem idx_lt_nat {α : Type} {l : List α} {k : Nat} (h : k < l.length) : idx l (k : Int) = some l[k] := by rw [idx_nat, List.getElem?_eq_getElem h]
theorem inB_nat {α : Type} {l : List α} {k : Nat} (h : k < l.length) : inB l (k : Int) = some () := by
  unfold inB; rw [if_pos ⟨by omega, by omega⟩]

/-- A slice is copied, element by element. -/
theorem to_gen {α : Type} (conv : α → Option α) (l : List α) (z : α) (hl : l.length ≤ 9223372036854775806) (h : ∀ x ∈ l, conv x = some x) :
    loopM (fun s : Int × List α => bif decide (s.1 < (l.length : Int)) then (idx l s.1).bind fun x => (conv x).bind fun y => (inB s.2 s.1).bind fun _ => some (Sum.inl (w64 (s.1 + 1), s.2.set s.1.toNat y)) else Option.map Sum.inr (some s.2)) (0, List.replicate l.length z) = some l := by
  have := loop_for (body := fun s : Int × List α => bif decide (s.1 < (l.length : Int)) then (idx l s.1).bind fun x => (conv x).bind fun y => (inB s.2 s.1).bind fun _ => some (Sum.inl (w64 (s.1 + 1), s.2.set s.1.toNat y)) else Option.map Sum.inr (some s.2)) (r := l) l.length
    (fun k => ((k : Int), l.take k ++ List.replicate (l.length - k) z)) (fun k hk => ?_) ?_
  · simpa using this
  · have h1 : decide ((k : Int) < (l.length : Int)) = true := by simpa using hk
    have h2 : k < (l.take k ++ List.replicate (l.length - k) z).length := by simp; omega
    have h3 : (l.take k ++ List.replicate (l.length - k) z).set k l[k] = l.take (k + 1) ++ List.replicate (l.length - (k + 1)) z := by
      have e : l.length - k = (l.length - (k + 1)) + 1 := by omega
      rw [e, List.replicate_succ, List.take_succ_eq_append_getElem hk, List.append_assoc]
      rw [List.set_append_right _ _ (by simp; omega)]
      have e2 : k - (l.take k).length = 0 := by simp; omega
      rw [e2]
      rfl
    simp only [h1, cond_true, idx_lt_nat hk, Option.bind_some, h l[k] (List.getElem_mem hk), inB_nat h2, Int.toNat_natCast, h3]
    rw [w64_id (by omega) (by omega)]
    rfl
  · have h1 : decide ((l.length : Int) < (l.length : Int)) = false := by simp
    simp only [h1, cond_false, Nat.sub_self, List.replicate_zero, List.append_nil, List.take_length]
    rfl

/-- Two slices are compared, element by element. -/
theorem eq_gen {α : Type} [DecidableEq α] (eq : α → α → Option Bool) (a b : List α) (hl : a.length ≤ 9223372036854775806) (hab : a.length = b.length) (h : ∀ x ∈ a, ∀ y ∈ b, eq x y = some (decide (x = y))) :
    loopM (fun s : Int => bif decide (s < (a.length : Int)) then (idx a s).bind fun x => (idx b s).bind fun y => (eq x y).bind fun c => bif !c then Option.map Sum.inr (some false) else some (Sum.inl (w64 (s + 1))) else Option.map Sum.inr (some true)) 0 = some (decide (a = b)) := by
  by_cases hex : ∃ k, ∃ (h1 : k < a.length) (h2 : k < b.length), a[k] ≠ b[k]
  · -- the first place where they part
    have hfirst : ∃ k, (∃ (h1 : k < a.length) (h2 : k < b.length), a[k] ≠ b[k]) ∧ ∀ j, j < k → ¬ ∃ (h1 : j < a.length) (h2 : j < b.length), a[j] ≠ b[j] := by
      obtain ⟨k, hk⟩ := hex
      induction k using Nat.strongRecOn with
      | _ k ih =>
        by_cases hsm : ∃ j, j < k ∧ ∃ (h1 : j < a.length) (h2 : j < b.length), a[j] ≠ b[j]
        · obtain ⟨j, hj, hp⟩ := hsm; exact ih j hj hp
        · exact ⟨k, hk, fun j hj hp => hsm ⟨j, hj, hp⟩⟩
    obtain ⟨k, ⟨h1, h2, hne⟩, hmin⟩ := hfirst
    have hd : decide (a = b) = false := by
      simp only [decide_eq_false_iff_not]; intro e; subst e; exact hne rfl
    rw [hd]
    refine loop_for k (fun j => (j : Int)) (fun j hj => ?_) ?_
    · have hj1 : j < a.length := by omega
      have hj2 : j < b.length := by omega
      have he : a[j] = b[j] := Classical.byContradiction fun hc => hmin j hj ⟨hj1, hj2, hc⟩
      have hlt : decide ((j : Int) < (a.length : Int)) = true := by simpa using hj1
      have he' := h _ (List.getElem_mem hj1) _ (List.getElem_mem hj2)
      rw [decide_eq_true he] at he'
      simp only [hlt, cond_true, idx_lt_nat hj1, idx_lt_nat hj2, Option.bind_some, he', Bool.not_true, cond_false]
      rw [w64_id (by omega) (by omega)]
      rfl
    · have hlt : decide ((k : Int) < (a.length : Int)) = true := by simpa using h1
      simp only [hlt, cond_true, idx_lt_nat h1, idx_lt_nat h2, Option.bind_some, h _ (List.getElem_mem h1) _ (List.getElem_mem h2), hne, decide_false, Bool.not_false]
      rfl
  · have hab' : a = b := List.ext_getElem hab fun k h1 h2 => Classical.byContradiction fun hc => hex ⟨k, h1, h2, hc⟩
    subst hab'
    rw [decide_eq_true rfl]
    refine loop_for a.length (fun j => (j : Int)) (fun j hj => ?_) ?_
    · have hlt : decide ((j : Int) < (a.length : Int)) = true := by simpa using hj
      simp only [hlt, cond_true, idx_lt_nat hj, Option.bind_some, h _ (List.getElem_mem hj) _ (List.getElem_mem hj), decide_true, Bool.not_true, cond_false]
      rw [w64_id (by omega) (by omega)]
      rfl
    · have hlt : decide ((a.length : Int) < (a.length : Int)) = false := by simp
      simp only [hlt, cond_false]
      rfl

/-- A loop over the places of a list that ends at the first one where p holds. -/
theorem first_loop {α β : Type} (l : List α) (body : Int → Option (Int ⊕ β)) (p : α → Bool) (f : Nat → β) (e : β) (hstep : ∀ (k : Nat) (h : k < l.length), body (k : Int) = if p l[k] then some (.inr (f k)) else some (.inl ((k + 1 : Nat) : Int))) (hend : body (l.length : Int) = some (.inr e)) :
    loopM body 0 = some (match l.findIdx? p with | some k => f k | none => e) := by
  cases hf : l.findIdx? p with
  | none =>
    rw [List.findIdx?_eq_none_iff] at hf
    refine loop_for l.length (fun k => (k : Int)) (fun k hk => ?_) hend
    rw [hstep k hk, hf l[k] (List.getElem_mem hk)]
    rfl
  | some k =>
    rw [List.findIdx?_eq_some_iff_getElem] at hf
    obtain ⟨hk, hp, hmin⟩ := hf
    refine loop_for k (fun j => (j : Int)) (fun j hj => ?_) ?_
    · have hj' : j < l.length := by omega
      rw [hstep j hj']
      have := hmin j hj
      simp only [Bool.not_eq_true] at this
      rw [this]
      rfl
    · rw [hstep k hk, hp]; rfl

/-- A loop that asks whether all elements have a property. -/
theorem all_loop {α : Type} (l : List α) (body : Int → Option (Int ⊕ Bool)) (p : α → Bool) (hstep : ∀ (k : Nat) (h : k < l.length), body (k : Int) = if p l[k] then some (.inl ((k + 1 : Nat) : Int)) else some (.inr false)) (hend : body (l.length : Int) = some (.inr true)) :
    loopM body 0 = some (l.all p) := by
  have := first_loop l body (fun x => !p x) (fun _ => false) true (fun k h => by rw [hstep k h]; cases p l[k] <;> rfl) hend
  rw [this]
  congr 1
  cases hf : l.findIdx? (fun x => !p x) with
  | none =>
    rw [List.findIdx?_eq_none_iff] at hf
    symm
    rw [List.all_eq_true]
    intro x hx
    simpa using hf x hx
  | some k =>
    rw [List.findIdx?_eq_some_iff_getElem] at hf
    obtain ⟨hk, hp, _⟩ := hf
    symm
    rw [List.all_eq_false]
    exact ⟨l[k], List.getElem_mem hk, by simpa using hp⟩

/-- A loop over the numbers below n that asks whether all have a property. -/
theorem all_loop_n (n : Nat) (body : Int → Option (Int ⊕ Bool)) (p : Nat → Bool) (hstep : ∀ (k : Nat), k < n → body (k : Int) = if p k then some (.inl ((k + 1 : Nat) : Int)) else some (.inr false)) (hend : body (n : Int) = some (.inr true)) :
    loopM body 0 = some ((List.range n).all p) := by
  refine all_loop (List.range n) body p (fun k hk => ?_) (by rw [List.length_range]; exact hend)
  have hk' : k < n := by simpa using hk
  rw [List.getElem_range]
  exact hstep k hk'
/-- How much room is left after n elements, or a negative number. -/
def Left (o : Option Int) (left : Int) (n : Nat) : Prop := ∃ r, o = some r ∧ (r < 0 ∨ 0 ≤ r ∧ r + n ≤ left)
theorem lt_true {k : Nat} {n : Nat} (h : k < n) : decide ((k : Int) < (n : Int)) = true := by simpa using h
theorem lt_self {n : Nat} : decide ((n : Int) < (n : Int)) = false := by simp
theorem ba_len (s : ByteArray) : s.data.toList.length = s.size := Array.length_toList
theorem wf64 {n : Int} (h : (Lit.int .i64 n).wf = true) : -9223372036854775808 ≤ n ∧ n ≤ 9223372036854775807 := by
  have h' : IntKind.i64.min ≤ n ∧ n ≤ IntKind.i64.max := by simpa [Lit.wf] using h
  exact h'
theorem bne_self {α : Type} [DecidableEq α] (a : α) : (a != a) = false := by simp
theorem qdiv_pos {a b : Int} (hb : 0 < b) (h1 : -9223372036854775808 ≤ a) (h2 : a ≤ 9223372036854775807) : qdiv .i64 a b = some (a.tdiv b) := by
  unfold qdiv
  rw [if_neg (by omega)]
  have hab : (a.tdiv b).natAbs ≤ a.natAbs := by
    rw [Int.natAbs_tdiv]; exact Nat.div_le_self _ _
  congr 1
  by_cases h0 : 0 ≤ a
  · have : 0 ≤ a.tdiv b := Int.tdiv_nonneg h0 (by omega)
    exact w64_id (by omega) (by omega)
  · exact w64_id (by omega) (by
      have : a.tdiv b ≤ 0 := by
        rw [show a = -(-a) by omega, Int.neg_tdiv]
        have : 0 ≤ (-a).tdiv b := Int.tdiv_nonneg (by omega) (by omega)
        omega
      omega)
theorem tdiv_split (a : Int) {b : Int} (hb : 0 < b) : (0 ≤ a ∧ a.tdiv b = a / b) ∨ (a < 0 ∧ a.tdiv b = -((-a) / b)) := by
  by_cases h0 : 0 ≤ a
  · exact .inl ⟨h0, Int.tdiv_eq_ediv_of_nonneg h0⟩
  · refine .inr ⟨by omega, ?_⟩
    rw [show a = -(-a) by omega, Int.neg_tdiv, Int.tdiv_eq_ediv_of_nonneg (by omega)]
    simp
theorem toList_eq (s : ByteArray) : s.toList = s.data.toList := ByteArray.toList_eq s
end Go.Wk
