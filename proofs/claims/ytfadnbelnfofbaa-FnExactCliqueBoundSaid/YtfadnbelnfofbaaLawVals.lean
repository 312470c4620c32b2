/-
  Plain laws: a problem's distances in rising order, and lists put end to end. No program in sight. Our own work.
-/
import Derived.Test.YtfadnbelnfofbaaLawProbOk
import Derived.Test.YtfadnbelnfofbaaLawHas
import Derived.Test.YtfadnbelnfofbaaPlainF
import Derived.Test.YtfadnbelnfofbaaLawAssignI
namespace Go.Wk
open Go Go.RowKit

/-! ### lists put end to end -/
theorem grow_eq (n : Nat) (hn : n ≤ 1048576) : m_slices_Grow_int64_int64 ([] : List Int) (n : Int) = some [] := by
  unfold m_slices_Grow_int64_int64
  have w1 : w64 ((0 : Int) - 0) = 0 := w64_id (by omega) (by omega)
  have w2 : w64 ((n : Int) - 0) = n := by rw [Int.sub_zero]; exact w64_id (by omega) (by omega)
  rw [lt_false (show ¬ (n : Int) < 0 by omega), w1, w2]
  simp only [cond_false, Option.bind_some]
  by_cases c : (0 : Int) < (n : Int)
  · have hz : zeroL 8 (n : Int) (0 : Int) = some (List.replicate n 0) := by
      unfold zeroL; rw [if_pos c]; exact mkL_nat _ (by omega)
    have hc : cutB (List.replicate n (0 : Int)) (([] : List Int).length : Int) = some () := by
      unfold cutB; rw [if_pos (by simp)]
    rw [decide_eq_true c, cond_true, hz, Option.bind_some, hc]; rfl
  · rw [decide_eq_false c]; rfl
def Small2 (l : List (List Int)) : Prop := l.length ≤ 24 ∧ ∀ x ∈ l, x.length ≤ 32
theorem flat_bd {l : List (List Int)} (h : Small2 l) (k : Nat) : (l.take k).flatten.length ≤ 32 * 24 := by
  have key : ∀ (m : List (List Int)), (∀ x ∈ m, x.length ≤ 32) → m.flatten.length ≤ 32 * m.length := by
    intro m
    induction m with
    | nil => intro _; simp
    | cons x m ih =>
      intro hx
      have h1 := hx x (by simp)
      have h2 := ih fun y hy => hx y (by simp [hy])
      rw [List.flatten_cons, List.length_append, List.length_cons]
      omega
  have := key (l.take k) fun x hx => h.2 x (List.mem_of_mem_take hx)
  have hl : (l.take k).length ≤ 24 := by rw [List.length_take]; have := h.1; omega
  omega
theorem flat_loop1 (l : List (List Int)) (h : Small2 l) (body : Int × List Int → Option ((Int × List Int) ⊕ List Int)) (hstep : ∀ (k : Nat) (hk : k < l.length) (acc : List Int), body ((k : Int), acc) = (appL 8 acc l[k]).bind fun z => some (Sum.inl (((k + 1 : Nat) : Int), z))) (hend : ∀ acc, body ((l.length : Int), acc) = some (.inr acc)) :
    loopM body ((0 : Int), []) = some l.flatten := by
  have := loop_for (body := body) (r := l.flatten) l.length (fun k => ((k : Int), (l.take k).flatten)) (fun k hk => ?_) ?_
  · simpa using this
  · have hb := flat_bd h k
    have hx := h.2 l[k] (List.getElem_mem hk)
    rw [hstep k hk, appL_of (by omega), List.take_succ_eq_append_getElem hk, List.flatten_append]
    simp
  · rw [List.take_length]; exact hend _
theorem concat_eq (l : List (List Int)) (h : Small2 l) : m_slices_Concat_int64_int64 l = some l.flatten := by
  have h1 := h.1
  unfold m_slices_Concat_int64_int64
  have cnt := loop_for (body := fun s : (Int × Int) => m_slices_Concat_int64_int64_B2 l s.1 s.2) (r := (l.flatten.length : Int)) l.length (fun k => (((l.take k).flatten.length : Int), (k : Int))) (fun k hk => ?_) ?_
  · have cnt : loopM (fun s : (Int × Int) => m_slices_Concat_int64_int64_B2 l s.1 s.2) ((0 : Int), (0 : Int)) = some (l.flatten.length : Int) := by simpa using cnt
    have hb := flat_bd h l.length
    rw [List.take_length] at hb
    have fl := flat_loop1 l h (fun s : (Int × (List Int)) => m_slices_Concat_int64_int64_B14 l s.1 s.2) (fun k hk acc => ?_) (fun acc => ?_)
    · simp only [cnt, Option.bind_some, grow_eq _ (show l.flatten.length ≤ 1048576 by omega), fl]
    · simp only [m_slices_Concat_int64_int64_B14, lt_true hk, cond_true, idx_lt_nat hk, Option.bind_some]
      rw [w64_id (by omega) (by omega)]; rfl
    · simp only [m_slices_Concat_int64_int64_B14, lt_self, cond_false, Option.map_some]
  · have hb := flat_bd h k
    have hx := h.2 l[k] (List.getElem_mem hk)
    have e : w64 (((l.take k).flatten.length : Int) + (l[k].length : Int)) = ((l.take (k + 1)).flatten.length : Int) := by
      rw [List.take_succ_eq_append_getElem hk, List.flatten_append, w64_id (by omega) (by omega)]; simp
    simp only [m_slices_Concat_int64_int64_B2, lt_true hk, cond_true, idx_lt_nat hk, Option.bind_some, e, lt_false (show ¬ ((l.take (k + 1)).flatten.length : Int) < 0 by omega), cond_false]
    rw [w64_id (by omega) (by omega)]; rfl
  · simp only [m_slices_Concat_int64_int64_B2, lt_self, cond_false, Option.map_some, List.take_length]

/-! ### the values in rising order -/
def putL : List Int → Int → List Int
  | [], n => [n]
  | x :: r, n => if n < x then n :: x :: r else if n = x then x :: r else x :: putL r n
theorem putL_len (l : List Int) (n : Int) : (putL l n).length ≤ l.length + 1 := by
  induction l with
  | nil => simp [putL]
  | cons x r ih =>
    unfold putL
    split
    · simp
    · split
      · simp
      · simp; omega
theorem putL_mem (l : List Int) (n x : Int) : x ∈ putL l n ↔ x ∈ l ∨ x = n := by
  induction l with
  | nil => simp [putL]
  | cons y r ih =>
    unfold putL
    split
    · simp only [List.mem_cons]
      constructor
      · rintro (h | h | h)
        · exact .inr h
        · exact .inl (.inl h)
        · exact .inl (.inr h)
      · rintro ((h | h) | h)
        · exact .inr (.inl h)
        · exact .inr (.inr h)
        · exact .inl h
    · split
      · rename_i h1 h2
        subst h2
        simp only [List.mem_cons]
        constructor
        · exact .inl
        · rintro (h | h)
          · exact h
          · exact .inl h
      · simp only [List.mem_cons, ih]
        constructor
        · rintro (h | h | h)
          · exact .inl (.inl h)
          · exact .inl (.inr h)
          · exact .inr h
        · rintro ((h | h) | h)
          · exact .inl h
          · exact .inr (.inl h)
          · exact .inr (.inr h)
theorem putL_sorted (l : List Int) (n : Int) (h : l.Pairwise (· < ·)) : (putL l n).Pairwise (· < ·) := by
  induction l with
  | nil => simp [putL]
  | cons y r ih =>
    rw [List.pairwise_cons] at h
    unfold putL
    split
    · rename_i h1
      rw [List.pairwise_cons, List.pairwise_cons]
      refine ⟨fun z hz => ?_, h⟩
      rcases List.mem_cons.1 hz with rfl | hz
      · exact h1
      · have := h.1 z hz; omega
    · split
      · exact List.pairwise_cons.2 h
      · rename_i h1 h2
        rw [List.pairwise_cons]
        refine ⟨fun z hz => ?_, ih h.2⟩
        rcases (putL_mem r n z).1 hz with hz | hz
        · exact h.1 z hz
        · omega

theorem put_done (l : List Int) (n : Int) (hl : l.length ≤ 1048576) : ∀ (m k : Nat) (acc : List Int), k + m = l.length → acc.length ≤ k + 1 → loopM (fun s : (Bool × Int × (List Int)) => m_spec_l00Put_B4 l n s.1 s.2.1 s.2.2) (true, (k : Int), acc) = some (true, acc ++ l.drop k) := by
  intro m
  induction m with
  | zero =>
    intro k acc hk ha
    have e : k = l.length := by omega
    subst e
    rw [List.drop_length, List.append_nil]
    refine loopM_inr ?_
    simp only [m_spec_l00Put_B4, lt_self, cond_false, Option.map_some]
  | succ m ih =>
    intro k acc hk ha
    have hkl : k < l.length := by omega
    have e : acc ++ l.drop k = (acc ++ [l[k]]) ++ l.drop (k + 1) := by rw [List.drop_eq_getElem_cons hkl]; simp
    rw [e]
    refine (loopM_inl (s' := (true, ((k + 1 : Nat) : Int), acc ++ [l[k]])) ?_).trans (ih (k + 1) _ (by omega) (by simp; omega))
    simp only [m_spec_l00Put_B4, lt_true hkl, cond_true, Bool.not_true, cond_false, Option.bind_some, idx_lt_nat hkl, appL_of (show (acc.length + [l[k]].length) * (8 + 1) ≤ 140737488355328 by simp; omega)]
    rw [w64_id (by omega) (by omega)]; rfl
theorem put_loop (l : List Int) (n : Int) (hl : l.length ≤ 1048576) : ∀ (m k : Nat) (acc : List Int), k + m = l.length → acc.length ≤ k → ∃ d out, loopM (fun s : (Bool × Int × (List Int)) => m_spec_l00Put_B4 l n s.1 s.2.1 s.2.2) (false, (k : Int), acc) = some (d, out) ∧ (if d then out else out ++ [n]) = acc ++ putL (l.drop k) n ∧ (d = false → out.length ≤ l.length) := by
  intro m
  induction m with
  | zero =>
    intro k acc hk ha
    have e : k = l.length := by omega
    subst e
    refine ⟨false, acc, loopM_inr ?_, ?_, fun _ => ha⟩
    · simp only [m_spec_l00Put_B4, lt_self, cond_false, Option.map_some]
    · rw [List.drop_length]; simp [putL]
  | succ m ih =>
    intro k acc hk ha
    have hkl : k < l.length := by omega
    have hw : w64 ((k : Int) + 1) = ((k + 1 : Nat) : Int) := by rw [w64_id (by omega) (by omega)]; omega
    have a1 : ∀ v : Int, appL 8 acc [v] = some (acc ++ [v]) := fun v => appL_of (by simp; omega)
    have a2 : ∀ u v : Int, appL 8 (acc ++ [u]) [v] = some (acc ++ [u] ++ [v]) := fun u v => appL_of (by simp; omega)
    rw [List.drop_eq_getElem_cons hkl]
    by_cases c : n ≤ l[k]
    · by_cases c2 : n < l[k]
      · have := put_done l n hl m (k + 1) (acc ++ [n] ++ [l[k]]) (by omega) (by simp; omega)
        refine ⟨true, _, (loopM_inl (s' := (true, ((k + 1 : Nat) : Int), acc ++ [n] ++ [l[k]])) ?_).trans this, ?_, fun h => by simp at h⟩
        · simp only [m_spec_l00Put_B4, lt_true hkl, cond_true, Bool.not_false, idx_lt_nat hkl, Option.bind_some, decide_eq_true c, decide_eq_true c2, a1, a2, hw]
        · simp [putL, c2]
      · have e : n = l[k] := by omega
        have := put_done l n hl m (k + 1) (acc ++ [l[k]]) (by omega) (by simp; omega)
        refine ⟨true, _, (loopM_inl (s' := (true, ((k + 1 : Nat) : Int), acc ++ [l[k]])) ?_).trans this, ?_, fun h => by simp at h⟩
        · simp only [m_spec_l00Put_B4, lt_true hkl, cond_true, Bool.not_false, idx_lt_nat hkl, Option.bind_some, decide_eq_true c, decide_eq_false c2, cond_false, a1, hw]
        · simp [putL, e]
    · obtain ⟨d, out, r1, r2, r3⟩ := ih (k + 1) (acc ++ [l[k]]) (by omega) (by simp; omega)
      refine ⟨d, out, (loopM_inl (s' := (false, ((k + 1 : Nat) : Int), acc ++ [l[k]])) ?_).trans r1, ?_, r3⟩
      · simp only [m_spec_l00Put_B4, lt_true hkl, cond_true, Bool.not_false, idx_lt_nat hkl, Option.bind_some, decide_eq_false c, cond_false, a1, hw]
      · rw [r2]
        have h1 : ¬ n < l[k] := by omega
        have h2 : ¬ n = l[k] := by omega
        simp [putL, h1, h2]
theorem put_eq (l : List Int) (n : Int) (hl : l.length ≤ 1048575) : m_spec_l00Put l n = some (putL l n) := by
  unfold m_spec_l00Put
  obtain ⟨d, out, r1, r2, r3⟩ := put_loop l n (by omega) l.length 0 [] (by omega) (by simp)
  have r1 : loopM (fun s : (Bool × Int × (List Int)) => m_spec_l00Put_B4 l n s.1 s.2.1 s.2.2) (false, (0 : Int), ([] : (List Int))) = some (d, out) := r1
  rw [r1, Option.bind_some]
  simp only [List.drop_zero, List.nil_append] at r2
  cases d with
  | true => rw [← r2]; rfl
  | false =>
    have := r3 rfl
    rw [Bool.not_false, cond_true, appL_of (by simp; omega), ← r2]; rfl

theorem val_row (p : GProblem) (h : ProbOk p) (i : Nat) (hi : i < p.Domains.length) : ∀ (m k : Nat) (V : List Int), k + m = i → V.Pairwise (· < ·) → V.length + m ≤ 1048575 →
    ∃ V', loopM (fun s : (Int × (List Int)) => m_spec_l17Values_B9 p (i : Int) s.1 s.2) ((k : Int), V) = some V' ∧ V'.Pairwise (· < ·) ∧ V'.length ≤ V.length + m ∧ ∀ x, x ∈ V' ↔ x ∈ V ∨ ∃ j, k ≤ j ∧ j < i ∧ x = apartAt p i j ∧ 0 < x := by
  have hn := h.n2
  have hlen := h.len
  have hrow := h.row i hi
  intro m
  induction m with
  | zero =>
    intro k V hk hV hl
    have e : k = i := by omega
    subst e
    refine ⟨V, loopM_inr ?_, hV, Nat.le_refl _, fun x => ⟨.inl, ?_⟩⟩
    · simp only [m_spec_l17Values_B9, lt_self, cond_false, Option.map_some]
    · rintro (hx | ⟨j, h1, h2, _⟩)
      · exact hx
      · omega
  | succ m ih =>
    intro k V hk hV hl
    have hki : k < i := by omega
    have hw : w64 ((k : Int) + 1) = ((k + 1 : Nat) : Int) := by rw [w64_id (by omega) (by omega)]; omega
    have i1 : idx p.Apart (i : Int) = some (p.Apart.getD i []) := idx_getD [] (by omega)
    have i2 : idx (p.Apart.getD i []) (k : Int) = some (apartAt p i k) := idx_getD 0 (by omega)
    by_cases c : 0 < apartAt p i k
    · have hpl := putL_len V (apartAt p i k)
      obtain ⟨V', r1, r2, r3, r4⟩ := ih (k + 1) (putL V (apartAt p i k)) (by omega) (putL_sorted V _ hV) (by omega)
      refine ⟨V', (loopM_inl (s' := (((k + 1 : Nat) : Int), putL V (apartAt p i k))) ?_).trans r1, r2, by omega, fun x => ?_⟩
      · simp only [m_spec_l17Values_B9, lt_true hki, cond_true, i1, i2, Option.bind_some, decide_eq_true c, put_eq V _ (show V.length ≤ 1048575 by omega), hw]
      · rw [r4 x, putL_mem]
        constructor
        · rintro ((hx | hx) | ⟨j, h1, h2, h3⟩)
          · exact .inl hx
          · exact .inr ⟨k, Nat.le_refl _, hki, hx, by rw [hx]; exact c⟩
          · exact .inr ⟨j, by omega, h2, h3⟩
        · rintro (hx | ⟨j, h1, h2, h3, h4⟩)
          · exact .inl (.inl hx)
          · by_cases e : j = k
            · subst e; exact .inl (.inr h3)
            · exact .inr ⟨j, by omega, h2, h3, h4⟩
    · obtain ⟨V', r1, r2, r3, r4⟩ := ih (k + 1) V (by omega) hV (by omega)
      refine ⟨V', (loopM_inl (s' := (((k + 1 : Nat) : Int), V)) ?_).trans r1, r2, by omega, fun x => ?_⟩
      · simp only [m_spec_l17Values_B9, lt_true hki, cond_true, i1, i2, Option.bind_some, decide_eq_false c, cond_false, hw]
      · rw [r4 x]
        constructor
        · rintro (hx | ⟨j, h1, h2, h3⟩)
          · exact .inl hx
          · exact .inr ⟨j, by omega, h2, h3⟩
        · rintro (hx | ⟨j, h1, h2, h3, h4⟩)
          · exact .inl hx
          · by_cases e : j = k
            · subst e; rw [h3] at h4; exact absurd h4 c
            · exact .inr ⟨j, by omega, h2, h3, h4⟩

theorem val_all (p : GProblem) (h : ProbOk p) : ∃ V, m_spec_l17Values p = some V ∧ V.Pairwise (· < ·) ∧ V.length ≤ 1048576 ∧ ∀ x, x ∈ V ↔ ∃ a b, b < a ∧ a < p.Domains.length ∧ x = apartAt p a b ∧ 0 < x := by
  have hn := h.n2
  have hlen := h.len
  have key : ∀ (m i : Nat) (V : List Int), i + m = p.Domains.length → V.Pairwise (· < ·) → V.length ≤ 24 * i → (∀ x, x ∈ V ↔ ∃ a b, b < a ∧ a < i ∧ x = apartAt p a b ∧ 0 < x) →
      ∃ V', loopM (fun s : (Int × (List Int)) => m_spec_l17Values_B4 p s.1 s.2) ((i : Int), V) = some V' ∧ V'.Pairwise (· < ·) ∧ V'.length ≤ 1048576 ∧ ∀ x, x ∈ V' ↔ ∃ a b, b < a ∧ a < p.Domains.length ∧ x = apartAt p a b ∧ 0 < x := by
    intro m
    induction m with
    | zero =>
      intro i V hi hV hl hm
      have e : i = p.Domains.length := by omega
      subst e
      refine ⟨V, loopM_inr ?_, hV, by omega, hm⟩
      have hx : decide ((p.Domains.length : Int) < (p.Apart.length : Int)) = false := lt_false (by omega)
      simp only [m_spec_l17Values_B4, hx, cond_false, Option.map_some]
    | succ m ih =>
      intro i V hi hV hl hm
      have hil : i < p.Domains.length := by omega
      have hia : i < p.Apart.length := by omega
      obtain ⟨V1, r1, r2, r3, r4⟩ := val_row p h i hil i 0 V (by omega) hV (by omega)
      have r1 : loopM (fun s : (Int × (List Int)) => m_spec_l17Values_B9 p (i : Int) s.1 s.2) ((0 : Int), V) = some V1 := r1
      obtain ⟨V', s1, s2⟩ := ih (i + 1) V1 (by omega) r2 (by omega) (fun x => by
        rw [r4 x, hm x]
        constructor
        · rintro (⟨a, b, h1, h2, h3⟩ | ⟨j, _, h2, h3⟩)
          · exact ⟨a, b, h1, by omega, h3⟩
          · exact ⟨i, j, h2, by omega, h3⟩
        · rintro ⟨a, b, h1, h2, h3⟩
          by_cases e : a = i
          · subst e; exact .inr ⟨b, Nat.zero_le _, h1, h3⟩
          · exact .inl ⟨a, b, h1, by omega, h3⟩)
      refine ⟨V', (loopM_inl (s' := (((i + 1 : Nat) : Int), V1)) ?_).trans s1, s2⟩
      simp only [m_spec_l17Values_B4, lt_true hia, cond_true, r1, Option.bind_some]
      rw [w64_id (by omega) (by omega)]; rfl
  obtain ⟨V, r1, r2⟩ := key p.Domains.length 0 [] (by omega) List.Pairwise.nil (by simp) (fun x => by
    constructor
    · intro hx; simp at hx
    · rintro ⟨a, b, _, h2, _⟩; omega)
  refine ⟨V, ?_, r2⟩
  unfold m_spec_l17Values
  have r1 : loopM (fun s : (Int × (List Int)) => m_spec_l17Values_B4 p s.1 s.2) ((0 : Int), ([] : (List Int))) = some V := r1
  rw [r1]; rfl

theorem apart_small (p : GProblem) (h : ProbOk p) : Small2 p.Apart := by
  have hn := h.n2
  refine ⟨by have := h.len; omega, fun x hx => ?_⟩
  obtain ⟨i, hi, rfl⟩ := List.getElem_of_mem hx
  have := h.row i (by have := h.len; omega)
  rw [getD_lt [] hi] at this
  omega
theorem dom_small (p : GProblem) (h : ProbOk p) : Small2 p.Domains := by
  have hn := h.n2
  refine ⟨hn, fun x hx => ?_⟩
  obtain ⟨i, hi, rfl⟩ := List.getElem_of_mem hx
  have := dom_len h hi
  rwa [getD_lt [] hi] at this
theorem apart_in (p : GProblem) (h : ProbOk p) {i j : Nat} (hi : i < p.Domains.length) (hj : j < p.Domains.length) : apartAt p i j ∈ p.Apart.flatten := by
  have hr := h.row i hi
  have hl := h.len
  rw [List.mem_flatten]
  refine ⟨p.Apart.getD i [], by rw [getD_lt [] (by omega)]; exact List.getElem_mem _, ?_⟩
  unfold apartAt
  rw [getD_lt 0 (by omega)]; exact List.getElem_mem _
theorem apart_out (p : GProblem) (h : ProbOk p) {x : Int} (hx : x ∈ p.Apart.flatten) : ∃ i j, i < p.Domains.length ∧ j < p.Domains.length ∧ x = apartAt p i j := by
  have hl := h.len
  obtain ⟨r, hr, hx⟩ := List.mem_flatten.1 hx
  obtain ⟨i, hi, rfl⟩ := List.getElem_of_mem hr
  obtain ⟨j, hj, rfl⟩ := List.getElem_of_mem hx
  have hrow := h.row i (by omega)
  rw [getD_lt [] hi] at hrow
  refine ⟨i, j, by omega, by omega, ?_⟩
  unfold apartAt
  rw [getD_lt [] hi, getD_lt 0 hj]

end Go.Wk
