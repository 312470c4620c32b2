/-
  Plain laws: marking a slice of slices, and finding the marks again. No program in sight. Our own work.
-/
import Derived.Test.YtfadnbelnfofbaaLawMark
namespace Go.Wk
open Go Go.RowKit

def tot : List (List Int) → Nat
  | [] => 0
  | x :: r => x.length + tot r
def markSS : List (List Int) → Int → List (List Int)
  | [], _ => []
  | x :: r, k => markL x.length k :: markSS r (k + x.length)
theorem markSS_len : ∀ (l : List (List Int)) (k : Int), (markSS l k).length = l.length
  | [], _ => rfl
  | x :: r, k => by simp [markSS, markSS_len r]
theorem tot_take_succ {l : List (List Int)} {j : Nat} (h : j < l.length) : tot (l.take (j + 1)) = tot (l.take j) + l[j].length := by
  induction l generalizing j with
  | nil => simp at h
  | cons x r ih =>
    cases j with
    | zero => simp [tot]
    | succ j =>
      simp only [List.take_succ_cons, tot, List.getElem_cons_succ]
      rw [ih (by simpa using h)]; omega
theorem tot_take_le : ∀ (l : List (List Int)) (j : Nat), tot (l.take j) ≤ tot l
  | [], j => by simp [tot]
  | x :: r, 0 => by simp [tot]
  | x :: r, j + 1 => by simp only [List.take_succ_cons, tot]; have := tot_take_le r j; omega
theorem mem_tot : ∀ {l : List (List Int)} {x : List Int}, x ∈ l → x.length ≤ tot l
  | y :: r, x, h => by
    rcases List.mem_cons.1 h with rfl | h
    · simp [tot]
    · have := mem_tot h; simp only [tot]; omega
theorem markSS_get {l : List (List Int)} {j : Nat} {k : Int} (h : j < l.length) : (markSS l k)[j]? = some (markL l[j].length (k + tot (l.take j))) := by
  induction l generalizing j k with
  | nil => simp at h
  | cons x r ih =>
    cases j with
    | zero => simp [markSS, tot]
    | succ j =>
      simp only [markSS, List.getElem?_cons_succ, List.getElem_cons_succ, List.take_succ_cons, tot]
      rw [ih (by simpa using h)]
      congr 2; omega

theorem tot_le (l : List (List Int)) (n : Nat) (h : ∀ x ∈ l, x.length ≤ n) : tot l ≤ l.length * n := by
  induction l with
  | nil => simp [tot]
  | cons x r ih =>
    have h1 := ih (fun y hy => h y (List.mem_cons_of_mem _ hy))
    have h2 := h x (List.mem_cons_self ..)
    simp only [tot, List.length_cons, Nat.add_mul]; omega

theorem markInt64SS_eq (l : List (List Int)) (k : Int) (h0 : 0 ≤ k) (hl : l.length ≤ 4611686018427387904) (h1 : k + tot l ≤ 4611686018427387904) : m_laws_markInt64SS l k = some (k + tot l, markSS l k) := by
  unfold m_laws_markInt64SS
  have key : loopM (fun s : (Int × Int × (List (List Int))) => m_laws_markInt64SS_B3 s.1 s.2.1 s.2.2) (k, (0 : Int), l) = some (k + tot l, markSS l k) := by
    have := loop_for (body := fun s : (Int × Int × (List (List Int))) => m_laws_markInt64SS_B3 s.1 s.2.1 s.2.2) (r := (k + (tot l : Int), markSS l k)) l.length
      (fun j => (k + (tot (l.take j) : Int), (j : Int), (markSS l k).take j ++ l.drop j)) (fun j hj => ?_) ?_
    · simpa [tot] using this
    · have hlen : ((markSS l k).take j ++ l.drop j).length = l.length := by rw [List.length_append, List.length_take, markSS_len, List.length_drop]; omega
      have h2 : decide ((j : Int) < (((markSS l k).take j ++ l.drop j).length : Int)) = true := by rw [hlen]; simpa using hj
      have h3 : idx ((markSS l k).take j ++ l.drop j) (j : Int) = some l[j] := by
        rw [idx_nat, List.getElem?_append_right (by rw [List.length_take, markSS_len]; omega), List.length_take, markSS_len, Nat.min_eq_left (by omega), Nat.sub_self, List.getElem?_drop, Nat.add_zero, List.getElem?_eq_getElem hj]
      have h4 := tot_take_succ hj
      have h5 := tot_take_le l (j + 1)
      have h6 := markInt64S_eq l[j] (k + tot (l.take j)) (by omega) (by omega)
      simp only [m_laws_markInt64SS_B3, h2, cond_true, h3, Option.bind_some, h6, Int.toNat_natCast]
      rw [w64_id (by omega) (by omega)]
      have h7 : ((markSS l k).take j ++ l.drop j).set j (markL l[j].length (k + tot (l.take j))) = (markSS l k).take (j + 1) ++ l.drop (j + 1) := by
        rw [List.set_append_right _ _ (by rw [List.length_take, markSS_len]; omega), List.length_take, markSS_len, Nat.min_eq_left (by omega), Nat.sub_self, List.drop_eq_getElem_cons hj, List.set_cons_zero]
        rw [List.take_add_one, markSS_get hj, List.append_assoc]
        rfl
      rw [h7, h4]
      have e1 : k + (tot (l.take j) : Int) + (l[j].length : Int) = k + ((tot (l.take j) + l[j].length : Nat) : Int) := by omega
      have e2 : (j : Int) + 1 = ((j + 1 : Nat) : Int) := by omega
      rw [e1, e2]
    · have e1 : (markSS l k).take l.length = markSS l k := by rw [List.take_of_length_le]; rw [markSS_len]; omega
      rw [e1, List.drop_length, List.append_nil, List.take_length]
      have h2 : decide ((l.length : Int) < ((markSS l k).length : Int)) = false := by rw [markSS_len]; simp
      simp only [m_laws_markInt64SS_B3, h2, cond_false]
      rfl
  rw [key]
  rfl
end Go.Wk
