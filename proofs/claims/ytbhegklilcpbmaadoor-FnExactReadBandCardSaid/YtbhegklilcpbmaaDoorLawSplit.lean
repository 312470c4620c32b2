/-
  Plain laws: a text's words. No program in sight. Our own work.
-/
import Derived.Test.YtbhegklilcpbmaaDoorMod
import Derived.Test.YtbhegklilcpbmaaDoorErr
import Derived.Test.YtbhegklilcpbmaaDoorPlainD
import Derived.Lib.CountLaws
import Derived.Lib.IndexLaws
import Derived.Lib.IndexBytes
namespace Go.Wk
open Go Go.RowKit

/-- The words between blanks. -/
def splitW : List UInt8 → List (List UInt8)
  | [] => [[]]
  | c :: r => if c = 32 then [] :: splitW r else match splitW r with
    | w :: ws => (c :: w) :: ws
    | [] => [[c]]
theorem splitW_ne (l : List UInt8) : splitW l ≠ [] := by
  cases l with
  | nil => simp [splitW]
  | cons c r =>
    unfold splitW
    split
    · simp
    · split <;> simp
theorem splitW_miss {w : List UInt8} (h : ∀ c ∈ w, c ≠ 32) : splitW w = [w] := by
  induction w with
  | nil => rfl
  | cons c w ih =>
    unfold splitW
    rw [if_neg (h c (by simp)), ih fun x hx => h x (by simp [hx])]
theorem splitW_sp (r : List UInt8) : splitW (32 :: r) = [] :: splitW r := by
  show (if (32 : UInt8) = 32 then [] :: splitW r else _) = _
  rw [if_pos rfl]
theorem splitW_c {c : UInt8} {r w : List UInt8} {ws : List (List UInt8)} (hc : c ≠ 32) (h : splitW r = w :: ws) : splitW (c :: r) = (c :: w) :: ws := by
  show (if c = 32 then [] :: splitW r else (match splitW r with | w :: ws => (c :: w) :: ws | [] => [[c]])) = _
  rw [if_neg hc, h]
theorem splitW_hit {w r : List UInt8} (h : ∀ c ∈ w, c ≠ 32) : splitW (w ++ 32 :: r) = w :: splitW r := by
  induction w with
  | nil => exact splitW_sp r
  | cons c w ih => exact splitW_c (h c (by simp)) (ih fun x hx => h x (by simp [hx]))
theorem splitW_len (l : List UInt8) : (splitW l).length ≤ l.length + 1 := by
  induction l with
  | nil => simp [splitW]
  | cons c r ih =>
    unfold splitW
    split
    · simp; omega
    · split
      · rename_i w ws e
        rw [e] at ih; simp at ih ⊢; omega
      · simp
/-- The library's words. -/
theorem split_eq : ∀ (n : Nat) (l : List UInt8), l.length ≤ n → Lib.splitK [32] 0 (Lib.count l [32]) l = splitW l := by
  intro n
  induction n with
  | zero =>
    intro l hl
    have e : l = [] := List.length_eq_zero_iff.1 (by omega)
    subst e
    have hi : Lib.index [] [32] = -1 := rfl
    rw [Lib.count_miss hi]; rfl
  | succ n ih =>
    intro l hl
    have e1 := Lib.index_one l 32
    have hge := Lib.indexByte_ge l 32
    by_cases hm : Lib.indexByte l 32 = -1
    · rw [hm] at e1
      rw [Lib.count_miss e1]
      have hno := Lib.indexByte_none hm
      exact (splitW_miss fun c hc e => by
        obtain ⟨k, hk, hk2⟩ := List.getElem_of_mem hc
        exact hno k (by rw [List.getElem?_eq_getElem hk, hk2, e])).symm
    · obtain ⟨i, hi⟩ := Int.eq_ofNat_of_zero_le (show 0 ≤ Lib.indexByte l 32 by omega)
      rw [hi] at e1
      obtain ⟨h1, h2⟩ := Lib.indexByte_some hi
      obtain ⟨hil, hi2⟩ := List.getElem?_eq_some_iff.1 h1
      have hc := Lib.count_hit (sub := [32]) (by simp) e1
      rw [hc, Nat.add_comm]
      show (if Lib.index l [32] == -1 then [l] else l.take ((Lib.index l [32]).toNat + 0) :: Lib.splitK [32] 0 (Lib.count (l.drop (i + 1)) [32]) (l.drop ((Lib.index l [32]).toNat + 1))) = _
      rw [e1, if_neg (by rw [beq_iff_eq]; omega), Int.toNat_natCast, Nat.add_zero, ih (l.drop (i + 1)) (by rw [List.length_drop]; omega)]
      have hl2 : l = l.take i ++ 32 :: l.drop (i + 1) := by
        rw [← hi2, ← List.drop_eq_getElem_cons hil, List.take_append_drop]
      conv => rhs; rw [hl2]
      refine (splitW_hit fun c hc e => ?_).symm
      obtain ⟨k, hk, hk2⟩ := List.getElem_of_mem hc
      rw [List.length_take] at hk
      refine h2 k (by omega) ?_
      rw [List.getElem_take] at hk2
      rw [List.getElem?_eq_getElem (by omega), hk2, e]
theorem splitImpl_eq (s : ByteArray) (hs : s.size ≤ 1048576) : ∃ r, m_strings_Split s (ByteArray.mk #[32]) = some r ∧ r.map (·.data.toList) = splitW s.data.toList := by
  refine ⟨Lib.splitB (ByteArray.mk #[32]) 0 (Lib.countB s (ByteArray.mk #[32])) s, ?_, ?_⟩
  · unfold m_strings_Split splitM
    rw [if_pos ⟨by omega, by decide⟩]
  · rw [Lib.splitB_data]
    exact split_eq s.data.toList.length s.data.toList (Nat.le_refl _)

/-- The reference's words. -/
theorem split_loop (s : ByteArray) (hs : s.size ≤ 1048576) : ∀ (m i fr : Nat) (out : List ByteArray), i + m = s.size → fr ≤ i → out.length ≤ i → (∀ c ∈ (s.data.toList.drop fr).take (i - fr), c ≠ 32) →
    ∃ (fr' : Nat) (out' : List ByteArray), loopM (fun z : (Int × Int × (List ByteArray)) => m_spec_l01Split_B4 s (32 : Int) z.1 z.2.1 z.2.2) ((fr : Int), (i : Int), out) = some ((fr' : Int), out') ∧ fr' ≤ s.size ∧ out'.length ≤ s.size ∧
      out'.map (·.data.toList) ++ [s.data.toList.drop fr'] = out.map (·.data.toList) ++ splitW (s.data.toList.drop fr) := by
  have hsz : s.data.toList.length = s.size := by rw [Array.length_toList]; rfl
  intro m
  induction m with
  | zero =>
    intro i fr out hi hf ho hno
    refine ⟨fr, out, loopM_inr ?_, by omega, by omega, ?_⟩
    · simp only [m_spec_l01Split_B4]
      rw [decide_eq_false (by omega)]; rfl
    · rw [splitW_miss]
      have e : (s.data.toList.drop fr).take (i - fr) = s.data.toList.drop fr := List.take_of_length_le (by rw [List.length_drop]; omega)
      rw [e] at hno
      exact hno
  | succ m ih =>
    intro i fr out hi hf ho hno
    have hil : i < s.data.toList.length := by omega
    have ey : idx s.data.toList (i : Int) = some s.data.toList[i] := idx_lt_nat hil
    have ew : w64 ((i : Int) + 1) = ((i + 1 : Nat) : Int) := by rw [w64_id (by omega) (by omega)]; omega
    have hgd : (s.data.toList.drop fr)[i - fr]? = some s.data.toList[i] := by
      rw [List.getElem?_drop, List.getElem?_eq_getElem (show fr + (i - fr) < s.data.toList.length by omega)]
      congr 2
      omega
    obtain ⟨hdl, hdv⟩ := List.getElem?_eq_some_iff.1 hgd
    by_cases c : s.data.toList[i] = 32
    · have eb : (((s.data.toList[i]).toNat : Int) == (32 : Int)) = true := by rw [c]; rfl
      have es : subB s (some (fr : Int)) (some (i : Int)) = some (s.extract fr i) := by
        unfold subB bnd
        simp only [Option.getD_some]
        rw [if_pos (by omega)]
        simp only [Option.map_some, Int.toNat_natCast]
      have ea : appL 16 out [s.extract fr i] = some (out ++ [s.extract fr i]) := appL_of (by rw [List.length_singleton]; omega)
      obtain ⟨fr', out', k1, k2, k3, k4⟩ := ih (i + 1) (i + 1) (out ++ [s.extract fr i]) (by omega) (Nat.le_refl _) (by rw [List.length_append, List.length_singleton]; omega) (by simp)
      refine ⟨fr', out', ?_, k2, k3, ?_⟩
      · rw [loopM_inl ?_]
        · exact k1
        · simp only [m_spec_l01Split_B4]
          rw [decide_eq_true (by omega)]
          simp only [cond_true, ey, Option.bind_some, eb, es, ea, ew]
      · rw [k4, List.map_append, List.append_assoc]
        congr 1
        have hw : s.data.toList.drop fr = (s.data.toList.drop fr).take (i - fr) ++ 32 :: s.data.toList.drop (i + 1) := by
          have e1 : s.data.toList.drop (i + 1) = (s.data.toList.drop fr).drop (i - fr + 1) := by rw [List.drop_drop]; congr 1; omega
          rw [e1, ← c, ← hdv, ← List.drop_eq_getElem_cons hdl, List.take_append_drop]
        conv => rhs; rw [hw]
        rw [splitW_hit hno]
        show [(s.extract fr i).data.toList] ++ _ = _
        have ee : (s.extract fr i).data.toList = (s.data.toList.drop fr).take (i - fr) := by
          simp [ByteArray.data_extract, List.extract_eq_take_drop]
        rw [ee]; rfl
    · have eb : (((s.data.toList[i]).toNat : Int) == (32 : Int)) = false := by
        rw [beq_eq_false_iff_ne]
        intro e
        exact c (UInt8.toNat_inj.1 (by have : (s.data.toList[i]).toNat = 32 := by omega
                                       rw [this]; rfl))
      obtain ⟨fr', out', k1, k2, k3, k4⟩ := ih (i + 1) fr out (by omega) (by omega) (by omega) (fun x hx => by
        have e : i + 1 - fr = (i - fr) + 1 := by omega
        rw [e, List.take_succ_eq_append_getElem hdl, hdv] at hx
        rcases List.mem_append.1 hx with hx | hx
        · exact hno x hx
        · rw [List.mem_singleton] at hx; rw [hx]; exact c)
      refine ⟨fr', out', ?_, k2, k3, k4⟩
      rw [loopM_inl ?_]
      · exact k1
      · simp only [m_spec_l01Split_B4]
        rw [decide_eq_true (by omega)]
        simp only [cond_true, ey, Option.bind_some, eb, cond_false, ew]
theorem splitSpec_eq (s : ByteArray) (hs : s.size ≤ 1048576) : ∃ r, m_spec_l01Split s (32 : Int) = some r ∧ r.map (·.data.toList) = splitW s.data.toList := by
  have hsz : s.data.toList.length = s.size := by rw [Array.length_toList]; rfl
  obtain ⟨fr, out, k1, k2, k3, k4⟩ := split_loop s hs s.size 0 0 [] (by omega) (Nat.le_refl _) (by simp) (by simp)
  have k1 : loopM (fun z : (Int × Int × (List ByteArray)) => m_spec_l01Split_B4 s (32 : Int) z.1 z.2.1 z.2.2) ((0 : Int), (0 : Int), ([] : List ByteArray)) = some ((fr : Int), out) := k1
  have es : subB s (some (fr : Int)) none = some (s.extract fr s.size) := by
    unfold subB bnd
    simp only [Option.getD_some, Option.getD_none]
    rw [if_pos (by omega)]
    simp only [Option.map_some, Int.toNat_natCast]
  refine ⟨out ++ [s.extract fr s.size], ?_, ?_⟩
  · unfold m_spec_l01Split
    have ea : appL 16 out [s.extract fr s.size] = some (out ++ [s.extract fr s.size]) := appL_of (by rw [List.length_singleton]; omega)
    simp only [k1, Option.bind_some, es, ea]
  · rw [List.map_append]
    rw [List.map_nil, List.nil_append, List.drop_zero] at k4
    rw [← k4]
    congr 1
    show [(s.extract fr s.size).data.toList] = _
    have ee : (s.extract fr s.size).data.toList = s.data.toList.drop fr := by
      simp only [ByteArray.data_extract]
      rw [Array.toList_extract, List.extract_eq_take_drop, List.take_of_length_le (by rw [List.length_drop]; omega)]
    rw [ee]
end Go.Wk
