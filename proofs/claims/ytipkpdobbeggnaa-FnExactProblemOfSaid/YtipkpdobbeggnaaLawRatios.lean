/-
  Plain laws: the least ratios of pairs. No program in sight. Our own work.
-/
import Derived.Test.YtipkpdobbeggnaaLawRows
import Derived.Test.YtipkpdobbeggnaaLawServer
import Derived.Test.YtipkpdobbeggnaaLawRepeat
import Derived.Test.YtipkpdobbeggnaaPlainC
namespace Go.Wk
open Go Go.RowKit

structure RowsOk (l : List (List Int)) : Prop where
  n1 : 1 ≤ l.length
  n2 : l.length ≤ 32
  c1 : 1 ≤ (l.getD 0 []).length
  c2 : (l.getD 0 []).length ≤ 24
  row : ∀ r ∈ l, r.length = (l.getD 0 []).length
theorem rowsOk_true {l : List (List Int)} (h : rowsOk l = true) : RowsOk l := by
  unfold rowsOk at h
  rw [Bool.and_eq_true, decide_eq_true_eq, List.all_eq_true] at h
  obtain ⟨⟨h1, h2⟩, h3⟩ := h
  have hr : ∀ r ∈ l, (1 ≤ r.length ∧ r.length ≤ 24) ∧ r.length = (l.getD 0 []).length := by
    intro r hr
    have := h3 r hr
    rw [Bool.and_eq_true, decide_eq_true_eq] at this
    unfold rowOkN at this
    rw [Bool.and_eq_true, decide_eq_true_eq] at this
    exact ⟨this.1.1, this.2⟩
  have h0 := hr (l.getD 0 []) (by rw [getD_lt [] (show 0 < l.length by omega)]; exact List.getElem_mem _)
  exact ⟨h1, h2, h0.1.1, h0.1.2, fun r hr' => (hr r hr').2⟩

noncomputable def srvN (t : List Int) : Nat := ((m_impl_serverOf t).getD 0).toNat
theorem srvN_eq {t : List Int} (h0 : 0 < t.length) (hl : t.length ≤ 1048576) : m_spec_l16Server t = some (srvN t : Int) ∧ m_impl_serverOf t = some (srvN t : Int) ∧ srvN t < t.length := by
  obtain ⟨k, h1, h2, h3, _⟩ := srv_same t h0 hl
  have : srvN t = k := by unfold srvN; rw [h2]; simp
  rw [this]; exact ⟨h1, h2, h3⟩
def dif (t : List Int) (i j : Nat) : Int := w64 (t.getD i 0 - t.getD j 0)
def mn (a b : Int) : Int := if b < a then b else a
noncomputable def cellF (i j : Nat) (v : Int) (t : List Int) : Int := if srvN t = i then mn v (dif t i j) else v
noncomputable def cellN (l : List (List Int)) (i j : Nat) : Int := if i = j then 200000 else l.foldl (cellF i j) 200000
def matOf (n : Nat) (g : Nat → Nat → Int) : List (List Int) := (List.range n).map fun i => (List.range n).map (g i)
noncomputable def ratM (l : List (List Int)) : List (List Int) := matOf (l.getD 0 []).length (cellN l)
theorem ratM_fits (l : List (List Int)) (h : RowsOk l) : FitsSS (ratM l) := by
  have := h.c2
  unfold ratM matOf FitsSS
  simp only [List.length_map, List.length_range, List.mem_map]
  refine ⟨by omega, ?_⟩
  rintro x ⟨i, _, rfl⟩
  simp only [List.length_map, List.length_range]; omega
theorem minS_eq (a b : Int) : m_spec_l00Min a b = some (mn a b) := by
  unfold m_spec_l00Min mn
  by_cases c1 : a < b
  · rw [decide_eq_true c1, if_neg (by omega)]; rfl
  · rw [decide_eq_false c1]
    by_cases c2 : b < a
    · rw [if_pos c2]; rfl
    · rw [if_neg c2]
      have : a = b := by omega
      rw [this]; rfl
theorem matOf_congr {n : Nat} {g h : Nat → Nat → Int} (e : ∀ a b, a < n → b < n → g a b = h a b) : matOf n g = matOf n h := by
  unfold matOf
  refine List.map_congr_left fun a ha => List.map_congr_left fun b hb => e a b (List.mem_range.1 ha) (List.mem_range.1 hb)

theorem ratSpec_cell (l : List (List Int)) (h : RowsOk l) (i j : Nat) (hi : i < (l.getD 0 []).length) (hj : j < (l.getD 0 []).length) : loopM (fun s : (Int × Int) => m_spec_l16Pairs_B17 l (i : Int) (j : Int) s.1 s.2) ((200000 : Int), (0 : Int)) = some (cellN l i j) := by
  have hn1 := h.n1
  have hn2 := h.n2
  have hc1 := h.c1
  have hc2 := h.c2
  unfold cellN
  by_cases c : i = j
  · subst c
    rw [if_pos rfl]
    refine loopM_inr ?_
    have h0 : decide ((0 : Int) < (l.length : Int)) = true := by rw [decide_eq_true_eq]; omega
    simp only [m_spec_l16Pairs_B17, h0, cond_true, bne_self, Option.bind_some, cond_false, Option.map_some]
  · rw [if_neg c]
    have e : ((i : Int) != (j : Int)) = true := by simp only [bne_iff_ne, ne_eq]; omega
    refine fold_loop l (cellF i j) (fun v => v) (fun s : (Int × Int) => m_spec_l16Pairs_B17 l (i : Int) (j : Int) s.1 s.2) (fun k hk v => ?_) (fun v => ?_) 200000
    · have hr := h.row l[k] (List.getElem_mem hk)
      obtain ⟨s1, _, s3⟩ := srvN_eq (t := l[k]) (by omega) (by omega)
      simp only [m_spec_l16Pairs_B17, lt_true hk, cond_true, e, Option.bind_some, idx_lt_nat hk, s1]
      rw [w64_id (n := (k : Int) + 1) (by omega) (by omega)]
      unfold cellF
      by_cases c2 : srvN l[k] = i
      · have e2 : ((srvN l[k] : Int) == (i : Int)) = true := by rw [c2]; exact beq_self_eq_true _
        rw [e2, if_pos c2]
        simp only [cond_true, idx_getD 0 (show i < l[k].length by omega), idx_getD 0 (show j < l[k].length by omega), Option.bind_some, minS_eq]
        rfl
      · have e2 : ((srvN l[k] : Int) == (i : Int)) = false := by simp only [beq_eq_false_iff_ne, ne_eq]; omega
        rw [e2, if_neg c2]; rfl
    · simp only [m_spec_l16Pairs_B17, lt_self, cond_false, Option.bind_some, Option.map_some]

theorem ratSpec_eq (l : List (List Int)) (h : RowsOk l) : m_spec_l16Pairs l = some (ratM l) := by
  have hn1 := h.n1
  have hc2 := h.c2
  have i0 : idx l (0 : Int) = some (l.getD 0 []) := idx_getD (k := 0) [] (by omega)
  unfold m_spec_l16Pairs
  rw [i0, Option.bind_some]
  have := build_loop (bytes := 24) (l.getD 0 []).length (fun i => (List.range (l.getD 0 []).length).map (cellN l i)) (by omega) (fun s : (Int × (List (List Int))) => m_spec_l16Pairs_B5 l (l.getD 0 []) s.1 s.2) (fun i hi acc => ?_) (fun acc => ?_)
  · exact (congrArg (fun o => Option.bind o fun x => some x) this).trans rfl
  · have key := build_loop (bytes := 8) (l.getD 0 []).length (cellN l i) (by omega) (fun s : (Int × (List Int)) => m_spec_l16Pairs_B12 l (l.getD 0 []) (i : Int) s.1 s.2) (fun j hj acc => ?_) (fun acc => ?_)
    · simp only [m_spec_l16Pairs_B5, lt_true hi, cond_true, key, Option.bind_some]
      rw [w64_id (n := (i : Int) + 1) (by omega) (by omega)]; rfl
    · simp only [m_spec_l16Pairs_B12, lt_true hj, cond_true, ratSpec_cell l h i j hi hj, Option.bind_some]
      rw [w64_id (n := (j : Int) + 1) (by omega) (by omega)]; rfl
    · simp only [m_spec_l16Pairs_B12, lt_self, cond_false, Option.map_some]
  · simp only [m_spec_l16Pairs_B5, lt_self, cond_false, Option.map_some]

/-! ### the other way: row after row -/
noncomputable def stepG (n : Nat) (t : List Int) (k : Nat) (g : Nat → Nat → Int) : Nat → Nat → Int := fun a b => if a = srvN t ∧ b < k ∧ b ≠ srvN t then mn (g a b) (dif t a b) else g a b
theorem matOf_len (n : Nat) (g : Nat → Nat → Int) : (matOf n g).length = n := by unfold matOf; simp
theorem matOf_get {n : Nat} {g : Nat → Nat → Int} {a : Nat} (h : a < n) : (matOf n g).getD a [] = (List.range n).map (g a) := by
  unfold matOf
  rw [List.getD_eq_getElem?_getD, List.getElem?_map, List.getElem?_range h]; rfl
theorem map_get {n : Nat} {g : Nat → Int} {b : Nat} (h : b < n) : ((List.range n).map g).getD b 0 = g b := by
  rw [List.getD_eq_getElem?_getD, List.getElem?_map, List.getElem?_range h]; rfl
theorem matOf_set {n : Nat} {g : Nat → Nat → Int} {a b : Nat} (v : Int) : (matOf n g).set a (((List.range n).map (g a)).set b v) = matOf n (fun x y => if x = a ∧ y = b then v else g x y) := by
  apply List.ext_getElem?
  intro x
  unfold matOf
  rw [List.getElem?_set]
  by_cases hx : x < n
  · rw [List.getElem?_map, List.getElem?_map, List.getElem?_range hx]
    by_cases e : a = x
    · subst e
      rw [if_pos rfl, if_pos (by simpa using hx)]
      show some _ = some _
      congr 1
      apply List.ext_getElem?
      intro y
      rw [List.getElem?_set]
      by_cases hy : y < n
      · rw [List.getElem?_map, List.getElem?_map, List.getElem?_range hy]
        by_cases e2 : b = y
        · subst e2; simp [hy]
        · simp [e2, Ne.symm e2]
      · have e1 : (List.range n)[y]? = none := by rw [List.getElem?_eq_none]; simp; omega
        rw [List.getElem?_map, List.getElem?_map, e1]
        by_cases e2 : b = y
        · subst e2; simp [hy]
        · simp [e2]
    · rw [if_neg e]
      show some _ = some _
      congr 1
      refine List.map_congr_left fun y _ => ?_
      show g x y = if x = a ∧ y = b then v else g x y
      rw [if_neg (fun hh : x = a ∧ y = b => e hh.1.symm)]
  · have e1 : (List.range n)[x]? = none := by rw [List.getElem?_eq_none]; simp; omega
    rw [List.getElem?_map, List.getElem?_map, e1]
    by_cases e : a = x
    · subst e; simp [hx]
    · simp [e]

theorem ratImpl_row (n : Nat) (hn : n ≤ 24) (t : List Int) (ht : t.length = n) (hs : srvN t < n) (g : Nat → Nat → Int) : loopM (fun s : (Int × (List (List Int))) => m_impl_pairRatios_B25 t (srvN t : Int) s.1 s.2) ((0 : Int), matOf n g) = some (matOf n (stepG n t n g)) := by
  have hg0 : matOf n g = matOf n (stepG n t 0 g) := matOf_congr fun a b _ _ => by
    unfold stepG; rw [if_neg (by omega)]
  rw [hg0]
  have := loop_for (body := fun s : (Int × (List (List Int))) => m_impl_pairRatios_B25 t (srvN t : Int) s.1 s.2) (r := matOf n (stepG n t n g)) n (fun k => ((k : Int), matOf n (stepG n t k g))) (fun k hk => ?_) ?_
  · exact this
  · have hkt : k < t.length := by omega
    simp only [m_impl_pairRatios_B25, lt_true hkt, cond_true, idx_getD 0 hkt, Option.bind_some]
    rw [w64_id (n := (k : Int) + 1) (by omega) (by omega)]
    by_cases c : k = srvN t
    · have e : ((k : Int) != (srvN t : Int)) = false := by rw [← c]; exact bne_self _
      rw [e, cond_false, Option.bind_some]
      have e2 : matOf n (stepG n t k g) = matOf n (stepG n t (k + 1) g) := matOf_congr fun a b _ _ => by
        unfold stepG
        by_cases hb : b = k
        · subst hb
          rw [if_neg (by omega), if_neg (fun hh => hh.2.2 c)]
        · by_cases hc : a = srvN t ∧ b < k ∧ b ≠ srvN t
          · rw [if_pos hc, if_pos ⟨hc.1, by omega, hc.2.2⟩]
          · rw [if_neg hc, if_neg (fun hh => hc ⟨hh.1, by omega, hh.2.2⟩)]
      rw [e2]; rfl
    · have e : ((k : Int) != (srvN t : Int)) = true := by simp only [bne_iff_ne, ne_eq]; omega
      have hsl : srvN t < (matOf n (stepG n t k g)).length := by rw [matOf_len]; exact hs
      rw [e]
      have hin : inB ((List.range n).map (stepG n t k g (srvN t))) (k : Int) = some () := inB_nat (by simpa using hk)
      simp only [cond_true, idx_getD [] hsl, matOf_get hs, Option.bind_some, idx_getD 0 (show k < ((List.range n).map (stepG n t k g (srvN t))).length by simpa using hk), map_get hk, idx_getD 0 (show srvN t < t.length by omega), hin, Int.toNat_natCast]
      rw [matOf_set]
      congr 3
      refine matOf_congr fun a b _ _ => ?_
      unfold stepG
      by_cases hab : a = srvN t ∧ b = k
      · obtain ⟨rfl, rfl⟩ := hab
        rw [if_pos (show srvN t = srvN t ∧ b = b from ⟨rfl, rfl⟩), if_pos (show srvN t = srvN t ∧ b < b + 1 ∧ b ≠ srvN t from ⟨rfl, by omega, c⟩), if_neg (show ¬ (srvN t = srvN t ∧ b < b ∧ b ≠ srvN t) by omega)]
        rfl
      · rw [if_neg hab]
        by_cases hc : a = srvN t ∧ b < k ∧ b ≠ srvN t
        · rw [if_pos hc, if_pos ⟨hc.1, by omega, hc.2.2⟩]
        · rw [if_neg hc, if_neg (fun hh => hc ⟨hh.1, by have := hh.2.1; have : b ≠ k := fun hb => hab ⟨hh.1, hb⟩; omega, hh.2.2⟩)]
  · simp only [m_impl_pairRatios_B25, ht, lt_self, cond_false, Option.map_some]

theorem ratImpl_eq (l : List (List Int)) (h : RowsOk l) : m_impl_pairRatios l = some (ratM l) := by
  have hn1 := h.n1
  have hn2 := h.n2
  have hc1 := h.c1
  have hc2 := h.c2
  have i0 : idx l (0 : Int) = some (l.getD 0 []) := idx_getD (k := 0) [] (by omega)
  unfold m_impl_pairRatios
  rw [i0, Option.bind_some]
  have first := build_loop (bytes := 24) (l.getD 0 []).length (fun _ => List.replicate (l.getD 0 []).length (200000 : Int)) (by omega) (fun s : (Int × (List (List Int))) => m_impl_pairRatios_B4 l (l.getD 0 []) s.1 s.2) (fun i hi acc => ?_) (fun acc => ?_)
  · have e0 : (List.range (l.getD 0 []).length).map (fun _ => List.replicate (l.getD 0 []).length (200000 : Int)) = matOf (l.getD 0 []).length (cellN []) := by
      unfold matOf
      refine List.map_congr_left fun a _ => ?_
      apply List.ext_getElem?
      intro b
      by_cases hb : b < (l.getD 0 []).length
      · rw [List.getElem?_map, List.getElem?_range hb, List.getElem?_replicate, if_pos hb]
        show some _ = some _
        congr 1
        unfold cellN
        split <;> rfl
      · rw [List.getElem?_eq_none (by rw [List.length_replicate]; omega), List.getElem?_eq_none (by rw [List.length_map, List.length_range]; omega)]
    rw [e0] at first
    have second := loop_for (body := fun s : (Int × (List (List Int))) => m_impl_pairRatios_B18 l s.1 s.2) (r := ratM l) l.length (fun k => ((k : Int), matOf (l.getD 0 []).length (cellN (l.take k)))) (fun k hk => ?_) ?_
    · have second : loopM (fun s : (Int × (List (List Int))) => m_impl_pairRatios_B18 l s.1 s.2) ((0 : Int), matOf (l.getD 0 []).length (cellN [])) = some (ratM l) := by simpa using second
      simp only [first, Option.bind_some, second]
    · have hr := h.row l[k] (List.getElem_mem hk)
      obtain ⟨_, s2, s3⟩ := srvN_eq (t := l[k]) (by omega) (by omega)
      have hrow := ratImpl_row (l.getD 0 []).length hc2 l[k] hr (by omega) (cellN (l.take k))
      simp only [m_impl_pairRatios_B18, lt_true hk, cond_true, idx_lt_nat hk, Option.bind_some, s2, hrow]
      rw [w64_id (n := (k : Int) + 1) (by omega) (by omega)]
      congr 3
      refine matOf_congr fun a b ha hb => ?_
      unfold stepG cellN
      rw [List.take_succ_eq_append_getElem hk, List.foldl_append]
      by_cases hab : a = b
      · rw [if_pos hab, if_pos hab, if_neg (fun hh => hh.2.2 (hab ▸ hh.1))]
      · rw [if_neg hab, if_neg hab]
        show _ = cellF a b (List.foldl (cellF a b) 200000 (List.take k l)) l[k]
        unfold cellF
        by_cases hc : srvN l[k] = a
        · rw [if_pos ⟨hc.symm, hb, fun hh => hab (by rw [hh, hc])⟩, if_pos hc]
        · rw [if_neg (fun hh => hc hh.1.symm), if_neg hc]
    · simp only [m_impl_pairRatios_B18, lt_self, cond_false, Option.map_some, List.take_length]; rfl
  · simp only [m_impl_pairRatios_B4, lt_true hi, cond_true, i0, Option.bind_some, repeat_eq _ _ (show (l.getD 0 []).length ≤ 1048576 by omega)]
    rw [w64_id (n := (i : Int) + 1) (by omega) (by omega)]; rfl
  · simp only [m_impl_pairRatios_B4, lt_self, cond_false, Option.map_some]
end Go.Wk
