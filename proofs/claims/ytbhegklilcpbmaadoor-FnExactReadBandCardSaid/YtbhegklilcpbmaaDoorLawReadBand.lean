/-
  Plain law: ReadBand. No program in sight. Our own work.
-/
import Derived.Test.YtbhegklilcpbmaaDoorLawNumB
import Derived.Test.YtbhegklilcpbmaaDoorLawSplit
import Derived.Test.YtbhegklilcpbmaaDoorLawBandText
namespace Go.Wk
open Go Go.RowKit

theorem splitW_mem {l w : List UInt8} (h : w ∈ splitW l) : w.length ≤ l.length := by
  induction l generalizing w with
  | nil => rw [show splitW [] = [[]] from rfl, List.mem_singleton] at h; subst h; simp
  | cons c r ih =>
    by_cases hc : c = 32
    · subst hc
      rw [splitW_sp] at h
      rcases List.mem_cons.1 h with h | h
      · subst h; simp
      · have := ih h; rw [List.length_cons]; omega
    · cases hs : splitW r with
      | nil => exact absurd hs (splitW_ne r)
      | cons x xs =>
        rw [splitW_c hc hs] at h
        rcases List.mem_cons.1 h with h | h
        · subst h
          have := ih (w := x) (by rw [hs]; simp)
          rw [List.length_cons, List.length_cons]; omega
        · have := ih (w := w) (by rw [hs]; exact List.mem_cons_of_mem _ h)
          rw [List.length_cons]; omega
def joinW : List (List UInt8) → List UInt8
  | [] => []
  | [w] => w
  | w :: x :: r => w ++ 32 :: joinW (x :: r)
theorem joinW_split (l : List UInt8) : joinW (splitW l) = l := by
  induction l with
  | nil => rfl
  | cons c r ih =>
    cases hs : splitW r with
    | nil => exact absurd hs (splitW_ne r)
    | cons x xs =>
      rw [hs] at ih
      by_cases hc : c = 32
      · subst hc
        rw [splitW_sp, hs]
        show [] ++ 32 :: joinW (x :: xs) = _
        rw [ih]; rfl
      · rw [splitW_c hc hs]
        cases xs with
        | nil =>
          have ih : x = r := ih
          show c :: x = _
          rw [ih]
        | cons y ys =>
          have ih : x ++ 32 :: joinW (y :: ys) = r := ih
          show c :: x ++ 32 :: joinW (y :: ys) = _
          rw [List.cons_append, ih]
theorem ba_map (W : List ByteArray) : (W.map (·.data.toList)).map (fun l => (⟨l.toArray⟩ : ByteArray)) = W := by
  induction W with
  | nil => rfl
  | cons x r ih => rw [List.map_cons, List.map_cons, ih]
theorem itoa_no (n : Int) : ∀ c ∈ Lib.itoa n, c ≠ 32 := by
  intro c hc e
  subst e
  have h32 : (32 : UInt8).toNat = 32 := rfl
  have dg : ∀ u, (32 : UInt8) ∈ Lib.decDigits u → False := fun u hu => by
    have := (digitB_iff _).1 (dec_dig u u (Nat.le_refl _) _ hu)
    omega
  unfold Lib.itoa at hc
  split at hc
  · rcases List.mem_cons.1 hc with hc | hc
    · exact absurd hc (by decide)
    · exact dg _ hc
  · exact dg _ hc
theorem name_no {b : GBand} (h : bandOk b = true) : ∀ c ∈ b.Name.data.toList, c ≠ 32 := by
  intro c hc e
  subst e
  unfold bandOk nameOk at h
  simp only [Bool.and_eq_true, decide_eq_true_eq, List.all_eq_true] at h
  have := h.1.2.2 _ hc
  exact absurd this (by decide)
theorem num_self {w : List UInt8} (h : w = Lib.itoa (numR w).1) : (numR w).2 = true := by
  unfold numR at h ⊢
  cases hc : canon w with
  | true => rfl
  | false =>
    rw [hc] at h
    have e : Lib.itoa 0 = [48] := by
      unfold Lib.itoa
      rw [if_neg (by omega), show (0 : Int).toNat = 0 from rfl, Lib.decDigits_one (by omega)]; rfl
    simp only [Bool.false_eq_true, if_false, e] at h
    rw [h] at hc
    exact absurd hc (by decide)
theorem num_itoa {w : List UInt8} (h : (numR w).2 = true) : Lib.itoa (numR w).1 = w := by
  unfold numR at h ⊢
  cases hc : canon w with
  | true => exact (canon_itoa hc).1
  | false => rw [hc] at h; cases h

theorem readBand_same (s : ByteArray) (hs : s.size ≤ 1048576) : ∃ r, m_spec_ReadBand s = some r ∧ m_impl_ReadBand s = some r := by
  have hsz : s.data.toList.length = s.size := by rw [Array.length_toList]; rfl
  obtain ⟨W, s1, s2⟩ := splitSpec_eq s hs
  obtain ⟨W', i1, i2⟩ := splitImpl_eq s hs
  have hW : W' = W := by rw [← ba_map W', i2, ← s2, ba_map]
  subst hW
  unfold m_spec_ReadBand m_impl_ReadBand
  rw [s1, i1, Option.bind_some, Option.bind_some]
  by_cases h5 : W'.length = 5
  case neg =>
    have e : ((W'.length : Int) != (5 : Int)) = true := bne_iff_ne.2 (by omega)
    rw [e, cond_true, cond_true]
    exact ⟨_, rfl, rfl⟩
  have e5 : ((W'.length : Int) != (5 : Int)) = false := by rw [h5]; rfl
  rw [e5, cond_false, cond_false]
  match W', h5, s2 with
  | [w0, w1, w2, w3, w4], _, s2 =>
    have s2 : [w0.data.toList, w1.data.toList, w2.data.toList, w3.data.toList, w4.data.toList] = splitW s.data.toList := s2
    have sz : ∀ w : ByteArray, w.data.toList ∈ splitW s.data.toList → w.size ≤ 1048576 := fun w hw => by
      have := splitW_mem hw
      have e : w.data.toList.length = w.size := by rw [Array.length_toList]; rfl
      omega
    have z1 := sz w1 (by rw [← s2]; simp)
    have z2 := sz w2 (by rw [← s2]; simp)
    have z3 := sz w3 (by rw [← s2]; simp)
    have z4 := sz w4 (by rw [← s2]; simp)
    have n1 := numSpec_eq w1 z1
    have n2 := numSpec_eq w2 z2
    have n3 := numSpec_eq w3 z3
    have n4 := numSpec_eq w4 z4
    have p1 := numImpl_eq w1 z1
    have p2 := numImpl_eq w2 z2
    have p3 := numImpl_eq w3 z3
    have p4 := numImpl_eq w4 z4
    obtain ⟨r1, hr1⟩ : ∃ r, numR w1.data.toList = r := ⟨_, rfl⟩
    obtain ⟨r2, hr2⟩ : ∃ r, numR w2.data.toList = r := ⟨_, rfl⟩
    obtain ⟨r3, hr3⟩ : ∃ r, numR w3.data.toList = r := ⟨_, rfl⟩
    obtain ⟨r4, hr4⟩ : ∃ r, numR w4.data.toList = r := ⟨_, rfl⟩
    rw [hr1] at n1 p1
    rw [hr2] at n2 p2
    rw [hr3] at n3 p3
    rw [hr4] at n4 p4
    have t1 : w64 ((1 : Int) + 1) = 2 := w64_id (by omega) (by omega)
    have t2 : w64 ((2 : Int) + 1) = 3 := w64_id (by omega) (by omega)
    have t3 : w64 ((3 : Int) + 1) = 4 := w64_id (by omega) (by omega)
    have t4 : w64 ((4 : Int) + 1) = 5 := w64_id (by omega) (by omega)
    have t0 : w64 ((0 : Int) + 1) = 1 := w64_id (by omega) (by omega)
    have a1 : appL 8 ([] : List Int) [r1.1] = some [r1.1] := appL_of (by simp)
    have a2 : appL 8 [r1.1] [r2.1] = some [r1.1, r2.1] := appL_of (by simp)
    have a3 : appL 8 [r1.1, r2.1] [r3.1] = some [r1.1, r2.1, r3.1] := appL_of (by simp)
    have a4 : appL 8 [r1.1, r2.1, r3.1] [r4.1] = some [r1.1, r2.1, r3.1, r4.1] := appL_of (by simp)
    have x1 : idx [w0, w1, w2, w3, w4] (1 : Int) = some w1 := rfl
    have x2 : idx [w0, w1, w2, w3, w4] (2 : Int) = some w2 := rfl
    have x3 : idx [w0, w1, w2, w3, w4] (3 : Int) = some w3 := rfl
    have x4 : idx [w0, w1, w2, w3, w4] (4 : Int) = some w4 := rfl
    have x0 : idx [w0, w1, w2, w3, w4] (0 : Int) = some w0 := rfl
    have y0 : idx [w1, w2, w3, w4] (0 : Int) = some w1 := rfl
    have y1 : idx [w1, w2, w3, w4] (1 : Int) = some w2 := rfl
    have y2 : idx [w1, w2, w3, w4] (2 : Int) = some w3 := rfl
    have y3 : idx [w1, w2, w3, w4] (3 : Int) = some w4 := rfl
    -- the program's loop
    have li : loopM (fun z : (Int × (List Int)) => m_impl_ReadBand_B7 [w1, w2, w3, w4] z.1 z.2) ((0 : Int), (List.replicate 4 (0 : Int))) = some [r1.1, r2.1, r3.1, r4.1] := by
      have g0 : idxA 4 [(0 : Int), 0, 0, 0] 0 = some 0 := rfl
      have g1 : idxA 4 [r1.1, 0, 0, 0] 1 = some 0 := rfl
      have g2 : idxA 4 [r1.1, r2.1, 0, 0] 2 = some 0 := rfl
      have g3 : idxA 4 [r1.1, r2.1, r3.1, 0] 3 = some 0 := rfl
      have d0 : decide ((0 : Int) < (([w1, w2, w3, w4] : List ByteArray).length : Int)) = true := rfl
      have d1 : decide ((1 : Int) < (([w1, w2, w3, w4] : List ByteArray).length : Int)) = true := rfl
      have d2 : decide ((2 : Int) < (([w1, w2, w3, w4] : List ByteArray).length : Int)) = true := rfl
      have d3 : decide ((3 : Int) < (([w1, w2, w3, w4] : List ByteArray).length : Int)) = true := rfl
      have d4 : decide ((4 : Int) < (([w1, w2, w3, w4] : List ByteArray).length : Int)) = false := rfl
      rw [loopM_inl (s' := ((1 : Int), [r1.1, 0, 0, 0])) (by
        show m_impl_ReadBand_B7 [w1, w2, w3, w4] 0 [0, 0, 0, 0] = _
        simp only [m_impl_ReadBand_B7, d0, cond_true, y0, Option.bind_some, p1, g0, t0]; rfl)]
      rw [loopM_inl (s' := ((2 : Int), [r1.1, r2.1, 0, 0])) (by
        simp only [m_impl_ReadBand_B7, d1, cond_true, y1, Option.bind_some, p2, g1, t1]; rfl)]
      rw [loopM_inl (s' := ((3 : Int), [r1.1, r2.1, r3.1, 0])) (by
        simp only [m_impl_ReadBand_B7, d2, cond_true, y2, Option.bind_some, p3, g2, t2]; rfl)]
      rw [loopM_inl (s' := ((4 : Int), [r1.1, r2.1, r3.1, r4.1])) (by
        simp only [m_impl_ReadBand_B7, d3, cond_true, y3, Option.bind_some, p4, g3, t3]; rfl)]
      refine loopM_inr ?_
      simp only [m_impl_ReadBand_B7, d4, cond_false, Option.map_some]
    have sub : subL [w0, w1, w2, w3, w4] (some (1 : Int)) none = some [w1, w2, w3, w4] := rfl
    have k0 : idxA 4 [r1.1, r2.1, r3.1, r4.1] 0 = some r1.1 := rfl
    have k1 : idxA 4 [r1.1, r2.1, r3.1, r4.1] 1 = some r2.1 := rfl
    have k2 : idxA 4 [r1.1, r2.1, r3.1, r4.1] 2 = some r3.1 := rfl
    have k3 : idxA 4 [r1.1, r2.1, r3.1, r4.1] 3 = some r4.1 := rfl
    obtain ⟨b, hb⟩ : ∃ b : GBand, GBand.mk w0 r1.1 r2.1 r3.1 r4.1 = b := ⟨_, rfl⟩
    simp only [sub, Option.bind_some, li, x0, k0, k1, k2, k3, okImpl_eq, hb]
    -- the reference's loop
    have ls : loopM (fun z : (Int × (List Int) × ByteArray × Int × Int × Int × Int) => m_spec_ReadBand_B6 [w0, w1, w2, w3, w4] z.1 z.2.1 z.2.2.1 z.2.2.2.1 z.2.2.2.2.1 z.2.2.2.2.2.1 z.2.2.2.2.2.2) ((1 : Int), ([] : (List Int)), ByteArray.empty, (0 : Int), (0 : Int), (0 : Int), (0 : Int)) =
        some (if (r1.2 && r2.2 && r3.2 && r4.2 && bandOk b) = true then (b, true) else (GBand.mk ByteArray.empty (0 : Int) (0 : Int) (0 : Int) (0 : Int), false)) := by
      have d1 : decide ((1 : Int) < 5) = true := rfl
      have d2 : decide ((2 : Int) < 5) = true := rfl
      have d3 : decide ((3 : Int) < 5) = true := rfl
      have d4 : decide ((4 : Int) < 5) = true := rfl
      have d5 : decide ((5 : Int) < 5) = false := rfl
      cases h1 : r1.2 with
      | false =>
        refine loopM_inr ?_
        simp only [m_spec_ReadBand_B6, d1, cond_true, x1, Option.bind_some, n1, h1, Bool.not_false, Option.map_some, Bool.false_and, Bool.false_eq_true, if_false]
      | true =>
        rw [loopM_inl (s' := ((2 : Int), [r1.1], ByteArray.empty, (0 : Int), (0 : Int), (0 : Int), (0 : Int))) (by
          simp only [m_spec_ReadBand_B6, d1, cond_true, x1, Option.bind_some, n1, h1, Bool.not_true, cond_false, a1, t1])]
        cases h2 : r2.2 with
        | false =>
          refine loopM_inr ?_
          simp only [m_spec_ReadBand_B6, d2, cond_true, x2, Option.bind_some, n2, h2, Bool.not_false, Option.map_some, Bool.true_and, Bool.false_and, Bool.false_eq_true, if_false]
        | true =>
          rw [loopM_inl (s' := ((3 : Int), [r1.1, r2.1], ByteArray.empty, (0 : Int), (0 : Int), (0 : Int), (0 : Int))) (by
            simp only [m_spec_ReadBand_B6, d2, cond_true, x2, Option.bind_some, n2, h2, Bool.not_true, cond_false, a2, t2])]
          cases h3 : r3.2 with
          | false =>
            refine loopM_inr ?_
            simp only [m_spec_ReadBand_B6, d3, cond_true, x3, Option.bind_some, n3, h3, Bool.not_false, Option.map_some, Bool.true_and, Bool.false_and, Bool.false_eq_true, if_false]
          | true =>
            rw [loopM_inl (s' := ((4 : Int), [r1.1, r2.1, r3.1], ByteArray.empty, (0 : Int), (0 : Int), (0 : Int), (0 : Int))) (by
              simp only [m_spec_ReadBand_B6, d3, cond_true, x3, Option.bind_some, n3, h3, Bool.not_true, cond_false, a3, t3])]
            cases h4 : r4.2 with
            | false =>
              refine loopM_inr ?_
              simp only [m_spec_ReadBand_B6, d4, cond_true, x4, Option.bind_some, n4, h4, Bool.not_false, Option.map_some, Bool.true_and, Bool.false_and, Bool.false_eq_true, if_false]
            | true =>
              rw [loopM_inl (s' := ((5 : Int), [r1.1, r2.1, r3.1, r4.1], ByteArray.empty, (0 : Int), (0 : Int), (0 : Int), (0 : Int))) (by
                simp only [m_spec_ReadBand_B6, d4, cond_true, x4, Option.bind_some, n4, h4, Bool.not_true, cond_false, a4, t4])]
              refine loopM_inr ?_
              have q0 : idx [r1.1, r2.1, r3.1, r4.1] (0 : Int) = some r1.1 := rfl
              have q1 : idx [r1.1, r2.1, r3.1, r4.1] (1 : Int) = some r2.1 := rfl
              have q2 : idx [r1.1, r2.1, r3.1, r4.1] (2 : Int) = some r3.1 := rfl
              have q3 : idx [r1.1, r2.1, r3.1, r4.1] (3 : Int) = some r4.1 := rfl
              simp only [m_spec_ReadBand_B6, d5, cond_false, x0, Option.bind_some, q0, q1, q2, q3, hb, okSpec_eq, Bool.true_and]
              cases bandOk b <;> rfl
    rw [ls]
    refine ⟨_, rfl, ?_⟩
    cases hok : bandOk b with
    | false => simp only [Bool.not_false, cond_true, Option.bind_some, Bool.and_false, Bool.false_eq_true, if_false]
    | true =>
      simp only [Bool.not_true, cond_false, textImpl_eq hok, Option.bind_some, Bool.and_true]
      have hbn : b.Name = w0 := by rw [← hb]
      have hb1 : b.Low = r1.1 := by rw [← hb]
      have hb2 : b.High = r2.1 := by rw [← hb]
      have hb3 : b.Raster = r3.1 := by rw [← hb]
      have hb4 : b.Duplex = r4.1 := by rw [← hb]
      have et : bandText b = w0.data.toList ++ 32 :: (Lib.itoa r1.1 ++ 32 :: (Lib.itoa r2.1 ++ 32 :: (Lib.itoa r3.1 ++ 32 :: Lib.itoa r4.1))) := by
        unfold bandText
        rw [hbn, hb1, hb2, hb3, hb4]
        simp only [List.append_assoc, List.cons_append, List.nil_append]
      have el : s.data.toList = w0.data.toList ++ 32 :: (w1.data.toList ++ 32 :: (w2.data.toList ++ 32 :: (w3.data.toList ++ 32 :: w4.data.toList))) := by
        have := joinW_split s.data.toList
        rw [← s2] at this
        exact this.symm
      have heq : ((ByteArray.mk (bandText b).toArray).toList == s.toList) = (r1.2 && r2.2 && r3.2 && r4.2) := by
        rw [Bool.eq_iff_iff, beq_iff_eq, toList_eq, toList_eq]
        show bandText b = s.data.toList ↔ _
        constructor
        · intro h
          have hsp : splitW (bandText b) = [w0.data.toList, Lib.itoa r1.1, Lib.itoa r2.1, Lib.itoa r3.1, Lib.itoa r4.1] := by
            rw [et, splitW_hit (by rw [← hbn]; exact name_no hok), splitW_hit (itoa_no _), splitW_hit (itoa_no _), splitW_hit (itoa_no _), splitW_miss (itoa_no _)]
          rw [h, ← s2] at hsp
          simp only [List.cons.injEq, and_true, true_and] at hsp
          obtain ⟨g1, g2, g3, g4⟩ := hsp
          have f1 : r1.2 = true := by rw [← hr1]; exact num_self (by rw [hr1]; exact g1)
          have f2 : r2.2 = true := by rw [← hr2]; exact num_self (by rw [hr2]; exact g2)
          have f3 : r3.2 = true := by rw [← hr3]; exact num_self (by rw [hr3]; exact g3)
          have f4 : r4.2 = true := by rw [← hr4]; exact num_self (by rw [hr4]; exact g4)
          rw [f1, f2, f3, f4]; rfl
        · intro h
          simp only [Bool.and_eq_true] at h
          obtain ⟨⟨⟨f1, f2⟩, f3⟩, f4⟩ := h
          have g1 := num_itoa (w := w1.data.toList) (by rw [hr1]; exact f1)
          have g2 := num_itoa (w := w2.data.toList) (by rw [hr2]; exact f2)
          have g3 := num_itoa (w := w3.data.toList) (by rw [hr3]; exact f3)
          have g4 := num_itoa (w := w4.data.toList) (by rw [hr4]; exact f4)
          rw [hr1] at g1
          rw [hr2] at g2
          rw [hr3] at g3
          rw [hr4] at g4
          rw [et, el, g1, g2, g3, g4]
      rw [heq]
      cases (r1.2 && r2.2 && r3.2 && r4.2) <;> rfl
theorem law_FnExactReadBand (s : ByteArray) (_k : s.size ≤ maxLen) : m_laws_FnExactReadBand s = some true := by
  unfold m_laws_FnExactReadBand
  by_cases h1 : (1048576 : Int) < (s.size : Int)
  · rw [decide_eq_true h1]; rfl
  rw [decide_eq_false h1, cond_false]
  obtain ⟨r, e1, e2⟩ := readBand_same s (by omega)
  simp only [e1, e2, Option.bind_some, m_laws_eqBand, beq_self_eq_true, bne_self, Bool.not_true, cond_false]
end Go.Wk
