/-
  Plain laws: the library's merge in place, whole. No program in sight. Our own work.
-/
import Derived.Test.YtfadnbelnfofbaaLawSym
namespace Go.Wk
open Go Go.RowKit

theorem both_eq (p q : Prop) [Decidable p] [Decidable q] : (bif decide p then some (decide q) else some false) = some (decide (p ∧ q)) := by
  by_cases hp : p
  · rw [decide_eq_true hp, cond_true]; congr 1; rw [Bool.eq_iff_iff, decide_eq_true_eq, decide_eq_true_eq]; exact ⟨fun h => ⟨hp, h⟩, fun h => h.2⟩
  · rw [decide_eq_false hp, cond_false, decide_eq_false (fun h => hp h.1)]
theorem rotF_out {f : Nat → Int} {a m b t : Nat} (h : ¬ (a ≤ t ∧ t < b)) (hm : m ≤ b) (ham : a ≤ m) : rotF f a m b t = f t := by
  unfold rotF
  rw [if_neg (by omega), if_neg (by omega)]
theorem rotF_lo {f : Nat → Int} {a m b t : Nat} (h1 : a ≤ t) (h2 : t < a + (b - m)) : rotF f a m b t = f (m + (t - a)) := by
  unfold rotF
  rw [if_pos ⟨h1, h2⟩]
theorem rotF_hi {f : Nat → Int} {a m b t : Nat} (h1 : a + (b - m) ≤ t) (h2 : t < b) : rotF f a m b t = f (t - (b - m)) := by
  unfold rotF
  rw [if_neg (by omega), if_pos ⟨h1, h2⟩]

theorem sym_eq {d : Int → Int} {S : Int → Prop} {cmp : (Int × Int) → Option Int} (hc : CmpOk d S cmp) : ∀ (K : Nat) (v : List Int) (a m b : Nat), b - a ≤ K → a < m → m < b → b ≤ v.length → v.length ≤ 1000 → Two d S (ga v) a m b →
    ∃ v', (∀ N, K ≤ N → iterM FM N (v, (a : Int), (m : Int), (b : Int), cmp) = some v') ∧ v'.length = v.length ∧ Mrg d (ga v) a b (ga v') := by
  intro K
  induction K with
  | zero => intro v a m b h1 h2; omega
  | succ K ih =>
    intro v a m b hK ham hmb hb hN h
    by_cases c1 : m = a + 1
    · subst c1
      obtain ⟨v', k1, k2, k3⟩ := sym_one hc v a b hN hmb hb h
      refine ⟨v', fun N hN' => ?_, k2, k3⟩
      obtain ⟨N', rfl⟩ : ∃ N', N = N' + 1 := Nat.exists_eq_succ_of_ne_zero (by omega)
      exact k1 _
    by_cases c2 : b = m + 1
    · subst c2
      obtain ⟨v', k1, k2, k3⟩ := sym_last hc v a m hN (by omega) hb h
      refine ⟨v', fun N hN' => ?_, k2, k3⟩
      obtain ⟨N', rfl⟩ : ∃ N', N = N' + 1 := Nat.exists_eq_succ_of_ne_zero (by omega)
      exact k1 _
    obtain ⟨mid, hmid⟩ : ∃ mid, (a + b) / 2 = mid := ⟨_, rfl⟩
    obtain ⟨lo, hi, hlohi, e51, hlo1, hlo2, hhi1, hhi2, hlo', hhi'⟩ : ∃ lo hi : Nat, lo ≤ hi ∧ ((bif (decide ((mid : Int) < (m : Int))) then some ((w64 ((w64 ((mid : Int) + (m : Int))) - (b : Int))), (mid : Int)) else some ((a : Int), (m : Int))) : Option (Int × Int)) = some ((lo : Int), (hi : Int)) ∧ a ≤ lo ∧ mid + m ≤ lo + b ∧ hi ≤ m ∧ hi ≤ mid ∧ (lo = a ∨ mid + m = lo + b) ∧ (hi = m ∨ hi = mid) := by
      by_cases c : mid < m
      · refine ⟨mid + m - b, mid, by omega, ?_, by omega, by omega, by omega, by omega, .inr (by omega), .inr rfl⟩
        rw [decide_eq_true (by omega), cond_true]
        have e1 : w64 ((mid : Int) + (m : Int)) = ((mid + m : Nat) : Int) := by rw [← Int.natCast_add]; exact n64 (by omega)
        have e2 : w64 (((mid + m : Nat) : Int) - (b : Int)) = ((mid + m - b : Nat) : Int) := by rw [w64_id (by omega) (by omega)]; omega
        rw [e1, e2]
      · refine ⟨a, m, by omega, ?_, by omega, by omega, by omega, by omega, .inl rfl, .inl rfl⟩
        rw [decide_eq_false (by omega), cond_false]
    have wm : w64 (mid : Int) = (mid : Int) := n64 (by omega)
    have wmm : w64 ((mid : Int) + (m : Int)) = ((mid + m : Nat) : Int) := by rw [← Int.natCast_add]; exact n64 (by omega)
    have wp : w64 (((mid + m : Nat) : Int) - 1) = ((mid + m - 1 : Nat) : Int) := by rw [w64_id (by omega) (by omega)]; omega
    obtain ⟨s, s1, s2, s3, s4, s5⟩ := bin_loop (fun z : (Int × Int) => m_slices_symMergeCmpFunc_int64_B54 v (m : Int) cmp (mid : Int) z.1 z.2) (fun t => !decide (d (ga v t) < d (ga v (mid + m - 1 - t)))) lo hi hlohi
      (fun i j h1 h2 h3 => by
        obtain ⟨c, c1, c2⟩ := hc.dec (h.s (mid + m - 1 - (i + j) / 2) (by omega) (by omega)) (h.s ((i + j) / 2) (by omega) (by omega))
        have w1 : w64 (((i + j) / 2 : Nat) : Int) = (((i + j) / 2 : Nat) : Int) := n64 (by omega)
        have w2 : w64 ((((i + j) / 2 : Nat) : Int) + 1) = (((i + j) / 2 + 1 : Nat) : Int) := by rw [w64_id (by omega) (by omega)]; omega
        have w3 : w64 (((mid + m - 1 : Nat) : Int) - (((i + j) / 2 : Nat) : Int)) = ((mid + m - 1 - (i + j) / 2 : Nat) : Int) := by rw [w64_id (by omega) (by omega)]; omega
        simp only [m_slices_symMergeCmpFunc_int64_B54, decide_eq_true (show (i : Int) < (j : Int) by omega), cond_true, half_eq (show i + j ≤ 100000 by omega), Option.bind_some, wm, wmm, wp, w1, w3, idx_ga (show (i + j) / 2 < v.length by omega), idx_ga (show mid + m - 1 - (i + j) / 2 < v.length by omega), c1, c2, w2]
        cases decide (d (ga v ((i + j) / 2)) < d (ga v (mid + m - 1 - (i + j) / 2))) <;> rfl)
      (fun i => by simp only [m_slices_symMergeCmpFunc_int64_B54, lt_self, cond_false, Option.map_some])
      (fun c c' h1 h2 h3 hq => by
        rw [Bool.not_eq_true', decide_eq_false_iff_not] at hq ⊢
        have p1 := (prec_left (h.lt c' (mid + m - 1 - c') (by omega) (by omega) (by omega) (by omega))).1 hq
        exact (prec_left (h.lt c (mid + m - 1 - c) (by omega) (by omega) (by omega) (by omega))).2 (((h.sl c c' (by omega) h2 (by omega)).trans p1).trans (h.sr _ _ (by omega) (by omega) (by omega))))
    have low : ∀ t, lo ≤ t → t < s → Prec d (ga v t) (ga v (mid + m - 1 - t)) := fun t h1 h2 => by
      have := s4 t h1 h2
      rw [Bool.not_eq_true', decide_eq_false_iff_not] at this
      exact (prec_left (h.lt t (mid + m - 1 - t) (by omega) (by omega) (by omega) (by omega))).1 this
    have high : ∀ t, s ≤ t → t < hi → Prec d (ga v (mid + m - 1 - t)) (ga v t) := fun t h1 h2 => by
      have := s5 t h1 h2
      rw [Bool.not_eq_false', decide_eq_true_eq] at this
      exact .inl this
    obtain ⟨e, he⟩ : ∃ e, mid + m - s = e := ⟨_, rfl⟩
    have we : w64 (((mid + m : Nat) : Int) - (s : Int)) = (e : Int) := by rw [w64_id (by omega) (by omega)]; omega
    -- the two parts in the middle are turned round
    obtain ⟨w, hw1, hw2, hw3⟩ : ∃ w, ((bif (decide ((s : Int) < (m : Int) ∧ (m : Int) < (e : Int))) then ((m_slices_rotateCmpFunc_int64 v (s : Int) (m : Int) (e : Int) cmp).bind fun x69 => some x69) else some v) : Option (List Int)) = some w ∧ w.length = v.length ∧ ∀ t, ga w t = rotF (ga v) s m e t := by
      by_cases c : s < m ∧ m < e
      · obtain ⟨w, r1, r2, r3⟩ := rotate_eq v s m e cmp hN c.1 c.2 (by omega)
        refine ⟨w, ?_, r2, r3⟩
        rw [decide_eq_true (by omega), cond_true, r1]; rfl
      · refine ⟨v, ?_, rfl, fun t => ?_⟩
        · rw [decide_eq_false (by omega), cond_false]
        · unfold rotF
          repeat' split
          all_goals exact congrArg (ga v) (by omega)
    have hse : s + (e - m) = mid := by omega
    -- what has come ahead of the middle comes ahead of what lies behind it
    have cross : ∀ t u, a ≤ t → t < mid → mid ≤ u → u < b → Prec d (ga w t) (ga w u) := by
      intro t u h1 h2 h3 h4
      rw [hw3 t, hw3 u]
      by_cases ct : t < s
      · rw [rotF_out (t := t) (by omega) (by omega) (by omega)]
        by_cases cu : u < e
        · rw [rotF_hi (t := u) (by omega) cu]
          exact h.sl _ _ h1 (by omega) (by omega)
        · rw [rotF_out (t := u) (by omega) (by omega) (by omega)]
          have hl : lo ≤ s - 1 := by
            rcases hlo' with hl | hl <;> omega
          have p1 := low (s - 1) hl (by omega)
          have e1 : mid + m - 1 - (s - 1) = e := by omega
          rw [e1] at p1
          have p0 : Prec d (ga v t) (ga v e) := by
            by_cases c : t = s - 1
            · rw [c]; exact p1
            · exact (h.sl t (s - 1) h1 (by omega) (by omega)).trans p1
          by_cases c : u = e
          · rw [c]; exact p0
          · exact p0.trans (h.sr e u (by omega) (by omega) h4)
      · rw [rotF_lo (t := t) (by omega) (by omega)]
        by_cases cu : u < e
        · rw [rotF_hi (t := u) (by omega) cu]
          have hsh : s < hi := by rcases hhi' with hh | hh <;> omega
          have p1 := high s (Nat.le_refl _) hsh
          have e1 : mid + m - 1 - s = e - 1 := by omega
          rw [e1] at p1
          have p0 : Prec d (ga v (m + (t - s))) (ga v s) := by
            by_cases c : m + (t - s) = e - 1
            · rw [c]; exact p1
            · exact (h.sr _ _ (by omega) (by omega) (by omega)).trans p1
          by_cases c : u - (e - m) = s
          · rw [c]; exact p0
          · exact p0.trans (h.sl s _ (by omega) (by omega) (by omega))
        · rw [rotF_out (t := u) (by omega) (by omega) (by omega)]
          exact h.sr _ _ (by omega) (by omega) h4
    have inw : ∀ t, a ≤ t → t < b → ∃ u, a ≤ u ∧ u < b ∧ ga w t = ga v u := by
      intro t h1 h2
      rw [hw3 t]
      unfold rotF
      split
      · exact ⟨_, by omega, by omega, rfl⟩
      · split
        · exact ⟨_, by omega, by omega, rfl⟩
        · exact ⟨_, h1, h2, rfl⟩
    have Sw : ∀ t, a ≤ t → t < b → S (ga w t) := fun t h1 h2 => by
      obtain ⟨u, u1, u2, u3⟩ := inw t h1 h2
      rw [u3]; exact h.s u u1 u2
    have T1 : Two d S (ga w) a s mid := by
      refine ⟨fun i j h1 h2 h3 => ?_, fun i j h1 h2 h3 => ?_, fun i j h1 h2 h3 h4 => ?_, fun i h1 h2 => Sw i h1 (by omega)⟩
      · rw [hw3 i, hw3 j, rotF_out (t := i) (by omega) (by omega) (by omega), rotF_out (t := j) (by omega) (by omega) (by omega)]
        exact h.sl i j h1 h2 (by omega)
      · rw [hw3 i, hw3 j, rotF_lo (t := i) (by omega) (by omega), rotF_lo (t := j) (by omega) (by omega)]
        exact h.sr _ _ (by omega) (by omega) (by omega)
      · rw [hw3 i, hw3 j, rotF_out (t := i) (by omega) (by omega) (by omega), rotF_lo (t := j) (by omega) (by omega)]
        exact h.lt _ _ h1 (by omega) (by omega) (by omega)
    have T2 : Two d S (ga w) mid e b := by
      refine ⟨fun i j h1 h2 h3 => ?_, fun i j h1 h2 h3 => ?_, fun i j h1 h2 h3 h4 => ?_, fun i h1 h2 => Sw i (by omega) h2⟩
      · rw [hw3 i, hw3 j, rotF_hi (t := i) (by omega) (by omega), rotF_hi (t := j) (by omega) (by omega)]
        exact h.sl _ _ (by omega) (by omega) (by omega)
      · rw [hw3 i, hw3 j, rotF_out (t := i) (by omega) (by omega) (by omega), rotF_out (t := j) (by omega) (by omega) (by omega)]
        exact h.sr i j (by omega) h2 h3
      · rw [hw3 i, hw3 j, rotF_hi (t := i) (by omega) (by omega), rotF_out (t := j) (by omega) (by omega) (by omega)]
        exact h.lt _ _ (by omega) (by omega) (by omega) h4
    -- the front
    obtain ⟨w1, f1, f2, f3⟩ : ∃ w1, (∀ N, K ≤ N → ((bif (decide ((a : Int) < (s : Int) ∧ (s : Int) < (mid : Int))) then ((iterM FM N (w, (a : Int), (s : Int), (mid : Int), cmp)).bind fun x76 => some x76) else some w) : Option (List Int)) = some w1) ∧ w1.length = v.length ∧ Mrg d (ga w) a mid (ga w1) := by
      by_cases c : a < s ∧ s < mid
      · obtain ⟨w1, r1, r2, r3⟩ := ih w a s mid (by omega) c.1 c.2 (by omega) (by omega) T1
        refine ⟨w1, fun N hN' => ?_, by omega, r3⟩
        rw [decide_eq_true (by omega), cond_true, r1 N hN']; rfl
      · refine ⟨w, fun N _ => ?_, hw2, ⟨fun i j h1 h2 h3 => ?_, fun _ _ => rfl, fun t h1 h2 => ⟨t, h1, h2, rfl⟩⟩⟩
        · rw [decide_eq_false (by omega), cond_false]
        · by_cases c3 : a < s
          · exact T1.sl i j h1 h2 (by omega)
          · exact T1.sr i j (by omega) h2 h3
    have T2' : Two d S (ga w1) mid e b := by
      have o : ∀ t, mid ≤ t → ga w1 t = ga w t := fun t ht => f3.ou t (by omega)
      refine ⟨fun i j h1 h2 h3 => ?_, fun i j h1 h2 h3 => ?_, fun i j h1 h2 h3 h4 => ?_, fun i h1 h2 => ?_⟩
      · rw [o i h1, o j (by omega)]; exact T2.sl i j h1 h2 h3
      · rw [o i (by omega), o j (by omega)]; exact T2.sr i j h1 h2 h3
      · rw [o i h1, o j (by omega)]; exact T2.lt i j h1 h2 h3 h4
      · rw [o i h1]; exact T2.s i h1 h2
    -- the back
    obtain ⟨w2, g1, g2, g3⟩ : ∃ w2, (∀ N, K ≤ N → ((bif (decide ((mid : Int) < (e : Int) ∧ (e : Int) < (b : Int))) then ((iterM FM N (w1, (mid : Int), (e : Int), (b : Int), cmp)).bind fun x83 => some x83) else some w1) : Option (List Int)) = some w2) ∧ w2.length = v.length ∧ Mrg d (ga w1) mid b (ga w2) := by
      by_cases c : mid < e ∧ e < b
      · obtain ⟨w2, r1, r2, r3⟩ := ih w1 mid e b (by omega) c.1 c.2 (by omega) (by omega) T2'
        refine ⟨w2, fun N hN' => ?_, by omega, r3⟩
        rw [decide_eq_true (by omega), cond_true, r1 N hN']; rfl
      · refine ⟨w1, fun N _ => ?_, f2, ⟨fun i j h1 h2 h3 => ?_, fun _ _ => rfl, fun t h1 h2 => ⟨t, h1, h2, rfl⟩⟩⟩
        · rw [decide_eq_false (by omega), cond_false]
        · by_cases c3 : mid < e
          · exact T2'.sl i j h1 h2 (by omega)
          · exact T2'.sr i j (by omega) h2 h3
    have inA : ∀ t, a ≤ t → t < mid → ∃ u, a ≤ u ∧ u < mid ∧ ga w2 t = ga w u := fun t h1 h2 => by
      obtain ⟨u, u1, u2, u3⟩ := f3.inn t h1 h2
      exact ⟨u, u1, u2, by rw [g3.ou t (by omega), u3]⟩
    have inB' : ∀ t, mid ≤ t → t < b → ∃ u, mid ≤ u ∧ u < b ∧ ga w2 t = ga w u := fun t h1 h2 => by
      obtain ⟨u, u1, u2, u3⟩ := g3.inn t h1 h2
      exact ⟨u, u1, u2, by rw [u3, f3.ou u (by omega)]⟩
    refine ⟨w2, fun N hN' => ?_, g2, ⟨fun i j h1 h2 h3 => ?_, fun t ht => ?_, fun t h1 h2 => ?_⟩⟩
    · obtain ⟨N', rfl⟩ : ∃ N', N = N' + 1 := Nat.exists_eq_succ_of_ne_zero (by omega)
      have hN2 : K ≤ N' := by omega
      show mf_slices_symMergeCmpFunc_int64 (iterM FM N') v (a : Int) (m : Int) (b : Int) cmp = some w2
      unfold mf_slices_symMergeCmpFunc_int64
      have e0 : (w64 ((m : Int) - (a : Int)) == (1 : Int)) = false := by rw [beq_eq_false_iff_ne, w64_id (by omega) (by omega)]; omega
      have e1 : (w64 ((b : Int) - (m : Int)) == (1 : Int)) = false := by rw [beq_eq_false_iff_ne, w64_id (by omega) (by omega)]; omega
      rw [e0, cond_false, e1, cond_false, half_eq (show a + b ≤ 100000 by omega), Option.bind_some, hmid]
      simp only [wm]
      rw [e51, Option.bind_some]
      simp only [wmm, s3, Option.bind_some, we, both_eq]
      simp only [hw1, Option.bind_some, f1 N' hN2, g1 N' hN2]
    · by_cases ci : j < mid
      · rw [g3.ou i (by omega), g3.ou j (by omega)]; exact f3.so i j h1 h2 ci
      · by_cases cj : mid ≤ i
        · exact g3.so i j cj h2 h3
        · obtain ⟨u, u1, u2, u3⟩ := inA i h1 (by omega)
          obtain ⟨u', u1', u2', u3'⟩ := inB' j (by omega) h3
          rw [u3, u3']; exact cross u u' u1 u2 u1' u2'
    · rw [g3.ou t (by omega), f3.ou t (by omega), hw3 t, rotF_out (by omega) (by omega) (by omega)]
    · by_cases ct : t < mid
      · obtain ⟨u, u1, u2, u3⟩ := inA t h1 ct
        obtain ⟨u', q1, q2, q3⟩ := inw u u1 (by omega)
        exact ⟨u', q1, q2, by rw [u3, q3]⟩
      · obtain ⟨u, u1, u2, u3⟩ := inB' t (by omega) h2
        obtain ⟨u', q1, q2, q3⟩ := inw u (by omega) u2
        exact ⟨u', q1, q2, by rw [u3, q3]⟩
theorem symMerge_eq {d : Int → Int} {S : Int → Prop} {cmp : (Int × Int) → Option Int} (hc : CmpOk d S cmp) (v : List Int) (a m b : Nat) (h1 : a < m) (h2 : m < b) (h3 : b ≤ v.length) (h4 : v.length ≤ 1000) (h : Two d S (ga v) a m b) :
    ∃ v', m_slices_symMergeCmpFunc_int64 v (a : Int) (m : Int) (b : Int) cmp = some v' ∧ v'.length = v.length ∧ Mrg d (ga v) a b (ga v') := by
  obtain ⟨v', k1, k2, k3⟩ := sym_eq hc (b - a) v a m b (Nat.le_refl _) h1 h2 h3 h4 h
  exact ⟨v', recM_of (F := FM) (b - a) k1, k2, k3⟩
end Go.Wk
