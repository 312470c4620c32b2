/-
  Plain law: MarginFor. No program in sight. Our own work.
-/
import Derived.Test.YtgianbkngpfpnaaDoorLawFade
namespace Go.Wk
open Go Go.RowKit

theorem search_eq {f : Int → Option Bool} {ok : Nat → Bool} {n : Nat} (hn : n ≤ 1000000000) (hf : ∀ k : Nat, k < n → f (k : Int) = some (ok k)) : m_sort_Search (n : Int) f = some (bs ok 0 n : Int) := by
  have := bs_loop (body := fun s : (Int × Int) => m_sort_Search_B2 f s.1 s.2) (ok := ok) (M := n) (fun lo hi h1 h2 => ?_) (fun lo h1 => ?_) 0 n (by omega) (Nat.le_refl _)
  · unfold m_sort_Search
    show (loopM (fun s : (Int × Int) => m_sort_Search_B2 f s.1 s.2) (((0 : Nat) : Int), (n : Int))).bind _ = _
    rw [this]; rfl
  · have hw : IntKind.wrap .u64 (w64 ((lo : Int) + (hi : Int))) = ((lo + hi : Nat) : Int) := by
      rw [w64_id (by omega) (by omega)]
      have := IntWalk.u64_in ((lo : Int) + (hi : Int)) ⟨by omega, by omega⟩
      rw [this]; omega
    have hs : bitOp .shr .u64 ((lo + hi : Nat) : Int) 1 = some (((lo + hi) / 2 : Nat) : Int) := by
      simp only [bitOp]
      rw [if_neg (by omega)]
      congr 1
      have e : min (1 : Int).toNat IntKind.u64.bits = 1 := by decide
      rw [e, Int.fdiv_eq_ediv_of_nonneg _ (by decide)]
      omega
    simp only [m_sort_Search_B2]
    rw [decide_eq_true (by omega), cond_true, hw, hs, Option.bind_some, w64_id (n := (((lo + hi) / 2 : Nat) : Int)) (by omega) (by omega), hf _ (by omega), Option.bind_some, w64_id (by omega) (by omega)]
    cases ok ((lo + hi) / 2) <;> rfl
  · simp only [m_sort_Search_B2]
    rw [decide_eq_false (by omega)]
    rfl

theorem law_FnExactMarginFor (f d c o : Int) : m_laws_FnExactMarginFor f d c o = some true := by
  unfold m_laws_FnExactMarginFor m_spec_MarginFor m_impl_MarginFor m_spec_l13Outage
  rw [specAsk3, implAsk3, Option.bind_some]
  simp only [in_eq, within_eq, Option.bind_some]
  cases hh : hopOk f d c
  · simp only [cond_false, Bool.not_false, cond_true, Option.bind_some, bne_self]
  · simp only [cond_true, Bool.not_true, cond_false]
    by_cases ho : 0 ≤ o ∧ o ≤ 1000000
    · obtain ⟨f', d', c', rfl, rfl, rfl, hf, hd, hc, _⟩ := hopOk_nat hh
      obtain ⟨M, hM⟩ : ∃ M : Nat, M = 100001 := ⟨_, rfl⟩
      have hs : loopM (fun s : (Int × Int) => m_spec_MarginFor_B11 (f' : Int) (d' : Int) (c' : Int) o s.1 s.2) (((0 : Nat) : Int), (M : Int)) = some (bs (fun m => decide ((fadeN f' d' c' m : Int) ≤ o)) 0 M : Int) := by
        refine bs_loop (body := fun s : (Int × Int) => m_spec_MarginFor_B11 (f' : Int) (d' : Int) (c' : Int) o s.1 s.2) (ok := fun m => decide ((fadeN f' d' c' m : Int) ≤ o)) (M := M) (fun lo hi h1 h2 => ?_) (fun lo h1 => ?_) 0 M (by omega) (by omega)
        · have t : ((lo : Int) + (hi : Int)).tdiv 2 = (((lo + hi) / 2 : Nat) : Int) := by rw [Int.tdiv_eq_ediv_of_nonneg (by omega)]; omega
          simp only [m_spec_MarginFor_B11]
          rw [decide_eq_true (by omega), cond_true, w64_id (n := (lo : Int) + (hi : Int)) (by omega) (by omega), t, w64_id (n := (((lo + hi) / 2 : Nat) : Int)) (by omega) (by omega), specFade hf hd hc (show (lo + hi) / 2 ≤ 100000 by omega), Option.bind_some, w64_id (by omega) (by omega)]
          by_cases h : (fadeN f' d' c' ((lo + hi) / 2) : Int) ≤ o
          · simp [h]
          · simp [h]
        · simp only [m_spec_MarginFor_B11]
          rw [decide_eq_false (by omega)]
          rfl
      have e0 : ((0 : Int), (100001 : Int)) = (((0 : Nat) : Int), (M : Int)) := by rw [hM]; rfl
      have hi : m_impl_firstIn 0 100000 (fun x => m_impl_MarginFor_1 x (f' : Int) (d' : Int) (c' : Int) o) = some ((bs (fun m => decide ((fadeN f' d' c' m : Int) ≤ o)) 0 M : Int), decide ((bs (fun m => decide ((fadeN f' d' c' m : Int) ≤ o)) 0 M : Int) < (M : Int))) := by
        have hb := bs_in (ok := fun m => decide ((fadeN f' d' c' m : Int) ≤ o)) _ 0 M (Nat.le_refl _) (by omega)
        have e1 : w64 (w64 ((100000 : Int) - 0) + 1) = (M : Int) := by rw [w64_id (n := (100000 : Int) - 0) (by omega) (by omega), w64_id (by omega) (by omega)]; omega
        unfold m_impl_firstIn
        rw [e1, search_eq (ok := fun m => decide ((fadeN f' d' c' m : Int) ≤ o)) (by omega) (fun k hk => ?_), Option.bind_some, w64_id (by omega) (by omega)]
        · simp
        · unfold m_impl_firstIn_1 m_impl_MarginFor_1
          have ek : (0 : Int) + (k : Int) = (k : Int) := by omega
          rw [w64_id (by omega) (by omega), ek]
          show ((m_impl_outageOf (f' : Int) (d' : Int) (c' : Int) (k : Int)).bind fun x1 => some (decide (x1 ≤ o))).bind _ = _
          rw [implFade hf hd hc (by omega)]
          rfl
      simp only [decide_eq_true ho, Bool.not_true, cond_false, e0, hs, hi, Option.bind_some]
      generalize (bs (fun m => decide ((fadeN f' d' c' m : Int) ≤ o)) 0 M : Int) = r
      unfold m_impl_orNotFound
      by_cases h : r < (M : Int)
      · rw [decide_eq_false (by omega), decide_eq_true h]
        simp only [cond_false, Bool.not_true, Option.bind_some, bne_self]
      · rw [decide_eq_true (by omega), decide_eq_false h]
        simp only [cond_true, Bool.not_false, Option.bind_some, bne_self, cond_false]
    · simp only [decide_eq_false ho, Bool.not_false, cond_true, Option.bind_some, bne_self, cond_false]
end Go.Wk
