/-
  Plain law: RepairGreedy. No program in sight. Our own work.
-/
import Derived.Test.YtcofngddgljhdaaLawPairs
import Derived.Test.YtcofngddgljhdaaLawAssign
import Derived.Test.YtcofngddgljhdaaLawMarkP
import Derived.Test.YtcofngddgljhdaaLawEnd
namespace Go.Wk
open Go Go.RowKit

/-- A state: a channel for every item. -/
structure StA (p : GProblem) (l : List Int) : Prop where
  len : l.length = p.Domains.length
  rng : ∀ k, k < l.length → 0 ≤ l.getD k 0 ∧ l.getD k 0 ≤ 999
def badN (p : GProblem) (l : List Int) (i : Nat) : Int := if hasN (p.Domains.getD i []) (l.getD i 0) then confN p l i (l.getD i 0) else w64 (confN p l i (l.getD i 0) + 24)
theorem StA.wide {p : GProblem} {l : List Int} (h : StA p l) : ∀ k, k < l.length → -1 ≤ l.getD k 0 ∧ l.getD k 0 ≤ 999 := fun k hk => by have := h.rng k hk; omega
theorem StA.set {p : GProblem} {l : List Int} (h : StA p l) {i : Nat} {c : Int} (hc : 0 ≤ c ∧ c ≤ 999) : StA p (l.set i c) := by
  refine ⟨by simpa using h.len, fun k hk => ?_⟩
  rw [List.length_set] at hk
  have := h.rng k hk
  simp only [List.getD_eq_getElem?_getD, List.getElem?_set] at this ⊢
  split
  · rename_i e
    subst e
    simpa [hk] using hc
  · exact this

theorem badSpec_eq (p : GProblem) (h : ProbOk p) (l : List Int) (hs : StA p l) (i : Nat) (hi : i < l.length) : m_spec_l19Bad p l (i : Int) = some (badN p l i) := by
  have hn := h.n2
  have hl := hs.len
  unfold m_spec_l19Bad badN
  have hd := dom_len h (k := i) (by omega)
  simp only [idx_getD 0 hi, idx_getD [] (show i < p.Domains.length by omega), Option.bind_some, confSpec_eq p h l hl hs.wide i hi _ (hs.wide i hi), hasSpec_eq _ _ (show (p.Domains.getD i []).length ≤ 1048576 by omega)]
  cases hasN (p.Domains.getD i []) (l.getD i 0) <;> rfl
theorem badImpl_eq (p : GProblem) (h : ProbOk p) (l : List Int) (hs : StA p l) (i : Nat) (hi : i < l.length) : m_impl_Problem_badness p l (i : Int) = some (badN p l i) := by
  have hn := h.n2
  have hl := hs.len
  unfold m_impl_Problem_badness badN
  have hd := dom_len h (k := i) (by omega)
  simp only [idx_getD 0 hi, idx_getD [] (show i < p.Domains.length by omega), Option.bind_some, confImpl_eq p h l hl hs.wide i hi _ (hs.wide i hi), containsN_eq _ _ (show (p.Domains.getD i []).length ≤ 1048576 by omega)]
  cases hasN (p.Domains.getD i []) (l.getD i 0) <;> rfl

theorem worst_same (p : GProblem) (h : ProbOk p) (l : List Int) (hs : StA p l) : ∀ (m k v : Nat), k + m = l.length → v < l.length →
    ∃ w, w < l.length ∧ loopM (fun s : (Int × Int) => m_spec_RepairGreedy_B16 p l s.1 s.2) ((v : Int), (k : Int)) = some (w : Int) ∧ loopM (fun s : (Int × Int) => m_impl_RepairGreedy_B15 p l s.1 s.2) ((v : Int), (k : Int)) = some (w : Int) := by
  intro m
  induction m with
  | zero =>
    intro k v hk hv
    have e : k = l.length := by omega
    subst e
    refine ⟨v, hv, loopM_inr ?_, loopM_inr ?_⟩
    · simp only [m_spec_RepairGreedy_B16, lt_self, cond_false, Option.map_some]
    · simp only [m_impl_RepairGreedy_B15, lt_self, cond_false, Option.map_some]
  | succ m ih =>
    intro k v hk hv
    have hkl : k < l.length := by omega
    have hn := h.n2
    have hlen := hs.len
    have hw : w64 ((k : Int) + 1) = ((k + 1 : Nat) : Int) := by rw [w64_id (by omega) (by omega)]; omega
    by_cases c : badN p l v < badN p l k
    · obtain ⟨w, h1, h2, h3⟩ := ih (k + 1) k (by omega) hkl
      refine ⟨w, h1, (loopM_inl (s' := ((k : Int), ((k + 1 : Nat) : Int))) ?_).trans h2, (loopM_inl (s' := ((k : Int), ((k + 1 : Nat) : Int))) ?_).trans h3⟩
      · simp only [m_spec_RepairGreedy_B16, lt_true hkl, cond_true, badSpec_eq p h l hs k hkl, badSpec_eq p h l hs v hv, Option.bind_some, decide_eq_true c, hw]
      · simp only [m_impl_RepairGreedy_B15, lt_true hkl, cond_true, badImpl_eq p h l hs k hkl, badImpl_eq p h l hs v hv, Option.bind_some, decide_eq_true c, hw]
    · obtain ⟨w, h1, h2, h3⟩ := ih (k + 1) v (by omega) hv
      refine ⟨w, h1, (loopM_inl (s' := ((v : Int), ((k + 1 : Nat) : Int))) ?_).trans h2, (loopM_inl (s' := ((v : Int), ((k + 1 : Nat) : Int))) ?_).trans h3⟩
      · simp only [m_spec_RepairGreedy_B16, lt_true hkl, cond_true, badSpec_eq p h l hs k hkl, badSpec_eq p h l hs v hv, Option.bind_some, decide_eq_false c, cond_false, hw]
      · simp only [m_impl_RepairGreedy_B15, lt_true hkl, cond_true, badImpl_eq p h l hs k hkl, badImpl_eq p h l hs v hv, Option.bind_some, decide_eq_false c, cond_false, hw]

theorem best_same (p : GProblem) (h : ProbOk p) (l : List Int) (hs : StA p l) (i : Nat) (hi : i < l.length) : ∀ (m k : Nat) (v : Int), k + m = (p.Domains.getD i []).length → (0 ≤ v ∧ v ≤ 999) →
    ∃ w, (0 ≤ w ∧ w ≤ 999) ∧ loopM (fun s : (Int × Int) => m_spec_RepairGreedy_B29 p l (i : Int) s.1 s.2) (v, (k : Int)) = some w ∧ loopM (fun s : (Int × Int) => m_impl_RepairGreedy_B28 p l (i : Int) (p.Domains.getD i []) s.1 s.2) (v, (k : Int)) = some w := by
  have hn := h.n2
  have hlen := hs.len
  have hid : i < p.Domains.length := by omega
  intro m
  induction m with
  | zero =>
    intro k v hk hv
    refine ⟨v, hv, loopM_inr ?_, loopM_inr ?_⟩
    · simp only [m_spec_RepairGreedy_B29, idx_getD [] hid, Option.bind_some, lt_false (show ¬ (k : Int) < ((p.Domains.getD i []).length : Int) by omega), cond_false, Option.map_some]
    · simp only [m_impl_RepairGreedy_B28, lt_false (show ¬ (k : Int) < ((p.Domains.getD i []).length : Int) by omega), cond_false, Option.map_some]
  | succ m ih =>
    intro k v hk hv
    have hkl : k < (p.Domains.getD i []).length := by omega
    have hd := dom_len h hid
    have hw : w64 ((k : Int) + 1) = ((k + 1 : Nat) : Int) := by rw [w64_id (by omega) (by omega)]; omega
    have hr := dom_rng h hid (x := (p.Domains.getD i []).getD k 0) (by rw [getD_lt 0 hkl]; exact List.getElem_mem hkl)
    have cS := fun (c : Int) (hc : 0 ≤ c ∧ c ≤ 999) => confSpec_eq p h l hlen hs.wide i hi c (by omega)
    have cI := fun (c : Int) (hc : 0 ≤ c ∧ c ≤ 999) => confImpl_eq p h l hlen hs.wide i hi c (by omega)
    by_cases c : confN p l i ((p.Domains.getD i []).getD k 0) < confN p l i v
    · obtain ⟨w, h1, h2, h3⟩ := ih (k + 1) ((p.Domains.getD i []).getD k 0) (by omega) hr
      refine ⟨w, h1, (loopM_inl (s' := ((p.Domains.getD i []).getD k 0, ((k + 1 : Nat) : Int))) ?_).trans h2, (loopM_inl (s' := ((p.Domains.getD i []).getD k 0, ((k + 1 : Nat) : Int))) ?_).trans h3⟩
      · simp only [m_spec_RepairGreedy_B29, idx_getD [] hid, Option.bind_some, lt_true hkl, cond_true, idx_getD 0 hkl, cS _ hr, cS _ hv, decide_eq_true c, hw]
      · simp only [m_impl_RepairGreedy_B28, Option.bind_some, lt_true hkl, cond_true, idx_getD 0 hkl, cI _ hr, cI _ hv, decide_eq_true c, hw]
    · obtain ⟨w, h1, h2, h3⟩ := ih (k + 1) v (by omega) hv
      refine ⟨w, h1, (loopM_inl (s' := (v, ((k + 1 : Nat) : Int))) ?_).trans h2, (loopM_inl (s' := (v, ((k + 1 : Nat) : Int))) ?_).trans h3⟩
      · simp only [m_spec_RepairGreedy_B29, idx_getD [] hid, Option.bind_some, lt_true hkl, cond_true, idx_getD 0 hkl, cS _ hr, cS _ hv, decide_eq_false c, cond_false, hw]
      · simp only [m_impl_RepairGreedy_B28, Option.bind_some, lt_true hkl, cond_true, idx_getD 0 hkl, cI _ hr, cI _ hv, decide_eq_false c, cond_false, hw]

theorem greedy_same (p : GProblem) (h : ProbOk p) (a2 : Int) (ha : 0 ≤ a2 ∧ a2 ≤ 100) : ∀ (m : Nat) (l : List Int), (m : Int) ≤ a2 → StA p l →
    ∃ r, StA p r ∧ loopM (fun s : (Int × (List Int)) => m_spec_RepairGreedy_B11 p s.1 s.2) ((m : Int), l) = some r ∧ loopM (fun s : (Int × (List Int)) => m_impl_RepairGreedy_B10 p a2 s.1 s.2) (a2 - (m : Int), l) = some r := by
  have hn := h.n2
  have hn1 := h.n1
  intro m
  induction m with
  | zero =>
    intro l hm hs
    refine ⟨l, hs, loopM_inr ?_, loopM_inr ?_⟩
    · simp only [m_spec_RepairGreedy_B11, lt_false (show ¬ (0 : Int) < ((0 : Nat) : Int) by omega), cond_false, Option.map_some]
    · simp only [m_impl_RepairGreedy_B10, lt_false (show ¬ (a2 - ((0 : Nat) : Int)) < a2 by omega), cond_false, Option.map_some]
  | succ m ih =>
    intro l hm hs
    have hlen := hs.len
    have d1 : decide ((0 : Int) < ((m + 1 : Nat) : Int)) = true := by rw [decide_eq_true_eq]; omega
    have d2 : decide ((a2 - ((m + 1 : Nat) : Int)) < a2) = true := by rw [decide_eq_true_eq]; omega
    have w1 : w64 (((m + 1 : Nat) : Int) - 1) = (m : Int) := by rw [w64_id (by omega) (by omega)]; omega
    have w2 : w64 ((a2 - ((m + 1 : Nat) : Int)) + 1) = a2 - (m : Int) := by rw [w64_id (by omega) (by omega)]; omega
    obtain ⟨x, hx, x1, x2⟩ := worst_same p h l hs (l.length - 1) 1 0 (by omega) (by omega)
    have x1 : loopM (fun s : (Int × Int) => m_spec_RepairGreedy_B16 p l s.1 s.2) ((0 : Int), (1 : Int)) = some (x : Int) := x1
    have x2' : loopM (fun s : (Int × Int) => m_impl_RepairGreedy_B15 p l s.1 s.2) ((0 : Int), (0 : Int)) = some (x : Int) := by
      refine (loopM_inl (s' := ((0 : Int), ((0 + 1 : Nat) : Int))) ?_).trans x2
      have b0 : m_impl_Problem_badness p l (0 : Int) = some (badN p l 0) := badImpl_eq p h l hs 0 (by omega)
      have e0 : decide ((0 : Int) < (l.length : Int)) = true := by rw [decide_eq_true_eq]; omega
      have e1 : decide (badN p l 0 < badN p l 0) = false := lt_false (by omega)
      have e2 : w64 ((0 : Int) + 1) = ((0 + 1 : Nat) : Int) := by rw [w64_id (by omega) (by omega)]; rfl
      simp only [m_impl_RepairGreedy_B15, e0, cond_true, b0, Option.bind_some, e1, cond_false, e2]
    have hxd : x < p.Domains.length := by omega
    have hd := h.dom x hxd
    have hd0 : 0 < (p.Domains.getD x []).length := by
      unfold domOk at hd
      simp only [Bool.and_eq_true, decide_eq_true_eq] at hd
      omega
    have hr0 := dom_rng h hxd (x := (p.Domains.getD x []).getD 0 0) (by rw [getD_lt 0 hd0]; exact List.getElem_mem hd0)
    have i0 : idx (p.Domains.getD x []) (0 : Int) = some ((p.Domains.getD x []).getD 0 0) := idx_getD (k := 0) 0 hd0
    obtain ⟨c, hc, c1, c2⟩ := best_same p h l hs x hx ((p.Domains.getD x []).length - 1) 1 ((p.Domains.getD x []).getD 0 0) (by omega) hr0
    have c1 : loopM (fun s : (Int × Int) => m_spec_RepairGreedy_B29 p l (x : Int) s.1 s.2) ((p.Domains.getD x []).getD 0 0, (1 : Int)) = some c := c1
    have c2' : loopM (fun s : (Int × Int) => m_impl_RepairGreedy_B28 p l (x : Int) (p.Domains.getD x []) s.1 s.2) ((p.Domains.getD x []).getD 0 0, (0 : Int)) = some c := by
      refine (loopM_inl (s' := ((p.Domains.getD x []).getD 0 0, ((0 + 1 : Nat) : Int))) ?_).trans c2
      have e0 : decide ((0 : Int) < ((p.Domains.getD x []).length : Int)) = true := by rw [decide_eq_true_eq]; omega
      have cI := confImpl_eq p h l hlen hs.wide x hx ((p.Domains.getD x []).getD 0 0) (by omega)
      have e1 : decide (confN p l x ((p.Domains.getD x []).getD 0 0) < confN p l x ((p.Domains.getD x []).getD 0 0)) = false := lt_false (by omega)
      have e2 : w64 ((0 : Int) + 1) = ((0 + 1 : Nat) : Int) := by rw [w64_id (by omega) (by omega)]; rfl
      simp only [m_impl_RepairGreedy_B28, e0, cond_true, i0, cI, Option.bind_some, e1, cond_false, e2]
    have bS := badSpec_eq p h l hs x hx
    have bI := badImpl_eq p h l hs x hx
    by_cases z : badN p l x = 0
    · have ez : (badN p l x == 0) = true := by rw [z]; rfl
      refine ⟨l, hs, loopM_inr ?_, loopM_inr ?_⟩
      · simp only [m_spec_RepairGreedy_B11, d1, cond_true, x1, Option.bind_some, bS, ez, Option.map_some]
      · simp only [m_impl_RepairGreedy_B10, d2, cond_true, x2', Option.bind_some, idx_getD [] hxd, i0, c2', bI, ez, Option.map_some]
    · have ez : (badN p l x == 0) = false := by simp only [beq_eq_false_iff_ne, ne_eq]; exact z
      by_cases y : c = l.getD x 0
      · have ey : (c == l.getD x 0) = true := by rw [y]; exact beq_self_eq_true _
        refine ⟨l, hs, loopM_inr ?_, loopM_inr ?_⟩
        · simp only [m_spec_RepairGreedy_B11, d1, cond_true, x1, Option.bind_some, bS, ez, cond_false, idx_getD [] hxd, i0, c1, idx_getD 0 hx, ey, Option.map_some]
        · simp only [m_impl_RepairGreedy_B10, d2, cond_true, x2', Option.bind_some, idx_getD [] hxd, i0, c2', bI, ez, cond_false, idx_getD 0 hx, ey, Option.map_some]
      · have ey : (c == l.getD x 0) = false := by simp only [beq_eq_false_iff_ne, ne_eq]; exact y
        obtain ⟨r, r1, r2, r3⟩ := ih (l.set x c) (by omega) (hs.set hc)
        refine ⟨r, r1, (loopM_inl (s' := ((m : Int), l.set x c)) ?_).trans r2, (loopM_inl (s' := (a2 - (m : Int), l.set x c)) ?_).trans r3⟩
        · simp only [m_spec_RepairGreedy_B11, d1, cond_true, x1, Option.bind_some, bS, ez, cond_false, idx_getD [] hxd, i0, c1, idx_getD 0 hx, ey, inB_nat hx, w1, Int.toNat_natCast]
        · simp only [m_impl_RepairGreedy_B10, d2, cond_true, x2', Option.bind_some, idx_getD [] hxd, i0, c2', bI, ez, cond_false, idx_getD 0 hx, ey, inB_nat hx, w2, Int.toNat_natCast]

theorem close_sym (p : GProblem) (h : ProbOk p) (l : List Int) (i j : Nat) (hi : i < p.Domains.length) (hj : j < p.Domains.length) : closeN p l i (l.getD i 0) j = closeN p l j (l.getD j 0) i := by
  unfold closeN
  rw [h.sym i j hi hj, Bool.eq_iff_iff]
  simp only [Bool.and_eq_true, decide_eq_true_eq]
  constructor <;> rintro ⟨h1, h2⟩ <;> exact ⟨by omega, by omega⟩

theorem pairsSpec_eq (p : GProblem) (h : ProbOk p) (l : List Int) (hs : StA p l) : m_spec_l19Pairs p l = some ((violN p l).length : Int) := by
  have hn := h.n2
  have hlen := hs.len
  have hcnt : ∀ i, confN p l i (l.getD i 0) = (((List.range l.length).filter (closeN p l i (l.getD i 0))).length : Int) := fun i => confN_cnt p l (by omega) i _
  unfold m_spec_l19Pairs
  have key := fold_loop (List.range l.length) (fun v j => w64 (v + confN p l j (l.getD j 0))) (fun v : Int => v) (fun s : (Int × Int) => m_spec_l19Pairs_B2 p l s.1 s.2) (fun j hj v => ?_) (fun v => ?_) 0
  · refine (congrArg (fun o => Option.bind o fun x1 => some (w64 (x1.tdiv (2 : Int)))) key).trans ?_
    have hle : ∀ j, ((List.range l.length).filter (closeN p l j (l.getD j 0))).length ≤ 24 := fun j => by
      have := List.length_filter_le (closeN p l j (l.getD j 0)) (List.range l.length)
      rw [List.length_range] at this; omega
    rw [foldSum _ (fun j => ((List.range l.length).filter (closeN p l j (l.getD j 0))).length) _ 0 (fun j _ => ⟨hcnt j, by have := hle j; omega⟩) (by omega) (by rw [List.length_range]; omega)]
    -- the relation, made whole
    have hM := twice (fun i j => if i < l.length ∧ j < l.length then closeN p l i (l.getD i 0) j else false) (fun i j => by
      by_cases hc : i < l.length ∧ j < l.length
      · rw [if_pos hc, if_pos ⟨hc.2, hc.1⟩]; exact close_sym p h l i j (by omega) (by omega)
      · rw [if_neg hc, if_neg (fun hh => hc ⟨hh.2, hh.1⟩)]) (fun i => by
      split
      · unfold closeN; simp
      · rfl) l.length
    have f1 : sumN l.length (fun i => ((List.range l.length).filter (fun j => if i < l.length ∧ j < l.length then closeN p l i (l.getD i 0) j else false)).length) = ((List.range l.length).map (fun j => ((List.range l.length).filter (closeN p l j (l.getD j 0))).length)).sum := by
      refine (sumN_congr fun i hi => ?_).trans rfl
      congr 1
      refine List.filter_congr fun j hj => ?_
      have hj' : j < l.length := by simpa using hj
      rw [if_pos ⟨hi, hj'⟩]
    have f2 : sumN l.length (fun i => ((List.range' (i + 1) (l.length - (i + 1))).filter (fun j => if i < l.length ∧ j < l.length then closeN p l i (l.getD i 0) j else false)).length) = (violN p l).length := by
      unfold violN
      rw [List.length_flatMap, ← List.range_eq_range']
      refine (sumN_congr fun i hi => ?_).trans rfl
      rw [List.length_map]
      congr 1
      refine List.filter_congr fun j hj => ?_
      rw [List.mem_range'_1] at hj
      rw [if_pos ⟨hi, by omega⟩]
      unfold closeN nearN
      rw [decide_eq_true (show j ≠ i by omega), Bool.true_and]
    rw [f1, f2] at hM
    rw [hM]
    have hb : (violN p l).length ≤ 24 * 24 := by
      have hle2 : ∀ m, sumN m (fun j => ((List.range l.length).filter (closeN p l j (l.getD j 0))).length) ≤ m * 24 := by
        intro m
        induction m with
        | zero => simp [sumN]
        | succ m ih => rw [sumN_succ]; have := hle m; omega
      have := hle2 l.length
      unfold sumN at this
      omega
    rw [show ((0 : Int) + ((2 * (violN p l).length : Nat) : Int)) = ((violN p l).length : Int) * 2 by omega, Option.bind_some, Int.mul_tdiv_cancel _ (by omega)]
    congr 1
    exact w64_id (by omega) (by omega)
  · rw [List.length_range] at hj
    rw [List.getElem_range]
    simp only [m_spec_l19Pairs_B2, lt_true hj, cond_true, idx_getD 0 hj, Option.bind_some, confSpec_eq p h l hlen hs.wide j hj _ (hs.wide j hj)]
    rw [w64_id (n := (j : Int) + 1) (by omega) (by omega)]; rfl
  · rw [List.length_range]
    simp only [m_spec_l19Pairs_B2, lt_self, cond_false, Option.map_some]

theorem repairG_same (a : GProblem) (ha : FitsP a) (l : List Int) (hl : l.length ≤ 1048576) (t : Int) : ∃ r v c, m_spec_RepairGreedy a l t = some (r, v, c) ∧ m_impl_RepairGreedy a l t = some (r, v, c) ∧ r.length ≤ 1048576 := by
  unfold m_spec_RepairGreedy m_impl_RepairGreedy m_spec_ValidProblem
  rw [probSpec_eq _ ha, stateCode_eq _ ha _ hl _ (by simp), stateSpec_eq a l hl, in_eq, within_eq]
  unfold askN
  cases ho : probOk a with
  | false => exact ⟨[], 0, 1, rfl, rfl, by simp⟩
  | true =>
    have hp := probOk_true ho
    have hn := hp.n2
    cases hr : decide ((0 : Int) ≤ t ∧ t ≤ 100) with
    | false => cases stateN a l <;> exact ⟨[], 0, 2, rfl, rfl, by simp⟩
    | true =>
      cases hst : stateN a l with
      | false => exact ⟨[], 0, 6, rfl, rfl, by simp⟩
      | true =>
        have hs0 := stateN_true hst
        have hs : StA a l := ⟨hs0.1, hs0.2⟩
        have ht := of_decide_eq_true hr
        obtain ⟨m, rfl⟩ := Int.eq_ofNat_of_zero_le ht.1
        obtain ⟨r, r1, r2, r3⟩ := greedy_same a hp (m : Int) ht m l (Int.le_refl _) hs
        rw [Int.sub_self] at r3
        have hv := violImpl_eq a hp r ⟨r1.len, r1.wide⟩
        have z1 : ((0 : Int) == 1) = false := rfl
        have z0 : ((0 : Int) != 0) = false := rfl
        simp only [if_true, List.all_nil, Option.bind_some, Bool.not_true, cond_false, z1, z0, m_spec_l00Own, m_slices_Clone_int64_int64, own_eq l hl, r2, r3, pairsSpec_eq a hp r r1, hv]
        exact ⟨r, _, 0, rfl, rfl, by have := r1.len; omega⟩

theorem law_FnExactRepairGreedy (a : GProblem) (l : List Int) (t : Int) (k : okGProblem a) (_kl : l.length ≤ maxLen ∧ ∀ x ∈ l, ((Lit.int .i64 x).wf = true)) (_kt : (Lit.int .i64 t).wf = true) : m_laws_FnExactRepairGreedy a l t = some true := by
  unfold m_laws_FnExactRepairGreedy
  by_cases h1 : (1048576 : Int) < (l.length : Int)
  · rw [decide_eq_true h1]; rfl
  rw [decide_eq_false h1, cond_false]
  obtain ⟨r, hr, hc⟩ := szProblem_eq a k 1048576 (by omega) (by omega)
  rw [hr, Option.bind_some]
  rcases hc with hc | ⟨hc, hc2, ha⟩
  · rw [decide_eq_true hc]; rfl
  rw [decide_eq_false (by omega), cond_false]
  obtain ⟨s, v, c, e1, e2, e3⟩ := repairG_same a ha l (by omega) t
  have h2 := fits_tot ha.1
  have h3 := fits_tot ha.2
  simp only [toProblem_eq _ ha, eqProblem_self _ ha, toInt64S_eq l (by omega), eq_len l (by omega), e1, e2, eq_len s (by omega), Option.bind_some, bne_self, cond_false, Bool.not_true, markProblem_eq a ha 1 (by omega) (by omega), markInt64S_eq l (1 + (tot a.Domains : Int) + (tot a.Apart : Int)) (by omega) (by omega), lt_false (show ¬ (1 + (tot a.Domains : Int) + (tot a.Apart : Int) + (l.length : Int) < 0) by omega), mark_len s (by omega), held_len s (by omega), pos_len s]
end Go.Wk
