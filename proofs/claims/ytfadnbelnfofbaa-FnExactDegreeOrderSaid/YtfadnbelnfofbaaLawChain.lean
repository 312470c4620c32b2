/-
  Plain laws: chains of items that two channels tie together. No program in sight. Our own work.
-/
import Derived.Test.YtfadnbelnfofbaaLawPut
import Derived.Test.YtfadnbelnfofbaaLawHas
import Derived.Test.YtfadnbelnfofbaaLawState
import Derived.Test.YtfadnbelnfofbaaSort
namespace Go.Wk
open Go Go.RowKit

theorem hasN_iff (l : List Int) (x : Int) : hasN l x = decide (x ∈ l) := by
  unfold hasN
  rw [Bool.eq_iff_iff, List.any_eq_true, decide_eq_true_eq]
  constructor
  · rintro ⟨y, hy, h⟩; rw [decide_eq_true_eq] at h; rw [← h]; exact hy
  · intro h; exact ⟨x, h, by simp⟩

theorem beqT {a b : Int} (h : a = b) : (a == b) = true := by rw [beq_iff_eq]; exact h
theorem beqF {a b : Int} (h : ¬ a = b) : (a == b) = false := beq_eq_false_iff_ne.2 h
theorem bneT {a b : Int} (h : ¬ a = b) : (a != b) = true := bne_iff_ne.2 h
theorem bneF {a b : Int} (h : a = b) : (a != b) = false := by rw [h]; exact bne_self_eq_false b
/-- The numbers below n. -/
def below (n : Nat) : List Int := (List.range n).map fun (i : Nat) => (i : Int)
theorem below_mem {n : Nat} {x : Int} : x ∈ below n ↔ 0 ≤ x ∧ x < n := by
  unfold below
  rw [List.mem_map]
  constructor
  · rintro ⟨i, hi, rfl⟩; rw [List.mem_range] at hi; omega
  · rintro ⟨h1, h2⟩; exact ⟨x.toNat, by rw [List.mem_range]; omega, by omega⟩
theorem below_len (n : Nat) : (below n).length = n := by unfold below; simp
theorem nodup_len {c : List Int} {n : Nat} (h : c.Nodup) (hb : ∀ x ∈ c, 0 ≤ x ∧ x < n) : c.length ≤ n := by
  have := List.Nodup.length_le_of_subset h (l₂ := below n) (fun x hx => below_mem.2 (hb x hx))
  rwa [below_len] at this

/-- What both keep: the chain as it was found, and in order. -/
structure Chn (n : Nat) (P : Int → Prop) (c s : List Int) : Prop where
  nd : c.Nodup
  bd : ∀ x ∈ c, 0 ≤ x ∧ x < n
  pm : s.Perm c
  so : s.Pairwise (· < ·)
  ok : ∀ x ∈ c, P x
/-- The item holds one of the two channels. -/
def ofTwo (l : List Int) (fst ch : Int) (x : Int) : Prop := l.getD x.toNat 0 = fst ∨ l.getD x.toNat 0 = ch
theorem Chn.len {n : Nat} {P : Int → Prop} {c s : List Int} (h : Chn n P c s) : c.length ≤ n := nodup_len h.nd h.bd
theorem Chn.slen {n : Nat} {P : Int → Prop} {c s : List Int} (h : Chn n P c s) : s.length = c.length := h.pm.length_eq
theorem Chn.add {n : Nat} {P : Int → Prop} {c s : List Int} (h : Chn n P c s) {x : Int} (hx : x ∉ c) (h0 : 0 ≤ x ∧ x < n) (hP : P x) : Chn n P (c ++ [x]) (put s x) := by
  have hs : x ∉ s := fun hm => hx (h.pm.mem_iff.1 hm)
  refine ⟨?_, fun y hy => ?_, ?_, put_sorted x h.so, fun y hy => ?_⟩
  · rw [List.nodup_append]
    exact ⟨h.nd, by simp, fun a ha b hb e => by rw [List.mem_singleton] at hb; subst hb; subst e; exact hx ha⟩
  · rcases List.mem_append.1 hy with e | e
    · exact h.bd y e
    · rw [List.mem_singleton] at e; rw [e]; exact h0
  · exact (put_perm hs).trans ((List.Perm.cons x h.pm).trans (List.perm_append_singleton x c).symm)
  · rcases List.mem_append.1 hy with e | e
    · exact h.ok y e
    · rw [List.mem_singleton] at e; rw [e]; exact hP

section
variable {p : GProblem} {l : List Int} {item ch : Int} {fst : Int}

/-- One item of the chain is looked at: the reference's and the program's loop find the same. -/
theorem chain_inner (h : ProbOk p) (hl : l.length = p.Domains.length) (q : Nat) (hq : q < l.length) {it : Nat} (hit : it < l.length) (hf : l.getD it 0 = fst) {kk : Nat} :
    ∀ (m i : Nat) (c s r : List Int), i + m = l.length → Chn l.length (ofTwo l fst ch) c s → kk < c.length → c.getD kk 0 = (q : Int) → r.length ≤ c.length → ∃ c' s' t, Chn l.length (ofTwo l fst ch) c' s' ∧ c' = c ++ t ∧
      loopM (fun z : (Int × (List Int) × (List Int)) => m_spec_l19Chain_B15 p l ch fst (q : Int) z.1 z.2.1 z.2.2) ((i : Int), r, s) = some (r ++ t, s') ∧
      loopM (fun z : (Int × (List Int)) => m_impl_Problem_chain_B9 p l (it : Int) ch (kk : Int) z.1 z.2) ((i : Int), c) = some c' := by
  have hn := h.n2
  intro m
  induction m with
  | zero =>
    intro i c s r hi hc hk hkq hrl
    refine ⟨c, s, [], hc, by simp, loopM_inr ?_, loopM_inr ?_⟩
    · simp only [m_spec_l19Chain_B15]; rw [decide_eq_false (by omega), List.append_nil]; rfl
    · simp only [m_impl_Problem_chain_B9]; rw [decide_eq_false (by omega)]; rfl
  | succ m ih =>
    intro i c s r hi hc hk hkq hrl
    have hil : i < l.length := by omega
    have ea : idx p.Apart (q : Int) = some (p.Apart.getD q []) := idx_getD [] (by rw [h.len]; omega)
    have eb : idx (p.Apart.getD q []) (i : Int) = some (apartAt p q i) := idx_getD 0 (by rw [h.row q (by omega)]; omega)
    have ra := h.rng q i (by omega) (by omega)
    have ek : idx c (kk : Int) = some (q : Int) := by rw [idx_getD 0 hk, hkq]
    have hcl := hc.len
    have hsl := hc.slen
    have ehs : m_spec_l00Has s (i : Int) = some (decide ((i : Int) ∈ c)) := by
      rw [hasSpec_eq _ _ (by omega), hasN_iff]; congr 1
      rw [Bool.eq_iff_iff, decide_eq_true_eq, decide_eq_true_eq]; exact hc.pm.mem_iff
    have ehi : m_slices_Contains_int64_int64 c (i : Int) = some (decide ((i : Int) ∈ c)) := by rw [containsN_eq _ _ (by omega), hasN_iff]
    have ew : w64 ((i : Int) + 1) = ((i + 1 : Nat) : Int) := by rw [w64_id (by omega) (by omega)]; omega
    have eit : idx l (it : Int) = some fst := by rw [idx_getD 0 hit, hf]
    by_cases good : (0 < apartAt p q i ∧ (l.getD i 0 = fst ∨ l.getD i 0 = ch)) ∧ (i : Int) ∉ c
    · obtain ⟨⟨g1, g2⟩, g3⟩ := good
      have hc' := hc.add g3 (show 0 ≤ (i : Int) ∧ (i : Int) < (l.length : Int) by omega) (by unfold ofTwo; rw [Int.toNat_natCast]; exact g2)
      obtain ⟨c', s', t, k1, k2, k3, k4⟩ := ih (i + 1) (c ++ [(i : Int)]) (put s (i : Int)) (r ++ [(i : Int)]) (by omega) hc' (by rw [List.length_append]; omega)
        (by rw [List.getD_eq_getElem?_getD, List.getElem?_append_left hk, ← List.getD_eq_getElem?_getD]; exact hkq) (by simp; omega)
      have hcl' := hc'.len
      rw [List.length_append, List.length_singleton] at hcl'
      refine ⟨c', s', (i : Int) :: t, k1, by rw [k2]; simp, ?_, ?_⟩
      · rw [loopM_inl (s' := (((i + 1 : Nat) : Int), r ++ [(i : Int)], put s (i : Int))) ?_, k3]
        · simp
        · simp only [m_spec_l19Chain_B15, lt_true hil, cond_true, ea, eb, Option.bind_some, decide_eq_true g1, idx_getD 0 hil, ehs, decide_eq_false g3, Bool.not_false, putSpec_eq s (i : Int) (by omega), ew]
          have eap : appL 8 r [(i : Int)] = some (r ++ [(i : Int)]) := appL_of (by rw [List.length_singleton]; omega)
          rcases g2 with g2 | g2
          · have b1 : (l.getD i 0 == fst) = true := beqT g2
            simp only [b1, cond_true, Option.bind_some, eap]
          · by_cases b0 : l.getD i 0 = fst
            · have b1 : (l.getD i 0 == fst) = true := beqT b0
              simp only [b1, cond_true, Option.bind_some, eap]
            · have b1 : (l.getD i 0 == fst) = false := beqF b0
              have b2 : (l.getD i 0 == ch) = true := beqT g2
              simp only [b1, b2, cond_true, cond_false, Option.bind_some, eap]
      · rw [loopM_inl (s' := (((i + 1 : Nat) : Int), c ++ [(i : Int)])) ?_, k4]
        have b0 : (apartAt p q i != 0) = true := bneT (by omega)
        have eap : appL 8 c [(i : Int)] = some (c ++ [(i : Int)]) := appL_of (by rw [List.length_singleton]; omega)
        simp only [m_impl_Problem_chain_B9, lt_true hil, cond_true, idx_getD 0 hil, ek, ea, eb, Option.bind_some, b0, ehi, decide_eq_false g3, Bool.not_false, ew]
        by_cases b1 : l.getD i 0 = ch
        · have b2 : (l.getD i 0 == ch) = true := beqT b1
          simp only [b2, cond_true, Option.bind_some, eap]
        · have b2 : (l.getD i 0 == ch) = false := beqF b1
          have b3 : (l.getD i 0 == fst) = true := beqT (g2.resolve_right b1)
          simp only [b2, b3, cond_false, cond_true, eit, Option.bind_some, eap]
    · obtain ⟨c', s', t, k1, k2, k3, k4⟩ := ih (i + 1) c s r (by omega) hc hk hkq hrl
      refine ⟨c', s', t, k1, k2, ?_, ?_⟩
      · rw [loopM_inl (s' := (((i + 1 : Nat) : Int), r, s)) ?_, k3]
        simp only [m_spec_l19Chain_B15, lt_true hil, cond_true, ea, eb, Option.bind_some, idx_getD 0 hil, ehs, ew]
        by_cases g1 : 0 < apartAt p q i
        · rw [decide_eq_true g1]
          by_cases b1 : l.getD i 0 = fst
          · have b2 : (l.getD i 0 == fst) = true := beqT b1
            have g3 : (i : Int) ∈ c := Classical.byContradiction fun hh => good ⟨⟨g1, .inl b1⟩, hh⟩
            simp only [b2, cond_true, Option.bind_some, decide_eq_true g3, Bool.not_true, cond_false]
          · have b2 : (l.getD i 0 == fst) = false := beqF b1
            by_cases b3 : l.getD i 0 = ch
            · have b4 : (l.getD i 0 == ch) = true := beqT b3
              have g3 : (i : Int) ∈ c := Classical.byContradiction fun hh => good ⟨⟨g1, .inr b3⟩, hh⟩
              simp only [b2, b4, cond_true, cond_false, Option.bind_some, decide_eq_true g3, Bool.not_true]
            · have b4 : (l.getD i 0 == ch) = false := beqF b3
              simp only [b2, b4, cond_true, cond_false, Option.bind_some]
        · rw [decide_eq_false g1]
          simp only [cond_false, Option.bind_some]
      · rw [loopM_inl (s' := (((i + 1 : Nat) : Int), c)) ?_, k4]
        simp only [m_impl_Problem_chain_B9, lt_true hil, cond_true, idx_getD 0 hil, ek, ea, eb, Option.bind_some, ehi, ew]
        by_cases g1 : apartAt p q i = 0
        · have b0 : (apartAt p q i != 0) = false := bneF g1
          simp only [b0, cond_false, Option.bind_some]
        · have b0 : (apartAt p q i != 0) = true := bneT g1
          simp only [b0, cond_true]
          by_cases b1 : l.getD i 0 = ch
          · have b2 : (l.getD i 0 == ch) = true := beqT b1
            have g3 : (i : Int) ∈ c := Classical.byContradiction fun hh => good ⟨⟨by omega, .inr b1⟩, hh⟩
            simp only [b2, cond_true, Option.bind_some, decide_eq_true g3, Bool.not_true, cond_false]
          · have b2 : (l.getD i 0 == ch) = false := beqF b1
            by_cases b3 : l.getD i 0 = fst
            · have b4 : (l.getD i 0 == fst) = true := beqT b3
              have g3 : (i : Int) ∈ c := Classical.byContradiction fun hh => good ⟨⟨by omega, .inl b3⟩, hh⟩
              simp only [b2, b4, cond_true, cond_false, eit, Option.bind_some, decide_eq_true g3, Bool.not_true]
            · have b4 : (l.getD i 0 == fst) = false := beqF b3
              simp only [b2, b4, cond_false, eit, Option.bind_some]

theorem chain_outer (h : ProbOk p) (hl : l.length = p.Domains.length) {it : Nat} (hit : it < l.length) (hf : l.getD it 0 = fst) :
    ∀ (m kk : Nat) (c s : List Int), l.length - kk ≤ m → Chn l.length (ofTwo l fst ch) c s → kk ≤ c.length → ∃ c' s', Chn l.length (ofTwo l fst ch) c' s' ∧
      loopM (fun z : ((List Int) × (List Int)) => m_spec_l19Chain_B7 p l ch fst z.1 z.2) (c.drop kk, s) = some s' ∧
      loopM (fun z : (Int × (List Int)) => m_impl_Problem_chain_B4 p l (it : Int) ch z.1 z.2) ((kk : Int), c) = some c' := by
  have hn := h.n2
  have fin : ∀ (c s : List Int), Chn l.length (ofTwo l fst ch) c s → ∃ c' s', Chn l.length (ofTwo l fst ch) c' s' ∧
      loopM (fun z : ((List Int) × (List Int)) => m_spec_l19Chain_B7 p l ch fst z.1 z.2) (c.drop c.length, s) = some s' ∧
      loopM (fun z : (Int × (List Int)) => m_impl_Problem_chain_B4 p l (it : Int) ch z.1 z.2) ((c.length : Int), c) = some c' := by
    intro c s hc
    refine ⟨c, s, hc, loopM_inr ?_, loopM_inr ?_⟩
    · simp only [m_spec_l19Chain_B7, List.drop_length]; rfl
    · simp only [m_impl_Problem_chain_B4, lt_self]; rfl
  intro m
  induction m with
  | zero =>
    intro kk c s hm hc hk
    have := hc.len
    have e : kk = c.length := by omega
    subst e
    exact fin c s hc
  | succ m ih =>
    intro kk c s hm hc hk
    by_cases e : kk = c.length
    · subst e; exact fin c s hc
    · have hkl : kk < c.length := by omega
      have hcl := hc.len
      have hb := hc.bd (c.getD kk 0) (by rw [getD_lt 0 hkl]; exact List.getElem_mem _)
      obtain ⟨q, hq⟩ := Int.eq_ofNat_of_zero_le hb.1
      have hql : q < l.length := by omega
      obtain ⟨c1, s1, t, k1, k2, k3, k4⟩ := chain_inner (ch := ch) h hl q hql hit hf (kk := kk) l.length 0 c s (c.drop (kk + 1)) (by omega) hc hkl hq (by rw [List.length_drop]; omega)
      have hcl1 := k1.len
      obtain ⟨c', s', j1, j2, j3⟩ := ih (kk + 1) c1 s1 (by omega) k1 (by rw [k2, List.length_append]; omega)
      refine ⟨c', s', j1, ?_, ?_⟩
      · have hd : c.drop kk = (q : Int) :: c.drop (kk + 1) := by rw [List.drop_eq_getElem_cons hkl, ← getD_lt 0 hkl, hq]
        rw [loopM_inl (s' := (c1.drop (kk + 1), s1)) ?_]
        · exact j2
        · simp only [m_spec_l19Chain_B7, hd]
          have e1 : decide ((0 : Int) < (((q : Int) :: c.drop (kk + 1)).length : Int)) = true := by rw [decide_eq_true_eq, List.length_cons]; omega
          have e2 : idx ((q : Int) :: c.drop (kk + 1)) (0 : Int) = some (q : Int) := rfl
          have e3 : cutB ((q : Int) :: c.drop (kk + 1)) (1 : Int) = some () := by unfold cutB; rw [if_pos (by rw [List.length_cons]; omega)]
          have e4 : (((q : Int) :: c.drop (kk + 1)).drop ((1 : Int)).toNat) = c.drop (kk + 1) := rfl
          have k3' : loopM (fun z : (Int × (List Int) × (List Int)) => m_spec_l19Chain_B15 p l ch fst (q : Int) z.1 z.2.1 z.2.2) ((0 : Int), c.drop (kk + 1), s) = some (c.drop (kk + 1) ++ t, s1) := k3
          simp only [e1, e2, e3, e4, cond_true, Option.bind_some, k3']
          rw [k2, List.drop_append_of_le_length (by omega)]
      · rw [loopM_inl (s' := (((kk + 1 : Nat) : Int), c1)) ?_]
        · exact j3
        · have k4' : loopM (fun z : (Int × (List Int)) => m_impl_Problem_chain_B9 p l (it : Int) ch (kk : Int) z.1 z.2) ((0 : Int), c) = some c1 := k4
          simp only [m_impl_Problem_chain_B4, lt_true hkl, cond_true, k4', Option.bind_some]
          rw [w64_id (by omega) (by omega)]
          rfl
end
/-- Both find the same chain. -/
theorem chain_both' {p : GProblem} (h : ProbOk p) {l : List Int} (hl : l.length = p.Domains.length) {it : Nat} (hit : it < l.length) (ch : Int) :
    ∃ s : List Int, m_spec_l19Chain p l (it : Int) ch = some s ∧ m_impl_Problem_chain p l (it : Int) ch = some s ∧ s.Nodup ∧ (∀ x ∈ s, 0 ≤ x ∧ x < (l.length : Int)) ∧ ∀ x ∈ s, ofTwo l (l.getD it 0) ch x := by
  have hn := h.n2
  have h0 : Chn l.length (ofTwo l (l.getD it 0) ch) [(it : Int)] [(it : Int)] := ⟨by simp, by simp; omega, List.Perm.refl _, by simp, fun x hx => by rw [List.mem_singleton] at hx; subst hx; exact .inl (by rw [Int.toNat_natCast])⟩
  obtain ⟨c, s, k1, k2, k3⟩ := chain_outer (ch := ch) h hl hit rfl l.length 0 [(it : Int)] [(it : Int)] (by omega) h0 (by simp)
  have hc := k1.len
  have k3' : loopM (fun z : (Int × (List Int)) => m_impl_Problem_chain_B4 p l (it : Int) ch z.1 z.2) ((0 : Int), ([(it : Int)] : List Int)) = some c := k3
  have k2' : loopM (fun z : ((List Int) × (List Int)) => m_spec_l19Chain_B7 p l ch (l.getD it 0) z.1 z.2) (([(it : Int)] : List Int), ([(it : Int)] : List Int)) = some s := k2
  have es : sortL c = s := by
    refine sorted_eq_of_perm ((List.mergeSort_perm _ _).trans k1.pm.symm) ?_ (k1.so.imp (fun h => Int.le_of_lt h))
    have := List.pairwise_mergeSort (le := fun x y : Int => decide (x ≤ y)) (fun a b c h1 h2 => by simp at *; omega) (fun a b => by simp; omega) c
    exact this.imp (fun h => by simpa using h)
  refine ⟨s, ?_, ?_, k1.pm.nodup_iff.2 k1.nd, fun x hx => k1.bd x (k1.pm.mem_iff.1 hx), fun x hx => k1.ok x (k1.pm.mem_iff.1 hx)⟩
  · unfold m_spec_l19Chain
    rw [idx_getD 0 hit, Option.bind_some, k2', Option.bind_some]
  · unfold m_impl_Problem_chain m_slices_Sort_int64_int64 sortM
    rw [k3', Option.bind_some, if_pos (by omega), es]
    rfl
theorem chain_both {p : GProblem} (h : ProbOk p) {l : List Int} (hl : l.length = p.Domains.length) {it : Nat} (hit : it < l.length) (ch : Int) :
    ∃ s : List Int, m_spec_l19Chain p l (it : Int) ch = some s ∧ m_impl_Problem_chain p l (it : Int) ch = some s ∧ s.Nodup ∧ ∀ x ∈ s, 0 ≤ x ∧ x < (l.length : Int) := by
  obtain ⟨s, a, b, c, d, _⟩ := chain_both' h hl hit ch
  exact ⟨s, a, b, c, d⟩
/-- What both ask. -/
def chainN (p : GProblem) (l : List Int) (i c : Int) : Int := if askN p l [i] = 0 then (if (0 ≤ c ∧ c ≤ 999) ∧ c ≠ l.getD i.toNat 0 then 0 else 2) else askN p l [i]
theorem askChain_eq (p : GProblem) (hf : FitsP p) (l : List Int) (hl : l.length ≤ 1048576) (i c : Int) : m_spec_l19AskChain p l i c = some (chainN p l i c) := by
  unfold m_spec_l19AskChain chainN
  rw [askSpec_eq' _ hf _ hl, Option.bind_some, in_eq]
  by_cases h : askN p l [i] = 0
  · have e : (askN p l [i] != 0) = false := bneF h
    obtain ⟨_, hst, hi⟩ := askN_zero h
    have hi := hi i (by simp)
    obtain ⟨n, rfl⟩ := Int.eq_ofNat_of_zero_le hi.1
    rw [e, cond_false, if_pos h, idx_getD 0 (by omega), Int.toNat_natCast]
    by_cases c1 : 0 ≤ c ∧ c ≤ 999
    · by_cases c2 : c = l.getD n 0
      · have b : (c == l.getD n 0) = true := beqT c2
        rw [if_neg (by omega), decide_eq_true c1]
        simp only [Bool.not_true, cond_false, Option.bind_some, b, cond_true]
      · have b : (c == l.getD n 0) = false := beqF c2
        rw [if_pos ⟨c1, c2⟩, decide_eq_true c1]
        simp only [Bool.not_true, cond_false, Option.bind_some, b]
    · rw [if_neg (fun hh => c1 hh.1), decide_eq_false c1]; rfl
  · have e : (askN p l [i] != 0) = true := bneT h
    rw [e, cond_true, if_neg h]
theorem codeChain_eq (p : GProblem) (hf : FitsP p) (l : List Int) (hl : l.length ≤ 1048576) (i c : Int) : m_impl_chainCode p l i c = some (chainN p l i c) := by
  unfold m_impl_chainCode chainN
  rw [stateCode_eq _ hf _ hl _ (by simp), Option.bind_some, within_eq]
  by_cases h : askN p l [i] = 0
  · have e : (askN p l [i] == 0) = true := beqT h
    obtain ⟨_, hst, hi⟩ := askN_zero h
    have hi := hi i (by simp)
    obtain ⟨n, rfl⟩ := Int.eq_ofNat_of_zero_le hi.1
    rw [e, cond_true, if_pos h, idx_getD 0 (by omega), Int.toNat_natCast]
    by_cases c1 : 0 ≤ c ∧ c ≤ 999
    · by_cases c2 : c = l.getD n 0
      · have b : (c == l.getD n 0) = true := beqT c2
        rw [if_neg (by omega), decide_eq_true c1]
        simp only [Bool.not_true, cond_false, Option.bind_some, b, cond_true]
      · have b : (c == l.getD n 0) = false := beqF c2
        rw [if_pos ⟨c1, c2⟩, decide_eq_true c1]
        simp only [Bool.not_true, cond_false, Option.bind_some, b]
        rw [h]
    · rw [if_neg (fun hh => c1 hh.1), decide_eq_false c1]; rfl
  · have e : (askN p l [i] == 0) = false := beqF h
    rw [e, cond_false, if_neg h]; rfl
theorem chainN_zero {p : GProblem} {l : List Int} {i c : Int} (h : chainN p l i c = 0) : probOk p = true ∧ stateN p l = true ∧ (∃ n : Nat, i = n ∧ n < l.length ∧ c ≠ l.getD n 0) ∧ 0 ≤ c ∧ c ≤ 999 := by
  unfold chainN at h
  split at h
  · rename_i h0
    obtain ⟨h1, h2, hi⟩ := askN_zero h0
    have hi := hi i (by simp)
    split at h
    · rename_i hc
      exact ⟨h1, h2, ⟨i.toNat, by omega, by omega, hc.2⟩, hc.1⟩
    · omega
  · exact absurd h ‹_›
end Go.Wk
