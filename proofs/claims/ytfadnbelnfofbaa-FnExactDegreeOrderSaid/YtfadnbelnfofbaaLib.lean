/-
  The library's compact at integers, handed a row of the caller's own. No program in sight. Our own work.
-/
import Derived.Test.YtfadnbelnfofbaaCopy
import Derived.Test.YtfadnbelnfofbaaConv
import Derived.Sort.OwnSortedInts
import Derived.Lib.SlicesCompact
namespace Go.Wk
open Go Go.RowKit Go.Sort Go.Proofs

/-- What the shelf says of the compact. -/
abbrev CompAt (P : Program) (f : FuncId) : Prop := ∀ (blk off cap : Nat) (zs : List Int) (w : World), Holds (Value.int .i64) w blk off zs.toArray → zs.length ≤ 9223372036854775807 → zs.length ≤ cap →
  Calls P f #[.slice (some ⟨blk, off, none⟩) zs.length cap] w fun e w' => e = .returned (.slice (some ⟨blk, off, none⟩) (Lib.compact zs).length cap) ∧ ∃ q, w' = putRow (Value.int .i64) (Sort.ahead w q) blk off (Lib.compact zs ++ List.replicate (zs.length - (Lib.compact zs).length) 0).toArray
abbrev CompNone (P : Program) (f : FuncId) : Prop := ∀ (a : Option Addr) (cap : Nat) (w : World), Calls P f #[.slice a 0 cap] w fun e w' => e = .returned (.slice a 0 cap) ∧ w' = w

theorem flat_cKi (l : List Int) : l.flatMap (cK .i64) = (l.map (Value.int .i64)).map pEq := by
  induction l with
  | nil => rfl
  | cons x l ih => rw [List.flatMap_cons, ih]; rfl
theorem comp_le (zs : List Int) : (Lib.compact zs).length ≤ zs.length := by
  unfold Lib.compact Lib.compactUpTo
  rw [List.length_map]
  exact Nat.le_trans (List.length_filter_le _ _) (Nat.le_of_eq List.length_range)
theorem grow_none (w : World) : grow w #[] = w := by unfold grow; simp

theorem comp_callH {P : Program} {f : FuncId} {et n cap : Nat} {ad : Option Addr} {l : List Int} (h1 : CompAt P f) (h2 : CompNone P f) :
    CallH P f [pEq (.slice ad n cap)] [oSl et 1 (cK .i64) ad n cap l] (fun g : (Option Addr × Nat × Nat) => pEq (.slice g.1 g.2.1 g.2.2)) (fun g => [oSl et 1 (cK .i64) g.1 g.2.1 g.2.2 (Lib.compact l)]) := by
  intro I H w args hbd hv hO
  obtain ⟨F, hF, hown, _⟩ := hO
  have hargs : args = [.slice ad n cap] := Vals.exact (xs := [.slice ad n cap]) hv
  subst hargs
  have hn : n = l.length := hown.1
  by_cases hl : l = []
  · subst hl
    have hn0 : n = 0 := hn
    subst hn0
    refine (h2 ad cap w).mono ?_
    rintro e w' ⟨rfl, rfl⟩
    exact ⟨_, (ad, 0, cap), I, rfl, Bel.refl, fun b h => h, fun b h => .inl h, rfl, ⟨F, fun b hb => ⟨.inl (hF b hb).1, (hF b hb).2⟩, hown, trivial⟩⟩
  · have hpos : 0 < l.length := List.length_pos_iff.2 hl
    obtain ⟨g, vs, cur, rfl, hg, _, hh, hnc, hcm, hcs, htk, hvl, hvv⟩ := oSl.block hown (by omega)
    rw [flat_cKi] at hvv
    have hvs := hvv.exact
    have ht : cur.toList.take l.length = l.map (Value.int .i64) := by rw [← hn, ← hvs, ← htk, Nat.mul_one]
    have hH := holds_of_blockI (e := et) hh ht
    have hc := h1 g 0 cap l w hH (by unfold maxLen at hcm; omega) (by omega)
    rw [← hn] at hc
    refine hc.mono ?_
    rintro e w' ⟨rfl, m, rfl⟩
    have hcl := comp_le l
    have hsl : (Lib.compact l ++ List.replicate (n - (Lib.compact l).length) 0).length = l.length := by rw [List.length_append, List.length_replicate]; omega
    have hgb := grownBy_sortedI (w := w) (g := g) (n := m) (os := #[]) (Lib.compact l ++ List.replicate (n - (Lib.compact l).length) 0).toArray
    have hrow := ownsRow_sortedI (base := 0) (n := m) (os := #[]) hsl (Nat.zero_le _) hh (by omega) hcm hcs
    rw [grow_none] at hgb hrow
    have hblk : ∀ b, b < w.heap.size → ¬ b = g → (putRow (Value.int .i64) (Sort.ahead w m) g 0 (Lib.compact l ++ List.replicate (n - (Lib.compact l).length) 0).toArray).heap[b]? = w.heap[b]? := fun b hb hne => hgb.block b hb (fun e => hne (by injection e))
    refine ⟨_, (some ⟨g, 0, none⟩, (Lib.compact l).length, cap), I, rfl, ⟨hgb.os, hgb.tape, hgb.output, hgb.size, fun b hb hnH => hblk b hb (fun e => hnH (by rw [e]; exact (hF g hg).1))⟩, fun b h => h, fun b h => .inl h, rfl, ⟨F, fun b hb => ⟨.inl (hF b hb).1, Nat.lt_of_lt_of_le (hF b hb).2.1 hgb.size, (hF b hb).2.2⟩, ?_, trivial⟩⟩
    refine ⟨rfl, (Lib.compact l).map (Value.int .i64), ?_, ?_, fun a ha => by cases ha; exact hg⟩
    · obtain ⟨_, hr⟩ := hrow
      refine ⟨by rw [List.length_map, Nat.mul_one], .inr ?_⟩
      rcases hr with ⟨e0, _⟩ | ⟨g', cap', cur', e1, e2, e3, e4, e5, e6, e7⟩
      · cases e0
      · cases e1
        refine ⟨g, cap, cur', rfl, e2, e3, (show (Lib.compact l).length ≤ cap by omega), e5, e6, ?_⟩
        have := congrArg (List.take (Lib.compact l).length) e7
        rw [List.take_take, Nat.mul_one, Nat.min_eq_left (by omega), List.map_append, List.take_left' (by rw [List.length_map])] at this
        rw [Nat.mul_one]
        exact this
    · rw [flat_cKi]
      have gen : ∀ xs : List Value, Vals I (putRow (Value.int .i64) (Sort.ahead w m) g 0 (Lib.compact l ++ List.replicate (n - (Lib.compact l).length) 0).toArray) (xs.map pEq) xs := by
        intro xs
        induction xs with
        | nil => trivial
        | cons x xs ih => exact ⟨rfl, ih⟩
      exact gen _

/-- The model of the compact. -/
def compactM (l : List Int) : Option (List Int) := some (Lib.compact l)
theorem compact_contract {P : Program} {f : FuncId} {et n cap : Nat} {ad : Option Addr} {l r : List Int} (h1 : CompAt P f) (h2 : CompNone P f) (h : compactM l = some r) :
    CallH P f [pEq (.slice ad n cap)] [oSl et 1 (cK .i64) ad n cap l] (fun g : (Option Addr × Nat × Nat) => pEq (.slice g.1 g.2.1 g.2.2)) (fun g => [oSl et 1 (cK .i64) g.1 g.2.1 g.2.2 r]) := by
  unfold compactM at h
  cases h
  exact comp_callH h1 h2

theorem pSl.drop {α : Type} {k n cap m : Nat} {f : α → List Pd} {ad : Option Addr} {l : List α} {I : Vw} {w : World} (hm : m ≤ l.length) (h : (pSl k f l).p I w (.slice ad n cap)) : (pSl k f (l.drop m)).p I w (.slice (offA ad k cap m) (n - m) (cap - m)) := by
  obtain ⟨o, c, e, h1, h2, h3⟩ := h
  simp only [Value.slice.injEq] at e
  obtain ⟨rfl, rfl, rfl⟩ := e
  refine ⟨offA ad k cap m, cap - m, by rw [List.length_drop], by rw [List.length_drop]; omega, fun h => ?_, fun i hi => ?_⟩
  · unfold offA at h
    split at h
    · omega
    · cases ad with
      | none => have := h2 rfl; omega
      | some a => cases h
  · rw [List.length_drop] at hi
    obtain ⟨b, off, h4, h5, h6⟩ := h3 (m + i) (by omega)
    subst h4
    refine ⟨b, off + m * k, ?_, h5, ?_⟩
    · unfold offA
      rw [if_neg (by omega), Option.map_some, addr_add]
    · rw [List.getElem_drop, Nat.add_assoc, ← Nat.add_mul]
      exact h6
theorem Conv.off {Ω : List Own} {α : Type} {et k n cap m : Nat} {f : α → List Pd} {ad : Option Addr} {l : List α} (i : Nat) (hf : ∀ x, (f x).length = k) (hi : Ω[i]? = some (oSl et k f ad n cap l)) (hm : m ≤ l.length) : Conv Ω (pEq (.slice (offA ad k cap m) (n - m) (cap - m))) (pSl k f (l.drop m)) := fun L I X J w v hI hX hO h => by
  have h : v = _ := h
  obtain ⟨F, hF, hown⟩ := hO.mem hi
  rw [h]
  refine pSl.drop hm ?_
  exact (pSl k f l).mono (fun b hb => hb.elim (hI b) (fun h => hX b (hF b h).1 (hF b h).2.1 (hF b h).2.2)) (fun _ _ => rfl) (oSl.frozen hf hown)
end Go.Wk
