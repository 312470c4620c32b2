/-
  The library's sort at integers, handed a row of the caller's own. No program in sight. Our own work.
-/
import Derived.Test.YtfadnbelnfofbaaCopy
import Derived.Sort.OwnSortedInts
namespace Go.Wk
open Go Go.RowKit Go.Sort Go.Proofs

/-- What the shelf says of the sort. -/
abbrev SortAt (P : Program) (f : FuncId) : Prop := ∀ (blk off cap : Nat) (zs : List Int) (w : World), Holds (Value.int .i64) w blk off zs.toArray → blk < w.heap.size → zs.length < 4611686018427387904 →
  Calls P f #[.slice (some ⟨blk, off, none⟩) zs.length cap] w fun e w' => e = .returned (.tuple #[]) ∧ ∃ n os, w' = grow (putRow (Value.int .i64) (Sort.ahead w n) blk off (zs.mergeSort fun x y => decide (x ≤ y)).toArray) os
abbrev SortNone (P : Program) (f : FuncId) : Prop := ∀ (p : Option Addr) (cap : Nat) (w : World), Calls P f #[.slice p 0 cap] w fun e w' => e = .returned (.tuple #[]) ∧ w' = w

def sortL (l : List Int) : List Int := l.mergeSort fun x y => decide (x ≤ y)
theorem flat_cK (l : List Int) : l.flatMap (cK .i64) = (l.map (Value.int .i64)).map pEq := by
  induction l with
  | nil => rfl
  | cons x l ih => rw [List.flatMap_cons, ih]; rfl

theorem sort_callH {P : Program} {f : FuncId} {et n cap : Nat} {ad : Option Addr} {l : List Int} (h1 : SortAt P f) (h2 : SortNone P f) (hlen : l.length < 4611686018427387904) :
    CallH P f [pEq (.slice ad n cap)] [oSl et 1 (cK .i64) ad n cap l] (fun _ : Unit => pTup []) (fun _ => [oSl et 1 (cK .i64) ad n cap (sortL l)]) := by
  intro I H w args hbd hv hO
  obtain ⟨F, hF, hown, _⟩ := hO
  have hargs : args = [.slice ad n cap] := Vals.exact (xs := [.slice ad n cap]) hv
  subst hargs
  have hn : n = l.length := hown.1
  by_cases hl : l = []
  · subst hl
    have hn0 : n = 0 := hn
    subst hn0
    refine (h2 ad cap w).mono ?_
    rintro e w' ⟨rfl, rfl⟩
    refine ⟨.tuple #[], (), I, rfl, Bel.refl, fun b h => h, fun b h => .inl h, ⟨[], rfl, trivial⟩, ⟨F, fun b hb => ⟨.inl (hF b hb).1, (hF b hb).2⟩, ?_, trivial⟩⟩
    have : sortL [] = [] := by unfold sortL; simp
    rw [this]; exact hown
  · have hpos : 0 < l.length := List.length_pos_iff.2 hl
    obtain ⟨g, vs, cur, rfl, hg, _, hh, hnc, hcm, hcs, htk, hvl, hvv⟩ := oSl.block hown hpos
    rw [flat_cK] at hvv
    have hvs := hvv.exact
    have hlt : g < w.heap.size := (hF g hg).2.1
    have ht : cur.toList.take l.length = l.map (Value.int .i64) := by rw [← hn, ← hvs, ← htk, Nat.mul_one]
    have hH := holds_of_blockI (e := et) hh ht
    have hc := h1 g 0 cap l w hH hlt hlen
    rw [← hn] at hc
    refine hc.mono ?_
    rintro e w' ⟨rfl, m, os, rfl⟩
    have hsl : (sortL l).length = l.length := by unfold sortL; exact List.length_mergeSort _
    have hgb : w.grownBy (grow (putRow (Value.int .i64) (Sort.ahead w m) g 0 (sortL l).toArray) os) (some g) := grownBy_sortedI _
    have hrow := ownsRow_sortedI (base := 0) (n := m) (os := os) hsl (Nat.zero_le _) hh (by omega) hcm hcs
    have hblk : ∀ b, b < w.heap.size → ¬ b = g → (grow (putRow (Value.int .i64) (Sort.ahead w m) g 0 (sortL l).toArray) os).heap[b]? = w.heap[b]? := fun b hb hne => hgb.block b hb (fun e => hne (by injection e))
    refine ⟨.tuple #[], (), I, rfl, ⟨hgb.os, hgb.tape, hgb.output, hgb.size, fun b hb hnH => hblk b hb (fun e => hnH (by rw [e]; exact (hF g hg).1))⟩, fun b h => h, fun b h => .inl h, ⟨[], rfl, trivial⟩, ⟨F, fun b hb => ⟨.inl (hF b hb).1, Nat.lt_of_lt_of_le (hF b hb).2.1 hgb.size, (hF b hb).2.2⟩, ?_, trivial⟩⟩
    refine ⟨by rw [hsl]; exact hn, (sortL l).map (Value.int .i64), ?_, ?_, fun a ha => by cases ha; exact hg⟩
    · rw [hn]; exact hrow
    · rw [flat_cK]
      have gen : ∀ xs : List Value, Vals I (grow (putRow (Value.int .i64) (Sort.ahead w m) g 0 (sortL l).toArray) os) (xs.map pEq) xs := by
        intro xs
        induction xs with
        | nil => trivial
        | cons x xs ih => exact ⟨rfl, ih⟩
      exact gen _

/-- The model of the sort: none where the shelf says nothing. -/
def sortM (l : List Int) : Option (List Int) := if l.length < 4611686018427387904 then some (sortL l) else none
theorem sort_contract {P : Program} {f : FuncId} {et n cap : Nat} {ad : Option Addr} {l r : List Int} (h1 : SortAt P f) (h2 : SortNone P f) (h : sortM l = some r) :
    CallH P f [pEq (.slice ad n cap)] [oSl et 1 (cK .i64) ad n cap l] (fun _ : Unit => pTup []) (fun _ => [oSl et 1 (cK .i64) ad n cap r]) := by
  unfold sortM at h
  split at h
  · rename_i hl
    cases h
    exact sort_callH h1 h2 hl
  · simp at h
end Go.Wk
