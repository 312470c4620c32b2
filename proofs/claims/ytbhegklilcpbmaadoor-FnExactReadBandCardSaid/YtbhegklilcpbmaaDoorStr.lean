/-
  Text: an own row of bytes as text; the library's join. No program in sight. Our own work.
-/
import Derived.Test.YtbhegklilcpbmaaDoorCopy
import Derived.Laws.BytesArg
import Derived.Lib.Join
namespace Go.Wk
open Go Go.RowKit
section
variable {P : Program} {o : Oper} {Γ : Env} {Ω : List Own}

theorem flat_cKk (k : IntKind) (l : List Int) : l.flatMap (cK k) = (l.map (Value.int k)).map pEq := by
  induction l with
  | nil => rfl
  | cons x l ih => rw [List.flatMap_cons, ih]; rfl
/-- An own row of bytes becomes text. -/
theorem W_rowStr {S T e et n cap j : Nat} {x : Operand} {ad : Option Addr} {l : List Int} (ho : o.op = .convert S T x) (hS : P.underlying S = some (.slice e)) (he : P.underlying e = some (.int .u8)) (hT : P.underlying T = some .string)
    (hx : Opd Γ x (pEq (.slice ad n cap))) (hj : Ω[j]? = some (oSl et 1 (cK .u8) ad n cap l)) : OpW P Ω o Γ (pEq (.string (strOfNums l))) :=
  OpW.val fun lo I w t hbd hg hO => by
    have h : ev t x = _ := hx I w t hg
    obtain ⟨F, hF, hown⟩ := hO.mem hj
    refine ⟨.string (strOfNums l), ?_, rfl⟩
    have key : (convert S T (.slice ad n cap)).run P w = .ok (.string (strOfNums l)) w := by
      have hn : n = l.length := hown.1
      by_cases hl : l = []
      · subst hl
        have hn0 : n = 0 := hn
        subst hn0
        cases ad with
        | none => exact run_convert_bytes_nil w S e hS he 0 cap T hT
        | some a =>
          obtain ⟨_, xs, ⟨_, h2⟩, _, _⟩ := hown
          rcases h2 with ⟨h0, _⟩ | ⟨g, c, cur, e1, _⟩
          · cases h0
          · cases e1
            exact run_convert_bytes_arg w S e hS he g 0 0 cap [] rfl (fun i hi => absurd hi (by omega)) T hT
      · have hpos : 0 < l.length := List.length_pos_iff.2 hl
        obtain ⟨g, vs, cur, rfl, hg, _, hh, hnc, hcm, hcs, htk, hvl, hvv⟩ := oSl.block hown (by omega)
        rw [flat_cKk] at hvv
        have hvs := hvv.exact
        refine run_convert_bytes_arg w S e hS he g 0 n cap l hn.symm (fun i hi => ?_) T hT
        have ht : (cur.toList.take n)[i]? = (l.map (Value.int .u8))[i]? := by rw [← hvs, ← htk, Nat.mul_one]
        rw [List.getElem?_take_of_lt hi] at ht
        simp only [World.cell?, hh, Nat.zero_add]
        simp only [Option.isSome_none, Bool.false_eq_true, if_false]
        rw [← Array.getElem?_toList, ht]
        have hil : i < l.length := by omega
        simp [List.getD, List.getElem?_eq_getElem hil]
    simp only [execOp, ho, h]
    rw [Sem.run_bind, key]
    rfl
end

/-- What the shelf says of the join. -/
abbrev JoinAt (P : Program) (f : FuncId) : Prop := ∀ (bk o c : Nat) (xs : List ByteArray) (sep : ByteArray) (w : World), (∀ (j : Nat) x, xs[j]? = some x → w.cell? ⟨bk, o + j, none⟩ = some (.string x)) → bk < w.heap.size → xs.length ≤ 140737488355328 → xs.length ≤ c → (Lib.join (xs.map (·.data.toList)) sep.data.toList).length ≤ 140737488355328 →
  Calls P f #[.slice (some ⟨bk, o, none⟩) xs.length c, .string sep] w fun e w' => e = .returned (.string ⟨(Lib.join (xs.map (·.data.toList)) sep.data.toList).toArray⟩) ∧ Below w.heap.size w w'
abbrev JoinNone (P : Program) (f : FuncId) : Prop := ∀ (a : Option Addr) (c : Nat) (sep : ByteArray) (w : World), Calls P f #[.slice a 0 c, .string sep] w fun e w' => e = .returned (.string ⟨#[]⟩) ∧ w' = w
def joinM (xs : List ByteArray) (sep : ByteArray) : Option ByteArray := if xs.length ≤ 140737488355328 ∧ (Lib.join (xs.map (·.data.toList)) sep.data.toList).length ≤ 140737488355328 then some ⟨(Lib.join (xs.map (·.data.toList)) sep.data.toList).toArray⟩ else none
theorem join_contract {P : Program} {f : FuncId} {xs : List ByteArray} {sep r : ByteArray} (h1 : JoinAt P f) (h2 : JoinNone P f) (h : joinM xs sep = some r) : CallJ P f [pSl 1 cS xs, pEq (.string sep)] (pEq (.string r)) := by
  unfold joinM at h
  split at h
  case isFalse => cases h
  rename_i hb
  cases h
  intro I w args hbd hv
  match args, hv with
  | [v1, v2], ⟨⟨ad, c, e1, hc, hz, he⟩, e2, _⟩ =>
    have e2 : v2 = .string sep := e2
    subst e1; subst e2
    by_cases hl : xs = []
    · subst hl
      refine (h2 ad c sep w).mono ?_
      rintro e w' ⟨rfl, rfl⟩
      exact ⟨_, rfl, Below.refl _ _, rfl⟩
    · have hpos : 0 < xs.length := List.length_pos_iff.2 hl
      obtain ⟨b, off, rfl, hb1, _⟩ := he 0 hpos
      refine (h1 b off c xs sep w (fun j x hj => ?_) (hbd b hb1) hb.1 hc hb.2).mono ?_
      · obtain ⟨hjl, rfl⟩ := List.getElem?_eq_some_iff.1 hj
        obtain ⟨b', off', e3, _, ⟨v, hv1, hv2⟩, _⟩ := he j hjl
        cases e3
        rw [Nat.mul_one] at hv1
        have hv2 : v = .string xs[j] := hv2
        rw [hv1, hv2]
      · rintro e w' ⟨rfl, hw⟩
        exact ⟨_, rfl, hw, rfl⟩
end Go.Wk
