/-
  Texts that are read: the library's split, its reading of numbers, errors held against nil; what they ask of the program's variables rides with a parameter. No program in sight. Our own work.
-/
import Derived.Test.YtbhegklilcpbmaaDoorTab
import Derived.Test.YtbhegklilcpbmaaDoorArr
import Derived.Test.YtbhegklilcpbmaaDoorStr
import Derived.Lib.Split
import Derived.Lib.SplitLaws
import Derived.Lib.ParseIntB
import Derived.Lib.AtoiErrMem
import Derived.Lib.Strings
import Derived.WideLaws
namespace Go.Wk
open Go Go.RowKit

/-- A fact of the view's memory. -/
structure Fact where
  p : Vw → World → Prop
  mono : ∀ {I I' : Vw} {w w' : World}, (∀ b, I b → I' b) → (∀ b, I b → w'.heap[b]? = w.heap[b]?) → p I w → p I' w'
def pF (F : Fact) : Pd := ⟨fun I w _ => F.p I w, fun hI hw h => F.mono hI hw h⟩
/-- Variable g holds such a value. -/
def holdsV (g : Nat) (Q : Value → Prop) (I : Vw) (w : World) : Prop := I g ∧ ∃ v, w.cell? ⟨g, 0, none⟩ = some v ∧ Q v
theorem holdsV.mono {g : Nat} {Q : Value → Prop} {I I' : Vw} {w w' : World} (hI : ∀ b, I b → I' b) (hw : ∀ b, I b → w'.heap[b]? = w.heap[b]?) (h : holdsV g Q I w) : holdsV g Q I' w' := by
  obtain ⟨h1, v, h2, h3⟩ := h
  exact ⟨hI g h1, v, by rw [cell?_of_block (hw g h1)]; exact h2, h3⟩
def isI64 (v : Value) : Prop := ∃ m : Int, v = .int .i64 m
def isErr (v : Value) : Prop := v = .nilIface ∨ ∃ te pe, v = .iface te pe
/-- The table of powers, the greatest length, the two errors. -/
def fRB (gp gm gs gr : Nat) : Fact :=
  ⟨fun I w => (pTab gp .u64 Lib.pow10Tab).p I w undef ∧ holdsV gm isI64 I w ∧ holdsV gs isErr I w ∧ holdsV gr isErr I w,
   fun hI hw ⟨h1, h2, h3, h4⟩ => ⟨(pTab gp .u64 Lib.pow10Tab).mono hI hw h1, h2.mono hI hw, h3.mono hI hw, h4.mono hI hw⟩⟩

section
variable {P : Program} {B : Bs} {Γ : Env} {Ω : List Own} {Q : Exit → Act → World → Prop} {x : Code} {s k : Nat} {F : Fact} {q : Pd}
theorem Tr.tabF (h : lk s Γ = some (pG (pF F) q)) (hn : Tr P B x ((k, pF F) :: (s, q) :: Γ) Ω Q) : Tr P B x Γ Ω Q := fun I a w hs => by
  refine hn I a w ⟨hs.df, hs.sz, hs.bel, hs.bd, hs.vw, hs.up, fun s' p hp => ?_, hs.o⟩
  by_cases h1 : s' = k
  · subst h1; rw [lk_cons_eq] at hp; cases hp
    exact (hs.g s _ h).1
  · rw [lk_cons_ne h1] at hp
    by_cases h2 : s' = s
    · subst h2; rw [lk_cons_eq] at hp; cases hp
      exact (hs.g s' _ h).2
    · rw [lk_cons_ne h2] at hp
      exact hs.g s' p hp
theorem Opd.tabF {y : Operand} (hx : Opd Γ y q) (k : Nat) (h : lk k Γ = some (pF F)) : Opd Γ y (pG (pF F) q) := fun I w t hg => ⟨hg k _ h, hx I w t hg⟩
theorem OpdA.tabF {y : Operand} (hx : OpdA Γ Ω y q) (k : Nat) (h : lk k Γ = some (pF F)) : OpdA Γ Ω y (pG (pF F) q) := fun L I X J w t hI hX hg hO => ⟨(pF F).mono (v := undef) hI (fun _ _ => rfl) (hg k _ h), hx L I X J w t hI hX hg hO⟩
end
theorem CallJ.weakG {P : Program} {f : FuncId} {a b q r : Pd} {ps : List Pd} (hab : ∀ I w, b.p I w undef → a.p I w undef) (h : CallJ P f (pG a q :: ps) r) : CallJ P f (pG b q :: ps) r := by
  intro I w args hbd hv
  match args, hv with
  | v :: vs, ⟨⟨h1, h2⟩, h3⟩ => exact h I w (v :: vs) hbd ⟨⟨hab _ _ h1, h2⟩, h3⟩
theorem fRB_tab {gp gm gs gr : Nat} (I : Vw) (w : World) (h : (pF (fRB gp gm gs gr)).p I w undef) : (pTab gp .u64 Lib.pow10Tab).p I w undef := h.1

/-- An error: nil or not. -/
def pErr (b : Bool) : Pd := ⟨fun _ _ v => if b = true then ∃ t p, v = .iface t p else v = .nilIface, fun _ _ h => h⟩
theorem J_errNe {P : Program} {o : Oper} {Γ : Env} {T T' : TypeId} {x : Operand} {b : Bool} (ho : o.op = .binOp .neq T x (.const .nilIface) T') (hT : P.underlying T = some (.interface (P.methodsAt T))) (hx : Opd Γ x (pErr b)) : OpJ P o Γ (pEq (.bool b)) :=
  OpJ.val fun I w t _ hg => by
    have h : (pErr b).p I w (ev t x) := hx I w t hg
    have h2 : ev t (.const .nilIface) = .nilIface := rfl
    cases b with
    | false =>
      have h : ev t x = .nilIface := h
      refine ⟨.bool false, ?_, rfl⟩
      simp only [execOp, ho, h, h2]
      rw [eqGuard_nil_constR, Sem.run_bind, Sem.run_bind, Sem.run_pure, Result.andThen_ok, run_neq_nil_nil w T hT]
      rfl
    | true =>
      have h : ∃ t' p, ev t x = .iface t' p := h
      obtain ⟨t', p, h⟩ := h
      refine ⟨.bool true, ?_, rfl⟩
      simp only [execOp, ho, h, h2]
      have e : eqGuard .neq T x (.const .nilIface) (.iface t' p) .nilIface = pure () := by cases x <;> rfl
      rw [e, Sem.run_bind, Sem.run_bind, Sem.run_pure, Result.andThen_ok, run_neq_held_nil w T t' p hT]
      rfl

/-! ### elements of an own array of integers -/
def idxA (n : Nat) (l : List Int) (N : Int) : Option Int := if 0 ≤ N ∧ N < (n : Int) ∧ N.toNat < l.length then l[N.toNat]? else none
theorem idxA_some {n : Nat} {l : List Int} {N x : Int} (h : idxA n l N = some x) : (0 ≤ N ∧ N < (n : Int)) ∧ ∃ h1 : N.toNat < l.length, l[N.toNat] = x := by
  unfold idxA at h
  split at h
  · rename_i hb
    obtain ⟨h1, h2⟩ := List.getElem?_eq_some_iff.1 h
    exact ⟨⟨hb.1, hb.2.1⟩, h1, h2⟩
  · cases h
theorem J_ownIdx {P : Program} {o : Oper} {Γ : Env} {T e n : Nat} {x i : Operand} {kk : IntKind} {l : List Int} {N y : Int} {b : Nat} (ho : o.op = .indexAddr T x i) (hT : P.underlying T = some (.array n e)) (hk : ∀ w, (sizeOf e).run P w = .ok 1 w)
    (hx : Opd Γ x (pEq (.pointer (some ⟨b, 0, none⟩)))) (hi : Opd Γ i (pEq (.int kk N))) (hy : idxA n l N = some y) : OpJ P o Γ (pEq (.pointer (some ⟨b, N.toNat * 1, none⟩))) :=
  OpJ.val fun I w t _ hg => by
    have h : ev t x = .pointer (some ⟨b, 0, none⟩) := hx I w t hg
    have h2 : ev t i = .int kk N := hi I w t hg
    obtain ⟨hN, _⟩ := idxA_some hy
    refine ⟨.pointer (some ⟨b, N.toNat * 1, none⟩), ?_, rfl⟩
    simp only [execOp, ho, h, h2]
    rw [Sem.run_bind]
    simp only [Instr.indexAt, asIntOf, Sem.run_bind, Sem.run_pure, Result.andThen_ok, run_underlying hT, Instr.sureAddr, if_pos (show (0 ≤ N ∧ N < ((n : Nat) : Int)) from hN), hk w, addr_add, Nat.zero_add]
theorem cArr_eq (k : IntKind) (l : List Int) : cArr (cK k) l = l.map fun x => pEq (.int k x) := by
  induction l with
  | nil => rfl
  | cons x l ih => show _ :: cArr (cK k) l = _; rw [ih]; rfl
theorem cArr_at {k : IntKind} {n : Nat} {l : List Int} {N x : Int} (h : idxA n l N = some x) : (cArr (cK k) l)[N.toNat * 1]? = some (pEq (.int k x)) := by
  obtain ⟨_, h1, h2⟩ := idxA_some h
  rw [cArr_eq, Nat.mul_one, List.getElem?_map, List.getElem?_eq_getElem h1, h2]; rfl
theorem cArr_lt {k : IntKind} {n : Nat} {l : List Int} {N x : Int} (h : idxA n l N = some x) : Nat.blt (N.toNat * 1) (cArr (cK k) l).length = true := by
  obtain ⟨_, h1, _⟩ := idxA_some h
  rw [cArr_eq, Nat.mul_one, List.length_map]
  exact Nat.ble_eq_true_of_le h1
theorem cArr_set {k : IntKind} {n : Nat} {l : List Int} {N x y : Int} (_h : idxA n l N = some x) : (cArr (cK k) l).set (N.toNat * 1) (pEq (.int k y)) = cArr (cK k) (l.set N.toNat y) := by
  rw [cArr_eq, cArr_eq, Nat.mul_one, List.map_set]

/-! ### strings.Split -/
abbrev SplitAt (P : Program) (f : FuncId) (gm : Nat) (et : TypeId) : Prop := ∀ (s sep : ByteArray) (m : Int) (w : World), s.size < 4294967281 → w.cell? ⟨gm, 0, none⟩ = some (.int .i64 m) → 1 ≤ sep.size →
  Calls P f #[.string s, .string sep] w fun e w' => e = .returned (.slice (some ⟨w.heap.size, 0, none⟩) (Lib.countB s sep + 1) (Lib.countB s sep + 1)) ∧ w' = w.alloc (.cells ((Lib.splitB sep 0 (Lib.countB s sep) s).map Value.string).toArray et)
def splitM (s sep : ByteArray) : Option (List ByteArray) := if s.size < 4294967281 ∧ 1 ≤ sep.size then some (Lib.splitB sep 0 (Lib.countB s sep) s) else none
theorem split_contract {P : Program} {f : FuncId} {gp gm gs gr : Nat} {et : TypeId} {s sep : ByteArray} {r : List ByteArray} (h1 : SplitAt P f gm et) (h : splitM s sep = some r) : CallJ P f [pG (pF (fRB gp gm gs gr)) (pEq (.string s)), pEq (.string sep)] (pSl 1 cS r) := by
  unfold splitM at h
  split at h
  case isFalse => cases h
  rename_i hb
  cases h
  intro I w args hbd hv
  match args, hv with
  | [v1, v2], ⟨⟨⟨_, ⟨_, v, hm, m, hv⟩, _⟩, e1⟩, e2, _⟩ =>
    subst hv
    have e1 : v1 = .string s := e1
    have e2 : v2 = .string sep := e2
    subst e1 e2
    refine (h1 s sep m w hb.1 hm hb.2).mono ?_
    rintro e w' ⟨rfl, rfl⟩
    have hl := Lib.splitB_all sep hb.2 0 _ s rfl
    refine ⟨_, rfl, below_alloc w _, some ⟨w.heap.size, 0, none⟩, Lib.countB s sep + 1, (by rw [hl]), (by rw [hl]; exact Nat.le_refl _), (fun h => by cases h), fun i hi => ⟨w.heap.size, 0, rfl, .inr ⟨Nat.le_refl _, by rw [alloc_size]; omega⟩, ⟨.string (Lib.splitB sep 0 (Lib.countB s sep) s)[i], ?_, rfl⟩, trivial⟩⟩
    simp only [World.cell?, heap_alloc_last]
    simp [hi]

/-! ### strconv.ParseInt at base 10, 64 bits -/
abbrev ParseOk (P : Program) (f : FuncId) (bt : TypeId) : Prop := ∀ (s : ByteArray), s.size ≤ 9223372036854775806 → ∀ (v : Int), Lib.parseIntB 64 s.data.toList = .ok v → ∀ (w : World),
  Calls P f #[.string s, .int .i64 10, .int .i64 64] w fun e w' => e = .returned (.tuple #[.int .i64 v, .nilIface]) ∧ (w' = w ∨ ∃ t, w' = Lib.bytesWorld w bt t)
abbrev ParseNot (P : Program) (f : FuncId) (g : Nat) (et : TypeId) (en : Lib.NumEnd Int) (val : ByteArray → Int) : Prop := ∀ (s : ByteArray), s.size ≤ 281474976710656 → Lib.parseIntB 64 s.data.toList = en → ∀ (ev : Value) (w : World), w.cell? ⟨g, 0, none⟩ = some ev → (ev = .nilIface ∨ ∃ te pe, ev = .iface te pe) →
  Calls P f #[.string s, .int .i64 10, .int .i64 64] w fun e w' => ∃ N, e = .returned (.tuple #[.int .i64 (val s), .iface et (.pointer (some ⟨N, 0, none⟩))]) ∧ Below w.heap.size w w'
def parseR (s : ByteArray) : Int × Bool := match Lib.parseIntB 64 s.data.toList with | .ok v => (v, false) | .syntax => (0, true) | .range => (Lib.intSat 64 s.data.toList, true)
def parseM (s : ByteArray) (b z : Int) : Option (Int × Bool) := if b = 10 ∧ z = 64 ∧ s.size ≤ 281474976710656 then some (parseR s) else none
theorem parse_contract {P : Program} {f : FuncId} {gp gm gs gr : Nat} {bt et : TypeId} {s : ByteArray} {b z : Int} {r : Int × Bool} (h1 : ParseOk P f bt) (h2 : ParseNot P f gs et .syntax fun _ => 0) (h3 : ParseNot P f gr et .range fun s => Lib.intSat 64 s.data.toList) (h : parseM s b z = some r) :
    CallJ P f [pEq (.string s), pG (pF (fRB gp gm gs gr)) (pEq (.int .i64 b)), pEq (.int .i64 z)] (pTup [pEq (.int .i64 r.1), pErr r.2]) := by
  unfold parseM at h
  split at h
  case isFalse => cases h
  rename_i hb
  obtain ⟨rfl, rfl, hs⟩ := hb
  cases h
  intro I w args hbd hv
  match args, hv with
  | [v1, v2, v3], ⟨e1, ⟨⟨_, _, ⟨_, es, hs1, hs2⟩, ⟨_, er, hr1, hr2⟩⟩, e2⟩, e3, _⟩ =>
    have e1 : v1 = .string s := e1
    have e2 : v2 = .int .i64 10 := e2
    have e3 : v3 = .int .i64 64 := e3
    subst e1 e2 e3
    unfold parseR
    cases hp : Lib.parseIntB 64 s.data.toList with
    | ok v =>
      refine (h1 s (by omega) v hp w).mono ?_
      rintro e w' ⟨rfl, hw⟩
      refine ⟨_, rfl, ?_, [.int .i64 v, .nilIface], rfl, rfl, rfl, trivial⟩
      rcases hw with rfl | ⟨t, rfl⟩
      · exact Below.refl _ _
      · exact Lib.bytesWorld_below w bt t
    | «syntax» =>
      refine (h2 s hs hp es w hs1 hs2).mono ?_
      rintro e w' ⟨N, rfl, hw⟩
      exact ⟨_, rfl, hw, [_, _], rfl, rfl, ⟨_, _, rfl⟩, trivial⟩
    | range =>
      refine (h3 s hs hp er w hr1 hr2).mono ?_
      rintro e w' ⟨N, rfl, hw⟩
      exact ⟨_, rfl, hw, [_, _], rfl, rfl, ⟨_, _, rfl⟩, trivial⟩

/-! ### strings.TrimPrefix -/
abbrev TrimAt (P : Program) (f : FuncId) : Prop := ∀ (s p : ByteArray) (w : World), Calls P f #[.string s, .string p] w fun e w' => e = .returned (.string ⟨(Lib.trimPrefix s.data.toList p.data.toList).toArray⟩) ∧ w' = w
def trimM (s p : ByteArray) : Option ByteArray := some ⟨(Lib.trimPrefix s.data.toList p.data.toList).toArray⟩
theorem trim_contract {P : Program} {f : FuncId} {s p r : ByteArray} (h1 : TrimAt P f) (h : trimM s p = some r) : CallJ P f [pEq (.string s), pEq (.string p)] (pEq (.string r)) := by
  cases h
  intro I w args hbd hv
  match args, hv with
  | [v1, v2], ⟨e1, e2, _⟩ =>
    have e1 : v1 = .string s := e1
    have e2 : v2 = .string p := e2
    subst e1 e2
    refine (h1 s p w).mono ?_
    rintro e w' ⟨rfl, rfl⟩
    exact ⟨_, rfl, Below.refl _ _, rfl⟩
end Go.Wk
