/-
  More steps: the order of what is owned, parts of slices and strings, bits, literals that nobody writes, wide stores, recursion. No program in sight. Our own work.
-/
import Derived.Test.YtbhegklilcpbmaaDoorNest
import Derived.Lib.SliceRun
namespace Go.Wk
open Go Go.RowKit

/-! ### the order of what is owned -/
def pickL (i : Nat) (l : List Own) : List Own := match l[i]? with | some x => x :: l.eraseIdx i | none => l
theorem pickL_perm : ∀ (i : Nat) (l : List Own), l.Perm (pickL i l)
  | 0, [] => List.Perm.refl _
  | 0, _ :: _ => List.Perm.refl _
  | i + 1, [] => List.Perm.refl _
  | i + 1, y :: l => by
    have ih := pickL_perm i l
    unfold pickL at ih ⊢
    simp only [List.getElem?_cons_succ, List.eraseIdx_cons_succ]
    cases h : l[i]? with
    | none => exact List.Perm.refl _
    | some x => rw [h] at ih; exact (List.Perm.cons y ih).trans (List.Perm.swap _ _ _)
theorem SatO.pick {L I X : Vw} {w : World} {Ω : List Own} (i : Nat) (h : SatO L I w X Ω) : SatO L I w X (pickL i Ω) := SatO.perm (pickL_perm i Ω) h
/-- The thing at i + 1 comes to the second place. -/
theorem SatO.pick2 {L I X : Vw} {w : World} {o : Own} {Ω : List Own} (i : Nat) (h : SatO L I w X (o :: Ω)) : SatO L I w X (o :: pickL (i - 1) Ω) := SatO.tail (fun h => SatO.pick (i - 1) h) h
theorem SatO.rest {L I X : Vw} {w : World} {o : Own} {Ω : List Own} (h : SatO L I w X (o :: Ω)) : SatO L I w X Ω := let ⟨_, _, _, hr⟩ := h; SatO.congr (fun _ hb => .inl hb) hr
theorem SatO.nilRow {L I X : Vw} {w : World} {Ω : List Own} {α : Type} {et k : Nat} {f : α → List Pd} (h : SatO L I w X Ω) : SatO L I w X (oSl et k f none 0 0 ([] : List α) :: Ω) :=
  ⟨fun _ => False, fun _ hb => hb.elim, ⟨rfl, [], ⟨by simp, .inl ⟨rfl, rfl⟩⟩, trivial, fun _ h => by cases h⟩, SatO.congr (fun b hb => hb.elim id (fun h => h.elim)) h⟩
theorem RD.re {P : Program} {B : Bs} {ops : Array Oper} {Q : Exit → Act → World → Prop} {pre : List Oper} {Γ : Env} {es : List (Option Ent)} {done : List Nat} {Ω1 Ω2 : List Own} (h1 : ∀ {L I X : Vw} {w : World}, SatO L I w X Ω1 → SatO L I w X Ω2) (h : RD P B ops Q pre Γ es done Ω2) : RD P B ops Q pre Γ es done Ω1 :=
  fun fuel listed I a w hm hd hf => h fuel listed I a w { hm with base := { hm.base with o := h1 hm.base.o } } hd hf

/-! ### own variables say nothing of other memory -/
theorem FreeO.blk {b : Nat} {ps : List Pd} (h : FreePs ps) : FreeO (oBlk b ps) := fun _ _ _ _ ⟨hb, vs, T, hh, hv⟩ => ⟨hb, vs, T, hh, h.vals hv⟩

section
variable {P : Program} {o : Oper} {Γ : Env}

/-! ### function values with captures of own memory; nil -/
theorem J_makeClo {k : FuncId} {xs : Array Operand} {cps : List Pd} (ho : o.op = .makeFunc (.func k) #[] xs) (hx : Opds Γ xs.toList cps) : OpJ P o Γ (pClo k cps) :=
  OpJ.val fun I w t _ hg => by
    refine ⟨.func (.func k) #[] (xs.toList.map (ev t)).toArray, ?_, _, rfl, Opds.vals hg hx⟩
    have : Array.map (ev t) xs = (xs.toList.map (ev t)).toArray := by apply Array.ext'; simp
    simp [execOp, ho, Instr.makeFunc, this]
theorem J_nilLen {T e : TypeId} {x : Operand} (ho : o.op = .call { callee := .builtin .len, args := #[x], argTypes := #[T] }) (hT : P.underlying T = some (.slice e)) (hx : Opd Γ x (pEq (.slice none 0 0))) : OpJ P o Γ (pEq (.int .i64 (0 : Int))) :=
  OpJ.val fun I w t _ hg => by
    have h : ev t x = _ := hx I w t hg
    exact ⟨.int .i64 0, by simp [execOp, ho, h, resolve, invoke, builtin, Builtin.len_, run_underlying hT, goInt], rfl⟩
theorem B_nil {T e : TypeId} {x y : Operand} {a : Option Addr} {n c : Nat} (hT : P.underlying T = some (.slice e)) : BinR .eql T x y (.slice a n c) (.slice none 0 0) (.bool a.isNone) P := fun w => by
  have := Lib.run_eql_slice_nil w T e a n c 0 0 hT
  simp [eqGuard, this]
/-- A slice held against nil: true only of an empty one. -/
def pNil {α : Type} (l : List α) : Pd := ⟨fun _ _ v => ∃ b, v = .bool b ∧ (b = true → l = []), fun _ _ h => h⟩
theorem J_nilEq {α : Type} {T T' e k : TypeId} {x : Operand} {f : α → List Pd} {l : List α} (ho : o.op = .binOp .eql T x (.const (.slice none 0 0)) T') (hT : P.underlying T = some (.slice e)) (hx : Opd Γ x (pSl k f l)) : OpJ P o Γ (pNil l) :=
  OpJ.val fun I w t _ hg => by
    obtain ⟨a, cap, h, _, _, he⟩ := hx I w t hg
    refine ⟨.bool a.isNone, ?_, _, rfl, fun hb => ?_⟩
    · have h2 : ev t (.const (.slice none 0 0)) = .slice none 0 0 := rfl
      have := B_nil (P := P) (T := T) (x := x) (y := .const (.slice none 0 0)) (a := a) (n := l.length) (c := cap) hT w
      simp only [execOp, ho, h, h2]
      rw [Sem.run_bind, this]
      rfl
    · cases l with
      | nil => rfl
      | cons y l =>
        obtain ⟨b, off, h1, _⟩ := he 0 (by simp)
        rw [h1] at hb; simp at hb
theorem Tr.condNil {α : Type} {B : Bs} {Ω : List Own} {s : Nat} {l : List α} {x y : Code} {Q : Exit → Act → World → Prop} (hl : lk s Γ = some (pNil l)) (ht : l = [] → Tr P B x Γ Ω Q) (hf : Tr P B y Γ Ω Q) : Tr P B (.cond (.tmp s) x y) Γ Ω Q := fun I a w hs => by
  obtain ⟨b, hb, h⟩ := hs.g s _ hl
  have h' : a.eval (.tmp s) = .bool b := by rw [eval_eq]; exact hb
  exact wp_cond_split h' (fun h1 => ht (h h1) I a w hs) (fun _ => hf I a w hs)

/-! ### parts of slices and strings -/
def SOpd (Γ : Env) : Option Operand → Option Int → Prop
  | none, none => True
  | some x, some n => ∃ k, Opd Γ x (pEq (.int k n))
  | _, _ => False
theorem SOpd.none : SOpd Γ .none .none := trivial
theorem SOpd.some {x : Operand} {k : IntKind} {n : Int} (h : Opd Γ x (pEq (.int k n))) : SOpd Γ (.some x) (.some n) := ⟨k, h⟩
def bnd (len : Nat) (lo hi : Option Int) : Option (Nat × Nat) :=
  let h := hi.getD len
  let l := lo.getD 0
  if 0 ≤ l ∧ l ≤ h ∧ h ≤ len then some (l.toNat, h.toNat) else none
def subL {α : Type} (s : List α) (lo hi : Option Int) : Option (List α) := (bnd s.length lo hi).map fun x => (s.take x.2).drop x.1
def subB (s : ByteArray) (lo hi : Option Int) : Option ByteArray := (bnd s.size lo hi).map fun x => s.extract x.1 x.2

theorem run_bound {w : World} {k : IntKind} {n : Int} {m : Nat} {c : BoundsCode} (h0 : 0 ≤ n) (h1 : n ≤ m) : (Instr.sliceBound (.int k n) m c).run P w = .ok n.toNat w := by
  simp [Instr.sliceBound, asIntOf, h0, h1]
theorem run_bounds {w : World} {t : Nat → Value} {I : Vw} (hg : SatG I w t Γ) {b : Bool} {len cap : Nat} (hlc : len ≤ cap) {lo hi : Option Operand} {l0 h0 : Option Int} {lh : Nat × Nat} (hlo : SOpd Γ lo l0) (hhi : SOpd Γ hi h0) (hb : bnd len l0 h0 = some lh) :
    (Instr.sliceBounds b len cap (lo.map (ev t)) (hi.map (ev t)) none).run P w = .ok (lh.1, lh.2, cap) w ∧ lh.1 ≤ lh.2 ∧ lh.2 ≤ len := by
  unfold bnd at hb
  simp only at hb
  split at hb
  · rename_i hc
    cases hb
    refine ⟨?_, by simp only; omega, by simp only; omega⟩
    cases hi with
    | none =>
      cases h0 with
      | some n => exact hhi.elim
      | none =>
        cases lo with
        | none => cases l0 with
          | some n => exact hlo.elim
          | none => simp [Instr.sliceBounds]
        | some y => cases l0 with
          | none => exact hlo.elim
          | some m =>
            obtain ⟨k, hk⟩ := hlo
            have hy : ev t y = .int k m := hk I w t hg
            simp only [Option.getD_some, Option.getD_none] at hc
            simp [Instr.sliceBounds, hy, run_bound (P := P) (w := w) (k := k) (c := .sliceB) hc.1 hc.2.1]
    | some x =>
      cases h0 with
      | none => exact hhi.elim
      | some n =>
        obtain ⟨k, hk⟩ := hhi
        have hx : ev t x = .int k n := hk I w t hg
        cases lo with
        | none => cases l0 with
          | some n => exact hlo.elim
          | none =>
            simp only [Option.getD_some, Option.getD_none] at hc
            have h1 := fun c => run_bound (P := P) (w := w) (k := k) (c := c) (n := n) (m := cap) (by omega) (by omega)
            simp [Instr.sliceBounds, hx, h1]
        | some y => cases l0 with
          | none => exact hlo.elim
          | some m =>
            obtain ⟨k', hk'⟩ := hlo
            have hy : ev t y = .int k' m := hk' I w t hg
            simp only [Option.getD_some] at hc
            have h1 := fun c => run_bound (P := P) (w := w) (k := k) (c := c) (n := n) (m := cap) (by omega) (by omega)
            have h2 := fun c => run_bound (P := P) (w := w) (k := k') (c := c) (n := m) (m := n.toNat) (by omega) (by omega)
            simp [Instr.sliceBounds, hx, hy, h1, h2]
  · simp at hb

theorem J_strSlice {T : TypeId} {x : Operand} {lo hi : Option Operand} {l0 h0 : Option Int} {s r : ByteArray} (ho : o.op = .slice T x lo hi none) (hT : P.underlying T = some .string) (hx : Opd Γ x (pEq (.string s))) (hlo : SOpd Γ lo l0) (hhi : SOpd Γ hi h0) (hr : subB s l0 h0 = some r) : OpJ P o Γ (pEq (.string r)) :=
  OpJ.val fun I w t _ hg => by
    have h : ev t x = _ := hx I w t hg
    unfold subB at hr
    obtain ⟨lh, hb, rfl⟩ := map_some hr
    obtain ⟨h1, _, _⟩ := run_bounds (P := P) (w := w) hg (b := false) (Nat.le_refl s.size) hlo hhi hb
    refine ⟨.string (s.extract lh.1 lh.2), ?_, rfl⟩
    simp only [execOp, ho, h]
    rw [Sem.run_bind]
    simp only [Instr.sliceAt, Sem.run_bind, run_underlying hT, Result.andThen_ok, Instr.slice, Option.map_none, Option.isSome_none, Bool.false_eq_true, if_false, Sem.run_pure, h1]

theorem J_slSlice {α : Type} {T e k : TypeId} {x : Operand} {lo hi : Option Operand} {l0 h0 : Option Int} {f : α → List Pd} {l r : List α} (ho : o.op = .slice T x lo hi none) (hT : P.underlying T = some (.slice e)) (hk : ∀ w, (sizeOf e).run P w = .ok k w) (hx : Opd Γ x (pSl k f l)) (hlo : SOpd Γ lo l0) (hhi : SOpd Γ hi h0) (hr : subL l l0 h0 = some r) : OpJ P o Γ (pSl k f r) :=
  OpJ.val fun I w t _ hg => by
    obtain ⟨a, cap, h, hlc, hz, he⟩ := hx I w t hg
    unfold subL at hr
    obtain ⟨⟨lo', hi'⟩, hb, rfl⟩ := map_some hr
    obtain ⟨h1, h2, h3⟩ := run_bounds (P := P) (w := w) hg (b := true) hlc hlo hhi hb
    simp only at h1 h2 h3
    have hlen : ((l.take hi').drop lo').length = hi' - lo' := by simp; omega
    show ∃ v, (execOp (ev t) o).run P w = .ok (.value v) w ∧ (pSl k f ((l.take hi').drop lo')).p I w v
    refine ⟨.slice (if cap = lo' then a else a.map (·.add (lo' * k))) (hi' - lo') (cap - lo'), ?_, _, cap - lo', by rw [hlen], by rw [hlen]; omega, fun h0 => ?_, fun i hi0 => ?_⟩
    · simp only [execOp, ho, h]
      rw [Sem.run_bind]
      simp only [Instr.sliceAt, Sem.run_bind, run_underlying hT, Result.andThen_ok, Instr.slice, Option.map_none, Sem.run_pure, h1, hk w]
    · split at h0
      · omega
      · have : a = none := by simpa using h0
        have := hz this; omega
    · rw [hlen] at hi0
      have hne : ¬ cap = lo' := by omega
      obtain ⟨b, off, ha, hI, hc⟩ := he (lo' + i) (by omega)
      subst ha
      refine ⟨b, off + lo' * k, by rw [if_neg hne]; simp [addr_add], hI, ?_⟩
      have e1 : off + lo' * k + i * k = off + (lo' + i) * k := by rw [Nat.add_mul]; omega
      rw [e1]
      have e2 : ((l.take hi').drop lo')[i]'(by rw [hlen]; exact hi0) = l[lo' + i] := by simp
      rw [e2]
      exact hc

/-- May the row be cut behind n elements. -/
def cutB {α : Type} (l : List α) (n : Int) : Option Unit := if 0 ≤ n ∧ n ≤ l.length then some () else none
theorem cutB_some {α : Type} {l : List α} {n : Int} {u : Unit} (h : cutB l n = some u) : 0 ≤ n ∧ n ≤ l.length := by
  unfold cutB at h
  split at h
  · assumption
  · simp at h
theorem cutB_le {α : Type} {l : List α} {n : Int} {u : Unit} (h : cutB l n = some u) : n.toNat ≤ l.length := by have := cutB_some h; omega
theorem cut_addr {a : Option Addr} {cap k : Nat} (h : ∀ x, a = some x → x.spot = none) : (if cap = 0 then a else a.map (·.add (0 * k))) = a := by
  split
  · rfl
  · cases a with
    | none => rfl
    | some x =>
      have := h x rfl
      obtain ⟨b, off, sp⟩ := x
      simp only at this
      subst this
      simp [addr_add]
theorem oSl.spot {α : Type} {et k n cap : Nat} {f : α → List Pd} {ad : Option Addr} {l : List α} {I F : Vw} {w : World} (h : (oSl et k f ad n cap l).p I F w) : (∀ x, ad = some x → x.spot = none) ∧ n ≤ cap := by
  obtain ⟨_, xs, ⟨_, h2⟩, _⟩ := h
  rcases h2 with ⟨e1, _⟩ | ⟨g, c, cur, e1, _, _, e4, _⟩
  · simp only [Value.slice.injEq] at e1
    exact ⟨fun x hx => by rw [e1.1] at hx; simp at hx, by omega⟩
  · simp only [Value.slice.injEq, true_and] at e1
    exact ⟨fun x hx => by rw [e1.1] at hx; simp at hx; subst hx; rfl, by omega⟩
theorem run_cut {α : Type} {w : World} {t : Nat → Value} {I F : Vw} {et k n cap : Nat} {f : α → List Pd} {ad : Option Addr} {l : List α} {T : TypeId} {x : Operand} {lo hi : Option Operand} {l0 h0 : Option Int} {m : Int} {u : Unit} (ho : o.op = .slice T x lo hi none) (hT : P.underlying T = some (.slice et)) (hk : ∀ w, (sizeOf et).run P w = .ok k w) (hg : SatG I w t Γ) (hx : Opd Γ x (pEq (.slice ad n cap))) (hlo : SOpd Γ lo l0) (hhi : SOpd Γ hi h0)
    (hown : (oSl et k f ad n cap l).p I F w) (hl0 : l0.getD 0 = 0) (hh0 : h0 = some m) (hu : cutB l m = some u) : (execOp (ev t) o).run P w = .ok (.value (.slice ad m.toNat cap)) w := by
  have h : ev t x = _ := hx I w t hg
  have hn : n = l.length := hown.1
  obtain ⟨hsp, hnc⟩ := oSl.spot hown
  have hm := cutB_some hu
  subst hh0
  have hb : bnd n l0 (some m) = some (0, m.toNat) := by
    unfold bnd
    simp only [Option.getD_some, hl0]
    rw [if_pos (by omega)]
    rfl
  obtain ⟨h1, _, _⟩ := run_bounds (P := P) (w := w) hg (b := true) hnc hlo hhi hb
  simp only at h1
  simp only [execOp, ho, h]
  rw [Sem.run_bind]
  simp only [Instr.sliceAt, Sem.run_bind, run_underlying hT, Result.andThen_ok, Instr.slice, Option.map_none, Sem.run_pure, h1, hk w, Nat.sub_zero]
  rw [cut_addr hsp]
theorem oSl.cut {α : Type} {et k n cap m : Nat} {f : α → List Pd} {ad : Option Addr} {l : List α} {I F : Vw} {w : World} (hf : ∀ x, (f x).length = k) (hm : m ≤ l.length) (h : (oSl et k f ad n cap l).p I F w) : (oSl et k f ad m cap (l.take m)).p I F w := by
  obtain ⟨hn, xs, ⟨h1, h2⟩, hv, ho⟩ := h
  have hfl : ∀ (l : List α), (l.flatMap f).length = l.length * k := by
    intro l
    induction l with
    | nil => simp
    | cons y l ih => rw [List.flatMap_cons, List.length_append, ih, hf y, List.length_cons, Nat.add_mul, Nat.one_mul, Nat.add_comm]
  have hft : (l.take m).flatMap f = (l.flatMap f).take (m * k) := by
    have e : l.flatMap f = (l.take m).flatMap f ++ (l.drop m).flatMap f := by rw [← List.flatMap_append, List.take_append_drop]
    rw [e, List.take_left' (by rw [hfl, List.length_take]; congr 1; omega)]
  have hxl : xs.length = l.length * k := by rw [hv.length, hfl]
  refine ⟨by simp; omega, xs.take (m * k), ⟨?_, ?_⟩, ?_, ho⟩
  · rw [List.length_take, hxl]
    have : m * k ≤ l.length * k := Nat.mul_le_mul_right _ hm
    omega
  · rcases h2 with ⟨e1, e2⟩ | ⟨g, c, cur, e1, e2, e3, e4, e5, e6, e7⟩
    · have : m = 0 := by omega
      subst this
      simp only [Value.slice.injEq] at e1
      exact .inl ⟨by rw [e1.1, e1.2.2], rfl⟩
    · simp only [Value.slice.injEq, true_and] at e1
      obtain ⟨rfl, rfl⟩ := e1
      refine .inr ⟨g, cap, cur, rfl, e2, e3, by omega, e5, e6, ?_⟩
      rw [← e7, List.take_take]
      congr 1
      have : m * k ≤ n * k := Nat.mul_le_mul_right _ (by omega)
      omega
  · rw [hft]
    have := Vals.sub (k := 0) (n := m * k) hv
    simpa using this

theorem W_rowCut {α : Type} {Ω : List Own} {et k n cap j : Nat} {f : α → List Pd} {ad : Option Addr} {l : List α} {T : TypeId} {x : Operand} {lo hi : Option Operand} {l0 h0 : Option Int} {m : Int} {u : Unit} (ho : o.op = .slice T x lo hi none) (hT : P.underlying T = some (.slice et)) (hk : ∀ w, (sizeOf et).run P w = .ok k w) (hx : Opd Γ x (pEq (.slice ad n cap))) (hlo : SOpd Γ lo l0) (hhi : SOpd Γ hi h0)
    (hj : Ω[j]? = some (oSl et k f ad n cap l)) (hu : cutB l m = some u) (hl0 : l0.getD 0 = 0 := by rfl) (hh0 : h0 = some m := by rfl) : OpW P Ω o Γ (pEq (.slice ad m.toNat cap)) :=
  OpW.val fun lo' I w t hbd hg hO => by
    obtain ⟨F, hF, hown⟩ := hO.mem hj
    exact ⟨_, run_cut ho hT hk hg hx hlo hhi hown hl0 hh0 hu, rfl⟩
theorem M_rowCut {α : Type} {B : Bs} {Ω : List Own} {et k n cap : Nat} {f : α → List Pd} {ad : Option Addr} {l : List α} {T : TypeId} {x : Operand} {lo hi : Option Operand} {l0 h0 : Option Int} {m : Int} {u : Unit} (ho : o.op = .slice T x lo hi none) (hT : P.underlying T = some (.slice et)) (hk : ∀ w, (sizeOf et).run P w = .ok k w) (hx : Opd Γ x (pEq (.slice ad n cap))) (hlo : SOpd Γ lo l0) (hhi : SOpd Γ hi h0)
    (hu : cutB l m = some u) (hl0 : l0.getD 0 = 0 := by rfl) (hh0 : h0 = some m := by rfl) (hf : ∀ x, (f x).length = k := by exact fun _ => rfl) : OpM P B o Γ (oSl et k f ad n cap l :: Ω) (fun _ : Unit => pEq (.slice ad m.toNat cap)) (fun _ => oSl et k f ad m.toNat cap (l.take m.toNat) :: Ω) := by
  intro I a w hs
  obtain ⟨F, hF, hown, hr⟩ := hs.o
  unfold Exec
  rw [run_cut ho hT hk hs.g hx hlo hhi hown hl0 hh0 hu]
  exact ⟨(), I, { hs with o := ⟨F, hF, oSl.cut hf (cutB_le hu) hown, hr⟩ }, rfl⟩

/-! ### bits, strings -/
def bitOp (op : BinOp) (k : IntKind) (a b : Int) : Option Int :=
  match op with
  | .and => some (k.wrap (BitVec.ofInt k.bits a &&& BitVec.ofInt k.bits b).toNat)
  | .or => some (k.wrap (BitVec.ofInt k.bits a ||| BitVec.ofInt k.bits b).toNat)
  | .xor => some (k.wrap (BitVec.ofInt k.bits a ^^^ BitVec.ofInt k.bits b).toNat)
  | .andNot => some (k.wrap (BitVec.ofInt k.bits a &&& ~~~BitVec.ofInt k.bits b).toNat)
  | .shl => if b < 0 then none else some (k.wrap (a * 2 ^ (min b.toNat k.bits)))
  | .shr => if b < 0 then none else some (a.fdiv (2 ^ (min b.toNat k.bits)))
  | _ => none
section
variable {T : TypeId} {x y : Operand} {k k' : IntKind} {m n q : Int}
theorem B_bitand (h : bitOp .and k m n = some q) : BinR .and T x y (.int k m) (.int k n) (.int k q) P := fun w => by simp only [bitOp, Option.some.injEq] at h; subst h; simp [eqGuard, binOp, Op.intBits]
theorem B_bitor (h : bitOp .or k m n = some q) : BinR .or T x y (.int k m) (.int k n) (.int k q) P := fun w => by simp only [bitOp, Option.some.injEq] at h; subst h; simp [eqGuard, binOp, Op.intBits]
theorem B_bitxor (h : bitOp .xor k m n = some q) : BinR .xor T x y (.int k m) (.int k n) (.int k q) P := fun w => by simp only [bitOp, Option.some.injEq] at h; subst h; simp [eqGuard, binOp, Op.intBits]
theorem B_bitandNot (h : bitOp .andNot k m n = some q) : BinR .andNot T x y (.int k m) (.int k n) (.int k q) P := fun w => by simp only [bitOp, Option.some.injEq] at h; subst h; simp [eqGuard, binOp, Op.intBits]
theorem B_bitshl (h : bitOp .shl k m n = some q) : BinR .shl T x y (.int k m) (.int k' n) (.int k q) P := fun w => by
  simp only [bitOp] at h
  split at h
  · simp at h
  · rename_i hn; cases h; simp [eqGuard, binOp, Op.shift, hn]
theorem B_bitshr (h : bitOp .shr k m n = some q) : BinR .shr T x y (.int k m) (.int k' n) (.int k q) P := fun w => by
  simp only [bitOp] at h
  split at h
  · simp at h
  · rename_i hn; cases h; simp [eqGuard, binOp, Op.shift, hn]
def catS (a b : ByteArray) : Option ByteArray := if a.size + b.size ≤ 9223372036854775807 then some (a ++ b) else none
theorem B_sadd {a b r : ByteArray} (h : catS a b = some r) : BinR .add T x y (.string a) (.string b) (.string r) P := fun w => by
  unfold catS at h
  split at h
  · rename_i hn
    cases h
    have : ¬ (((a.size + b.size : Nat) : Int) > IntKind.i64.max) := by
      have : IntKind.i64.max = 9223372036854775807 := rfl
      omega
    simp [eqGuard, binOp, Op.stringOp]
    omega
  · simp at h
end
end

section
variable {P : Program} {B : Bs} {o : Oper} {Γ : Env} {Ω : List Own}

/-- A whole element of an own row is loaded. -/
theorem W_rowLoadA {α : Type} {T et k n cap j : Nat} {x : Operand} {N : Int} {f : α → List Pd} {ad : Option Addr} {l : List α} {y : α} (ho : o.op = .load T x) (hT : ∀ w, (isAgg T).run P w = .ok true w) (hn : ∀ w, (sizeOf T).run P w = .ok k w)
    (hf : ∀ x, (f x).length = k) (hx : Opd Γ x (pEq (.pointer (some ⟨blk ad, N.toNat * k, none⟩)))) (hj : Ω[j]? = some (oSl et k f ad n cap l)) (hy : idx l N = some y) : OpW P Ω o Γ (pAgg (f y)) :=
  OpW.val fun lo I w t hbd hg hO => by
    have h : ev t x = _ := hx I w t hg
    obtain ⟨F, hF, hown⟩ := hO.mem hj
    obtain ⟨h0, h1, rfl⟩ := idx_some hy
    obtain ⟨g, vs, cur, rfl, hg, hnl, hh, _, _, hcs, htk, hvl, hv⟩ := oSl.block hown (by omega)
    obtain ⟨r', hr'⟩ := flatMap_at hf h1
    have hv' := hv.drop (k := N.toNat * k)
    rw [hr'] at hv'
    have hv2 := Vals.sub (k := 0) (n := k) hv'
    simp only [List.drop_zero, List.take_left' (hf l[N.toNat])] at hv2
    have hll : ((vs.drop (N.toNat * k)).take k).length = k := by rw [hv2.length, hf]
    have hc := run_loadCells_list (P := P) w ⟨g, N.toNat * k, none⟩ ((vs.drop (N.toNat * k)).take k) (fun i v hi => by
      rw [addr_add]
      rw [List.getElem?_take] at hi
      split at hi
      · rw [List.getElem?_drop, ← htk, List.getElem?_take] at hi
        split at hi
        · simpa [World.cell?, hh] using hi
        · simp at hi
      · simp at hi)
    rw [hll] at hc
    simp only [blk] at h
    exact ⟨.agg ((vs.drop (N.toNat * k)).take k).toArray, by simp [execOp, ho, h, Instr.loadAt, Instr.sureAddr, loadVar, hT w, hn w, hc], _, rfl, hv2⟩

theorem flatMap_setA {α : Type} {f : α → List Pd} {k : Nat} (hf : ∀ x, (f x).length = k) {y : α} : ∀ {l : List α} {i : Nat}, i < l.length → (l.set i y).flatMap f = over (l.flatMap f) (i * k) (f y)
  | [], _, h => by simp at h
  | x :: l, 0, _ => by
    simp only [List.set_cons_zero, List.flatMap_cons, over, Nat.zero_mul, List.take_zero, List.nil_append, Nat.zero_add, hf y]
    rw [List.drop_left' (hf x)]
  | x :: l, i + 1, h => by
    rw [List.set_cons_succ, List.flatMap_cons, flatMap_setA hf (by simpa using h), List.flatMap_cons]
    unfold over
    have e : (i + 1) * k = (f x).length + i * k := by rw [hf x, Nat.add_mul, Nat.one_mul, Nat.add_comm]
    rw [e, List.take_length_add_append, Nat.add_assoc, List.drop_length_add_append]
    simp [List.append_assoc]

/-- A whole element of an own row is stored. -/
theorem M_rowStoreA {α : Type} {T et k bytes n cap : Nat} {x y : Operand} {N : Int} {f : α → List Pd} {z0 : α} {ad : Option Addr} {l l' : List α} {v : α} (ho : o.op = .store T x y) (hT : ∀ w, (sizeOf T).run P w = .ok k w) (he : Elem P et k bytes f z0)
    (hx : Opd Γ x (pEq (.pointer (some ⟨blk ad, N.toNat * k, none⟩)))) (hy : Opd Γ y (pAgg (f v))) (hl : setL l N v = some l') :
    OpM P B o Γ (oSl et k f ad n cap l :: Ω) (fun _ : Unit => pAny) (fun _ => oSl et k f ad n cap l' :: Ω) := by
  intro I a w hs
  have h : ev (tm a) x = _ := hx I w (tm a) hs.g
  obtain ⟨us, hyv, hvu⟩ := hy I w (tm a) hs.g
  obtain ⟨_, _, _, _, _, _, _, _, _, hk0, _, hf, hone⟩ := he
  obtain ⟨F, hF, hown, hr⟩ := hs.o
  obtain ⟨hN, rfl⟩ := setL_some hl
  obtain ⟨g, vs, cur, rfl, hg, hnl, hh, hnc, hcm, hcs, htk, hvl, hv⟩ := oSl.block hown (by omega)
  have hlu : us.length = k := by rw [hvu.length, hf]
  have hNk : (N.toNat + 1) * k ≤ n * k := Nat.mul_le_mul_right _ (by omega)
  have hnk : n * k ≤ cap * k := Nat.mul_le_mul_right _ hnc
  rw [Nat.add_mul, Nat.one_mul] at hNk
  have hst := run_storeCells_at P g (N.toNat * k) et us 0 cur w hh (by omega) (hone v I w us hvu)
  simp only [Nat.add_zero] at hst
  have e1 : (List.take (N.toNat * k) cur.toList ++ us ++ List.drop (N.toNat * k + us.length) cur.toList) = over cur.toList (N.toNat * k) us := rfl
  rw [e1] at hst
  simp only [blk] at h
  unfold Exec
  have : (execOp (ev (tm a)) o).run P w = .ok .skip (w.setRow g (over cur.toList (N.toNat * k) us).toArray) := by
    simp [execOp, ho, h, hyv, Instr.storeAt, Instr.sureAddr, storeVar, hT w, Value.cells, hlu, hst]
  rw [this]
  have hnb : ∀ b', ¬ F b' → (w.setRow g (over cur.toList (N.toNat * k) us).toArray).heap[b']? = w.heap[b']? := fun b' hb' => setRow_other w g b' _ (fun e => by subst e; exact hb' hg)
  have hol : (over cur.toList (N.toNat * k) us).length = cap * k := by
    unfold over
    rw [List.length_append, List.length_append, List.length_take, List.length_drop, Array.length_toList, hcs]
    omega
  have hov : (over cur.toList (N.toNat * k) us).take (n * k) = over vs (N.toNat * k) us := by
    unfold over
    rw [← htk, List.take_append, List.take_append, List.take_take, List.drop_take, List.length_append, List.length_take, Array.length_toList, hcs, List.take_take, List.take_of_length_le (l := us) (by omega)]
    congr 2
    · congr 1; omega
    · congr 1; omega
  refine ⟨(), I, hs.turn F hF hr (setRow_size _ _ _) rfl rfl rfl hnb ?_, trivial⟩
  refine ⟨by simpa using hnl, over vs (N.toNat * k) us, ⟨?_, .inr ⟨g, cap, _, rfl, Nat.zero_le _, setRow_heap w g cur _ et (0, 0) hh, hnc, hcm, by simpa using hol, by simpa using hov⟩⟩, ?_, fun _ h' => by cases h'; exact hg⟩
  · rw [← hov, List.length_take, hol]; omega
  · rw [flatMap_setA hf (by omega)]
    exact (Vals.over hv hvu).mono (fun _ h => h) (fun b' hb' => hnb b' (fun hf' => (hF b' hf').2.2 hb'))

theorem FreePs.flat {α : Type} {f : α → List Pd} (hf : ∀ x, FreePs (f x)) : ∀ (l : List α), FreePs (l.flatMap f)
  | [] => trivial
  | x :: l => by
    rw [List.flatMap_cons]
    have app : ∀ {a b : List Pd}, FreePs a → FreePs b → FreePs (a ++ b) := by
      intro a b ha hb
      induction a with
      | nil => exact hb
      | cons p a iha => exact ⟨ha.1, iha ha.2⟩
    exact app (hf x) (FreePs.flat hf l)
/-- append of what other own memory holds. -/
theorem M_appendC {α : Type} {T e k bytes n cap : Nat} {x y : Operand} {f : α → List Pd} {z0 : α} {ad : Option Addr} {l m r : List α} (ho : o.op = .call { callee := .builtin .append, args := #[x, y], argTypes := #[T, T] })
    (hT : P.underlying T = some (.slice e)) (he : Elem P e k bytes f z0) (hx : Opd Γ x (pEq (.slice ad n cap))) (hy : OpdA Γ Ω y (pSl k f m)) (hfree : ∀ x, FreePs (f x)) (hl : appL bytes l m = some r) :
    OpM P B o Γ (oSl e k f ad n cap l :: Ω) (fun g : Option Addr × Nat => pEq (.slice g.1 r.length g.2)) (fun g => oSl e k f g.1 r.length g.2 r :: Ω) := by
  intro I a w hs
  have hk : ∀ x, (f x).length = k := by obtain ⟨_, _, _, _, _, _, _, _, _, _, _, h9, _⟩ := he; exact h9
  obtain ⟨F, hF, ho1, hr⟩ := hs.o
  have hyJ := hy B.L I (fun b => I b ∨ F b) (fun b => b < w.heap.size) w (tm a) hs.bd (fun b _ hb _ => hb) hs.g hr
  obtain ⟨o2, c2, news, h1, h2, h3, h4, h5⟩ := pSl.vals hk hyJ
  exact append_core ho hT he (hx I w (tm a) hs.g) hl hs h1 ((FreePs.flat hfree m).vals h2) h3 h4 h5

theorem mkL_hdr {α : Type} {bytes : Nat} {n : Int} {l : List (List α)} (h : mkL bytes n [] = some l) : mkL bytes n ((none, 0, 0) : G3) = some (List.replicate n.toNat (none, 0, 0)) := by
  unfold mkL at h ⊢
  split at h
  · rename_i hn; rw [if_pos hn]
  · simp at h

/-- A literal of a slice that nobody writes. -/
theorem J_buildSlice {α : Type} {T e k bytes len : Nat} {parts : Array (Nat × Operand)} {f : α → List Pd} {z0 : α} {qss : List (Nat × List Pd)} {l : List α} (ho : o.op = .buildSlice T len parts) (hT : P.underlying T = some (.slice e)) (he : Elem P e k bytes f z0) (hlen : Nat.ble (len * k) 16777216 = true)
    (hp : Parts Γ parts.toList qss) (hf : fillPd (fun i => some (i * k, k)) ((List.replicate len z0).flatMap f) qss = some (l.flatMap f)) (hll : l.length = len) : OpJ P o Γ (pSl k f l) := by
  intro I w t hbd hg
  have hk : ∀ x, (f x).length = k := by obtain ⟨_, _, _, _, _, _, _, _, _, _, _, h9, _⟩ := he; exact h9
  obtain ⟨out, h1, h2⟩ := lit_run (t := t) ho hT he hlen hp hf hll hbd hg
  unfold Exec
  rw [h1]
  refine ⟨below_alloc _ _, (pSl k f l).mono (fun b hb => ?_) (fun _ _ => rfl) (oSl.frozen hk h2)⟩
  rcases hb with hb | hb
  · exact .inl hb
  · subst hb; exact .inr ⟨Nat.le_refl _, by rw [alloc_size]; omega⟩
end

/-! ### recursion -/
section
variable {σ β : Type}
def iterM (F : (σ → Option β) → σ → Option β) : Nat → σ → Option β
  | 0, _ => none
  | n + 1, s => F (iterM F n) s
open Classical in
/-- What the function yields from some depth on. -/
noncomputable def recM (F : (σ → Option β) → σ → Option β) (s : σ) : Option β :=
  if h : ∃ r N, ∀ n, N ≤ n → iterM F n s = some r then some h.choose else none
theorem recM_some {F : (σ → Option β) → σ → Option β} {s : σ} {r : β} (h : recM F s = some r) : ∃ n, iterM F n s = some r := by
  unfold recM at h
  split at h
  · rename_i hex
    cases h
    obtain ⟨N, hN⟩ := hex.choose_spec
    exact ⟨N, hN N (Nat.le_refl _)⟩
  · simp at h
theorem recM_of {F : (σ → Option β) → σ → Option β} {s : σ} {r : β} (N : Nat) (h : ∀ n, N ≤ n → iterM F n s = some r) : recM F s = some r := by
  unfold recM
  have hex : ∃ r N, ∀ n, N ≤ n → iterM F n s = some r := ⟨r, N, h⟩
  rw [dif_pos hex]
  obtain ⟨M, hM⟩ := hex.choose_spec
  have h1 := hM (max N M) (Nat.le_max_right _ _)
  have h2 := h (max N M) (Nat.le_max_left _ _)
  rw [h1] at h2
  exact h2
end
end Go.Wk
