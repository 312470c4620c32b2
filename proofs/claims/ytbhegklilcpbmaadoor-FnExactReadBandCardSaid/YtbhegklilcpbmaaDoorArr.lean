/-
  Arrays, whole comparisons, and boxes that are written once. No program in sight. Our own work.
-/
import Derived.Test.YtbhegklilcpbmaaDoorRowC
namespace Go.Wk
open Go Go.RowKit
abbrev cArr {α : Type} (f : α → List Pd) (l : List α) : List Pd := l.flatMap f

section
variable {P : Program} {o : Oper} {Γ : Env}

theorem flatMap_atB {α : Type} {f : α → List Pd} {k : Nat} : ∀ {l : List α}, l.all (fun x => Nat.beq (f x).length k) = true → ∀ {i : Nat} (h : i < l.length), ((l.flatMap f).drop (i * k)).take k = f l[i]
  | x :: l, hf, 0, _ => by
    simp only [List.all_cons, Bool.and_eq_true] at hf
    have := Nat.eq_of_beq_eq_true hf.1
    simp [List.flatMap_cons, List.take_left' this]
  | x :: l, hf, i + 1, h => by
    simp only [List.all_cons, Bool.and_eq_true] at hf
    have hx := Nat.eq_of_beq_eq_true hf.1
    have := flatMap_atB hf.2 (i := i) (by simpa using h)
    rw [List.flatMap_cons, Nat.add_mul, Nat.one_mul, Nat.add_comm, ← List.drop_drop, List.drop_left' hx]
    simpa using this

theorem all_of {α : Type} {f : α → List Pd} {k : Nat} (h : ∀ x, (f x).length = k) {l : List α} : l.all (fun x => Nat.beq (f x).length k) = true := by
  rw [List.all_eq_true]
  intro x _
  rw [h x]
  exact Nat.beq_refl k
theorem idx_len {α : Type} {n : Nat} {l : List (List α)} {i : Int} {y : List α} (h : l.all (fun x => Nat.beq x.length n) = true) (hy : idx l i = some y) : y.length = n := by
  obtain ⟨_, h1, rfl⟩ := idx_some hy
  exact Nat.eq_of_beq_eq_true (List.all_eq_true.1 h _ (List.getElem_mem h1))

/-- The address of an element of an array in the view. -/
theorem J_aidxAddr {α : Type} {T e k n : Nat} {x i : Operand} {kk : IntKind} {f : α → List Pd} {l : List α} {N : Int} {y : α} (ho : o.op = .indexAddr T x i) (hT : P.underlying T = some (.array n e)) (hk : ∀ w, (sizeOf e).run P w = .ok k w)
    (hx : Opd Γ x (pPtr (cArr f l))) (hi : Opd Γ i (pEq (.int kk N))) (hn : l.length = n) (hf : l.all (fun x => Nat.beq (f x).length k) = true) (hy : idx l N = some y) : OpJ P o Γ (pPtr (f y)) :=
  OpJ.val fun I w t _ hg => by
    obtain ⟨b, off, h, hb, hc⟩ := hx I w t hg
    have h2 : ev t i = .int kk N := hi I w t hg
    obtain ⟨h0, h1, rfl⟩ := idx_some hy
    have hlt : N < (n : Int) := by omega
    refine ⟨.pointer (some ⟨b, off + N.toNat * k, none⟩), ?_, b, _, rfl, hb, ?_⟩
    · simp only [execOp, ho, h, h2]
      rw [Sem.run_bind]
      simp only [Instr.indexAt, asIntOf, Sem.run_bind, Sem.run_pure, Result.andThen_ok, run_underlying hT, Instr.sureAddr, if_pos (show (0 ≤ N ∧ N < ((n : Nat) : Int)) from ⟨h0, hlt⟩), hk w, addr_add]
    · have := hc.sub (k := N.toNat * k) (n := k)
      rwa [flatMap_atB hf h1] at this

/-- An element of an array value. -/
theorem J_aindex {α : Type} {T e n : Nat} {x i : Operand} {kk : IntKind} {f : α → List Pd} {l : List α} {N : Int} {y : α} {q : Pd} (ho : o.op = .index T x i) (hT : P.underlying T = some (.array n e)) (ha : ∀ w, (isAgg e).run P w = .ok false w) (hk : ∀ w, (sizeOf e).run P w = .ok 1 w)
    (hx : Opd Γ x (pAgg (cArr f l))) (hi : Opd Γ i (pEq (.int kk N))) (hn : l.length = n) (hf : l.all (fun x => Nat.beq (f x).length 1) = true) (hy : idx l N = some y) (hq : f y = [q]) : OpJ P o Γ q :=
  OpJ.val fun I w t _ hg => by
    obtain ⟨vs, h, hv⟩ := hx I w t hg
    have h2 : ev t i = .int kk N := hi I w t hg
    obtain ⟨h0, h1, rfl⟩ := idx_some hy
    have hlt : N < (n : Int) := by omega
    have hs := hv.sub (k := N.toNat * 1) (n := 1)
    rw [flatMap_atB hf h1, hq, Nat.mul_one] at hs
    cases hd : (vs.drop N.toNat).take 1 with
    | nil => rw [hd] at hs; exact hs.elim
    | cons u us =>
      rw [hd] at hs
      have hu : vs[N.toNat]? = some u := by
        have := congrArg List.head? hd
        simpa [List.head?_take, List.head?_drop] using this
      refine ⟨u, ?_, hs.1⟩
      simp only [execOp, ho, h, h2]
      rw [Sem.run_bind]
      simp [Instr.index, asIntOf, run_underlying hT, h0, hlt, hk w, part, ha w, hu]
theorem J_aindexA {α : Type} {T e k n : Nat} {x i : Operand} {kk : IntKind} {f : α → List Pd} {l : List α} {N : Int} {y : α} (ho : o.op = .index T x i) (hT : P.underlying T = some (.array n e)) (ha : ∀ w, (isAgg e).run P w = .ok true w) (hk : ∀ w, (sizeOf e).run P w = .ok k w)
    (hx : Opd Γ x (pAgg (cArr f l))) (hi : Opd Γ i (pEq (.int kk N))) (hn : l.length = n) (hf : l.all (fun x => Nat.beq (f x).length k) = true) (hy : idx l N = some y) : OpJ P o Γ (pAgg (f y)) :=
  OpJ.val fun I w t _ hg => by
    obtain ⟨vs, h, hv⟩ := hx I w t hg
    have h2 : ev t i = .int kk N := hi I w t hg
    obtain ⟨h0, h1, rfl⟩ := idx_some hy
    have hlt : N < (n : Int) := by omega
    have hs := hv.sub (k := N.toNat * k) (n := k)
    rw [flatMap_atB hf h1] at hs
    refine ⟨.agg ((vs.drop (N.toNat * k)).take k).toArray, ?_, _, rfl, hs⟩
    simp only [execOp, ho, h, h2]
    rw [Sem.run_bind]
    simp [Instr.index, asIntOf, run_underlying hT, h0, hlt, hk w, part, ha w]

/-- All cells are exact. -/
theorem Vals.exact {I : Vw} {w : World} : ∀ {xs vs : List Value}, Vals I w (xs.map pEq) vs → vs = xs
  | [], [], _ => rfl
  | x :: xs, v :: vs, ⟨h, hr⟩ => by
    have h' : v = x := h
    rw [h', Vals.exact hr]
  | [], _ :: _, h => h.elim
  | _ :: _, [], h => h.elim
/-- Two structs of exact cells are compared. -/
theorem J_steq {op : BinOp} {T T' : TypeId} {x y : Operand} {ps qs : List Pd} {xs ys : List Value} {v : Value} (ho : o.op = .binOp op T x y T') (hx : Opd Γ x (pAgg ps)) (hy : Opd Γ y (pAgg qs)) (hps : ps = xs.map pEq) (hqs : qs = ys.map pEq) (hr : BinR op T x y (.agg xs.toArray) (.agg ys.toArray) v P) : OpJ P o Γ (pEq v) :=
  OpJ.val fun I w t _ hg => by
    obtain ⟨vs, h1, hv1⟩ := hx I w t hg
    obtain ⟨us, h2, hv2⟩ := hy I w t hg
    rw [hps] at hv1; rw [hqs] at hv2
    rw [hv1.exact] at h1; rw [hv2.exact] at h2
    refine ⟨v, ?_, rfl⟩
    have := hr w
    simp only [execOp, ho, h1, h2]
    rw [Sem.run_bind, this]
    rfl
theorem RegL.freeze {B : Bs} {Ω : List Own} {ops : Array Oper} {os : List Oper} {Q : Exit → Act → World → Prop} {b s : Nat} {ps : List Pd} (hl : lk s Γ = some (pEq (.pointer (some ⟨b, 0, none⟩)))) (h : RegL P B ops os ((s, pPtr ps) :: Γ) Ω Q) : RegL P B ops os Γ (oBlk b ps :: Ω) Q :=
  fun k hk => Ct.freeze hl (h k hk)

/-! ### '==' on structs, field by field -/
def EqG (P : Program) (d : Nat) (xs ys : Array Value) (fs : List Field) (c : Bool) : Prop := ∀ w, (Op.eqFields d xs ys fs).run P w = .ok c w
theorem EqF.nil {d : Nat} {xs ys : Array Value} : EqG P d xs ys [] true := fun _ => by unfold Op.eqFields; rfl
theorem EqF.cons {d : Nat} {xs ys : Array Value} {f : Field} {fs : List Field} {a b : Value} {r c : Bool} (hn : f.name ≠ "_") (ha : ∀ w, (isAgg f.type).run P w = .ok false w) (h1 : xs[f.offset]? = some a) (h2 : ys[f.offset]? = some b) (he : ∀ w, (Op.equalIn d f.type a b).run P w = .ok r w) (ht : EqG P d xs ys fs c) : EqG P d xs ys (f :: fs) (r && c) := fun w => by
  unfold Op.eqFields
  rw [if_pos hn]
  have p1 : (part f.type xs f.offset).run P w = .ok a w := by simp [part, ha w, h1]
  have p2 : (part f.type ys f.offset).run P w = .ok b w := by simp [part, ha w, h2]
  rw [Sem.run_bind, p1, Result.andThen_ok, Sem.run_bind, p2, Result.andThen_ok, Sem.run_bind, he w, Result.andThen_ok]
  cases r with
  | true => simpa using ht w
  | false => rfl
/-- A field that is a struct itself. -/
theorem EqF.consS {d k : Nat} {xs ys xs' ys' : Array Value} {f : Field} {fs : List Field} {fs' : Array Field} {r c : Bool} (hn : f.name ≠ "_") (ha : ∀ w, (isAgg f.type).run P w = .ok true w) (hk : ∀ w, (sizeOf f.type).run P w = .ok k w) (h1 : xs.extract f.offset (f.offset + k) = xs') (h2 : ys.extract f.offset (f.offset + k) = ys')
    (hT : P.underlying f.type = some (.struct fs')) (hst : P.stoodInHeld f.type = false) (he : EqG P d xs' ys' fs'.toList r) (ht : EqG P (d + 1) xs ys fs c) : EqG P (d + 1) xs ys (f :: fs) (r && c) := fun w => by
  unfold Op.eqFields
  rw [if_pos hn]
  have p1 : (part f.type xs f.offset).run P w = .ok (.agg xs') w := by simp [part, ha w, hk w, h1]
  have p2 : (part f.type ys f.offset).run P w = .ok (.agg ys') w := by simp [part, ha w, hk w, h2]
  have hf : P.fieldsOf f.type = fs' := by unfold Program.fieldsOf; rw [hT]
  have he' : (Op.equalIn (d + 1) f.type (.agg xs') (.agg ys')).run P w = .ok r w := by
    rw [run_equalIn_agg w d f.type _ _ (by rw [hf]; exact hT) hst, hf, he w]
  rw [Sem.run_bind, p1, Result.andThen_ok, Sem.run_bind, p2, Result.andThen_ok, Sem.run_bind, he', Result.andThen_ok]
  cases r with
  | true => simpa using ht w
  | false => rfl
theorem SE_int {d : Nat} {t : TypeId} {k k' : IntKind} {a b : Int} (h : P.underlying t = some (.int k')) : ∀ w, (Op.equalIn (d + 1) t (.int k a) (.int k b)).run P w = .ok (a == b) w := fun w => run_equalIn_int w d t k k' a b h
theorem SE_bool {d : Nat} {t : TypeId} {a b : Bool} (h : P.underlying t = some .bool) : ∀ w, (Op.equalIn (d + 1) t (.bool a) (.bool b)).run P w = .ok (a == b) w := fun w => run_equalIn_bool w d t a b h
theorem SE_str {d : Nat} {t : TypeId} {a b : ByteArray} (h : P.underlying t = some .string) : ∀ w, (Op.equalIn (d + 1) t (.string a) (.string b)).run P w = .ok (a.toList == b.toList) w := fun w => run_equalIn_string w d t a b h
theorem B_steql {T : TypeId} {x y : Operand} {xs ys : Array Value} {fs : Array Field} {c : Bool} (hT : P.underlying T = some (.struct fs)) (hst : P.stoodInHeld T = false) (hg : P.eqGuardType P.depth T = false) (h : EqG P 9999 xs ys fs.toList c) : BinR .eql T x y (.agg xs) (.agg ys) (.bool c) P := fun w => by
  have hg' : (eqGuard .eql T x y (.agg xs) (.agg ys)).run P w = .ok () w := by simp [eqGuard, hg]
  have hf : P.fieldsOf T = fs := by unfold Program.fieldsOf; rw [hT]
  rw [Sem.run_bind, hg', Result.andThen_ok, run_eql_struct, run_equalIn_agg w 9999 T _ _ (by rw [hf]; exact hT) hst, hf, h w]
  rfl
theorem B_stneq {T : TypeId} {x y : Operand} {xs ys : Array Value} {fs : Array Field} {c : Bool} (hT : P.underlying T = some (.struct fs)) (hst : P.stoodInHeld T = false) (hg : P.eqGuardType P.depth T = false) (h : EqG P 9999 xs ys fs.toList c) : BinR .neq T x y (.agg xs) (.agg ys) (.bool (!c)) P := fun w => by
  have hg' : (eqGuard .neq T x y (.agg xs) (.agg ys)).run P w = .ok () w := by simp [eqGuard, hg]
  have hf : P.fieldsOf T = fs := by unfold Program.fieldsOf; rw [hT]
  rw [Sem.run_bind, hg', Result.andThen_ok, run_neq_struct, run_equalIn_agg w 9999 T _ _ (by rw [hf]; exact hT) hst, hf, h w]
  rfl
end
end Go.Wk
