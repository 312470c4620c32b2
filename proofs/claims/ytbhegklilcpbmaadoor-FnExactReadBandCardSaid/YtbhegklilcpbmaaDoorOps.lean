/-
  The judgements of single operations: one lemma for each kind that the walks meet. No program in sight. Our own work.
-/
import Derived.Test.YtbhegklilcpbmaaDoorCore
namespace Go.Wk
open Go Go.RowKit

section
variable {P : Program} {o : Oper} {Γ : Env}

theorem Pd.here {p : Pd} {I : Vw} {w : World} {v : Value} (h : p.p I w v) : p.p (gr I w w) w v := p.mono gr_sub (fun _ _ => rfl) h

theorem OpJ.val {p : Pd} (h : ∀ (I : Vw) (w : World) (t : Nat → Value), (∀ b, I b → b < w.heap.size) → SatG I w t Γ → ∃ v, (execOp (ev t) o).run P w = .ok (.value v) w ∧ p.p I w v) : OpJ P o Γ p := by
  intro I w t hbd hg
  obtain ⟨v, hr, hp⟩ := h I w t hbd hg
  unfold Exec; rw [hr]
  exact ⟨Below.refl _ _, Pd.here hp⟩

theorem J_move {x : Operand} {p : Pd} (ho : o.op = .move x) (hx : Opd Γ x p) : OpJ P o Γ p :=
  OpJ.val fun I w t _ hg => ⟨ev t x, by simp [execOp, ho], hx I w t hg⟩
theorem J_assign {x : Operand} {p : Pd} (ho : o.op = .assign x) (hx : Opd Γ x p) : OpJ P o Γ p :=
  OpJ.val fun I w t _ hg => ⟨ev t x, by simp [execOp, ho], hx I w t hg⟩
theorem J_pick {c x y : Operand} {b : Bool} {p : Pd} (ho : o.op = .pick c x y) (hc : Opd Γ c (pEq (.bool b))) (hx : b = true → Opd Γ x p) (hy : b = false → Opd Γ y p) : OpJ P o Γ p :=
  OpJ.val fun I w t _ hg => by
    have h := hc I w t hg
    simp only [pEq] at h
    cases b
    · exact ⟨ev t y, by simp [execOp, ho, h, asBool], hy rfl I w t hg⟩
    · exact ⟨ev t x, by simp [execOp, ho, h, asBool], hx rfl I w t hg⟩

/-! ### two operands -/
def BinR (op : BinOp) (T : TypeId) (x y : Operand) (a b v : Value) (P : Program) : Prop :=
  ∀ w, (do eqGuard op T x y a b; binOp op T a b : Sem Value).run P w = .ok v w

theorem J_bin {op : BinOp} {T T' : TypeId} {x y : Operand} {a b v : Value} (ho : o.op = .binOp op T x y T') (hx : Opd Γ x (pEq a)) (hy : Opd Γ y (pEq b)) (hr : BinR op T x y a b v P) : OpJ P o Γ (pEq v) :=
  OpJ.val fun I w t _ hg => by
    have h1 : ev t x = a := hx I w t hg
    have h2 : ev t y = b := hy I w t hg
    refine ⟨v, ?_, rfl⟩
    have := hr w
    simp only [execOp, ho, h1, h2]
    rw [Sem.run_bind, this]
    rfl

section
variable {T : TypeId} {x y : Operand} {k : IntKind} {m n : Int}
theorem B_add : BinR .add T x y (.int k m) (.int k n) (.int k (k.wrap (m + n))) P := fun w => by simp [eqGuard, binOp, Op.intArith]
theorem B_sub : BinR .sub T x y (.int k m) (.int k n) (.int k (k.wrap (m - n))) P := fun w => by simp [eqGuard, binOp, Op.intArith]
theorem B_mul : BinR .mul T x y (.int k m) (.int k n) (.int k (k.wrap (m * n))) P := fun w => by simp [eqGuard, binOp, Op.intArith]
theorem B_quo (h : n ≠ 0) : BinR .quo T x y (.int k m) (.int k n) (.int k (k.wrap (m.tdiv n))) P := fun w => by simp [eqGuard, binOp, Op.intDiv, h]
theorem B_rem (h : n ≠ 0) : BinR .rem T x y (.int k m) (.int k n) (.int k (m.tmod n)) P := fun w => by simp [eqGuard, binOp, Op.intDiv, h]
theorem B_lss : BinR .lss T x y (.int k m) (.int k n) (.bool (decide (m < n))) P := fun w => by simp [eqGuard, binOp, Op.intCmp]
theorem B_leq : BinR .leq T x y (.int k m) (.int k n) (.bool (decide (m ≤ n))) P := fun w => by simp [eqGuard, binOp, Op.intCmp]
theorem B_gtr : BinR .gtr T x y (.int k m) (.int k n) (.bool (decide (n < m))) P := fun w => by simp [eqGuard, binOp, Op.intCmp]
theorem B_geq : BinR .geq T x y (.int k m) (.int k n) (.bool (decide (n ≤ m))) P := fun w => by simp [eqGuard, binOp, Op.intCmp]
theorem B_eql : BinR .eql T x y (.int k m) (.int k n) (.bool (m == n)) P := fun w => by simp [eqGuard, binOp, Op.intCmp]
theorem B_neq : BinR .neq T x y (.int k m) (.int k n) (.bool (m != n)) P := fun w => by simp [eqGuard, binOp, Op.intCmp]
theorem B_seql {a b : ByteArray} : BinR .eql T x y (.string a) (.string b) (.bool (a.toList == b.toList)) P := fun w => by
  simp [eqGuard, binOp, Op.stringOp]
theorem B_sneq {a b : ByteArray} : BinR .neq T x y (.string a) (.string b) (.bool (!(a.toList == b.toList))) P := fun w => by
  simp [eqGuard, binOp, Op.stringOp]
theorem B_slss {a b : ByteArray} : BinR .lss T x y (.string a) (.string b) (.bool (Op.bytesLess a.toList b.toList)) P := fun w => by
  simp [eqGuard, binOp, Op.stringOp]
theorem B_sleq {a b : ByteArray} : BinR .leq T x y (.string a) (.string b) (.bool (Op.bytesLess a.toList b.toList || a.toList == b.toList)) P := fun w => by
  simp [eqGuard, binOp, Op.stringOp]
theorem B_sgtr {a b : ByteArray} : BinR .gtr T x y (.string a) (.string b) (.bool (!(Op.bytesLess a.toList b.toList || a.toList == b.toList))) P := fun w => by
  simp [eqGuard, binOp, Op.stringOp]
theorem B_sgeq {a b : ByteArray} : BinR .geq T x y (.string a) (.string b) (.bool (!Op.bytesLess a.toList b.toList)) P := fun w => by
  simp [eqGuard, binOp, Op.stringOp]
theorem B_beql {a b : Bool} (h : P.underlying T = some .bool) : BinR .eql T x y (.bool a) (.bool b) (.bool (a == b)) P := fun w => by
  simp [eqGuard, binOp, run_equal_bool w T a b h]
theorem B_bneq {a b : Bool} (h : P.underlying T = some .bool) : BinR .neq T x y (.bool a) (.bool b) (.bool (a != b)) P := fun w => by
  simp [eqGuard, binOp, run_equal_bool w T a b h, bne]
end

theorem J_not {T : TypeId} {x : Operand} {b : Bool} (ho : o.op = .unOp .not T x) (hx : Opd Γ x (pEq (.bool b))) : OpJ P o Γ (pEq (.bool (!b))) :=
  OpJ.val fun I w t _ hg => by
    have h : ev t x = .bool b := hx I w t hg
    exact ⟨_, by simp [execOp, ho, h, Op.unary], rfl⟩
theorem J_neg {T : TypeId} {x : Operand} {k : IntKind} {n : Int} (ho : o.op = .unOp .neg T x) (hx : Opd Γ x (pEq (.int k n))) : OpJ P o Γ (pEq (.int k (k.wrap (0 - n)))) :=
  OpJ.val fun I w t _ hg => by
    have h : ev t x = .int k n := hx I w t hg
    exact ⟨.int k (k.wrap (0 - n)), by simp [execOp, ho, h, Op.unary, Op.intArith], rfl⟩
theorem J_conv {S D : TypeId} {x : Operand} {k k' : IntKind} {n : Int} {d : TypeDesc} (ho : o.op = .convert S D x) (hs : P.underlying S = some d) (hd : P.underlying D = some (.int k')) (hx : Opd Γ x (pEq (.int k n))) : OpJ P o Γ (pEq (.int k' (k'.wrap n))) :=
  OpJ.val fun I w t _ hg => by
    have h : ev t x = .int k n := hx I w t hg
    exact ⟨.int k' (k'.wrap n), by simp [execOp, ho, h, convert, run_underlying hs, run_underlying hd, Conv.intToInt], rfl⟩

/-! ### lengths, elements, fields -/
theorem J_len {α : Type} {T e ty : TypeId} {x : Operand} {k : Nat} {f : α → List Pd} {l : List α} (ho : o.op = .call { callee := .builtin .len, args := #[x], argTypes := #[T] }) (hT : P.underlying T = some (.slice e)) (hx : Opd Γ x (pSl k f l)) (_ : ty = o.type) :
    OpJ P o Γ (pEq (.int .i64 (l.length : Int))) :=
  OpJ.val fun I w t _ hg => by
    obtain ⟨b, cap, h, _, _, _⟩ := hx I w t hg
    exact ⟨.int .i64 l.length, by simp [execOp, ho, h, resolve, invoke, builtin, Builtin.len_, run_underlying hT, goInt], rfl⟩
theorem J_slen {T ty : TypeId} {x : Operand} {s : ByteArray} (ho : o.op = .call { callee := .builtin .len, args := #[x], argTypes := #[T] }) (hT : P.underlying T = some .string) (hx : Opd Γ x (pEq (.string s))) (_ : ty = o.type) :
    OpJ P o Γ (pEq (.int .i64 (s.size : Int))) :=
  OpJ.val fun I w t _ hg => by
    have h : ev t x = .string s := hx I w t hg
    exact ⟨.int .i64 s.size, by simp [execOp, ho, h, resolve, invoke, builtin, Builtin.len_, run_underlying hT, goInt], rfl⟩

/-- The element at a place that may lie outside. -/
def idx {α : Type} (l : List α) (n : Int) : Option α := if 0 ≤ n then l[n.toNat]? else none

theorem idx_some {α : Type} {l : List α} {n : Int} {y : α} (h : idx l n = some y) : 0 ≤ n ∧ ∃ h : n.toNat < l.length, l[n.toNat] = y := by
  unfold idx at h
  split at h
  · rename_i h0
    obtain ⟨h1, h2⟩ := List.getElem?_eq_some_iff.1 h
    exact ⟨h0, h1, h2⟩
  · simp at h

theorem addr_add (b off n : Nat) : (Addr.add ⟨b, off, none⟩ n) = ⟨b, off + n, none⟩ := by
  unfold Addr.add; split <;> simp_all

theorem J_idx {α : Type} {T e : TypeId} {x i : Operand} {kk : IntKind} {k : Nat} {f : α → List Pd} {l : List α} {n : Int} {y : α} (ho : o.op = .indexAddr T x i) (hT : P.underlying T = some (.slice e)) (hk : ∀ w, (sizeOf e).run P w = .ok k w)
    (hx : Opd Γ x (pSl k f l)) (hi : Opd Γ i (pEq (.int kk n))) (hy : idx l n = some y) : OpJ P o Γ (pPtr (f y)) :=
  OpJ.val fun I w t _ hg => by
    obtain ⟨b, cap, h, _, _, hc⟩ := hx I w t hg
    have h2 : ev t i = .int kk n := hi I w t hg
    obtain ⟨h0, h1, rfl⟩ := idx_some hy
    obtain ⟨b', off, rfl, hb, hcs⟩ := hc n.toNat h1
    refine ⟨.pointer (some ⟨b', off + n.toNat * k, none⟩), ?_, b', _, rfl, hb, hcs⟩
    have hlt : n < (l.length : Int) := by omega
    simp only [execOp, ho, h, h2]
    rw [Sem.run_bind]
    simp only [Instr.indexAt, asIntOf, Sem.run_bind, Sem.run_pure, Result.andThen_ok, run_underlying hT, if_pos (show (0 ≤ n ∧ n < (l.length : Int)) from ⟨h0, hlt⟩), hk w, addr_add]

theorem J_sidx {T : TypeId} {x i : Operand} {kk : IntKind} {s : ByteArray} {n : Int} {y : UInt8} (ho : o.op = .index T x i) (hT : P.underlying T = some .string)
    (hx : Opd Γ x (pEq (.string s))) (hi : Opd Γ i (pEq (.int kk n))) (hy : idx s.data.toList n = some y) : OpJ P o Γ (pEq (.int .u8 (y.toNat : Int))) :=
  OpJ.val fun I w t _ hg => by
    have h1 : ev t x = .string s := hx I w t hg
    have h2 : ev t i = .int kk n := hi I w t hg
    obtain ⟨h0, h3, rfl⟩ := idx_some hy
    refine ⟨_, ?_, rfl⟩
    have hlt : n < (s.size : Int) := by
      have : s.data.toList.length = s.size := Array.length_toList
      omega
    simp only [execOp, ho, h1, h2]
    rw [Sem.run_bind, run_index_string w T s kk n hT, dif_pos ⟨h0, hlt⟩]
    rfl

theorem J_nilCheck {x : Operand} {ps : List Pd} (ho : o.op = .nilCheck x) (hx : Opd Γ x (pPtr ps)) : OpJ P o Γ (pPtr ps) :=
  OpJ.val fun I w t _ hg => by
    obtain ⟨b, off, h, _, _⟩ := hx I w t hg
    exact ⟨ev t x, by simp [execOp, ho, h], hx I w t hg⟩
theorem J_nilCheckE {x : Operand} {a : Addr} (ho : o.op = .nilCheck x) (hx : Opd Γ x (pEq (.pointer (some a)))) : OpJ P o Γ (pEq (.pointer (some a))) :=
  OpJ.val fun I w t _ hg => by
    have h : ev t x = _ := hx I w t hg
    exact ⟨ev t x, by simp [execOp, ho, h], h⟩
/-- Quotient and remainder, none where Go panics. -/
def qdiv (k : IntKind) (a b : Int) : Option Int := if b = 0 then none else some (k.wrap (a.tdiv b))
def rdiv (a b : Int) : Option Int := if b = 0 then none else some (a.tmod b)
theorem B_qdiv {T : TypeId} {x y : Operand} {k : IntKind} {m n q : Int} (h : qdiv k m n = some q) : BinR .quo T x y (.int k m) (.int k n) (.int k q) P := fun w => by
  unfold qdiv at h
  split at h
  · simp at h
  · rename_i hn; cases h; exact B_quo hn w
theorem B_rdiv {T : TypeId} {x y : Operand} {k : IntKind} {m n q : Int} (h : rdiv m n = some q) : BinR .rem T x y (.int k m) (.int k n) (.int k q) P := fun w => by
  unfold rdiv at h
  split at h
  · simp at h
  · rename_i hn; cases h; exact B_rem hn w

theorem J_load {T : TypeId} {x : Operand} {q : Pd} {r : List Pd} (ho : o.op = .load T x) (hT : ∀ w, (isAgg T).run P w = .ok false w) (hx : Opd Γ x (pPtr (q :: r))) : OpJ P o Γ q :=
  OpJ.val fun I w t _ hg => by
    obtain ⟨b, off, h, _, ⟨v, hv, hp⟩, _⟩ := hx I w t hg
    exact ⟨v, by simp [execOp, ho, h, Instr.loadAt, Instr.sureAddr, loadVar, hT w, hv], hp⟩

theorem Cells.vals {I : Vw} {w : World} {b : Nat} : ∀ {ps : List Pd} {off : Nat}, Cells I w b off ps → ∃ vs : List Value, Vals I w ps vs ∧ ∀ (j : Nat) v, vs[j]? = some v → w.cell? ⟨b, off + j, none⟩ = some v
  | [], _, _ => ⟨[], trivial, by simp⟩
  | q :: r, off, ⟨⟨v, hv, hp⟩, hr⟩ => by
    obtain ⟨vs, hvs, hc⟩ := Cells.vals hr
    refine ⟨v :: vs, ⟨hp, hvs⟩, fun j u hu => ?_⟩
    cases j with
    | zero => simp at hu; subst hu; exact hv
    | succ j => simp at hu; have := hc j u hu; rwa [show off + 1 + j = off + (j + 1) by omega] at this

theorem J_loadA {T : TypeId} {n : Nat} {x : Operand} {ps : List Pd} (ho : o.op = .load T x) (hT : ∀ w, (isAgg T).run P w = .ok true w) (hn : ∀ w, (sizeOf T).run P w = .ok n w) (hx : Opd Γ x (pPtr ps)) (hl : ps.length = n) : OpJ P o Γ (pAgg ps) :=
  OpJ.val fun I w t _ hg => by
    obtain ⟨b, off, h, _, hc⟩ := hx I w t hg
    obtain ⟨vs, hvs, hcs⟩ := hc.vals
    refine ⟨.agg vs.toArray, ?_, vs, rfl, hvs⟩
    have hll : vs.length = n := by rw [hvs.length, hl]
    have := run_loadCells_list (P := P) w ⟨b, off, none⟩ vs (fun j v hj => by rw [addr_add]; exact hcs j v hj)
    rw [hll] at this
    simp [execOp, ho, h, Instr.loadAt, Instr.sureAddr, loadVar, hT w, hn w, this]

theorem Cells.sub {I : Vw} {w : World} {b : Nat} : ∀ {ps : List Pd} {off k n : Nat}, Cells I w b off ps → Cells I w b (off + k) ((ps.drop k).take n)
  | [], _, k, n, _ => by simp [Cells]
  | q :: r, off, 0, 0, _ => by simp [Cells]
  | q :: r, off, 0, n + 1, ⟨h, hr⟩ => by
    have := Cells.sub (k := 0) (n := n) hr
    simp only [List.drop_zero, Nat.add_zero, List.take_succ_cons] at *
    exact ⟨h, this⟩
  | q :: r, off, k + 1, n, ⟨_, hr⟩ => by
    have := Cells.sub (k := k) (n := n) hr
    rwa [show off + 1 + k = off + (k + 1) by omega] at this

theorem J_fieldAddr {S : TypeId} {x : Operand} {i n : Nat} {fs : Array Field} {fd : Field} {ps qs : List Pd} (ho : o.op = .fieldAddr S x i) (hS : P.underlying S = some (.struct fs)) (hf : fs[i]? = some fd) (hn : ∀ w, (sizeOf fd.type).run P w = .ok n w) (hn0 : n ≠ 0)
    (hx : Opd Γ x (pPtr ps)) (hq : (ps.drop fd.offset).take n = qs) : OpJ P o Γ (pPtr qs) :=
  OpJ.val fun I w t _ hg => by
    obtain ⟨b, off, h, hb, hc⟩ := hx I w t hg
    subst hq
    refine ⟨.pointer (some ⟨b, off + fd.offset, none⟩), ?_, b, _, rfl, hb, hc.sub⟩
    simp [execOp, ho, h, Instr.fieldAt, Instr.sureAddr, fieldPlace, run_underlying hS, hf, hn w, hn0, addr_add]

theorem Vals.get {I : Vw} {w : World} : ∀ {ps : List Pd} {vs : List Value} {j : Nat} {q : Pd}, Vals I w ps vs → ps[j]? = some q → ∃ v, vs[j]? = some v ∧ q.p I w v
  | q' :: r, v :: vs, 0, q, ⟨h, _⟩, hq => by simp at hq; subst hq; exact ⟨v, by simp, h⟩
  | q' :: r, v :: vs, j + 1, q, ⟨_, hr⟩, hq => by
    obtain ⟨u, hu, hp⟩ := Vals.get (j := j) hr (by simpa using hq)
    exact ⟨u, by simpa using hu, hp⟩
  | [], _, j, q, _, hq => by simp at hq
  | _ :: _, [], _, _, h, _ => h.elim
theorem Vals.sub {I : Vw} {w : World} : ∀ {ps : List Pd} {vs : List Value} {k n : Nat}, Vals I w ps vs → Vals I w ((ps.drop k).take n) ((vs.drop k).take n)
  | [], [], k, n, _ => by simp [Vals]
  | q :: r, v :: vs, 0, 0, _ => by simp [Vals]
  | q :: r, v :: vs, 0, n + 1, ⟨h, hr⟩ => by
    have := Vals.sub (k := 0) (n := n) hr
    simp only [List.drop_zero, List.take_succ_cons] at *
    exact ⟨h, this⟩
  | q :: r, v :: vs, k + 1, n, ⟨_, hr⟩ => by simpa using Vals.sub (k := k) (n := n) hr
  | [], _ :: _, _, _, h => h.elim
  | _ :: _, [], _, _, h => h.elim

theorem J_field {S : TypeId} {x : Operand} {i : Nat} {fs : Array Field} {fd : Field} {ps : List Pd} {q : Pd} (ho : o.op = .field S x i) (hS : P.underlying S = some (.struct fs)) (hf : fs[i]? = some fd) (ha : ∀ w, (isAgg fd.type).run P w = .ok false w)
    (hx : Opd Γ x (pAgg ps)) (hq : ps[fd.offset]? = some q) : OpJ P o Γ q :=
  OpJ.val fun I w t _ hg => by
    obtain ⟨vs, h, hv⟩ := hx I w t hg
    obtain ⟨u, hu, hp⟩ := hv.get hq
    exact ⟨u, by simp [execOp, ho, h, Instr.field, asAgg, part, run_underlying hS, hf, ha w, hu], hp⟩
theorem J_fieldA {S : TypeId} {x : Operand} {i n : Nat} {fs : Array Field} {fd : Field} {ps qs : List Pd} (ho : o.op = .field S x i) (hS : P.underlying S = some (.struct fs)) (hf : fs[i]? = some fd) (ha : ∀ w, (isAgg fd.type).run P w = .ok true w) (hn : ∀ w, (sizeOf fd.type).run P w = .ok n w)
    (hx : Opd Γ x (pAgg ps)) (hq : (ps.drop fd.offset).take n = qs) : OpJ P o Γ (pAgg qs) :=
  OpJ.val fun I w t _ hg => by
    obtain ⟨vs, h, hv⟩ := hx I w t hg
    subst hq
    refine ⟨.agg ((vs.drop fd.offset).take n).toArray, ?_, _, rfl, hv.sub⟩
    simp [execOp, ho, h, Instr.field, asAgg, part, run_underlying hS, hf, ha w, hn w]

theorem J_extract {x : Operand} {i : Nat} {ps : List Pd} {q : Pd} (ho : o.op = .extract x i) (hx : Opd Γ x (pTup ps)) (hq : ps[i]? = some q) : OpJ P o Γ q :=
  OpJ.val fun I w t _ hg => by
    obtain ⟨vs, h, hv⟩ := hx I w t hg
    obtain ⟨u, hu, hp⟩ := hv.get hq
    exact ⟨u, by simp [execOp, ho, h, Instr.extract, hu], hp⟩

/-! ### calls -/
theorem Opd.nilsl {α : Type} {k : Nat} {f : α → List Pd} : Opd Γ (.const (.slice none 0 0)) (pSl k f []) := fun _ _ _ _ => ⟨none, 0, rfl, Nat.le_refl _, fun _ => rfl, fun i h => by simp at h⟩

def Opds (Γ : Env) : List Operand → List Pd → Prop
  | [], [] => True
  | x :: xs, p :: ps => Opd Γ x p ∧ Opds Γ xs ps
  | _, _ => False

theorem Opds.nil : Opds Γ [] [] := trivial
theorem Opds.cons {x : Operand} {xs : List Operand} {p : Pd} {ps : List Pd} (h : Opd Γ x p) (t : Opds Γ xs ps) : Opds Γ (x :: xs) (p :: ps) := ⟨h, t⟩
theorem Opds.vals {I : Vw} {w : World} {t : Nat → Value} (hg : SatG I w t Γ) : ∀ {xs : List Operand} {ps : List Pd}, Opds Γ xs ps → Vals I w ps (xs.map (ev t))
  | [], [], _ => trivial
  | _ :: _, _ :: _, ⟨h, hr⟩ => ⟨h I w t hg, Opds.vals hg hr⟩
  | [], _ :: _, h => h.elim
  | _ :: _, [], h => h.elim

def Enters (P : Program) (f : FuncId) : Prop := ∀ (args : Array Value) (w : World), (callFunc f args).run P w = .ok (.enter f args) w

theorem J_call {f : FuncId} {xs : Array Operand} {ts : Array TypeId} {ps : List Pd} {q : Pd} (ho : o.op = .call { callee := .value (.func f), args := xs, argTypes := ts }) (he : Enters P f) (hc : CallJ P f ps q) (hx : Opds Γ xs.toList ps) : OpJ P o Γ q := by
  intro I w t hbd hg
  have hv := Opds.vals hg hx
  have hr : (execOp (ev t) o).run P w = .ok (.enter f ((xs.toList.map (ev t)).toArray)) w := by
    have : Array.map (ev t) xs = (xs.toList.map (ev t)).toArray := by apply Array.ext'; simp
    simp only [execOp, ho, resolve, ev, Deferred.ofValue, invoke, this]
    simp [he _ w]
  unfold Exec; rw [hr]
  exact (hc I w _ hbd hv).mono fun e w' ⟨v, h1, h2, h3⟩ => ⟨v, h1, h2, h3⟩

/-- A function value: called with values of the kind A x, it returns one of the kind R (f x). -/
def pFn (P : Program) {α β : Type} (A : α → List Pd) (f : α → Option β) (R : β → Pd) : Pd :=
  ⟨fun I w v => ∃ k caps cps, v = .func (.func k) #[] (List.toArray caps) ∧ Enters P k ∧ Vals I w cps caps ∧ ∀ x y, f x = some y → CallJ P k (A x ++ cps) (R y),
   fun hI hw ⟨k, caps, cps, hv, he, hc, h⟩ => ⟨k, caps, cps, hv, he, Vals.mono hI hw hc, h⟩⟩

theorem Vals.append {I : Vw} {w : World} : ∀ {ps qs : List Pd} {vs us : List Value}, Vals I w ps vs → Vals I w qs us → Vals I w (ps ++ qs) (vs ++ us)
  | [], _, [], _, _, h => h
  | _ :: _, _, _ :: _, _, ⟨h, hr⟩, h' => ⟨h, Vals.append hr h'⟩
  | [], _, _ :: _, _, h, _ => h.elim
  | _ :: _, _, [], _, h, _ => h.elim

theorem J_makeFn {α β : Type} {k : FuncId} {xs : Array Operand} {cps : List Pd} {A : α → List Pd} {f : α → Option β} {R : β → Pd} (ho : o.op = .makeFunc (.func k) #[] xs) (he : Enters P k) (hx : Opds Γ xs.toList cps)
    (h : ∀ x y, f x = some y → CallJ P k (A x ++ cps) (R y)) : OpJ P o Γ (pFn P A f R) :=
  OpJ.val fun I w t _ hg => by
    refine ⟨.func (.func k) #[] (xs.toList.map (ev t)).toArray, ?_, k, _, cps, rfl, he, Opds.vals hg hx, h⟩
    have : Array.map (ev t) xs = (xs.toList.map (ev t)).toArray := by apply Array.ext'; simp
    simp [execOp, ho, Instr.makeFunc, this]
theorem Opd.fnv {α β : Type} {k : FuncId} {A : α → List Pd} {f : α → Option β} {R : β → Pd} (he : Enters P k) (h : ∀ x y, f x = some y → CallJ P k (A x) (R y)) : Opd Γ (.func k) (pFn P A f R) :=
  fun _ _ _ _ => ⟨k, [], [], rfl, he, trivial, fun x y hxy => by simpa using h x y hxy⟩

theorem J_callv {α β : Type} {g : Operand} {xs : Array Operand} {ts : Array TypeId} {A : α → List Pd} {f : α → Option β} {R : β → Pd} {x : α} {y : β} {ps : List Pd} {p : Pd} (ho : o.op = .call { callee := .value g, args := xs, argTypes := ts }) (hg : Opd Γ g (pFn P A f R)) (hA : A x = ps) (hx : Opds Γ xs.toList ps) (hy : f x = some y) (hp : R y = p) : OpJ P o Γ p := by
  subst hA hp
  intro I w t hbd hgm
  obtain ⟨k, caps, cps, hgv, he, hcaps, hf⟩ := hg I w t hgm
  have hv := (Opds.vals hgm hx).append hcaps
  have hr : (execOp (ev t) o).run P w = .ok (.enter k ((xs.toList.map (ev t) ++ caps).toArray)) w := by
    have : Array.map (ev t) xs = (xs.toList.map (ev t)).toArray := by apply Array.ext'; simp
    simp only [execOp, ho, resolve, hgv, Deferred.ofValue, invoke, this]
    simp [he _ w]
  unfold Exec; rw [hr]
  exact (hf x y hy I w _ hbd hv).mono fun e w' ⟨v, h1, h2, h3⟩ => ⟨v, h1, h2, h3⟩

/-! ### min, max -/
theorem J_max2 {x y : Operand} {ts : Array TypeId} {k : IntKind} {m n : Int} (ho : o.op = .call { callee := .builtin .max, args := #[x, y], argTypes := ts }) (hx : Opd Γ x (pEq (.int k m))) (hy : Opd Γ y (pEq (.int k n))) : OpJ P o Γ (pEq (.int k (if n > m then n else m))) :=
  OpJ.val fun I w t _ hg => by
    have h1 : ev t x = .int k m := hx I w t hg
    have h2 : ev t y = .int k n := hy I w t hg
    exact ⟨_, by simp [execOp, ho, h1, h2, resolve, invoke, builtin, Builtin.max_, Builtin.max2], rfl⟩
theorem J_min2 {x y : Operand} {ts : Array TypeId} {k : IntKind} {m n : Int} (ho : o.op = .call { callee := .builtin .min, args := #[x, y], argTypes := ts }) (hx : Opd Γ x (pEq (.int k m))) (hy : Opd Γ y (pEq (.int k n))) : OpJ P o Γ (pEq (.int k (if n < m then n else m))) :=
  OpJ.val fun I w t _ hg => by
    have h1 : ev t x = .int k m := hx I w t hg
    have h2 : ev t y = .int k n := hy I w t hg
    exact ⟨_, by simp [execOp, ho, h1, h2, resolve, invoke, builtin, Builtin.min_, Builtin.min2], rfl⟩
end
end Go.Wk
