/-
  So many zeros appended to a nil slice. No program in sight. Our own work.
-/
import Derived.Test.YtbhegklilcpbmaaDoorCopy
import Derived.Lib.AppendZeros
namespace Go.Wk
open Go Go.RowKit

/-- So many zeros, at least one: none where Go would panic or run out of room. -/
def zeroL {α : Type} (bytes : Nat) (n : Int) (z : α) : Option (List α) := if 0 < n then mkL bytes n z else none
theorem zeroL_some {α : Type} {bytes : Nat} {n : Int} {z : α} {l : List α} (h : zeroL bytes n z = some l) : 0 < n ∧ mkL bytes n z = some l := by
  unfold zeroL at h
  split at h
  · rename_i hn; exact ⟨hn, h⟩
  · simp at h

section
variable {P : Program} {B : Bs} {o : Oper} {Γ : Env} {Ω : List Own}

theorem J_nilCap {T e : TypeId} {x : Operand} (ho : o.op = .call { callee := .builtin .cap, args := #[x], argTypes := #[T] }) (hT : P.underlying T = some (.slice e)) (hx : Opd Γ x (pEq (.slice none 0 0))) : OpJ P o Γ (pEq (.int .i64 (0 : Int))) :=
  OpJ.val fun I w t _ hg => by
    have h : ev t x = _ := hx I w t hg
    exact ⟨.int .i64 0, by simp [execOp, ho, h, resolve, invoke, builtin, Builtin.cap_, run_underlying hT, goInt], rfl⟩

theorem J_cap {T e n cap : Nat} {ad : Option Addr} {x : Operand} (ho : o.op = .call { callee := .builtin .cap, args := #[x], argTypes := #[T] }) (hT : P.underlying T = some (.slice e)) (hx : Opd Γ x (pEq (.slice ad n cap))) : OpJ P o Γ (pEq (.int .i64 ((cap : Nat) : Int))) :=
  OpJ.val fun I w t _ hg => by
    have h : ev t x = _ := hx I w t hg
    exact ⟨.int .i64 cap, by simp [execOp, ho, h, resolve, invoke, builtin, Builtin.cap_, run_underlying hT, goInt], rfl⟩
theorem J_nilCut {T e k : TypeId} {x hi : Operand} {kk : IntKind} (ho : o.op = .slice T x none (some hi) none) (hT : P.underlying T = some (.slice e)) (hk : ∀ w, (sizeOf e).run P w = .ok k w) (hx : Opd Γ x (pEq (.slice none 0 0))) (hhi : Opd Γ hi (pEq (.int kk 0))) : OpJ P o Γ (pEq (.slice none 0 0)) :=
  OpJ.val fun I w t _ hg => by
    have h : ev t x = _ := hx I w t hg
    obtain ⟨h1, _, _⟩ := run_bounds (P := P) (w := w) (lo := none) (l0 := none) (len := 0) (cap := 0) (lh := (0, 0)) hg (b := true) (Nat.le_refl _) SOpd.none (SOpd.some hhi) rfl
    simp only [Option.map_none] at h1
    refine ⟨.slice none 0 0, ?_, rfl⟩
    simp only [execOp, ho, h]
    rw [Sem.run_bind]
    simp only [Instr.sliceAt, Sem.run_bind, run_underlying hT, Result.andThen_ok, Instr.slice, Option.map_none, Sem.run_pure, h1, hk w]
    rfl

theorem M_appendZ {α : Type} {T T' e k bytes : Nat} {x y : Operand} {kn kk : IntKind} {N : Int} {f : α → List Pd} {z0 : α} {l : List α} (ho : o.op = .call { callee := .builtin .append, args := #[x, y], argTypes := #[T, T'] }) (hT : P.underlying T = some (.slice e)) (hT' : P.underlying T' = some (.int kn)) (he : Elem P e k bytes f z0) (hb : 0 < bytes)
    (hx : Opd Γ x (pEq (.slice none 0 0))) (hy : Opd Γ y (pEq (.int kk N))) (hz : zeroL bytes N z0 = some l) :
    OpM P B o Γ Ω (fun g : Option Addr × Nat => pEq (.slice g.1 N.toNat g.2)) (fun g => oSl e k f g.1 N.toNat g.2 l :: Ω) := by
  intro I a w hs
  have hxv : ev (tm a) x = _ := hx I w (tm a) hs.g
  have hyv : ev (tm a) y = _ := hy I w (tm a) hs.g
  obtain ⟨hpos, hl⟩ := zeroL_some hz
  obtain ⟨hN, rfl⟩ := mkL_some hl
  obtain ⟨i, z, vs, h1, h2, h3, h4, h5, h6, h7, h8, _, _⟩ := he
  have hn : ((N.toNat : Nat) : Int) = N := by omega
  have hNb : N.toNat * i.bytes ≤ 140737488355328 := by
    have := hN.2
    rw [h4]
    have e : (((N.toNat * bytes : Nat)) : Int) = N * bytes := by rw [Int.natCast_mul, hn]
    omega
  have hNm : N.toNat ≤ 140737488355328 := by
    have : N.toNat * 1 ≤ N.toNat * i.bytes := Nat.mul_le_mul_left _ (by omega)
    omega
  have hrun := Lib.run_append_nil_zeros (P := P) w T T' o.type e i z kk kn hT hT' h1 h2 N.toNat (by omega) (by omega) (by omega) (by omega)
  rw [hn] at hrun
  have hsz : z.cells.size = k := by rw [h5]; simpa using h6
  unfold Exec
  have hex : (execOp (ev (tm a)) o).run P w = .ok (.value (.slice (some ⟨w.heap.size, 0, none⟩) N.toNat (grownCap w N.toNat 0 e))) (w.drew.alloc (.cells (Builtin.zeroCells z.cells N.toNat ++ Builtin.zeroCells z.cells (grownCap w N.toNat 0 e - N.toNat)) e)) := by
    have hargs : Array.map (ev (tm a)) #[x, y] = #[.slice none 0 0, .int kk N] := by simp [hxv, hyv]
    simp only [execOp, ho, resolve, Sem.run_bind, Sem.run_pure, Result.andThen_ok, invoke, builtin, hargs, hrun]
  rw [hex]
  have hge := grownCap_ge w N.toNat 0 e
  have hle := grownCap_le_maxLen w N.toNat 0 e (by unfold maxLen; omega)
  have hzl : ∀ q : Nat, (Builtin.zeroCells z.cells q).toList = (List.replicate q vs).flatten := by
    intro q
    rw [h5, ← flat_rep vs k h6 h7 q]
    simp [Builtin.zeroCells, h6]
  have hzs : ∀ q : Nat, (Builtin.zeroCells z.cells q).size = q * k := by
    intro q; simp [Builtin.zeroCells, hsz]
  have hh : (w.drew.alloc (.cells (Builtin.zeroCells z.cells N.toNat ++ Builtin.zeroCells z.cells (grownCap w N.toNat 0 e - N.toNat)) e)).heap = w.heap.push (.cells (Builtin.zeroCells z.cells N.toNat ++ Builtin.zeroCells z.cells (grownCap w N.toNat 0 e - N.toNat)) e) := rfl
  have hbel : Below w.heap.size w (w.drew.alloc (.cells (Builtin.zeroCells z.cells N.toNat ++ Builtin.zeroCells z.cells (grownCap w N.toNat 0 e - N.toNat)) e)) := by
    refine ⟨rfl, rfl, rfl, by rw [hh, Array.size_push]; omega, fun b hb => ?_⟩
    rw [hh, Array.getElem?_push, if_neg (by omega)]
  refine ⟨(some ⟨w.heap.size, 0, none⟩, grownCap w N.toNat 0 e), I, hs.ownNew hbel (fun b => b = w.heap.size) (fun b hb => ?_) ?_, rfl⟩
  · subst hb
    exact ⟨Nat.le_refl _, by rw [hh, Array.size_push]; omega⟩
  · refine ⟨by simp, (List.replicate N.toNat vs).flatten, ⟨?_, .inr ⟨w.heap.size, _, Builtin.zeroCells z.cells N.toNat ++ Builtin.zeroCells z.cells (grownCap w N.toNat 0 e - N.toNat), rfl, Nat.zero_le _, by rw [hh, Array.getElem?_push, if_pos rfl], hge, hle, ?_, ?_⟩⟩, ?_, fun _ h => by cases h; rfl⟩
    · rw [← hzl, Array.length_toList, hzs]
    · rw [Array.size_append, hzs, hzs, ← Nat.add_mul]; congr 1; omega
    · rw [Array.toList_append, List.take_left' (by rw [Array.length_toList, hzs]), hzl]
    · refine Vals.flatMap (by simp) fun j x' vs' hj hj' => ?_
      rw [List.getElem?_replicate] at hj hj'
      split at hj <;> simp_all
end
end Go.Wk
