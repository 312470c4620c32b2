/-
  Literals of structs and slices, whole stores, contracts that hand back what is owned. No program in sight. Our own work.
-/
import Derived.Test.YtbhegklilcpbmaaDoorRowB
namespace Go.Wk
open Go Go.RowKit

/-- The list with a stretch from off on written over. -/
def over {α : Type} (l : List α) (off : Nat) (m : List α) : List α := l.take off ++ m ++ l.drop (off + m.length)

theorem over_set {α : Type} (l : List α) (off : Nat) (m : List α) (x : α) (h : off + m.length < l.length) : (over l off m).set (off + m.length) x = over l off (m ++ [x]) := by
  unfold over
  rw [List.set_append_right _ _ (by simp; omega)]
  have e1 : off + m.length - (l.take off ++ m).length = 0 := by simp; omega
  rw [e1]
  have hd : l.drop (off + m.length) = l[off + m.length] :: l.drop (off + m.length + 1) := List.drop_eq_getElem_cons h
  rw [hd]
  simp [List.append_assoc, Nat.add_assoc]

theorem foldl_over (off : Nat) : ∀ (vs pre : List Value) (cells : Array Value), off + pre.length + vs.length ≤ cells.size →
    ((vs.zipIdx pre.length).foldl (fun cs (x : Value × Nat) => cs.setIfInBounds (off + x.2) x.1) (over cells.toList off pre).toArray).toList = over cells.toList off (pre ++ vs)
  | [], pre, cells, _ => by simp
  | v :: vs, pre, cells, h => by
    simp only [List.zipIdx_cons, List.foldl_cons]
    have h1 : (over cells.toList off pre).toArray.setIfInBounds (off + pre.length) v = (over cells.toList off (pre ++ [v])).toArray := by
      simp only [List.setIfInBounds_toArray]
      rw [over_set _ _ _ _ (by simp at h ⊢; omega)]
    rw [h1]
    have := foldl_over off vs (pre ++ [v]) cells (by simp at h ⊢; omega)
    simpa using this

theorem fill_step {place : Nat → Option (Nat × Nat)} {cells : Array Value} {i off size : Nat} {v : Value} {rest : List (Nat × Value)} (hp : place i = some (off, size)) (hv : v.cells.size = size) (hle : off + size ≤ cells.size) :
    Instr.fill place cells ((i, v) :: rest) = Instr.fill place (over cells.toList off v.cells.toList).toArray rest := by
  rw [Instr.fill.eq_2, hp]
  have h1 : (decide (v.cells.size ≠ size) || decide (off + v.cells.size > cells.size)) = false := by simp [hv]; omega
  simp only [h1, Bool.false_eq_true, if_false]
  congr 1
  have := foldl_over off v.cells.toList [] cells (by simp [hv]; omega)
  apply Array.ext'
  rw [← Array.foldl_toList]
  simp only [List.nil_append, List.length_nil] at this
  have e0 : (over cells.toList off []).toArray = cells := by simp [over]
  rw [e0] at this
  rw [← this]
  simp

theorem Vals.over {I : Vw} {w : World} {ps qs : List Pd} {vs us : List Value} {off : Nat} (h : Vals I w ps vs) (h' : Vals I w qs us) : Vals I w (over ps off qs) (over vs off us) := by
  unfold Wk.over
  have h1 := Vals.sub (k := 0) (n := off) h
  simp only [List.drop_zero] at h1
  rw [h'.length]
  exact (h1.append h').append h.drop

/-- The cells' kinds of a literal, part by part. -/
def fillPd (place : Nat → Option (Nat × Nat)) : List Pd → List (Nat × List Pd) → Option (List Pd)
  | ps, [] => some ps
  | ps, (i, qs) :: r => match place i with
    | none => none
    | some (off, size) => bif Nat.beq qs.length size && Nat.ble (off + size) ps.length then fillPd place (over ps off qs) r else none

/-- Each part's operand holds cells of the listed kinds. -/
def Part (Γ : Env) (x : Operand) (qs : List Pd) : Prop := ∀ (I : Vw) (w : World) (t : Nat → Value), SatG I w t Γ → ∃ vs : List Value, (ev t x).cells = vs.toArray ∧ Vals I w qs vs
theorem Part.one {Γ : Env} {x : Operand} {q : Pd} (h : Opd Γ x q) (hq : OneC q) : Part Γ x [q] := fun I w t hg => ⟨[ev t x], by rw [cells_one (hq I w _ (h I w t hg))], h I w t hg, trivial⟩
theorem Part.agg {Γ : Env} {x : Operand} {qs : List Pd} (h : Opd Γ x (pAgg qs)) : Part Γ x qs := fun I w t hg => by
  obtain ⟨vs, he, hv⟩ := h I w t hg
  exact ⟨vs, by rw [he]; rfl, hv⟩

def Parts (Γ : Env) : List (Nat × Operand) → List (Nat × List Pd) → Prop
  | [], [] => True
  | (i, x) :: r, (j, qs) :: r' => (i = j ∧ Part Γ x qs) ∧ Parts Γ r r'
  | _, _ => False
theorem Parts.nil {Γ : Env} : Parts Γ [] [] := trivial
theorem Parts.cons {Γ : Env} {i : Nat} {x : Operand} {qs : List Pd} {r : List (Nat × Operand)} {r' : List (Nat × List Pd)} (h : Part Γ x qs) (t : Parts Γ r r') : Parts Γ ((i, x) :: r) ((i, qs) :: r') := ⟨⟨rfl, h⟩, t⟩

theorem fill_vals {place : Nat → Option (Nat × Nat)} {Γ : Env} {I : Vw} {w : World} {t : Nat → Value} (hg : SatG I w t Γ) : ∀ {parts : List (Nat × Operand)} {qss : List (Nat × List Pd)} {ps rs : List Pd} {cells : Array Value}, Parts Γ parts qss → Vals I w ps cells.toList → fillPd place ps qss = some rs →
    ∃ out : List Value, Instr.fill place cells (parts.map fun x => (x.1, ev t x.2)) = some out.toArray ∧ Vals I w rs out
  | [], [], ps, rs, cells, _, hv, h => by
    simp only [fillPd, Option.some.injEq] at h
    subst h
    exact ⟨cells.toList, by rw [List.map_nil, Instr.fill.eq_1], hv⟩
  | (i, x) :: r, (j, qs) :: r', ps, rs, cells, ⟨⟨hij, hp⟩, hr⟩, hv, h => by
    subst hij
    obtain ⟨vs, hc, hvs⟩ := hp I w t hg
    simp only [fillPd] at h
    cases hpl : place i with
    | none => rw [hpl] at h; simp at h
    | some os =>
      obtain ⟨off, size⟩ := os
      rw [hpl] at h
      simp only at h
      cases hb : (Nat.beq qs.length size && Nat.ble (off + size) ps.length) with
      | false => rw [hb] at h; simp at h
      | true =>
        rw [hb] at h
        simp only [Bool.and_eq_true] at hb
        have h1 : qs.length = size := Nat.eq_of_beq_eq_true hb.1
        have h2 := Nat.le_of_ble_eq_true hb.2
        have hl1 : (ev t x).cells.size = size := by rw [hc, List.size_toArray, hvs.length, h1]
        have hl2 : cells.size = ps.length := by rw [← Array.length_toList, hv.length]
        rw [List.map_cons, fill_step hpl hl1 (by rw [hl2]; exact h2)]
        refine fill_vals hg hr ?_ h
        rw [hc]
        exact Vals.over hv hvs
  | [], _ :: _, _, _, _, h, _, _ => h.elim
  | _ :: _, [], _, _, _, h, _, _ => h.elim

section
variable {P : Program} {B : Bs} {o : Oper} {Γ : Env} {Ω : List Own}

/-- A literal of a struct or an array. -/
theorem J_build {T : TypeId} {parts : Array (Nat × Operand)} {place : Nat → Option (Nat × Nat)} {zv : List Value} {zs rs : List Pd} {qss : List (Nat × List Pd)} (ho : o.op = .build T parts) (hb : ∀ ps, P.built T ps = Instr.fill place zv.toArray ps) (hz : ∀ I w, Vals I w zs zv) (hp : Parts Γ parts.toList qss) (hf : fillPd place zs qss = some rs) : OpJ P o Γ (pAgg rs) :=
  OpJ.val fun I w t _ hg => by
    obtain ⟨out, h1, h2⟩ := fill_vals (place := place) hg hp (cells := zv.toArray) (by simpa using hz I w) hf
    refine ⟨.agg out.toArray, ?_, out, rfl, h2⟩
    have hm : (Array.map (fun x : Nat × Operand => match x with | (i, x) => (i, ev t x)) parts).toList = parts.toList.map fun x => (x.1, ev t x.2) := by simp
    have hr := run_build (P := P) w T (Array.map (fun x : Nat × Operand => match x with | (i, x) => (i, ev t x)) parts) out.toArray (by rw [hm, hb, h1])
    simp only [execOp, ho]
    rw [Sem.run_bind, hr]
    rfl

/-- A slice literal is run. -/
theorem lit_run {α : Type} {T e k bytes len : Nat} {parts : Array (Nat × Operand)} {f : α → List Pd} {z0 : α} {qss : List (Nat × List Pd)} {l : List α} {I : Vw} {w : World} {t : Nat → Value} (ho : o.op = .buildSlice T len parts) (hT : P.underlying T = some (.slice e)) (he : Elem P e k bytes f z0) (hlen : Nat.ble (len * k) 16777216 = true)
    (hp : Parts Γ parts.toList qss) (hf : fillPd (fun i => some (i * k, k)) ((List.replicate len z0).flatMap f) qss = some (l.flatMap f)) (hll : l.length = len) (hbd : ∀ b, I b → b < w.heap.size) (hg : SatG I w t Γ) :
    ∃ out : List Value, (execOp (ev t) o).run P w = .ok (.value (.slice (some ⟨w.heap.size, 0, none⟩) len len)) (w.alloc (.cells out.toArray e)) ∧ (oSl e k f (some ⟨w.heap.size, 0, none⟩) len len l).p I (fun b => b = w.heap.size) (w.alloc (.cells out.toArray e)) := by
  obtain ⟨i, z, vs, h1, h2, h3, h4, h5, h6, h7, h8, h9, _⟩ := he
  have hle := Nat.le_of_ble_eq_true hlen
  have hsz : ∀ w, (sizeOf e).run P w = .ok k w := fun w => by rw [run_sizeOf w h1]; simp [Program.cellsOf, h1, h3]
  have hzv : (zeroValue e).run P w = .ok z w := by simp [zeroValue, typeInfo, h1, h2]
  -- the zero cells
  let zc : Array Value := Array.map (fun x => (if len * k = 0 then (#[] : Array Value) else z.cells)[x % (if len * k = 0 then (#[] : Array Value) else z.cells).size]!) (Array.range (len * k))
  have hzc : zc.toList = (List.replicate len vs).flatten := by
    by_cases h0 : len * k = 0
    · have hl0 : len = 0 := by rcases Nat.mul_eq_zero.1 h0 with h | h <;> omega
      simp [zc, hl0]
    · have := madeCells_list vs k len h6 h7
      simp only [zc, h0, if_false, h5]
      simpa [madeCells] using this
  have hvz : Vals I w ((List.replicate len z0).flatMap f) zc.toList := by
    rw [hzc]
    refine Vals.flatMap (by simp) fun j x' vs' hj hj' => ?_
    rw [List.getElem?_replicate] at hj hj'
    split at hj <;> simp_all
  obtain ⟨out, hf1, hf2⟩ := fill_vals (place := fun i => some (i * k, k)) hg hp hvz hf
  have hol : out.length = len * k := by
    rw [hf2.length, List.length_flatMap]
    rw [← hll]
    clear hf hf1 hf2 hll
    induction l with
    | nil => simp
    | cons x l ih => simp [h9 x, ih, Nat.add_mul, Nat.add_comm]
  have hm : (Array.map (fun x : Nat × Operand => match x with | (i, x) => (i, ev t x)) parts).toList = parts.toList.map fun x => (x.1, ev t x.2) := by simp
  have hrun : (Instr.buildSlice T len (Array.map (fun x : Nat × Operand => match x with | (i, x) => (i, ev t x)) parts)).run P w = .ok (.slice (some ⟨w.heap.size, 0, none⟩) len len) (w.alloc (.cells out.toArray e)) := by
    have hng : ¬ (len * k > 2 ^ 24) := by omega
    unfold Instr.buildSlice
    simp only [Sem.run_bind, run_underlying hT, Result.andThen_ok, hsz, if_neg hng]
    by_cases h0 : len * k = 0
    · simp only [h0, if_true, Sem.run_bind, Sem.run_pure, Result.andThen_ok]
      have : zc = Array.map (fun x => (#[] : Array Value)[x % (#[] : Array Value).size]!) (Array.range 0) := by simp [zc, h0]
      rw [hm, ← this, hf1]
      simp [newRow]
    · simp only [h0, if_false, Sem.run_bind, hzv, Sem.run_pure, Result.andThen_ok]
      have : zc = Array.map (fun x => z.cells[x % z.cells.size]!) (Array.range (len * k)) := by simp [zc, h0]
      rw [hm, ← this, hf1]
      simp [newRow]
  refine ⟨out, ?_, ?_⟩
  · simp only [execOp, ho]
    rw [Sem.run_bind, hrun]
    rfl
  have hlm : len ≤ maxLen := by
    have : len * 1 ≤ len * k := Nat.mul_le_mul_left _ h7
    unfold maxLen; omega
  have hrow := World.ownsRow_lit (base := 0) (e := e) (size := k) w out.toArray len (Nat.zero_le _) hlm (by simpa using hol)
  exact ⟨hll.symm, out, by simpa using hrow, hf2.mono (fun _ h => h) (fun b hb => heap_alloc_old _ _ (hbd b hb)), fun _ h => by cases h; rfl⟩

/-- A slice literal: a row of the call's own. -/
theorem M_buildSlice {α : Type} {T e k bytes len : Nat} {parts : Array (Nat × Operand)} {f : α → List Pd} {z0 : α} {qss : List (Nat × List Pd)} {l : List α} (ho : o.op = .buildSlice T len parts) (hT : P.underlying T = some (.slice e)) (he : Elem P e k bytes f z0) (hlen : Nat.ble (len * k) 16777216 = true)
    (hp : Parts Γ parts.toList qss) (hf : fillPd (fun i => some (i * k, k)) ((List.replicate len z0).flatMap f) qss = some (l.flatMap f)) (hll : l.length = len) :
    OpM P B o Γ Ω (fun a : Option Addr => pEq (.slice a len len)) (fun a => oSl e k f a len len l :: Ω) := by
  intro I a w hs
  obtain ⟨out, h1, h2⟩ := lit_run (t := tm a) ho hT he hlen hp hf hll hs.bd hs.g
  unfold Exec
  rw [h1]
  refine ⟨some ⟨w.heap.size, 0, none⟩, I, hs.ownNew (below_alloc _ _) (fun b => b = w.heap.size) (fun b hb => ?_) h2, rfl⟩
  subst hb; exact ⟨Nat.le_refl _, by rw [alloc_size]; omega⟩

/-- A whole struct stored into an own variable. -/
theorem M_storeA {T : TypeId} {x y : Operand} {b n : Nat} {ps qs : List Pd} (ho : o.op = .store T x y) (hT : ∀ w, (sizeOf T).run P w = .ok n w) (hx : Opd Γ x (pEq (.pointer (some ⟨b, 0, none⟩)))) (hy : Opd Γ y (pAgg qs)) (hone : ∀ I w us, Vals I w qs us → ∀ u ∈ us, u.oneCell' = true) (hps : ps.length = n) (hqs : qs.length = n) :
    OpM P B o Γ (oBlk b ps :: Ω) (fun _ : Unit => pAny) (fun _ => oBlk b qs :: Ω) := by
  intro I a w hs
  have h : ev (tm a) x = _ := hx I w (tm a) hs.g
  obtain ⟨us, hyv, hvu⟩ := hy I w (tm a) hs.g
  obtain ⟨F, hF, ⟨hb, vs, T', hh, hv⟩, hr⟩ := hs.o
  have hlv : vs.length = n := by rw [hv.length, hps]
  have hlu : us.length = n := by rw [hvu.length, hqs]
  have hst := run_storeCells_at P b 0 T' us 0 vs.toArray w hh (by simp; omega) (hone I w us hvu)
  have e1 : (List.take (0 + 0) vs.toArray.toList ++ us ++ List.drop (0 + 0 + us.length) vs.toArray.toList).toArray = us.toArray := by
    congr 1; simp; omega
  rw [e1] at hst
  unfold Exec
  have : (execOp (ev (tm a)) o).run P w = .ok .skip (w.setRow b us.toArray) := by
    simp [execOp, ho, h, hyv, Instr.storeAt, Instr.sureAddr, storeVar, hT w, Value.cells, hlu, hst]
  rw [this]
  have hnb : ∀ b', ¬ F b' → (w.setRow b us.toArray).heap[b']? = w.heap[b']? := fun b' hb' => setRow_other w b b' _ (fun e => by subst e; exact hb' hb)
  refine ⟨(), I, hs.turn F hF hr (setRow_size _ _ _) rfl rfl rfl hnb ⟨hb, us, T', setRow_heap w b vs.toArray us.toArray T' (0, 0) hh, ?_⟩, trivial⟩
  exact hvu.mono (fun _ h => h) (fun b' hb' => hnb b' (fun hf => (hF b' hf).2.2 hb'))
end

/-! ### contracts that write what is handed to them, and hand back what is owned -/
theorem SatO.lift {L L' I : Vw} {w : World} (h : ∀ b, L b → L' b) : ∀ {Ω : List Own} {X : Vw}, SatO L I w X Ω → SatO L' I w X Ω
  | [], _, _ => trivial
  | _ :: _, _, ⟨F, hF, ho, hr⟩ => ⟨F, fun b hb => ⟨h b (hF b hb).1, (hF b hb).2⟩, ho, SatO.lift h hr⟩
theorem SatO.excl {L I : Vw} {w : World} : ∀ {Ω : List Own} {X X' : Vw}, (∀ b, X' b → L b → X b) → SatO L I w X Ω → SatO L I w X' Ω
  | [], _, _, _, _ => trivial
  | _ :: _, _, _, hX, ⟨F, hF, ho, hr⟩ => ⟨F, fun b hb => ⟨(hF b hb).1, (hF b hb).2.1, fun hx => (hF b hb).2.2 (hX b hx (hF b hb).1)⟩, ho, SatO.excl (fun b hb hl => hb.imp (fun h => hX b h hl) id) hr⟩
/-- The view of what is owned may grow. -/
theorem SatO.view {L I I' : Vw} {w : World} (h : ∀ b, I b → I' b) : ∀ {Ω : List Own} {X : Vw}, SatO L I w X Ω → SatO L I' w X Ω
  | [], _, _ => trivial
  | _ :: _, _, ⟨F, hF, ho, hr⟩ => ⟨F, hF, Own.mono _ h (fun _ _ => rfl) (fun _ _ => rfl) ho, SatO.view h hr⟩
/-- What is owned stays where only what is not its own has turned. -/
theorem SatO.mono2 {L I I' G : Vw} {w w' : World} (hI : ∀ b, I b → I' b) (hs : w.heap.size ≤ w'.heap.size) (hw : ∀ b, b < w.heap.size → ¬ G b → w'.heap[b]? = w.heap[b]?) (hIG : ∀ b, I b → b < w.heap.size ∧ ¬ G b) :
    ∀ {Ω : List Own} {X X' : Vw}, (∀ b, G b → X b) → (∀ b, b < w.heap.size → X' b → X b) → SatO L I w X Ω → SatO L I' w' X' Ω
  | [], _, _, _, _, _ => trivial
  | _ :: _, _, _, hG, hX, ⟨F, hF, ho, hr⟩ =>
    ⟨F, fun b hb => let ⟨h1, h2, h3⟩ := hF b hb; ⟨h1, Nat.lt_of_lt_of_le h2 hs, fun hx => h3 (hX b h2 hx)⟩,
     Own.mono _ hI (fun b hb => hw b (hIG b hb).1 (hIG b hb).2) (fun b hb => hw b (hF b hb).2.1 (fun hg => (hF b hb).2.2 (hG b hg))) ho,
     SatO.mono2 hI hs hw hIG (fun b hb => .inl (hG b hb)) (fun b hb hx => hx.imp (hX b hb) id) hr⟩
/-- A first part of what is owned, with the blocks that it takes up. -/
theorem SatO.split {L I : Vw} {w : World} {Ω2 : List Own} : ∀ {Ω1 : List Own} {X : Vw}, SatO L I w X (Ω1 ++ Ω2) → ∃ H : Vw, (∀ b, H b → L b ∧ b < w.heap.size ∧ ¬ X b) ∧ SatO H I w X Ω1 ∧ SatO L I w (fun b => X b ∨ H b) Ω2
  | [], X, h => ⟨fun _ => False, fun _ hb => hb.elim, trivial, SatO.congr (fun b hb => hb.elim id (fun h => h.elim)) h⟩
  | _ :: _, X, ⟨F, hF, ho, hr⟩ => by
    obtain ⟨H, h1, h2, h3⟩ := SatO.split hr
    refine ⟨fun b => F b ∨ H b, fun b hb => ?_, ⟨F, fun b hb => ⟨.inl hb, (hF b hb).2⟩, ho, SatO.lift (fun b hb => .inr hb) h2⟩, SatO.congr (fun b hb => ?_) h3⟩
    · rcases hb with hb | hb
      · exact hF b hb
      · exact ⟨(h1 b hb).1, (h1 b hb).2.1, fun hx => (h1 b hb).2.2 (.inl hx)⟩
    · rcases hb with hb | hb | hb
      · exact .inl (.inl hb)
      · exact .inl (.inr hb)
      · exact .inr hb
theorem SatO.append {L G I : Vw} {w : World} (hL : ∀ b, G b → L b) {Ω2 : List Own} : ∀ {Ω1 : List Own} {X : Vw}, SatO G I w X Ω1 → (∀ X' : Vw, (∀ b, X' b → X b ∨ G b) → SatO L I w X' Ω2) → SatO L I w X (Ω1 ++ Ω2)
  | [], X, _, h => h X (fun _ hb => .inl hb)
  | _ :: _, _, ⟨F, hF, ho, hr⟩, h => ⟨F, fun b hb => ⟨hL b (hF b hb).1, (hF b hb).2⟩, ho, SatO.append hL hr (fun X' hX' => h X' (fun b hb => by
      rcases hX' b hb with (h' | h') | h'
      · exact .inl h'
      · exact .inr (hF b h').1
      · exact .inr h'))⟩

/-- A function's contract: handed what 'Ωi' lists, it returns a value of the kind 'val g', where g is found, and hands back what 'Ωr g' lists: of that memory, and new. -/
def CallH (P : Program) (f : FuncId) (ps : List Pd) (Ωi : List Own) {γ : Type} (val : γ → Pd) (Ωr : γ → List Own) : Prop :=
  ∀ (I H : Vw) (w : World) (args : List Value), (∀ b, I b → b < w.heap.size) → Vals I w ps args → SatO H I w I Ωi →
    Calls P f args.toArray w fun e w' => ∃ v g I', e = .returned v ∧ Bel H w w' ∧ (∀ b, I b → I' b) ∧ (∀ b, I' b → I b ∨ ((H b ∨ w.heap.size ≤ b) ∧ b < w'.heap.size)) ∧ (val g).p I' w' v ∧ SatO (fun b => H b ∨ w.heap.size ≤ b) I' w' I' (Ωr g)
abbrev CallO (P : Program) (f : FuncId) (ps : List Pd) {γ : Type} (val : γ → Pd) (Ωr : γ → List Own) : Prop := CallH P f ps [] val Ωr

def PostO (B : Bs) {γ : Type} (val : γ → Pd) (Ω : γ → List Own) : Ending → World → Prop := fun e w' => ∃ v g I', e = .returned v ∧ Bel B.H B.W w' ∧ (∀ b, B.I0 b → I' b) ∧ (∀ b, I' b → B.I0 b ∨ (B.L b ∧ b < w'.heap.size)) ∧ (val g).p I' w' v ∧ SatO B.L I' w' I' (Ω g)

theorem CallH.enter {P : Program} {f : FuncId} {fn : Func} {c : Code} {n : Nat} {ps : List Pd} {Ωi : List Own} {γ : Type} {val : γ → Pd} {Ω : γ → List Own} (hf : P.funcs[f]? = some fn) (hb : fn.body = some c) (hn : fn.ntmps = n) (hle' : Nat.ble ps.length n = true)
    (h : ∀ (W : World) (I0 H : Vw), Tr P ⟨W, I0, H, n⟩ c (params 0 ps) Ωi (bodyPost P fn (PostO ⟨W, I0, H, n⟩ val Ω))) : CallH P f ps Ωi val Ω := by
  intro I H w args hbd hv hO
  have hle := Nat.le_of_ble_eq_true hle'
  have hl := hv.length
  refine calls_of_wp hf hb ?_
  refine h w I H I _ w ⟨rfl, ?_, Bel.refl, hbd, fun b hb => .inl hb, fun _ hb => hb, ?_, SatO.lift (fun b hb => .inl hb) hO⟩
  · simp [hn]; omega
  · refine params_sat hv fun j hj => ?_
    have : (args.toArray ++ Array.replicate (fn.ntmps - args.toArray.size) undef)[j]? = some args[j] := by
      rw [Array.getElem?_append_left (by simpa using hj)]; simp
    simp only [tm, Array.getD_eq_getD_getElem?, Nat.zero_add, this, Option.getD_some]

/-! ### results -/
def rval (tmps : Array Value) : ResultVar → Sem Value
  | .tmp t => pure (tmps.getD t undef)
  | .cell a t => do loadVar t (← asAddr (tmps.getD a undef))
theorem results_eq (fn : Func) (tmps : Array Value) : results fn tmps = (do let vs ← fn.results.mapM (rval tmps); pure (if h : vs.size = 1 then vs[0] else .tuple vs)) := rfl

/-- A result, read at the end. -/
def RvOk (P : Program) (Γ : Env) (Ω : List Own) (r : ResultVar) (q : Pd) : Prop := ∀ (L I X : Vw) (a : Act) (w : World), SatG I w (tm a) Γ → SatO L I w X Ω → ∃ v, (rval a.tmps r).run P w = .ok v w ∧ q.p I w v
theorem RvOk.tmp {P : Program} {Γ : Env} {Ω : List Own} {s : Nat} {q : Pd} (h : lk s Γ = some q) : RvOk P Γ Ω (.tmp s) q := fun L I X a w hg _ => ⟨tm a s, rfl, hg s q h⟩
theorem RvOk.cellA {P : Program} {Γ : Env} {Ω : List Own} {T s n b i : Nat} {ps : List Pd} (hT : ∀ w, (isAgg T).run P w = .ok true w) (hn : ∀ w, (sizeOf T).run P w = .ok n w) (hl : lk s Γ = some (pEq (.pointer (some ⟨b, 0, none⟩)))) (hi : Ω[i]? = some (oBlk b ps)) (hps : ps.length = n) : RvOk P Γ Ω (.cell s T) (pAgg ps) := fun L I X a w hg hO => by
  have key : ∀ {Ω : List Own} {X : Vw} {i : Nat}, SatO L I w X Ω → Ω[i]? = some (oBlk b ps) → ∃ F, (oBlk b ps).p I F w := by
    intro Ω
    induction Ω with
    | nil => intro X i _ h; simp at h
    | cons o Ω ih =>
      intro X i ⟨F, _, ho, hr⟩ h
      cases i with
      | zero => simp at h; subst h; exact ⟨F, ho⟩
      | succ i => exact ih hr (by simpa using h)
  obtain ⟨F, hb, vs, T', hh, hv⟩ := key hO hi
  have h : tm a s = _ := hg s _ hl
  have hll : vs.length = n := by rw [hv.length, hps]
  have hc := run_loadCells_list (P := P) w ⟨b, 0, none⟩ vs (fun _ v hj => by rw [addr_add]; simp [World.cell?, hh, hj])
  rw [hll] at hc
  unfold tm at h
  rw [Array.getD_eq_getD_getElem?] at h
  exact ⟨.agg vs.toArray, by simp [rval, h, asAddr, loadVar, hT w, hn w, hc], vs, rfl, hv⟩

section
variable {P : Program} {B : Bs} {fn : Func} {Γ : Env} {Ω : List Own} {γ : Type} {Ωr : γ → List Own}
theorem PostO.mk {val : γ → Pd} {I : Vw} {a : Act} {w : World} {v : Value} (g : γ) {Ωx : List Own} (hΩ : Ω = Ωx ++ Ωr g) (hs : Sat B Γ Ω I a w) (hv : (val g).p I w v) : PostO B val Ωr (.returned v) w := by
  refine ⟨v, g, I, rfl, hs.bel, hs.up, hs.vw, hv, ?_⟩
  have ho := hs.o
  rw [hΩ] at ho
  clear hΩ hs
  have key : ∀ {Ωx : List Own} {X : Vw}, SatO B.L I w X (Ωx ++ Ωr g) → SatO B.L I w X (Ωr g) := by
    intro Ωx
    induction Ωx with
    | nil => intro X h; exact h
    | cons o Ωx ih => intro X ⟨F, _, _, hr⟩; exact SatO.congr (fun _ hb => .inl hb) (ih hr)
  exact key ho
theorem Ct.retH0 {val : γ → Pd} {Ωx : List Own} (g : γ) (hr : fn.results = #[]) (hv : val g = pTup []) (hΩ : Ω = Ωx ++ Ωr g) : Ct B Γ Ω (bodyPost P fn (PostO B val Ωr) .ret) := fun I a w hs => by
  have hx : (results fn a.tmps).run P w = .ok (.tuple #[]) w := by simp [results_eq, hr]
  exact ⟨hs.df, _, hx, PostO.mk (val := val) (v := .tuple #[]) g hΩ hs (by rw [hv]; exact ⟨[], rfl, trivial⟩)⟩
theorem Ct.retN0 {val : γ → Pd} {Ωx : List Own} (g : γ) (hr : fn.results = #[]) (hv : val g = pTup []) (hΩ : Ω = Ωx ++ Ωr g) : Ct B Γ Ω (bodyPost P fn (PostO B val Ωr) .normal) := fun I a w hs => by
  have hx : (results fn a.tmps).run P w = .ok (.tuple #[]) w := by simp [results_eq, hr]
  exact ⟨hs.df, _, hx, PostO.mk (val := val) (v := .tuple #[]) g hΩ hs (by rw [hv]; exact ⟨[], rfl, trivial⟩)⟩
theorem Ct.retH1 {val : γ → Pd} {Ωx : List Own} {r : ResultVar} (g : γ) (hr : fn.results = #[r]) (h1 : RvOk P Γ Ω r (val g)) (hΩ : Ω = Ωx ++ Ωr g) : Ct B Γ Ω (bodyPost P fn (PostO B val Ωr) .ret) := fun I a w hs => by
  obtain ⟨v, hv, hp⟩ := h1 _ _ _ a w hs.g hs.o
  exact ⟨hs.df, v, by simp [results_eq, hr, hv], PostO.mk g hΩ hs hp⟩
theorem Ct.retH2 {val : γ → Pd} {Ωx : List Own} {r1 r2 : ResultVar} {q1 q2 : Pd} (g : γ) (hr : fn.results = #[r1, r2]) (h1 : RvOk P Γ Ω r1 q1) (h2 : RvOk P Γ Ω r2 q2) (hv : val g = pTup [q1, q2]) (hΩ : Ω = Ωx ++ Ωr g) : Ct B Γ Ω (bodyPost P fn (PostO B val Ωr) .ret) := fun I a w hs => by
  obtain ⟨v1, hv1, hp1⟩ := h1 _ _ _ a w hs.g hs.o
  obtain ⟨v2, hv2, hp2⟩ := h2 _ _ _ a w hs.g hs.o
  exact ⟨hs.df, .tuple #[v1, v2], by simp [results_eq, hr, hv1, hv2], PostO.mk g hΩ hs (by rw [hv]; exact ⟨[v1, v2], rfl, hp1, hp2, trivial⟩)⟩
theorem Ct.retH3 {val : γ → Pd} {Ωx : List Own} {r1 r2 r3 : ResultVar} {q1 q2 q3 : Pd} (g : γ) (hr : fn.results = #[r1, r2, r3]) (h1 : RvOk P Γ Ω r1 q1) (h2 : RvOk P Γ Ω r2 q2) (h3 : RvOk P Γ Ω r3 q3) (hv : val g = pTup [q1, q2, q3]) (hΩ : Ω = Ωx ++ Ωr g) : Ct B Γ Ω (bodyPost P fn (PostO B val Ωr) .ret) := fun I a w hs => by
  obtain ⟨v1, hv1, hp1⟩ := h1 _ _ _ a w hs.g hs.o
  obtain ⟨v2, hv2, hp2⟩ := h2 _ _ _ a w hs.g hs.o
  obtain ⟨v3, hv3, hp3⟩ := h3 _ _ _ a w hs.g hs.o
  exact ⟨hs.df, .tuple #[v1, v2, v3], by simp [results_eq, hr, hv1, hv2, hv3], PostO.mk g hΩ hs (by rw [hv]; exact ⟨[v1, v2, v3], rfl, hp1, hp2, hp3, trivial⟩)⟩
/-- The same ends where nothing is handed back. -/
theorem CallJ.enterH {f : FuncId} {c : Code} {n : Nat} {ps : List Pd} {q : Pd} (hf : P.funcs[f]? = some fn) (hb : fn.body = some c) (hn : fn.ntmps = n) (hle' : Nat.ble ps.length n = true)
    (h : ∀ (W : World) (I0 H : Vw), Tr P ⟨W, I0, H, n⟩ c (params 0 ps) [] (bodyPost P fn (PostO ⟨W, I0, H, n⟩ (fun _ : Unit => q) (fun _ => [])))) : CallJ P f ps q := fun I w args hbd hv =>
  (CallH.enter hf hb hn hle' h I (fun _ => False) w args hbd hv trivial).mono fun e w' ⟨v, g, I', h1, h2, h3, h4, h5, _⟩ => ⟨v, h1, h2.below, q.mono (fun b hb => (h4 b hb).imp id (fun h => ⟨h.1.elim (fun h => h.elim) id, h.2⟩)) (fun _ _ => rfl) h5⟩
end

/-- The state behind a call that was handed the first part of what is owned. -/
theorem Sat.called {B : Bs} {Γ : Env} {Ωi Ω Ωr : List Own} {I H J : Vw} {a : Act} {w w' : World} (hs : Sat B Γ (Ωi ++ Ω) I a w) (hH : ∀ b, H b → B.L b ∧ b < w.heap.size ∧ ¬ I b) (hO : SatO B.L I w (fun b => I b ∨ H b) Ω)
    (h2 : Bel H w w') (h3 : ∀ b, I b → J b) (h4 : ∀ b, J b → I b ∨ ((H b ∨ w.heap.size ≤ b) ∧ b < w'.heap.size)) (h6 : SatO (fun b => H b ∨ w.heap.size ≤ b) J w' J Ωr) : Sat B Γ (Ωr ++ Ω) J a w' := by
  have hL : ∀ b, (H b ∨ w.heap.size ≤ b) → B.L b := fun b hb => hb.elim (fun h => (hH b h).1) (fun h => .inr (Nat.le_trans hs.bel.size h))
  refine ⟨hs.df, hs.sz, hs.bel.trans2 h2 (fun b hb => (hH b hb).1), fun b hb => ?_, fun b hb => ?_, fun b hb => h3 b (hs.up b hb), hs.g.mono h3 (fun b hb => h2.block b (hs.bd b hb) (fun hh => (hH b hh).2.2 hb)), ?_⟩
  · exact (h4 b hb).elim (fun h => Nat.lt_of_lt_of_le (hs.bd b h) h2.size) (fun h => h.2)
  · rcases h4 b hb with h | h
    · exact (hs.vw b h).imp id (fun h => ⟨h.1, Nat.lt_of_lt_of_le h.2 h2.size⟩)
    · exact .inr ⟨hL b h.1, h.2⟩
  · refine SatO.append hL h6 (fun X' hX' => ?_)
    refine SatO.mono2 (G := H) h3 h2.size (fun b hb hn => h2.block b hb hn) (fun b hb => ⟨hs.bd b hb, fun hh => (hH b hh).2.2 hb⟩) (fun b hb => .inr hb) (fun b hb hx' => ?_) hO
    rcases hX' b hx' with h | h
    · rcases h4 b h with h | h
      · exact .inl h
      · exact h.1.elim .inr (fun h => absurd hb (by omega))
    · exact h.elim .inr (fun h => absurd hb (by omega))

/-- A call that is handed the first part of what is owned. -/
theorem M_callH {P : Program} {B : Bs} {o : Oper} {Γ : Env} {Ωi Ω : List Own} {f : FuncId} {xs : Array Operand} {ts : Array TypeId} {ps : List Pd} {γ : Type} {val : γ → Pd} {Ωr : γ → List Own} (ho : o.op = .call { callee := .value (.func f), args := xs, argTypes := ts }) (he : Enters P f) (hc : CallH P f ps Ωi val Ωr) (hx : Opds Γ xs.toList ps) :
    OpM P B o Γ (Ωi ++ Ω) val (fun g => Ωr g ++ Ω) := by
  intro I a w hs
  have hv := Opds.vals hs.g hx
  obtain ⟨H, hH, hi, hO⟩ := hs.o.split
  have hr : (execOp (ev (tm a)) o).run P w = .ok (.enter f ((xs.toList.map (ev (tm a))).toArray)) w := by
    have : Array.map (ev (tm a)) xs = (xs.toList.map (ev (tm a))).toArray := by apply Array.ext'; simp
    simp only [execOp, ho, resolve, ev, Deferred.ofValue, invoke, this]
    simp [he _ w]
  unfold Exec; rw [hr]
  exact (hc I H w _ hs.bd hv hi).mono fun e w' ⟨v, g, I', h1, h2, h3, h4, h5, h6⟩ => ⟨v, h1, g, I', hs.called hH hO h2 h3 h4 h6, h5⟩
theorem M_callO {P : Program} {B : Bs} {o : Oper} {Γ : Env} {Ω : List Own} {f : FuncId} {xs : Array Operand} {ts : Array TypeId} {ps : List Pd} {γ : Type} {val : γ → Pd} {Ωr : γ → List Own} (ho : o.op = .call { callee := .value (.func f), args := xs, argTypes := ts }) (he : Enters P f) (hc : CallO P f ps val Ωr) (hx : Opds Γ xs.toList ps) :
    OpM P B o Γ Ω val (fun g => Ωr g ++ Ω) := M_callH (Ωi := []) ho he hc hx

abbrev G3 := Option Addr × Nat × Nat
abbrev vRow (g : G3) : Pd := pEq (.slice g.1 g.2.1 g.2.2)

theorem oSl.frozen {α : Type} {et k n cap : Nat} {f : α → List Pd} {o : Option Addr} {l : List α} {I F : Vw} {w : World} (hf : ∀ x, (f x).length = k) (h : (oSl et k f o n cap l).p I F w) : (pSl k f l).p (fun b => I b ∨ F b) w (.slice o n cap) := by
  have hn : n = l.length := h.1
  have hcap : n ≤ cap ∧ (o = none → cap = 0) := by
    obtain ⟨_, xs, ⟨_, h2⟩, _, _⟩ := h
    rcases h2 with ⟨e1, e2⟩ | ⟨g, c, cur, e1, _, _, e4, _⟩
    · simp only [Value.slice.injEq] at e1; exact ⟨by omega, fun _ => e1.2.2⟩
    · simp only [Value.slice.injEq, true_and] at e1; exact ⟨by omega, fun h0 => by rw [h0] at e1; simp at e1⟩
  refine ⟨o, cap, by rw [hn], by omega, hcap.2, fun i hi => ?_⟩
  obtain ⟨g, vs, cur, rfl, hg, hnl, hh, _, _, hcs, htk, hvl, hv⟩ := oSl.block h (by omega)
  obtain ⟨r', hr'⟩ := flatMap_at hf hi
  have hv' := hv.drop (k := i * k)
  rw [hr'] at hv'
  refine ⟨g, 0, rfl, .inr hg, ?_⟩
  have hv2 := (Vals.sub (k := 0) (n := k) hv').mono (I' := fun b => I b ∨ F b) (w' := w) (fun _ h => .inl h) (fun _ _ => rfl)
  simp only [List.drop_zero, List.take_left' (hf l[i])] at hv2
  rw [Nat.zero_add]
  have key : ∀ {ps : List Pd} {us : List Value} {off : Nat}, (∀ j u, us[j]? = some u → w.cell? ⟨g, off + j, none⟩ = some u) → Vals (fun c => I c ∨ F c) w ps us → Cells (fun c => I c ∨ F c) w g off ps := by
    intro ps
    induction ps with
    | nil => intro us off _ _; trivial
    | cons p ps ih =>
      intro us off hu hv
      cases us with
      | nil => exact hv.elim
      | cons u us => exact ⟨⟨u, hu 0 u rfl, hv.1⟩, ih (fun j u' hj => by have := hu (j + 1) u' (by simpa using hj); rwa [show off + 1 + j = off + (j + 1) by omega]) hv.2⟩
  refine key (fun j u hj => ?_) hv2
  rw [List.getElem?_take] at hj
  split at hj
  · rw [List.getElem?_drop, ← htk, List.getElem?_take] at hj
    split at hj
    · simpa [World.cell?, hh] using hj
    · simp at hj
  · simp at hj

/-- The row that is handed back is only read. -/
theorem CallO.frozen {P : Program} {f : FuncId} {ps : List Pd} {α : Type} {et k : Nat} {c : α → List Pd} {l : List α} (hf : ∀ x, (c x).length = k) (h : CallO P f ps vRow (fun g : G3 => [oSl et k c g.1 g.2.1 g.2.2 l])) : CallJ P f ps (pSl k c l) :=
  fun I w args hbd hv => (h I (fun _ => False) w args hbd hv trivial).mono fun e w' ⟨v, g, I', h1, h2, h3, h4, h5, ⟨F, hF, ho, _⟩⟩ =>
    ⟨v, h1, h2.below, by
      have h5' : v = _ := h5
      rw [h5']
      exact (pSl k c l).mono (fun b hb => hb.elim (fun h => (h4 b h).imp id (fun h => ⟨h.1.elim (fun h => h.elim) id, h.2⟩)) (fun h => .inr ⟨(hF b h).1.elim (fun h => h.elim) id, (hF b h).2.1⟩)) (fun _ _ => rfl) (oSl.frozen hf ho)⟩
theorem CallO.frozen2 {P : Program} {f : FuncId} {ps : List Pd} {α : Type} {et k : Nat} {c : α → List Pd} {l : List α} {q : Pd} (hf : ∀ x, (c x).length = k) (h : CallO P f ps (fun g : G3 => pTup [vRow g, q]) (fun g : G3 => [oSl et k c g.1 g.2.1 g.2.2 l])) : CallJ P f ps (pTup [pSl k c l, q]) :=
  fun I w args hbd hv => (h I (fun _ => False) w args hbd hv trivial).mono fun e w' ⟨v, g, I', h1, h2, h3, h4, ⟨vs, h5, h6⟩, ⟨F, hF, ho, _⟩⟩ =>
    have h4' : ∀ b, I' b → gr I w w' b := fun b h => (h4 b h).imp id (fun h => ⟨h.1.elim (fun h => h.elim) id, h.2⟩)
    ⟨v, h1, h2.below, vs, h5, by
      match vs, h6 with
      | [v1, v2], ⟨e1, e2, _⟩ =>
        have e1' : v1 = _ := e1
        refine ⟨?_, q.mono h4' (fun _ _ => rfl) e2, trivial⟩
        rw [e1']
        exact (pSl k c l).mono (fun b hb => hb.elim (h4' b) (fun h => .inr ⟨(hF b h).1.elim (fun h => h.elim) id, (hF b h).2.1⟩)) (fun _ _ => rfl) (oSl.frozen hf ho)⟩

/-! ### reading what is owned -/
theorem SatO.mem {L : Vw} {I : Vw} {w : World} {o : Own} : ∀ {Ω : List Own} {X : Vw} {i : Nat}, SatO L I w X Ω → Ω[i]? = some o → ∃ F : Vw, (∀ b, F b → L b ∧ b < w.heap.size ∧ ¬ X b) ∧ o.p I F w
  | [], _, _, _, h => by simp at h
  | o' :: Ω, X, 0, ⟨F, hF, ho, _⟩, h => by simp at h; subst h; exact ⟨F, hF, ho⟩
  | o' :: Ω, X, i + 1, ⟨F, hF, ho, hr⟩, h => by
    obtain ⟨F', hF', ho'⟩ := SatO.mem (i := i) hr (by simpa using h)
    exact ⟨F', fun b hb => ⟨(hF' b hb).1, (hF' b hb).2.1, fun hx => (hF' b hb).2.2 (.inl hx)⟩, ho'⟩

section
variable {P : Program} {o : Oper} {Γ : Env} {Ω : List Own}

theorem OpW.val {p : Pd} (h : ∀ (L : Vw) (I : Vw) (w : World) (t : Nat → Value), (∀ b, I b → b < w.heap.size) → SatG I w t Γ → SatO L I w I Ω → ∃ v, (execOp (ev t) o).run P w = .ok (.value v) w ∧ p.p I w v) : OpW P Ω o Γ p := by
  intro lo I w t hbd hg ho
  obtain ⟨v, hr, hp⟩ := h lo I w t hbd hg ho
  unfold Exec; rw [hr]
  exact ⟨Below.refl _ _, Pd.here hp⟩

theorem W_load {T i : TypeId} {x : Operand} {b off : Nat} {ps : List Pd} {q : Pd} (ho : o.op = .load T x) (hT : ∀ w, (isAgg T).run P w = .ok false w) (hx : Opd Γ x (pEq (.pointer (some ⟨b, off, none⟩)))) (hi : Ω[i]? = some (oBlk b ps)) (hq : ps[off]? = some q) : OpW P Ω o Γ q :=
  OpW.val fun lo I w t hbd hg hO => by
    have h : ev t x = _ := hx I w t hg
    obtain ⟨F, hF, ⟨hb, vs, T', hh, hv⟩⟩ := hO.mem hi
    obtain ⟨u, hu, hp⟩ := hv.get hq
    have hc : w.cell? ⟨b, off, none⟩ = some u := by simp [World.cell?, hh, hu]
    exact ⟨u, by simp [execOp, ho, h, Instr.loadAt, Instr.sureAddr, loadVar, hT w, hc], hp⟩
theorem W_loadA {T i : TypeId} {x : Operand} {b n : Nat} {ps : List Pd} (ho : o.op = .load T x) (hT : ∀ w, (isAgg T).run P w = .ok true w) (hn : ∀ w, (sizeOf T).run P w = .ok n w) (hx : Opd Γ x (pEq (.pointer (some ⟨b, 0, none⟩)))) (hi : Ω[i]? = some (oBlk b ps)) (hl : ps.length = n) : OpW P Ω o Γ (pAgg ps) :=
  OpW.val fun lo I w t hbd hg hO => by
    have h : ev t x = _ := hx I w t hg
    obtain ⟨F, hF, ⟨hb, vs, T', hh, hv⟩⟩ := hO.mem hi
    have hll : vs.length = n := by rw [hv.length, hl]
    have hc := run_loadCells_list (P := P) w ⟨b, 0, none⟩ vs (fun _ v hj => by rw [addr_add]; simp [World.cell?, hh, hj])
    rw [hll] at hc
    exact ⟨.agg vs.toArray, by simp [execOp, ho, h, Instr.loadAt, Instr.sureAddr, loadVar, hT w, hn w, hc], vs, rfl, hv⟩

theorem W_rowIdx {α : Type} {T et k n cap j : Nat} {x i : Operand} {kk : IntKind} {N : Int} {f : α → List Pd} {ad : Option Addr} {l : List α} (ho : o.op = .indexAddr T x i) (hT : P.underlying T = some (.slice et)) (hk : ∀ w, (sizeOf et).run P w = .ok k w)
    (hx : Opd Γ x (pEq (.slice ad n cap))) (hi : Opd Γ i (pEq (.int kk N))) (hj : Ω[j]? = some (oSl et k f ad n cap l)) (hN : 0 ≤ N ∧ N < l.length) : OpW P Ω o Γ (pEq (.pointer (some ⟨blk ad, N.toNat * k, none⟩))) :=
  OpW.val fun lo I w t hbd hg hO => by
    have h : ev t x = _ := hx I w t hg
    have h2 : ev t i = _ := hi I w t hg
    obtain ⟨F, hF, hown⟩ := hO.mem hj
    obtain ⟨g, vs, cur, rfl, hg, hnl, _⟩ := oSl.block hown (by omega)
    refine ⟨.pointer (some ⟨g, N.toNat * k, none⟩), ?_, rfl⟩
    simp only [execOp, ho, h, h2]
    rw [Sem.run_bind]
    simp only [Instr.indexAt, asIntOf, Sem.run_bind, Sem.run_pure, Result.andThen_ok, run_underlying hT, if_pos (show (0 ≤ N ∧ N < ((n : Nat) : Int)) from ⟨hN.1, by omega⟩), hk w, addr_add, Nat.zero_add]

theorem W_rowLoad {α : Type} {T et k n cap j : Nat} {x : Operand} {N : Int} {f : α → List Pd} {ad : Option Addr} {l : List α} {y : α} {q : Pd} {r : List Pd} (ho : o.op = .load T x) (hT : ∀ w, (isAgg T).run P w = .ok false w)
    (hf : ∀ x, (f x).length = k) (hx : Opd Γ x (pEq (.pointer (some ⟨blk ad, N.toNat * k, none⟩)))) (hj : Ω[j]? = some (oSl et k f ad n cap l)) (hy : idx l N = some y) (hq : f y = q :: r) : OpW P Ω o Γ q :=
  OpW.val fun lo I w t hbd hg hO => by
    have h : ev t x = _ := hx I w t hg
    obtain ⟨F, hF, hown⟩ := hO.mem hj
    obtain ⟨h0, h1, rfl⟩ := idx_some hy
    obtain ⟨g, vs, cur, rfl, hg, hnl, hh, _, _, hcs, htk, hvl, hv⟩ := oSl.block hown (by omega)
    obtain ⟨r', hr'⟩ := flatMap_at hf h1
    have hv' := hv.drop (k := N.toNat * k)
    rw [hr', hq] at hv'
    cases hvd : vs.drop (N.toNat * k) with
    | nil => rw [hvd] at hv'; exact hv'.elim
    | cons u us =>
      rw [hvd] at hv'
      have hu := (drop_head hvd).1
      have hc : w.cell? ⟨g, N.toNat * k, none⟩ = some u := by
        rw [← htk, List.getElem?_take] at hu
        simp only [World.cell?, hh]
        split at hu
        · simpa using hu
        · simp at hu
      simp only [blk] at h
      exact ⟨u, by simp [execOp, ho, h, Instr.loadAt, Instr.sureAddr, loadVar, hT w, hc], hv'.1⟩

theorem W_rowLen {α : Type} {T e et k n cap j : Nat} {x : Operand} {f : α → List Pd} {ad : Option Addr} {l : List α} (ho : o.op = .call { callee := .builtin .len, args := #[x], argTypes := #[T] }) (hT : P.underlying T = some (.slice e)) (hx : Opd Γ x (pEq (.slice ad n cap))) (hj : Ω[j]? = some (oSl et k f ad n cap l)) : OpW P Ω o Γ (pEq (.int .i64 (l.length : Int))) :=
  OpW.val fun lo I w t hbd hg hO => by
    have h : ev t x = _ := hx I w t hg
    obtain ⟨F, hF, hown⟩ := hO.mem hj
    have hn : n = l.length := hown.1
    exact ⟨.int .i64 l.length, by simp [execOp, ho, h, resolve, invoke, builtin, Builtin.len_, run_underlying hT, goInt, hn], rfl⟩

/-- The operand, read in a view that holds all that is owned: what is owned reads too. -/
def OpdA (Γ : Env) (Ω : List Own) (x : Operand) (p : Pd) : Prop := ∀ (L I X J : Vw) (w : World) (t : Nat → Value), (∀ b, I b → J b) → (∀ b, L b → b < w.heap.size → ¬ X b → J b) → SatG I w t Γ → SatO L I w X Ω → p.p J w (ev t x)
theorem OpdA.of {x : Operand} {p : Pd} (h : Opd Γ x p) : OpdA Γ Ω x p := fun L I X J w t hI _ hg _ => p.mono hI (fun _ _ => rfl) (h I w t hg)
theorem OpdA.row {α : Type} {et k n cap i s : Nat} {f : α → List Pd} {ad : Option Addr} {l : List α} (hf : ∀ x, (f x).length = k) (hx : lk s Γ = some (pEq (.slice ad n cap))) (hi : Ω[i]? = some (oSl et k f ad n cap l)) : OpdA Γ Ω (.tmp s) (pSl k f l) := fun L I X J w t hI hX hg hO => by
  have h : t s = _ := hg s _ hx
  obtain ⟨F, hF, hown⟩ := hO.mem hi
  show (pSl k f l).p _ w (t s)
  rw [h]
  exact (pSl k f l).mono (fun b hb => hb.elim (hI b) (fun h => hX b (hF b h).1 (hF b h).2.1 (hF b h).2.2)) (fun _ _ => rfl) (oSl.frozen hf hown)
theorem OpdA.ptr {b i s : Nat} {ps : List Pd} (hx : lk s Γ = some (pEq (.pointer (some ⟨b, 0, none⟩)))) (hi : Ω[i]? = some (oBlk b ps)) : OpdA Γ Ω (.tmp s) (pPtr ps) := fun L I X J w t hI hX hg hO => by
  have h : t s = _ := hg s _ hx
  obtain ⟨F, hF, ⟨hb, vs, T', hh, hv⟩⟩ := hO.mem hi
  show (pPtr ps).p _ w (t s)
  rw [h]
  exact ⟨b, 0, rfl, hX b (hF b hb).1 (hF b hb).2.1 (hF b hb).2.2, Vals.cells hh (us := vs) (by simp) (hv.mono hI (fun _ _ => rfl))⟩
def OpdsA (Γ : Env) (Ω : List Own) : List Operand → List Pd → Prop
  | [], [] => True
  | x :: xs, p :: ps => OpdA Γ Ω x p ∧ OpdsA Γ Ω xs ps
  | _, _ => False
theorem OpdsA.nil : OpdsA Γ Ω [] [] := trivial
theorem OpdsA.cons {x : Operand} {xs : List Operand} {p : Pd} {ps : List Pd} (h : OpdA Γ Ω x p) (t : OpdsA Γ Ω xs ps) : OpdsA Γ Ω (x :: xs) (p :: ps) := ⟨h, t⟩
theorem OpdsA.vals {L I X J : Vw} {w : World} {t : Nat → Value} (hI : ∀ b, I b → J b) (hX : ∀ b, L b → b < w.heap.size → ¬ X b → J b) (hg : SatG I w t Γ) (hO : SatO L I w X Ω) : ∀ {xs : List Operand} {ps : List Pd}, OpdsA Γ Ω xs ps → Vals J w ps (xs.map (ev t))
  | [], [], _ => trivial
  | _ :: _, _ :: _, ⟨h, hr⟩ => ⟨h L I X J w t hI hX hg hO, OpdsA.vals hI hX hg hO hr⟩
  | [], _ :: _, h => h.elim
  | _ :: _, [], h => h.elim

/-- The kind says nothing of memory. -/
def FreeP (q : Pd) : Prop := ∀ (I I' : Vw) (w w' : World) (v : Value), q.p I w v → q.p I' w' v
theorem FreeP.eq {x : Value} : FreeP (pEq x) := fun _ _ _ _ _ h => h
def FreePs : List Pd → Prop
  | [] => True
  | q :: r => FreeP q ∧ FreePs r
theorem FreePs.vals {I I' : Vw} {w w' : World} : ∀ {ps : List Pd} {vs : List Value}, FreePs ps → Vals I w ps vs → Vals I' w' ps vs
  | [], [], _, _ => trivial
  | _ :: _, _ :: _, ⟨h, hr⟩, ⟨hv, hvr⟩ => ⟨h _ _ _ _ _ hv, FreePs.vals hr hvr⟩
  | [], _ :: _, _, h => h.elim
  | _ :: _, [], _, h => h.elim
theorem FreeP.tup {ps : List Pd} (h : FreePs ps) : FreeP (pTup ps) := fun _ _ _ _ _ ⟨vs, hv, hvs⟩ => ⟨vs, hv, h.vals hvs⟩
theorem FreeP.agg {ps : List Pd} (h : FreePs ps) : FreeP (pAgg ps) := fun _ _ _ _ _ ⟨vs, hv, hvs⟩ => ⟨vs, hv, h.vals hvs⟩

/-- A call that reads what is owned, and whose result says nothing of memory. -/
theorem W_call {f : FuncId} {xs : Array Operand} {ts : Array TypeId} {ps : List Pd} {q : Pd} (ho : o.op = .call { callee := .value (.func f), args := xs, argTypes := ts }) (he : Enters P f) (hc : CallJ P f ps q) (hx : OpdsA Γ Ω xs.toList ps) (hq : FreeP q) : OpW P Ω o Γ q := by
  intro lo I w t hbd hg hO
  have hv := OpdsA.vals (J := fun b => b < w.heap.size) hbd (fun b _ hb _ => hb) hg hO hx
  have hr : (execOp (ev t) o).run P w = .ok (.enter f ((xs.toList.map (ev t)).toArray)) w := by
    have : Array.map (ev t) xs = (xs.toList.map (ev t)).toArray := by apply Array.ext'; simp
    simp only [execOp, ho, resolve, ev, Deferred.ofValue, invoke, this]
    simp [he _ w]
  unfold Exec; rw [hr]
  exact (hc _ w _ (fun _ h => h) hv).mono fun e w' ⟨v, h1, h2, h3⟩ => ⟨v, h1, h2, hq _ _ _ _ _ h3⟩

/-- What is owned says nothing of memory that is not owned. -/
def FreeO (o : Own) : Prop := ∀ (I I' F : Vw) (w : World), o.p I F w → o.p I' F w
def FreeOs : List Own → Prop
  | [] => True
  | o :: r => FreeO o ∧ FreeOs r
theorem FreeO.sl {α : Type} {et k n cap : Nat} {f : α → List Pd} {ad : Option Addr} {l : List α} (hf : ∀ x, FreePs (f x)) : FreeO (oSl et k f ad n cap l) := fun I I' F w ⟨hn, xs, hr, hv, ho⟩ => by
  refine ⟨hn, xs, hr, ?_, ho⟩
  have key : ∀ (l : List α), FreePs (l.flatMap f) := by
    intro l
    induction l with
    | nil => trivial
    | cons x l ih =>
      rw [List.flatMap_cons]
      have app : ∀ {a b : List Pd}, FreePs a → FreePs b → FreePs (a ++ b) := by
        intro a b ha hb
        induction a with
        | nil => exact hb
        | cons p a iha => exact ⟨ha.1, iha ha.2⟩
      exact app (hf x) ih
  exact (key l).vals hv
theorem FreeOs.sat {L : Vw} {I I' X X' : Vw} {w : World} : ∀ {Ω : List Own}, FreeOs Ω → (∀ b, X' b → X b) → SatO L I w X Ω → SatO L I' w X' Ω
  | [], _, _, _ => trivial
  | _ :: _, ⟨h, hr⟩, hX, ⟨F, hF, ho, hs⟩ => ⟨F, fun b hb => ⟨(hF b hb).1, (hF b hb).2.1, fun hx => (hF b hb).2.2 (hX b hx)⟩, h _ _ _ _ ho, FreeOs.sat hr (fun b hb => hb.imp (hX b) id) hs⟩

/-- A call that is handed the first part of what is owned, and reads the rest. -/
theorem M_callHB {B : Bs} {Ωi : List Own} {f : FuncId} {xs : Array Operand} {ts : Array TypeId} {ps : List Pd} {γ : Type} {val : γ → Pd} {Ωr : γ → List Own} (ho : o.op = .call { callee := .value (.func f), args := xs, argTypes := ts }) (he : Enters P f) (hc : CallH P f ps Ωi val Ωr) (hx : OpdsA Γ Ω xs.toList ps) (hv : ∀ g, FreeP (val g)) (hΩ : ∀ g, FreeOs (Ωr g)) :
    OpM P B o Γ (Ωi ++ Ω) val (fun g => Ωr g ++ Ω) := by
  intro I a w hs
  obtain ⟨H, hH, hi, hO⟩ := hs.o.split
  have hIJ : ∀ b, I b → (b < w.heap.size ∧ ¬ H b) := fun b hb => ⟨hs.bd b hb, fun hh => (hH b hh).2.2 hb⟩
  have hvs := OpdsA.vals (J := fun b => b < w.heap.size ∧ ¬ H b) hIJ (fun b _ hb hn => ⟨hb, fun hh => hn (.inr hh)⟩) hs.g hO hx
  have hr : (execOp (ev (tm a)) o).run P w = .ok (.enter f ((xs.toList.map (ev (tm a))).toArray)) w := by
    have : Array.map (ev (tm a)) xs = (xs.toList.map (ev (tm a))).toArray := by apply Array.ext'; simp
    simp only [execOp, ho, resolve, ev, Deferred.ofValue, invoke, this]
    simp [he _ w]
  unfold Exec; rw [hr]
  have hi' : SatO H (fun b => b < w.heap.size ∧ ¬ H b) w (fun b => b < w.heap.size ∧ ¬ H b) Ωi := SatO.view hIJ (SatO.excl (fun b hb hh => absurd hh hb.2) hi)
  refine (hc _ H w _ (fun _ h => h.1) hvs hi').mono fun e w' ⟨v, g, I', h1, h2, h3, h4, h5, h6⟩ => ⟨v, h1, g, I, ?_, hv g _ _ _ _ _ h5⟩
  refine hs.called hH hO h2 (fun _ h => h) (fun b h => .inl h) ?_
  exact (hΩ g).sat (fun b hb => h3 b (hIJ b hb)) h6
theorem M_callOB {B : Bs} {f : FuncId} {xs : Array Operand} {ts : Array TypeId} {ps : List Pd} {γ : Type} {val : γ → Pd} {Ωr : γ → List Own} (ho : o.op = .call { callee := .value (.func f), args := xs, argTypes := ts }) (he : Enters P f) (hc : CallO P f ps val Ωr) (hx : OpdsA Γ Ω xs.toList ps) (hv : ∀ g, FreeP (val g)) (hΩ : ∀ g, FreeOs (Ωr g)) :
    OpM P B o Γ Ω val (fun g => Ωr g ++ Ω) := M_callHB (Ωi := []) ho he hc hx hv hΩ
end

/-- Several slots that hold the row. -/
def addAll (ss : List Nat) (p : Pd) (Γ : Env) : Env := ss.foldr (fun s r => (s, p) :: r) Γ
theorem Ct.freezeRows {B : Bs} {Γ : Env} {Ω : List Own} {α : Type} {et k n cap : Nat} {f : α → List Pd} {ad : Option Addr} {l : List α} {K : Act → World → Prop} (ss : List Nat) (hf : ∀ x, (f x).length = k) (hl : Sub (ss.map fun s => (s, pEq (.slice ad n cap))) Γ) (h : Ct B (addAll ss (pSl k f l) Γ) Ω K) : Ct B Γ (oSl et k f ad n cap l :: Ω) K := by
  intro I a w hs
  obtain ⟨F, hF, hown, hr⟩ := hs.o
  have hI : ∀ c, I c → (I c ∨ F c) := fun _ h => .inl h
  have hfr := oSl.frozen hf hown
  refine h (fun c => I c ∨ F c) a w { df := hs.df, sz := hs.sz, bel := hs.bel, bd := fun c hc => hc.elim (hs.bd c) (fun hc => (hF c hc).2.1), vw := fun c hc => hc.elim (hs.vw c) (fun hc => .inr ⟨(hF c hc).1, (hF c hc).2.1⟩), up := fun c hc => .inl (hs.up c hc), g := ?_, o := ?_ }
  · have hgI : SatG (fun c => I c ∨ F c) w (tm a) Γ := hs.g.mono hI (fun _ _ => rfl)
    have hval := Sub.sat hs.g hl
    clear hl h
    induction ss with
    | nil => exact hgI
    | cons s ss ih =>
      intro s' q hs'
      by_cases hk : s' = s
      · subst hk
        simp only [addAll, List.foldr_cons, lk_cons_eq, Option.some.injEq] at hs'
        subst hs'
        have : tm a s' = _ := hval s' _ lk_cons_eq
        rw [this]; exact hfr
      · simp only [addAll, List.foldr_cons] at hs'
        rw [lk_cons_ne hk] at hs'
        refine ih (fun s2 q2 h2 => ?_) s' q hs'
        by_cases hk2 : s2 = s
        · subst hk2
          exact hval s2 q2 (by
            have h3 : ∀ {ss : List Nat} {x : Pd}, lk s2 (ss.map fun s => (s, x)) = some q2 → q2 = x := by
              intro ss x
              induction ss with
              | nil => intro h; simp [lk] at h
              | cons y ys ihy =>
                intro h
                by_cases hy : s2 = y
                · subst hy; rw [List.map_cons, lk_cons_eq] at h; exact (Option.some.inj h).symm
                · rw [List.map_cons, lk_cons_ne hy] at h; exact ihy h
            rw [List.map_cons, lk_cons_eq, h3 h2])
        · exact hval s2 q2 (by rw [List.map_cons, lk_cons_ne hk2]; exact h2)
  · have key : ∀ {Ω : List Own} {X : Vw}, SatO B.L I w X Ω → SatO B.L (fun c => I c ∨ F c) w X Ω := by
      intro Ω
      induction Ω with
      | nil => intro X _; trivial
      | cons o' Ω ih =>
        intro X ⟨F', hF', ho', hr'⟩
        exact ⟨F', hF', o'.mono hI (fun _ _ => rfl) (fun _ _ => rfl) ho', ih hr'⟩
    exact key hr
theorem RegL.freezeRows {P : Program} {B : Bs} {ops : Array Oper} {os : List Oper} {Γ : Env} {Ω : List Own} {Q : Exit → Act → World → Prop} {α : Type} {et k n cap : Nat} {f : α → List Pd} {ad : Option Addr} {l : List α} (ss : List Nat) (hf : ∀ x, (f x).length = k) (hl : Sub (ss.map fun s => (s, pEq (.slice ad n cap))) Γ) (h : RegL P B ops os (addAll ss (pSl k f l) Γ) Ω Q) : RegL P B ops os Γ (oSl et k f ad n cap l :: Ω) Q :=
  fun k' hk => Ct.freezeRows ss hf hl (h k' hk)
theorem RegL.weak {P : Program} {B : Bs} {ops : Array Oper} {os : List Oper} {Γ Γ' : Env} {Ω : List Own} {Q : Exit → Act → World → Prop} (hs : Sub Γ' Γ) (h : RegL P B ops os Γ' Ω Q) : RegL P B ops os Γ Ω Q := fun k hk => Ct.weak hs (h k hk)
theorem RegL.drop {P : Program} {B : Bs} {ops : Array Oper} {os : List Oper} {Γ : Env} {o : Own} {Ω : List Own} {Q : Exit → Act → World → Prop} (h : RegL P B ops os Γ Ω Q) : RegL P B ops os Γ (o :: Ω) Q := fun k hk => Ct.drop (h k hk)
theorem RegL.nilRow {P : Program} {B : Bs} {ops : Array Oper} {os : List Oper} {Γ : Env} {Ω : List Own} {Q : Exit → Act → World → Prop} {α : Type} {et k : Nat} {f : α → List Pd} (h : RegL P B ops os Γ (oSl et k f none 0 0 ([] : List α) :: Ω) Q) : RegL P B ops os Γ Ω Q := fun k' hk => Ct.nilRow (h k' hk)

theorem idx_lt {α : Type} {l : List α} {n : Int} {y : α} (h : idx l n = some y) : 0 ≤ n ∧ n < l.length := by
  obtain ⟨h0, h1, _⟩ := idx_some h
  exact ⟨h0, by omega⟩
/-- Is the place inside. -/
def inB {α : Type} (l : List α) (i : Int) : Option Unit := if 0 ≤ i ∧ i < l.length then some () else none
theorem inB_some {α : Type} {l : List α} {i : Int} {u : Unit} (h : inB l i = some u) : 0 ≤ i ∧ i < l.length := by
  unfold inB at h
  split at h
  · assumption
  · simp at h
theorem setL_of {α : Type} {l : List α} {i : Int} {x : α} (h : 0 ≤ i ∧ i < l.length) : setL l i x = some (l.set i.toNat x) := by unfold setL; rw [if_pos h]

inductive OneCs : List Pd → Prop
  | nil : OneCs []
  | cons {q : Pd} {r : List Pd} : OneC q → OneCs r → OneCs (q :: r)
theorem ones_of {I : Vw} {w : World} : ∀ {ps : List Pd} {us : List Value}, OneCs ps → Vals I w ps us → ∀ u ∈ us, u.oneCell' = true
  | [], [], _, _ => by simp
  | _ :: _, v :: vs, .cons h1 hr, ⟨h, hv⟩ => by
    intro u hu
    rcases List.mem_cons.1 hu with rfl | hu
    · exact h1 _ _ _ h
    · exact ones_of hr hv u hu
  | [], _ :: _, _, h => h.elim
  | _ :: _, [], _, h => h.elim

section
variable {P : Program} {B : Bs} {Γ Γ' : Env} {Ω Ω' : List Own} {Q : Exit → Act → World → Prop} {K : Act → World → Prop} {x : Code} {ops : Array Oper} {os : List Oper} {α : Type}
theorem Tr.weakO (hΩ : Ω = Ω') (hs : Sub Γ' Γ) (h : Tr P B x Γ' Ω' Q) : Tr P B x Γ Ω Q := by subst hΩ; exact Ct.weak hs h
theorem Tr.perm (hp : Ω.Perm Ω') (h : Tr P B x Γ Ω' Q) : Tr P B x Γ Ω Q := Ct.perm hp h
theorem Tr.drop {o : Own} (h : Tr P B x Γ Ω Q) : Tr P B x Γ (o :: Ω) Q := Ct.drop h
theorem Tr.nilRow {et k : Nat} {f : α → List Pd} (h : Tr P B x Γ (oSl et k f none 0 0 ([] : List α) :: Ω) Q) : Tr P B x Γ Ω Q := Ct.nilRow h
theorem Tr.freezeRows {et k n cap : Nat} {f : α → List Pd} {ad : Option Addr} {l : List α} (ss : List Nat) (hf : ∀ x, (f x).length = k) (hl : Sub (ss.map fun s => (s, pEq (.slice ad n cap))) Γ) (h : Tr P B x (addAll ss (pSl k f l) Γ) Ω Q) : Tr P B x Γ (oSl et k f ad n cap l :: Ω) Q := Ct.freezeRows ss hf hl h
/-- The nil slice reads as the empty list. -/
theorem Ct.nilSl {s k : Nat} {f : α → List Pd} (hl : lk s Γ = some (pEq (.slice none 0 0))) (h : Ct B ((s, pSl k f []) :: Γ) Ω K) : Ct B Γ Ω K := by
  intro I a w hs
  have hg : SatG I w (tm a) ((s, pSl k f []) :: Γ) := by
    intro s' q hs'
    by_cases hk : s' = s
    · subst hk
      rw [lk_cons_eq] at hs'
      cases hs'
      have : tm a s' = _ := hs.g s' _ hl
      rw [this]; exact Pd.nilsl
    · rw [lk_cons_ne hk] at hs'; exact hs.g s' q hs'
  exact h I a w { hs with g := hg }
theorem Tr.nilSl {s k : Nat} {f : α → List Pd} (hl : lk s Γ = some (pEq (.slice none 0 0))) (h : Tr P B x ((s, pSl k f []) :: Γ) Ω Q) : Tr P B x Γ Ω Q := Ct.nilSl hl h
theorem RegL.nilSl {s k : Nat} {f : α → List Pd} (hl : lk s Γ = some (pEq (.slice none 0 0))) (h : RegL P B ops os ((s, pSl k f []) :: Γ) Ω Q) : RegL P B ops os Γ Ω Q := fun k' hk => Ct.nilSl hl (h k' hk)
end
end Go.Wk
