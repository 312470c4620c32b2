/-
  Own memory: variables and rows that the call makes and may write: their judgements. No program in sight. Our own work.
-/
import Derived.Test.YtbhegklilcpbmaaDoorDraw
namespace Go.Wk
open Go Go.RowKit

/-- Block b, whole: its cells are of the listed kinds. -/
def oBlk (b : Nat) (ps : List Pd) : Own :=
  ⟨fun I F w => F b ∧ ∃ vs T, w.heap[b]? = some (.cells (List.toArray vs) T (0, 0)) ∧ Vals I w ps vs,
   fun hI hw hF ⟨hb, vs, T, h, hv⟩ => ⟨hb, vs, T, (hF _ hb).trans h, Vals.mono hI hw hv⟩⟩

def blk : Option Addr → Nat
  | some a => a.block
  | none => 0

/-- A row that starts a block: the slice (o, n, cap); its first n elements' cells are of the listed kinds. -/
def oRow (e k : Nat) (o : Option Addr) (n cap : Nat) (ps : List Pd) : Own :=
  ⟨fun I F w => ∃ xs, w.ownsRow 0 e k (.slice o n cap) n xs ∧ Vals I w ps xs ∧ (∀ a, o = some a → F a.block),
   fun hI hw hF ⟨xs, ⟨h1, h2⟩, hv, ho⟩ => ⟨xs, ⟨h1, h2.imp id (fun ⟨g, c, cur, e1, e2, e3, e4⟩ => ⟨g, c, cur, e1, e2, (hF g (by cases e1; exact ho _ rfl)).trans e3, e4⟩)⟩, Vals.mono hI hw hv, ho⟩⟩

/-- The value fills one cell. -/
def OneC (q : Pd) : Prop := ∀ I w v, q.p I w v → v.oneCell' = true
theorem OneC.int {k : IntKind} {n : Int} : OneC (pEq (.int k n)) := fun _ _ _ h => by simp only [pEq] at h; subst h; rfl
theorem OneC.bool {b : Bool} : OneC (pEq (.bool b)) := fun _ _ _ h => by simp only [pEq] at h; subst h; rfl
theorem OneC.str {s : ByteArray} : OneC (pEq (.string s)) := fun _ _ _ h => by simp only [pEq] at h; subst h; rfl
theorem OneC.slice {o : Option Addr} {n c : Nat} : OneC (pEq (.slice o n c)) := fun _ _ _ h => by simp only [pEq] at h; subst h; rfl
theorem OneC.ptr {o : Option Addr} : OneC (pEq (.pointer o)) := fun _ _ _ h => by simp only [pEq] at h; subst h; rfl
theorem OneC.sl {α : Type} {k : Nat} {f : α → List Pd} {l : List α} : OneC (pSl k f l) := fun _ _ _ ⟨_, _, h, _⟩ => by subst h; rfl
theorem OneC.pptr {ps : List Pd} : OneC (pPtr ps) := fun _ _ _ ⟨_, _, h, _⟩ => by subst h; rfl
theorem cells_one {v : Value} (h : v.oneCell' = true) : v.cells = #[v] := by
  cases v <;> first | rfl | simp [Value.oneCell'] at h

theorem SatO.push {L : Vw} {I : Vw} {w : World} {o : Own} {Ω : List Own} {F : Vw} (hF : ∀ b, F b → L b ∧ b < w.heap.size ∧ ¬ I b) (ho : o.p I F w) (h : SatO L I w (fun b => I b ∨ F b) Ω) : SatO L I w I (o :: Ω) := ⟨F, hF, ho, h⟩

theorem heap_alloc_last (w : World) (x : Obj) : (w.alloc x).heap[w.heap.size]? = some x := by
  show (w.heap.push x)[w.heap.size]? = some x
  simp
theorem heap_alloc_old (w : World) (x : Obj) {b : Nat} (h : b < w.heap.size) : (w.alloc x).heap[b]? = w.heap[b]? := Below.heap_alloc w x b h
theorem alloc_size (w : World) (x : Obj) : (w.alloc x).heap.size = w.heap.size + 1 := by
  show (w.heap.push x).size = _
  simp
theorem below_alloc (w : World) (x : Obj) : Below w.heap.size w (w.alloc x) := (Below.refl _ _).alloc (Nat.le_refl _) x

theorem Pd.nilsl {α : Type} {k : Nat} {f : α → List Pd} {I : Vw} {w : World} : (pSl k f ([] : List α)).p I w (.slice none 0 0) := ⟨none, 0, rfl, Nat.le_refl _, fun _ => rfl, fun i h => by simp at h⟩

section
variable {P : Program} {B : Bs} {o : Oper} {Γ : Env} {Ω : List Own}

/-- A new block that nobody writes: the view takes it in. -/
theorem J_box {T : TypeId} {x : Operand} {q : Pd} (ho : o.op = .box T x) (hx : Opd Γ x q) (hq : OneC q) : OpJ P o Γ (pPtr [q]) := by
  intro I w t hbd hg
  have hv := hx I w t hg
  have h1 := hq _ _ _ hv
  unfold Exec
  have : (execOp (ev t) o).run P w = .ok (.value (.pointer (some ⟨w.heap.size, 0, none⟩))) (w.alloc (.cells #[ev t x] T)) := by
    simp [execOp, ho, Instr.box, newVar, newRow, cells_one h1]
  rw [this]
  refine ⟨below_alloc _ _, w.heap.size, 0, rfl, .inr ⟨Nat.le_refl _, by rw [alloc_size]; omega⟩, ⟨ev t x, ?_, ?_⟩, trivial⟩
  · unfold World.cell?; rw [heap_alloc_last]; rfl
  · exact q.mono gr_sub (fun b hb => heap_alloc_old _ _ (hbd b hb)) hv
theorem Vals.cells {I : Vw} {w : World} {b : Nat} {T : TypeId} {fr : Nat × Nat} {vs : List Value} (h : w.heap[b]? = some (.cells vs.toArray T fr)) : ∀ {ps : List Pd} {us : List Value} {off : Nat}, vs.drop off = us → Vals I w ps us → Cells I w b off ps
  | [], _, _, _, _ => trivial
  | q :: r, v :: us, off, hd, ⟨hq, hr⟩ => by
    obtain ⟨h1, h2⟩ := drop_head hd
    exact ⟨⟨v, by simp [World.cell?, h, h1], hq⟩, Vals.cells h h2 hr⟩
  | _ :: _, [], _, _, h => h.elim
theorem J_boxA {T : TypeId} {x : Operand} {ps : List Pd} (ho : o.op = .box T x) (hx : Opd Γ x (pAgg ps)) : OpJ P o Γ (pPtr ps) := by
  intro I w t hbd hg
  obtain ⟨vs, he, hv⟩ := hx I w t hg
  unfold Exec
  have : (execOp (ev t) o).run P w = .ok (.value (.pointer (some ⟨w.heap.size, 0, none⟩))) (w.alloc (.cells vs.toArray T)) := by
    simp [execOp, ho, he, Instr.box, newVar, newRow, Value.cells]
  rw [this]
  refine ⟨below_alloc _ _, w.heap.size, 0, rfl, .inr ⟨Nat.le_refl _, by rw [alloc_size]; omega⟩, ?_⟩
  exact Vals.cells (heap_alloc_last _ _) (us := vs) (by simp) (hv.mono gr_sub (fun b hb => heap_alloc_old _ _ (hbd b hb)))

/-- The state behind a new own block. -/
theorem Sat.own {I : Vw} {a : Act} {w : World} {vs : List Value} {T : TypeId} {ps : List Pd} (hs : Sat B Γ Ω I a w) (hv : Vals I w ps vs) : Sat B Γ (oBlk w.heap.size ps :: Ω) I a (w.alloc (.cells vs.toArray T)) where
  df := hs.df
  sz := hs.sz
  bel := hs.bel.trans (below_alloc _ _)
  bd := fun b hb => by have := hs.bd b hb; rw [alloc_size]; omega
  vw := fun b hb => (hs.vw b hb).imp id (fun h => ⟨h.1, by rw [alloc_size]; omega⟩)
  up := hs.up
  g := hs.g.mono (fun _ h => h) (fun b hb => heap_alloc_old _ _ (hs.bd b hb))
  o := by
    refine ⟨fun b => b = w.heap.size, fun b hb => ?_, ⟨rfl, vs, T, heap_alloc_last _ _, hv.mono (fun _ h => h) (fun b hb => heap_alloc_old _ _ (hs.bd b hb))⟩, ?_⟩
    · subst hb; exact ⟨.inr hs.bel.size, by rw [alloc_size]; omega, fun h => by have := hs.bd _ h; omega⟩
    · refine SatO.mono (fun _ h => h) (by rw [alloc_size]; omega) (fun b hb => heap_alloc_old _ _ hb) hs.bd (fun b hb hx => hx.elim id (fun h => absurd h (by omega))) hs.o

theorem M_box {T : TypeId} {x : Operand} {q : Pd} (ho : o.op = .box T x) (hx : Opd Γ x q) (hq : OneC q) : OpM P B o Γ Ω (fun b : Nat => pEq (.pointer (some ⟨b, 0, none⟩))) (fun b => oBlk b [q] :: Ω) := by
  intro I a w hs
  have hv := hx I w (tm a) hs.g
  have h1 := hq _ _ _ hv
  unfold Exec
  have : (execOp (ev (tm a)) o).run P w = .ok (.value (.pointer (some ⟨w.heap.size, 0, none⟩))) (w.alloc (.cells [ev (tm a) x].toArray T)) := by
    simp [execOp, ho, Instr.box, newVar, newRow, cells_one h1]
  rw [this]
  exact ⟨w.heap.size, I, hs.own ⟨hv, trivial⟩, rfl⟩
theorem M_boxA {T : TypeId} {x : Operand} {ps : List Pd} (ho : o.op = .box T x) (hx : Opd Γ x (pAgg ps)) : OpM P B o Γ Ω (fun b : Nat => pEq (.pointer (some ⟨b, 0, none⟩))) (fun b => oBlk b ps :: Ω) := by
  intro I a w hs
  obtain ⟨vs, he, hv⟩ := hx I w (tm a) hs.g
  unfold Exec
  have : (execOp (ev (tm a)) o).run P w = .ok (.value (.pointer (some ⟨w.heap.size, 0, none⟩))) (w.alloc (.cells vs.toArray T)) := by
    simp [execOp, ho, he, Instr.box, newVar, newRow, Value.cells]
  rw [this]
  exact ⟨w.heap.size, I, hs.own hv, rfl⟩

/-- The zero value's cells are of the listed kinds. -/
def Zero (P : Program) (T : TypeId) (ps : List Pd) : Prop := ∃ z vs, (∀ w, (zeroValue T).run P w = .ok z w) ∧ z.cells = List.toArray vs ∧ ∀ I w, Vals I w ps vs

theorem M_alloc {T : TypeId} {ps : List Pd} (ho : o.op = .alloc T) (hz : Zero P T ps) : OpM P B o Γ Ω (fun b : Nat => pEq (.pointer (some ⟨b, 0, none⟩))) (fun b => oBlk b ps :: Ω) := by
  intro I a w hs
  obtain ⟨z, vs, hz1, hz2, hz3⟩ := hz
  unfold Exec
  have : (execOp (ev (tm a)) o).run P w = .ok (.value (.pointer (some ⟨w.heap.size, 0, none⟩))) (w.alloc (.cells vs.toArray T)) := by
    simp [execOp, ho, Instr.alloc, newVar, newRow, hz1 w, hz2]
  rw [this]
  exact ⟨w.heap.size, I, hs.own (hz3 I w), rfl⟩

/-- Addresses in an own block are exact. -/
theorem J_fieldAddrE {S : TypeId} {x : Operand} {i n b off off' : Nat} {fs : Array Field} {fd : Field} (ho : o.op = .fieldAddr S x i) (hS : P.underlying S = some (.struct fs)) (hf : fs[i]? = some fd) (hn : ∀ w, (sizeOf fd.type).run P w = .ok n w) (hn0 : n ≠ 0)
    (hx : Opd Γ x (pEq (.pointer (some ⟨b, off, none⟩)))) (hoff : off + fd.offset = off') : OpJ P o Γ (pEq (.pointer (some ⟨b, off', none⟩))) :=
  OpJ.val fun I w t _ hg => by
    have h : ev t x = _ := hx I w t hg
    subst hoff
    refine ⟨.pointer (some ⟨b, off + fd.offset, none⟩), ?_, rfl⟩
    simp [execOp, ho, h, Instr.fieldAt, Instr.sureAddr, fieldPlace, run_underlying hS, hf, hn w, hn0, addr_add]

/-- A load out of an own block. -/
theorem M_load {T : TypeId} {x : Operand} {b off : Nat} {ps : List Pd} {q : Pd} (ho : o.op = .load T x) (hT : ∀ w, (isAgg T).run P w = .ok false w) (hx : Opd Γ x (pEq (.pointer (some ⟨b, off, none⟩)))) (hq : ps[off]? = some q) :
    OpM P B o Γ (oBlk b ps :: Ω) (fun _ : Unit => q) (fun _ => oBlk b ps :: Ω) := by
  intro I a w hs
  have h : ev (tm a) x = _ := hx I w (tm a) hs.g
  obtain ⟨F, hF, ⟨hb, vs, T', hh, hv⟩, hr⟩ := hs.o
  obtain ⟨u, hu, hp⟩ := hv.get hq
  have hc : w.cell? ⟨b, off, none⟩ = some u := by simp [World.cell?, hh, hu]
  unfold Exec
  have : (execOp (ev (tm a)) o).run P w = .ok (.value u) w := by
    simp [execOp, ho, h, Instr.loadAt, Instr.sureAddr, loadVar, hT w, hc]
  rw [this]
  exact ⟨(), I, hs, hp⟩
theorem M_loadA {T : TypeId} {x : Operand} {b n : Nat} {ps : List Pd} (ho : o.op = .load T x) (hT : ∀ w, (isAgg T).run P w = .ok true w) (hn : ∀ w, (sizeOf T).run P w = .ok n w) (hx : Opd Γ x (pEq (.pointer (some ⟨b, 0, none⟩)))) (hl : ps.length = n) :
    OpM P B o Γ (oBlk b ps :: Ω) (fun _ : Unit => pAgg ps) (fun _ => oBlk b ps :: Ω) := by
  intro I a w hs
  have h : ev (tm a) x = _ := hx I w (tm a) hs.g
  obtain ⟨F, hF, ⟨hb, vs, T', hh, hv⟩, hr⟩ := hs.o
  have hll : vs.length = n := by rw [hv.length, hl]
  have hc := run_loadCells_list (P := P) w ⟨b, 0, none⟩ vs (fun _ v hj => by rw [addr_add]; simp [World.cell?, hh, hj])
  rw [hll] at hc
  unfold Exec
  have : (execOp (ev (tm a)) o).run P w = .ok (.value (.agg vs.toArray)) w := by
    simp [execOp, ho, h, Instr.loadAt, Instr.sureAddr, loadVar, hT w, hn w, hc]
  rw [this]
  exact ⟨(), I, hs, vs, rfl, hv⟩

theorem Vals.set {I : Vw} {w : World} {q : Pd} {v : Value} (hq : q.p I w v) : ∀ {ps : List Pd} {vs : List Value} {j : Nat}, Vals I w ps vs → Vals I w (ps.set j q) (vs.set j v)
  | [], [], _, _ => trivial
  | _ :: _, _ :: _, 0, ⟨_, hr⟩ => ⟨hq, hr⟩
  | _ :: _, _ :: _, _ + 1, ⟨h, hr⟩ => ⟨h, Vals.set hq hr⟩
  | [], _ :: _, _, h => h.elim
  | _ :: _, [], _, h => h.elim

theorem setCell_heap (w : World) {b off : Nat} {v : Value} {vs : List Value} {T : TypeId} (h : w.heap[b]? = some (.cells vs.toArray T (0, 0))) : (w.setCell ⟨b, off, none⟩ v).heap[b]? = some (.cells (vs.set off v).toArray T (0, 0)) := by
  simp only [World.setCell, Array.getElem?_modify, if_true, h, Option.map_some]
  simp

theorem setCell_size (w : World) (a : Addr) (v : Value) : (w.setCell a v).heap.size = w.heap.size := by simp [World.setCell]

/-- The state when an own block, the first listed, has turned to something that is owned still. -/
theorem Sat.turn {I : Vw} {a : Act} {w w' : World} {o1 o2 : Own} (hs : Sat B Γ (o1 :: Ω) I a w) (F : Vw) (hF : ∀ b, F b → B.L b ∧ b < w.heap.size ∧ ¬ I b) (hr : SatO B.L I w (fun b => I b ∨ F b) Ω)
    (hsz : w'.heap.size = w.heap.size) (hos : w'.os = w.os) (htp : w'.tape = w.tape) (hout : w'.output = w.output) (hsame : ∀ b, ¬ F b → w'.heap[b]? = w.heap[b]?) (ho : o2.p I F w') : Sat B Γ (o2 :: Ω) I a w' where
  df := hs.df
  sz := hs.sz
  bel := ⟨hos.trans hs.bel.os, htp.trans hs.bel.tape, hout.trans hs.bel.output, by rw [hsz]; exact hs.bel.size, fun b hb hn => (hsame b (fun hf => (hF b hf).1.elim hn (fun h => absurd hb (by omega)))).trans (hs.bel.block b hb hn)⟩
  bd := fun b hb => by rw [hsz]; exact hs.bd b hb
  vw := fun b hb => (hs.vw b hb).imp id (fun h => ⟨h.1, by rw [hsz]; exact h.2⟩)
  up := hs.up
  g := hs.g.mono (fun _ h => h) (fun b hb => hsame b (fun hf => (hF b hf).2.2 hb))
  o := by
    refine ⟨F, fun b hb => by rw [hsz]; exact hF b hb, ho, ?_⟩
    have key : ∀ {Ω : List Own} {X : Vw}, (∀ b, F b → X b) → (∀ b, I b → X b) → SatO B.L I w X Ω → SatO B.L I w' X Ω := by
      intro Ω
      induction Ω with
      | nil => intro X _ _ _; trivial
      | cons o' Ω ih =>
        intro X hX hX2 ⟨F', hF', ho', hr'⟩
        exact ⟨F', fun b hb => by rw [hsz]; exact hF' b hb, o'.mono (fun _ h => h) (fun b hb => hsame b (fun hf => (hF b hf).2.2 hb)) (fun b hb => hsame b (fun hf => (hF' b hb).2.2 (hX b hf))) ho', ih (fun b hb => .inl (hX b hb)) (fun b hb => .inl (hX2 b hb)) hr'⟩
    exact key (fun b hb => .inr hb) (fun b hb => .inl hb) hr

/-- A store into an own block. -/
theorem M_store {T : TypeId} {x y : Operand} {b off : Nat} {ps ps' : List Pd} {q : Pd} (ho : o.op = .store T x y) (hT : ∀ w, (sizeOf T).run P w = .ok 1 w) (hx : Opd Γ x (pEq (.pointer (some ⟨b, off, none⟩)))) (hy : Opd Γ y q) (hq : OneC q) (hlt : Nat.blt off ps.length = true) (hps : ps.set off q = ps') :
    OpM P B o Γ (oBlk b ps :: Ω) (fun _ : Unit => pAny) (fun _ => oBlk b ps' :: Ω) := by
  subst hps
  intro I a w hs
  have h : ev (tm a) x = _ := hx I w (tm a) hs.g
  have hyv := hy I w (tm a) hs.g
  have h1 := hq _ _ _ hyv
  obtain ⟨F, hF, ⟨hb, vs, T', hh, hv⟩, hr⟩ := hs.o
  have hlv : off < vs.length := by rw [hv.length]; simpa using hlt
  have hc : w.cell? ⟨b, off, none⟩ = some vs[off] := by simp [World.cell?, hh, hlv]
  have hfz : w.frozen? ⟨b, off, none⟩ = false := by simp [World.frozen?, hh]
  unfold Exec
  have : (execOp (ev (tm a)) o).run P w = .ok .skip (w.setCell ⟨b, off, none⟩ (ev (tm a) y)) := by
    have hst := run_store P w ⟨b, off, none⟩ (ev (tm a) y) .plain h1
    rw [hc] at hst
    simp only [hfz, Bool.false_eq_true, if_false] at hst
    simp [execOp, ho, h, Instr.storeAt, Instr.sureAddr, storeVar, hT w, cells_one h1, storeCells, addr_add, hst]
  rw [this]
  have hnb : ∀ b', ¬ F b' → (w.setCell ⟨b, off, none⟩ (ev (tm a) y)).heap[b']? = w.heap[b']? := fun b' hb' => Below.heap_setCell w ⟨b, off, none⟩ (ev (tm a) y) b' (fun e => by subst e; exact hb' hb)
  refine ⟨(), I, hs.turn F hF hr (setCell_size _ _ _) rfl rfl rfl hnb ?_, trivial⟩
  refine ⟨hb, vs.set off (ev (tm a) y), T', setCell_heap w hh, ?_⟩
  exact (Vals.set hyv hv).mono (fun _ h => h) (fun b' hb' => hnb b' (fun hf => (hF b' hf).2.2 hb'))

/-- An own block is frozen: the view takes it in. -/
theorem Ct.freeze {b s : Nat} {ps : List Pd} {K : Act → World → Prop} (hl : lk s Γ = some (pEq (.pointer (some ⟨b, 0, none⟩)))) (h : Ct B ((s, pPtr ps) :: Γ) Ω K) : Ct B Γ (oBlk b ps :: Ω) K := by
  intro I a w hs
  obtain ⟨F, hF, ⟨hb, vs, T', hh, hv⟩, hr⟩ := hs.o
  have hI : ∀ c, I c → (I c ∨ F c) := fun _ h => .inl h
  refine h (fun c => I c ∨ F c) a w { df := hs.df, sz := hs.sz, bel := hs.bel, bd := fun c hc => hc.elim (hs.bd c) (fun hc => (hF c hc).2.1), vw := fun c hc => hc.elim (hs.vw c) (fun hc => .inr ⟨(hF c hc).1, (hF c hc).2.1⟩), up := fun c hc => .inl (hs.up c hc), g := ?_, o := ?_ }
  · intro s' q hs'
    by_cases hk : s' = s
    · subst hk; rw [lk_cons_eq] at hs'; cases hs'
      have : tm a s' = _ := hs.g s' _ hl
      exact ⟨b, 0, this, .inr hb, Vals.cells hh (us := vs) (by simp) (hv.mono hI (fun _ _ => rfl))⟩
    · rw [lk_cons_ne hk] at hs'; exact q.mono hI (fun _ _ => rfl) (hs.g s' q hs')
  · have key : ∀ {Ω : List Own} {X : Vw}, SatO B.L I w X Ω → SatO B.L (fun c => I c ∨ F c) w X Ω := by
      intro Ω
      induction Ω with
      | nil => intro X _; trivial
      | cons o' Ω ih =>
        intro X ⟨F', hF', ho', hr'⟩
        exact ⟨F', hF', o'.mono hI (fun _ _ => rfl) (fun _ _ => rfl) ho', ih hr'⟩
    exact key hr

/-- The body's end: the result is a struct in an own variable. -/
theorem Ct.retA {fn : Func} {T s n b : Nat} {ps : List Pd} (hr : fn.results = #[.cell s T]) (hT : ∀ w, (isAgg T).run P w = .ok true w) (hn : ∀ w, (sizeOf T).run P w = .ok n w) (hl : lk s Γ = some (pEq (.pointer (some ⟨b, 0, none⟩)))) (hps : ps.length = n) : Ct B Γ (oBlk b ps :: Ω) (bodyPost P fn (PostJ B (pAgg ps)) .ret) := fun I a w hs => by
  obtain ⟨F, hF, ⟨hb, vs, T', hh, hv⟩, hr'⟩ := hs.o
  have h : tm a s = _ := hs.g s _ hl
  have hll : vs.length = n := by rw [hv.length, hps]
  have hc := run_loadCells_list (P := P) w ⟨b, 0, none⟩ vs (fun _ v hj => by rw [addr_add]; simp [World.cell?, hh, hj])
  rw [hll] at hc
  unfold tm at h
  rw [Array.getD_eq_getD_getElem?] at h
  refine ⟨hs.df, .agg vs.toArray, ?_, _, rfl, hs.bel, vs, rfl, hv.mono hs.vw (fun _ _ => rfl)⟩
  simp only [results, hr]
  simp [h, asAddr, loadVar, hT w, hn w, hc]
end
end Go.Wk
