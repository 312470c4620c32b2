/-
  The calculus of the walks: typed predicates on values and memory, a judgement for one operation, rules for regions (in text order, and in any order), for code, loops and calls. No program in sight. Our own work.
-/
import Derived.WalkKit
import Derived.ProofKit
namespace Go.Wk
open Go Go.RowKit

abbrev Vw := Nat → Prop

/-- A predicate on a value in a world, said of the blocks of a view; it holds on when the view grows and its blocks stay. -/
structure Pd where
  p : Vw → World → Value → Prop
  mono : ∀ {I I' : Vw} {w w' : World} {v : Value}, (∀ b, I b → I' b) → (∀ b, I b → w'.heap[b]? = w.heap[b]?) → p I w v → p I' w' v

def pEq (x : Value) : Pd := ⟨fun _ _ v => v = x, fun _ _ h => h⟩
def pAny : Pd := ⟨fun _ _ _ => True, fun _ _ h => h⟩

theorem cell?_of_block {w w' : World} {a : Addr} (h : w'.heap[a.block]? = w.heap[a.block]?) : w'.cell? a = w.cell? a := by
  unfold World.cell?; rw [h]

/-- The cells from an offset on hold values of the listed kinds. -/
def Cells (I : Vw) (w : World) (b : Nat) : Nat → List Pd → Prop
  | _, [] => True
  | off, q :: r => (∃ v, w.cell? ⟨b, off, none⟩ = some v ∧ q.p I w v) ∧ Cells I w b (off + 1) r

theorem Cells.mono {I I' : Vw} {w w' : World} {b : Nat} (hI : ∀ b, I b → I' b) (hw : ∀ b, I b → w'.heap[b]? = w.heap[b]?) (hb : w'.heap[b]? = w.heap[b]?) :
    ∀ {ps : List Pd} {off : Nat}, Cells I w b off ps → Cells I' w' b off ps
  | [], _, _ => trivial
  | _ :: _, _, ⟨⟨v, hv, hp⟩, hr⟩ => ⟨⟨v, by rw [cell?_of_block (by exact hb)]; exact hv, Pd.mono _ hI hw hp⟩, Cells.mono hI hw hb hr⟩

def Vals (I : Vw) (w : World) : List Pd → List Value → Prop
  | [], [] => True
  | q :: r, v :: vs => q.p I w v ∧ Vals I w r vs
  | _, _ => False

theorem Vals.mono {I I' : Vw} {w w' : World} (hI : ∀ b, I b → I' b) (hw : ∀ b, I b → w'.heap[b]? = w.heap[b]?) :
    ∀ {ps : List Pd} {vs : List Value}, Vals I w ps vs → Vals I' w' ps vs
  | [], [], _ => trivial
  | _ :: _, _ :: _, ⟨h, hr⟩ => ⟨Pd.mono _ hI hw h, Vals.mono hI hw hr⟩
  | [], _ :: _, h => h.elim
  | _ :: _, [], h => h.elim

theorem Vals.length {I : Vw} {w : World} : ∀ {ps : List Pd} {vs : List Value}, Vals I w ps vs → vs.length = ps.length
  | [], [], _ => rfl
  | _ :: _, _ :: _, ⟨_, hr⟩ => by simp [Vals.length hr]
  | [], _ :: _, h => h.elim
  | _ :: _, [], h => h.elim

/-- A pointer to cells of the view. -/
def pPtr (ps : List Pd) : Pd :=
  ⟨fun I w v => ∃ b off, v = .pointer (some ⟨b, off, none⟩) ∧ I b ∧ Cells I w b off ps,
   fun hI hw ⟨b, off, hv, hb, hc⟩ => ⟨b, off, hv, hI b hb, hc.mono hI hw (hw b hb)⟩⟩

/-- A slice that reads as a list; an element takes k cells. -/
def pSl {α : Type} (k : Nat) (f : α → List Pd) (l : List α) : Pd :=
  ⟨fun I w v => ∃ o cap, v = .slice o l.length cap ∧ l.length ≤ cap ∧ (o = none → cap = 0) ∧ ∀ (i : Nat) (h : i < l.length), ∃ b off, o = some ⟨b, off, none⟩ ∧ I b ∧ Cells I w b (off + i * k) (f l[i]),
   fun hI hw ⟨o, cap, hv, hc, hz, he⟩ => ⟨o, cap, hv, hc, hz, fun i h => let ⟨b, off, ho, hb, hcs⟩ := he i h; ⟨b, off, ho, hI b hb, hcs.mono hI hw (hw b hb)⟩⟩⟩

def pAgg (ps : List Pd) : Pd :=
  ⟨fun I w v => ∃ vs : List Value, v = .agg vs.toArray ∧ Vals I w ps vs, fun hI hw ⟨vs, hv, h⟩ => ⟨vs, hv, Vals.mono hI hw h⟩⟩
def pTup (ps : List Pd) : Pd :=
  ⟨fun I w v => ∃ vs : List Value, v = .tuple vs.toArray ∧ Vals I w ps vs, fun hI hw ⟨vs, hv, h⟩ => ⟨vs, hv, Vals.mono hI hw h⟩⟩

/-! ### slots -/
abbrev Env := List (Nat × Pd)
def lk (s : Nat) : Env → Option Pd
  | [] => none
  | (k, p) :: r => bif Nat.beq s k then some p else lk s r

def ev (tm : Nat → Value) : Operand → Value
  | .tmp t => tm t
  | .const v => v
  | .global g => .pointer (some ⟨g, 0, none⟩)
  | .func f => .func (.func f) #[] #[]

def tm (a : Act) : Nat → Value := fun t => a.tmps.getD t undef
theorem eval_eq (a : Act) : a.eval = ev (tm a) := by
  funext x; cases x <;> rfl

def SatG (I : Vw) (w : World) (t : Nat → Value) (Γ : Env) : Prop := ∀ s p, lk s Γ = some p → p.p I w (t s)

/-- The blocks that are new between two worlds belong to the view. -/
def gr (I : Vw) (w w' : World) : Vw := fun b => I b ∨ (w.heap.size ≤ b ∧ b < w'.heap.size)

theorem SatG.mono {I I' : Vw} {w w' : World} {t : Nat → Value} {Γ : Env} (hI : ∀ b, I b → I' b) (hw : ∀ b, I b → w'.heap[b]? = w.heap[b]?) (h : SatG I w t Γ) : SatG I' w' t Γ :=
  fun s p hs => p.mono hI hw (h s p hs)

/-! ### own memory -/
structure Own where
  p : Vw → Vw → World → Prop
  mono : ∀ {I I' F : Vw} {w w' : World}, (∀ b, I b → I' b) → (∀ b, I b → w'.heap[b]? = w.heap[b]?) → (∀ b, F b → w'.heap[b]? = w.heap[b]?) → p I F w → p I' F w'

def SatO (L : Vw) (I : Vw) (w : World) : Vw → List Own → Prop
  | _, [] => True
  | X, o :: r => ∃ F : Vw, (∀ b, F b → L b ∧ b < w.heap.size ∧ ¬ X b) ∧ o.p I F w ∧ SatO L I w (fun b => X b ∨ F b) r

/-- What is owned stays where neither its blocks nor the view's have turned. 'X' may grow by blocks that are not below the old heap's end. -/
theorem SatO.mono {L : Vw} {I I' : Vw} {w w' : World} (hI : ∀ b, I b → I' b) (hs : w.heap.size ≤ w'.heap.size) (hw : ∀ b, b < w.heap.size → w'.heap[b]? = w.heap[b]?) (hbd : ∀ b, I b → b < w.heap.size) :
    ∀ {Ω : List Own} {X X' : Vw}, (∀ b, b < w.heap.size → X' b → X b) → SatO L I w X Ω → SatO L I' w' X' Ω
  | [], _, _, _, _ => trivial
  | _ :: _, _, _, hX, ⟨F, hF, ho, hr⟩ =>
    ⟨F, fun b hb => let ⟨h1, h2, h3⟩ := hF b hb; ⟨h1, Nat.lt_of_lt_of_le h2 hs, fun hx => h3 (hX b h2 hx)⟩,
     Own.mono _ hI (fun b hb => hw b (hbd b hb)) (fun b hb => hw b (hF b hb).2.1) ho,
     SatO.mono hI hs hw hbd (fun b hb hx => hx.imp (hX b hb) id) hr⟩

/-! ### the state of a walk -/
/-- What a walk starts from: the world at the call, the view that the arguments are said in, the frame's size. -/
structure Bs where
  W : World
  I0 : Vw
  H : Vw
  n : Nat

/-- What the call may write: what was handed to it for that, and new memory. -/
def Bs.L (B : Bs) : Vw := fun b => B.H b ∨ B.W.heap.size ≤ b

/-- What was there stays, outside of H. -/
structure Bel (H : Vw) (W w : World) : Prop where
  os : w.os = W.os
  tape : w.tape = W.tape
  output : w.output = W.output
  size : W.heap.size ≤ w.heap.size
  block : ∀ b, b < W.heap.size → ¬ H b → w.heap[b]? = W.heap[b]?
theorem Bel.refl {H : Vw} {W : World} : Bel H W W := ⟨rfl, rfl, rfl, Nat.le_refl _, fun _ _ _ => rfl⟩
theorem Bel.trans {H : Vw} {W w w' : World} (h : Bel H W w) (h' : Below w.heap.size w w') : Bel H W w' :=
  ⟨h'.os.trans h.os, h'.tape.trans h.tape, h'.output.trans h.output, Nat.le_trans h.size h'.size, fun b hb hn => (h'.block b (Nat.lt_of_lt_of_le hb h.size)).trans (h.block b hb hn)⟩
/-- On by a step that writes only what may be written. -/
theorem Bel.trans2 {H G : Vw} {W w w' : World} (h : Bel H W w) (h' : Bel G w w') (hG : ∀ b, G b → H b ∨ W.heap.size ≤ b) : Bel H W w' :=
  ⟨h'.os.trans h.os, h'.tape.trans h.tape, h'.output.trans h.output, Nat.le_trans h.size h'.size, fun b hb hn => (h'.block b (Nat.lt_of_lt_of_le hb h.size) (fun hg => (hG b hg).elim hn (fun h => absurd hb (by omega)))).trans (h.block b hb hn)⟩
theorem Bel.below {W w : World} (h : Bel (fun _ => False) W w) : Below W.heap.size W w := ⟨h.os, h.tape, h.output, h.size, fun b hb => h.block b hb id⟩
theorem Below.bel {H : Vw} {W w : World} (h : Below W.heap.size W w) : Bel H W w := ⟨h.os, h.tape, h.output, h.size, fun b hb _ => h.block b hb⟩

structure Sat (B : Bs) (Γ : Env) (Ω : List Own) (I : Vw) (a : Act) (w : World) : Prop where
  df : a.defers = []
  sz : a.tmps.size = B.n
  bel : Bel B.H B.W w
  bd : ∀ b, I b → b < w.heap.size
  vw : ∀ b, I b → B.I0 b ∨ (B.L b ∧ b < w.heap.size)
  up : ∀ b, B.I0 b → I b
  g : SatG I w (tm a) Γ
  o : SatO B.L I w I Ω

theorem Below.here {w w' : World} (h : Below w.heap.size w w') {b : Nat} (hb : b < w.heap.size) : w'.heap[b]? = w.heap[b]? := h.block b hb

theorem gr_bd {I : Vw} {w w' : World} (hbd : ∀ b, I b → b < w.heap.size) (h : w.heap.size ≤ w'.heap.size) : ∀ b, gr I w w' b → b < w'.heap.size :=
  fun b hb => hb.elim (fun h' => Nat.lt_of_lt_of_le (hbd b h') h) (fun h' => h'.2)

theorem gr_refl {I : Vw} {w : World} : ∀ b, gr I w w b → I b := fun b hb => hb.elim id (fun h => absurd h.1 (by omega))
theorem gr_sub {I : Vw} {w w' : World} : ∀ b, I b → gr I w w' b := fun _ h => .inl h
theorem gr_trans {I : Vw} {w w' w'' : World} (_ : w.heap.size ≤ w'.heap.size) (_ : w'.heap.size ≤ w''.heap.size) : ∀ b, gr (gr I w w') w' w'' b → gr I w w'' b := fun b hb => by
  rcases hb with (hb | hb) | hb
  · exact .inl hb
  · exact .inr ⟨hb.1, by omega⟩
  · exact .inr ⟨by omega, hb.2⟩
theorem gr_trans' {I : Vw} {w w' w'' : World} : ∀ b, gr I w w'' b → gr (gr I w w') w' w'' b := fun b hb => by
  rcases hb with hb | hb
  · exact .inl (.inl hb)
  · by_cases hc : b < w'.heap.size
    · exact .inl (.inr ⟨hb.1, hc⟩)
    · exact .inr ⟨by omega, hb.2⟩

theorem Sat.grow {B : Bs} {Γ : Env} {Ω : List Own} {I : Vw} {a : Act} {w w' : World} (h : Sat B Γ Ω I a w) (hb : Below w.heap.size w w') : Sat B Γ Ω (gr I w w') a w' where
  df := h.df
  sz := h.sz
  bel := h.bel.trans hb
  bd := gr_bd h.bd hb.size
  vw := fun b hb' => by
    rcases hb' with hb' | ⟨h1, h2⟩
    · exact (h.vw b hb').imp id (fun ⟨h1, h2⟩ => ⟨h1, Nat.lt_of_lt_of_le h2 hb.size⟩)
    · exact .inr ⟨.inr (Nat.le_trans h.bel.size h1), h2⟩
  up := fun b hb' => .inl (h.up b hb')
  g := h.g.mono gr_sub (fun b hb' => hb.block b (h.bd b hb'))
  o := SatO.mono gr_sub hb.size (fun b hb' => hb.block b hb') h.bd (fun b hb' hx => hx.elim id (fun h' => absurd hb' (by omega))) h.o

theorem lk_cons_ne {s k : Nat} {p : Pd} {Γ : Env} (h : s ≠ k) : lk s ((k, p) :: Γ) = lk s Γ := by
  have : Nat.beq s k = false := by
    cases hb : Nat.beq s k
    · rfl
    · exact absurd (Nat.eq_of_beq_eq_true hb) h
  simp [lk, this]
theorem lk_cons_eq {k : Nat} {p : Pd} {Γ : Env} : lk k ((k, p) :: Γ) = some p := by
  simp [lk, Nat.beq_refl]

theorem tm_put_ne {a : Act} {d : Nat} {v : Value} {s : Nat} (h : s ≠ d) : tm (a.put (some d) v) s = tm a s := by
  simp [tm, Act.put, Array.getElem?_setIfInBounds_ne (Ne.symm h)]
theorem tm_put_eq {a : Act} {d : Nat} {v : Value} (h : d < a.tmps.size) : tm (a.put (some d) v) d = v := by
  simp [tm, Act.put, h]
theorem put_size {a : Act} {d : Option Nat} {v : Value} : (a.put d v).tmps.size = a.tmps.size := by
  cases d <;> simp [Act.put]
theorem put_defers {a : Act} {d : Option Nat} {v : Value} : (a.put d v).defers = a.defers := by
  cases d <;> rfl

theorem Sat.put {B : Bs} {Γ : Env} {Ω : List Own} {I : Vw} {a : Act} {w : World} {d : Nat} {p : Pd} {v : Value} (h : Sat B Γ Ω I a w) (hd : d < B.n) (hv : p.p I w v) : Sat B ((d, p) :: Γ) Ω I (a.put (some d) v) w where
  df := put_defers.trans h.df
  sz := put_size.trans h.sz
  bel := h.bel
  bd := h.bd
  vw := h.vw
  up := h.up
  g := fun s q hs => by
    by_cases hsd : s = d
    · subst hsd
      rw [lk_cons_eq] at hs
      cases hs
      rw [tm_put_eq (by rw [h.sz]; exact hd)]
      exact hv
    · rw [lk_cons_ne hsd] at hs
      rw [tm_put_ne hsd]
      exact h.g s q hs
  o := h.o

theorem Sat.put_none {B : Bs} {Γ : Env} {Ω : List Own} {I : Vw} {a : Act} {w : World} {v : Value} (h : Sat B Γ Ω I a w) : Sat B Γ Ω I (a.put none v) w := h

/-- The listed slots, each of the kind that the environment says. -/
def Sub : Env → Env → Prop
  | [], _ => True
  | (s, p) :: r, Γ => lk s Γ = some p ∧ Sub r Γ

theorem Sub.sat {I : Vw} {w : World} {t : Nat → Value} {Γ : Env} (hs : SatG I w t Γ) : ∀ {Γ' : Env}, Sub Γ' Γ → SatG I w t Γ'
  | [], _ => fun s p h => by simp [lk] at h
  | (k, q) :: r, ⟨h1, h2⟩ => fun s p h => by
    by_cases hk : s = k
    · subst hk; rw [lk_cons_eq] at h; cases h; exact hs _ _ h1
    · rw [lk_cons_ne hk] at h; exact Sub.sat hs h2 s p h

/-! ### one operation -/
def Exec (P : Program) (o : Oper) (ρ : Operand → Value) (w : World) (K : Value → World → Prop) : Prop :=
  match (execOp ρ o).run P w with
  | .ok (.value v) w' => K v w'
  | .ok .skip w' => K undef w'
  | .ok (.enter f args) w' => Calls P f args w' fun e w'' => ∃ v, e = .returned v ∧ K v w''
  | _ => False

theorem Exec.wp {P : Program} {o : Oper} {a : Act} {w : World} {K : Value → World → Prop} {next : Act → World → Prop} {Q : Exit → Act → World → Prop}
    (h : Exec P o a.eval w K) (hn : ∀ v w', K v w' → next (a.put o.dst v) w') : o.wp P a w next Q := by
  unfold Exec at h
  unfold Oper.wp
  split at h
  · rename_i v w' hr; rw [hr]; exact hn _ _ h
  · rename_i w' hr; rw [hr]; exact hn _ _ h
  · rename_i f args w' hr
    rw [hr]
    refine h.mono fun e w'' ⟨v, he, hk⟩ => ?_
    subst he
    exact hn _ _ hk
  · exact h.elim

theorem Exec.mono {P : Program} {o : Oper} {ρ : Operand → Value} {w : World} {K K' : Value → World → Prop} (h : Exec P o ρ w K) (hk : ∀ v w', K v w' → K' v w') : Exec P o ρ w K' := by
  unfold Exec at *
  split at h
  · exact hk _ _ h
  · exact hk _ _ h
  · exact h.mono fun e w'' ⟨v, he, hv⟩ => ⟨v, he, hk _ _ hv⟩
  · exact h.elim

/-- The operation, from slots of the listed kinds, yields a value of the kind p; what was there stays. -/
def OpJ (P : Program) (o : Oper) (Γ : Env) (p : Pd) : Prop :=
  ∀ (I : Vw) (w : World) (t : Nat → Value), (∀ b, I b → b < w.heap.size) → SatG I w t Γ →
    Exec P o (ev t) w fun v w' => Below w.heap.size w w' ∧ p.p (gr I w w') w' v

theorem OpJ.weak {P : Program} {o : Oper} {Γ Γ' : Env} {p : Pd} (h : OpJ P o Γ p) (hs : Sub Γ Γ') : OpJ P o Γ' p :=
  fun I w t hbd hg => h I w t hbd (Sub.sat hg hs)

/-- The operation in a state of the walk: it may turn what is owned; g: what it finds (a new block, say). -/
def OpM (P : Program) (B : Bs) (o : Oper) (Γ : Env) (Ω : List Own) {γ : Type} (p : γ → Pd) (Ω' : γ → List Own) : Prop :=
  ∀ (I : Vw) (a : Act) (w : World), Sat B Γ Ω I a w → Exec P o (ev (tm a)) w fun v w' => ∃ g I', Sat B Γ (Ω' g) I' a w' ∧ (p g).p I' w' v

theorem OpJ.toM {P : Program} {B : Bs} {o : Oper} {Γ : Env} {Ω : List Own} {p : Pd} (h : OpJ P o Γ p) : OpM P B o Γ Ω (fun _ : Unit => p) (fun _ => Ω) :=
  fun I a w hs => (h I w (tm a) hs.bd hs.g).mono fun _ _ ⟨hb, hp⟩ => ⟨(), _, hs.grow hb, hp⟩

/-! ### a region in the order of its text -/
def Ct (B : Bs) (Γ : Env) (Ω : List Own) (K : Act → World → Prop) : Prop := ∀ (I : Vw) (a : Act) (w : World), Sat B Γ Ω I a w → K a w

theorem Ct.weak {B : Bs} {Γ Γ' : Env} {Ω : List Own} {K : Act → World → Prop} (hs : Sub Γ' Γ) (h : Ct B Γ' Ω K) : Ct B Γ Ω K :=
  fun I a w hw => h I a w { hw with g := Sub.sat hw.g hs }

def RegL (P : Program) (B : Bs) (ops : Array Oper) (os : List Oper) (Γ : Env) (Ω : List Own) (Q : Exit → Act → World → Prop) : Prop :=
  ∀ k, ops.toList.drop k = os → Ct B Γ Ω fun a w => wpOps P ops Q (List.range' k os.length) a w

section
variable {P : Program} {B : Bs} {ops : Array Oper} {os : List Oper} {o : Oper} {Γ : Env} {Ω : List Own} {Q : Exit → Act → World → Prop}

theorem RegL.nil (h : Ct B Γ Ω (Q .normal)) : RegL P B ops [] Γ Ω Q := fun _ _ I a w hs => h I a w hs

theorem drop_head {α : Type} {l : List α} {k : Nat} {o : α} {os : List α} (h : l.drop k = o :: os) : l[k]? = some o ∧ l.drop (k + 1) = os := by
  constructor
  · have := congrArg List.head? h
    simpa [List.head?_drop] using this
  · have := congrArg List.tail h
    simpa using this

theorem yielded_lk {a : Act} {w : World} {I : Vw} {g s : Nat} {c : Bool} (hs : Sat B Γ Ω I a w) (hg : (ops[g]?).bind (·.dst) = some s) (hl : lk s Γ = some (pEq (.bool c))) : yielded ops a.tmps g = some c := by
  have h : tm a s = .bool c := hs.g s _ hl
  unfold yielded
  rw [hg]
  simp only [Option.bind_some]
  have h' : a.tmps[s]? = some (.bool c) := by
    unfold tm at h
    cases hx : a.tmps[s]? with
    | none => simp [Array.getD_eq_getD_getElem?, hx, undef] at h
    | some v => simp [Array.getD_eq_getD_getElem?, hx] at h; rw [h]
  rw [h']

theorem RegL.step {γ : Type} {p : γ → Pd} {Ω' : γ → List Own} {d : Nat} (hg : o.guard = none) (hd : o.dst = some d) (hdn : Nat.blt d B.n = true) (hJ : OpM P B o Γ Ω p Ω')
    (h : ∀ g, RegL P B ops os ((d, p g) :: Γ) (Ω' g) Q) : RegL P B ops (o :: os) Γ Ω Q := by
  intro k hk I a w hs
  obtain ⟨ho, hr⟩ := drop_head hk
  rw [Array.getElem?_toList] at ho
  simp only [List.length_cons, List.range'_succ, wpOps, ho, Region.wanted, hg, if_true]
  left
  have := hJ I a w hs
  rw [← eval_eq] at this
  refine this.wp fun v w' ⟨g, I', hs', hp⟩ => ?_
  rw [hd]
  exact h g (k + 1) hr I' _ w' (hs'.put (by simpa using hdn) hp)

theorem RegL.pure {p : Pd} {d : Nat} (hg : o.guard = none) (hd : o.dst = some d) (hdn : Nat.blt d B.n = true) (hJ : OpJ P o Γ p) (h : RegL P B ops os ((d, p) :: Γ) Ω Q) : RegL P B ops (o :: os) Γ Ω Q :=
  RegL.step (γ := Unit) hg hd hdn hJ.toM fun _ => h

theorem RegL.stepN {γ : Type} {p : γ → Pd} {Ω' : γ → List Own} (hg : o.guard = none) (hd : o.dst = none) (hJ : OpM P B o Γ Ω p Ω')
    (h : ∀ g, RegL P B ops os Γ (Ω' g) Q) : RegL P B ops (o :: os) Γ Ω Q := by
  intro k hk I a w hs
  obtain ⟨ho, hr⟩ := drop_head hk
  rw [Array.getElem?_toList] at ho
  simp only [List.length_cons, List.range'_succ, wpOps, ho, Region.wanted, hg, if_true]
  left
  have := hJ I a w hs
  rw [← eval_eq] at this
  refine this.wp fun v w' ⟨g, I', hs', hp⟩ => ?_
  rw [hd]
  exact h g (k + 1) hr I' _ w' hs'

/-- The guard's test is known, and the operation wanted. -/
theorem RegL.stepG {γ : Type} {p : γ → Pd} {Ω' : γ → List Own} {d j s : Nat} {b c : Bool} (hg : o.guard = some (j, b)) (hgs : (ops[j]?).bind (·.dst) = some s) (hl : lk s Γ = some (pEq (.bool c))) (hc : c = b)
    (hd : o.dst = some d) (hdn : Nat.blt d B.n = true) (hJ : OpM P B o Γ Ω p Ω')
    (h : ∀ g, RegL P B ops os ((d, p g) :: Γ) (Ω' g) Q) : RegL P B ops (o :: os) Γ Ω Q := by
  intro k hk I a w hs
  obtain ⟨ho, hr⟩ := drop_head hk
  rw [Array.getElem?_toList] at ho
  simp only [List.length_cons, List.range'_succ, wpOps, ho, Region.wanted, hg, yielded_lk hs hgs hl, hc, beq_self_eq_true, if_true]
  left
  have := hJ I a w hs
  rw [← eval_eq] at this
  refine this.wp fun v w' ⟨g, I', hs', hp⟩ => ?_
  rw [hd]
  exact h g (k + 1) hr I' _ w' (hs'.put (by simpa using hdn) hp)

theorem RegL.pureG {p : Pd} {d j s : Nat} {b c : Bool} (hg : o.guard = some (j, b)) (hgs : (ops[j]?).bind (·.dst) = some s) (hl : lk s Γ = some (pEq (.bool c))) (hc : c = b)
    (hd : o.dst = some d) (hdn : Nat.blt d B.n = true) (hJ : OpJ P o Γ p) (h : RegL P B ops os ((d, p) :: Γ) Ω Q) : RegL P B ops (o :: os) Γ Ω Q :=
  RegL.stepG (γ := Unit) hg hgs hl hc hd hdn hJ.toM fun _ => h

/-- The guard's test is known, and the operation not wanted. -/
theorem RegL.skipG {d j s : Nat} {b c : Bool} (hg : o.guard = some (j, b)) (hgs : (ops[j]?).bind (·.dst) = some s) (hl : lk s Γ = some (pEq (.bool c))) (hc : c = !b)
    (hd : o.dst = some d) (hdn : Nat.blt d B.n = true)
    (h : RegL P B ops os ((d, pEq undef) :: Γ) Ω Q) : RegL P B ops (o :: os) Γ Ω Q := by
  intro k hk I a w hs
  obtain ⟨ho, hr⟩ := drop_head hk
  rw [Array.getElem?_toList] at ho
  have hne : ((some c : Option Bool) == some b) = false := by rw [hc]; cases b <;> rfl
  simp only [List.length_cons, List.range'_succ, wpOps, ho, Region.wanted, hg, yielded_lk hs hgs hl, hne, Bool.false_eq_true, if_false]
  rw [hd]
  exact h (k + 1) hr I _ w (hs.put (by simpa using hdn) rfl)

/-- The guard's own operation was not wanted. -/
theorem RegL.skipU {d j s : Nat} {b : Bool} (hg : o.guard = some (j, b)) (hgs : (ops[j]?).bind (·.dst) = some s) (hl : lk s Γ = some (pEq undef))
    (hd : o.dst = some d) (hdn : Nat.blt d B.n = true)
    (h : RegL P B ops os ((d, pEq undef) :: Γ) Ω Q) : RegL P B ops (o :: os) Γ Ω Q := by
  intro k hk I a w hs
  obtain ⟨ho, hr⟩ := drop_head hk
  rw [Array.getElem?_toList] at ho
  have hy : yielded ops a.tmps j = none := by
    have h : tm a s = undef := hs.g s _ hl
    unfold yielded
    rw [hgs]
    simp only [Option.bind_some]
    unfold tm at h
    cases hx : a.tmps[s]? with
    | none => rfl
    | some v => simp [Array.getD_eq_getD_getElem?, hx] at h; rw [h]; rfl
  have hne : ((none : Option Bool) == some b) = false := by cases b <;> rfl
  simp only [List.length_cons, List.range'_succ, wpOps, ho, Region.wanted, hg, hy, hne, Bool.false_eq_true, if_false]
  rw [hd]
  exact h (k + 1) hr I _ w (hs.put (by simpa using hdn) rfl)
end

/-! ### code -/
def Tr (P : Program) (B : Bs) (c : Code) (Γ : Env) (Ω : List Own) (Q : Exit → Act → World → Prop) : Prop := Ct B Γ Ω fun a w => c.wp P Q a w

section
variable {P : Program} {B : Bs} {Γ Γ' : Env} {Ω : List Own} {Q : Exit → Act → World → Prop} {x y : Code}

theorem Tr.weak (hs : Sub Γ' Γ) (h : Tr P B x Γ' Ω Q) : Tr P B x Γ Ω Q := Ct.weak hs h

theorem Tr.region {id : Nat} {ops : Array Oper} (h : RegL P B ops ops.toList Γ Ω Q) : Tr P B (.region id ops false) Γ Ω Q := fun I a w hs => by
  refine wp_region ?_
  have := h 0 (by simp) I a w hs
  rw [← List.range_eq_range'] at this
  simpa using this

theorem Tr.seq (h : Tr P B x Γ Ω (Exit.then (y.wp P Q) Q)) : Tr P B (.seq x y) Γ Ω Q := fun I a w hs => wp_seq (h I a w hs)
theorem Ct.then_normal {K : Act → World → Prop} (h : Ct B Γ Ω K) : Ct B Γ Ω (Exit.then K Q .normal) := h
theorem Ct.then_tr (h : Tr P B y Γ Ω Q) : Ct B Γ Ω (Exit.then (y.wp P Q) Q .normal) := h
theorem Ct.then_exit {K : Act → World → Prop} {k : Nat} (h : Ct B Γ Ω (Q (.exit k))) : Ct B Γ Ω (Exit.then K Q (.exit k)) := h
theorem Ct.then_ret {K : Act → World → Prop} (h : Ct B Γ Ω (Q .ret)) : Ct B Γ Ω (Exit.then K Q .ret) := h
theorem Ct.blk_normal {id : Nat} (h : Ct B Γ Ω (Q .normal)) : Ct B Γ Ω (Exit.inBlock id Q .normal) := h
theorem Ct.blk_ret {id : Nat} (h : Ct B Γ Ω (Q .ret)) : Ct B Γ Ω (Exit.inBlock id Q .ret) := h
theorem Ct.blk_exit {id : Nat} (h : Ct B Γ Ω (Q .normal)) : Ct B Γ Ω (Exit.inBlock id Q (.exit id)) := by
  intro I a w hs; simp only [Exit.inBlock, if_true]; exact h I a w hs
theorem Ct.blk_exit_ne {id k : Nat} (hk : Nat.beq k id = false) (h : Ct B Γ Ω (Q (.exit k))) : Ct B Γ Ω (Exit.inBlock id Q (.exit k)) := by
  intro I a w hs
  have : k ≠ id := fun e => by subst e; simp [Nat.beq_refl] at hk
  simp only [Exit.inBlock, this, if_false]; exact h I a w hs

theorem Tr.skip (h : Ct B Γ Ω (Q .normal)) : Tr P B .skip Γ Ω Q := fun I a w hs => wp_skip (h I a w hs)
theorem Tr.exit {k : Nat} (h : Ct B Γ Ω (Q (.exit k))) : Tr P B (.exit k) Γ Ω Q := fun I a w hs => wp_exit (h I a w hs)
theorem Tr.ret (h : Ct B Γ Ω (Q .ret)) : Tr P B .ret Γ Ω Q := fun I a w hs => wp_ret (h I a w hs)
theorem Tr.block {id : Nat} (h : Tr P B x Γ Ω (Exit.inBlock id Q)) : Tr P B (.block id x) Γ Ω Q := fun I a w hs => wp_block (h I a w hs)

/-- The operand has this value kind under the environment. -/
def Opd (Γ : Env) (x : Operand) (p : Pd) : Prop := ∀ (I : Vw) (w : World) (t : Nat → Value), SatG I w t Γ → p.p I w (ev t x)
theorem Opd.tmp {s : Nat} {p : Pd} (h : lk s Γ = some p) : Opd Γ (.tmp s) p := fun _ _ _ hs => hs s p h
theorem Opd.con {v : Value} : Opd Γ (.const v) (pEq v) := fun _ _ _ _ => rfl
theorem Opd.fn {f : Nat} : Opd Γ (.func f) (pEq (.func (.func f) #[] #[])) := fun _ _ _ _ => rfl

theorem Tr.cond {o : Operand} {c : Bool} (hc : Opd Γ o (pEq (.bool c))) (ht : c = true → Tr P B x Γ Ω Q) (hf : c = false → Tr P B y Γ Ω Q) : Tr P B (.cond o x y) Γ Ω Q := fun I a w hs => by
  have h : a.eval o = .bool c := by rw [eval_eq]; exact hc I w (tm a) hs.g
  exact wp_cond_split h (fun h' => ht h' I a w hs) (fun h' => hf h' I a w hs)
theorem Tr.cond_t {o : Operand} {c : Bool} (hc : Opd Γ o (pEq (.bool c))) (h : c = true) (ht : Tr P B x Γ Ω Q) : Tr P B (.cond o x y) Γ Ω Q := Tr.cond hc (fun _ => ht) (fun h' => by simp [h] at h')
theorem Tr.cond_f {o : Operand} {c : Bool} (hc : Opd Γ o (pEq (.bool c))) (h : c = false) (hf : Tr P B y Γ Ω Q) : Tr P B (.cond o x y) Γ Ω Q := Tr.cond hc (fun h' => by simp [h] at h') (fun _ => hf)

/-- The ways meet again: what holds behind x, once. -/
def Mid (B : Bs) {γ : Type} (Γ : γ → Env) (Ω : γ → List Own) : Exit → Act → World → Prop := fun e a w => e = .normal ∧ ∃ g I, Sat B (Γ g) (Ω g) I a w
theorem Tr.cut {γ : Type} {Γm : γ → Env} {Ωm : γ → List Own} (h : Tr P B x Γ Ω (Mid B Γm Ωm)) (k : ∀ g, Ct B (Γm g) (Ωm g) (Q .normal)) : Tr P B x Γ Ω Q := fun I a w hs =>
  Code.wp_mono (fun _ a w ⟨he, g, I', hs'⟩ => by subst he; exact k g I' a w hs') (h I a w hs)
theorem Ct.mid {γ : Type} {Γm : γ → Env} {Ωm : γ → List Own} (g : γ) (hΩ : Ω = Ωm g) (hs : Sub (Γm g) Γ) : Ct B Γ Ω (Mid B Γm Ωm .normal) := fun I _ _ hw =>
  ⟨rfl, g, I, { hw with g := Sub.sat hw.g hs, o := hΩ ▸ hw.o }⟩
end

/-! ### loops -/
section
variable {σ β : Type}
def runN (body : σ → Option (σ ⊕ β)) : Nat → σ → Option β
  | 0, _ => none
  | n + 1, s => match body s with
    | none => none
    | some (.inl s') => runN body n s'
    | some (.inr r) => some r

theorem runN_succ {body : σ → Option (σ ⊕ β)} : ∀ {n : Nat} {s : σ} {r : β}, runN body n s = some r → runN body (n + 1) s = some r
  | 0, _, _, h => by simp [runN] at h
  | n + 1, s, r, h => by
    simp only [runN] at h ⊢
    split at h
    · simp at h
    · exact runN_succ h
    · exact h

theorem runN_le {body : σ → Option (σ ⊕ β)} {n m : Nat} {s : σ} {r : β} (hnm : n ≤ m) (h : runN body n s = some r) : runN body m s = some r := by
  induction hnm with
  | refl => exact h
  | step _ ih => exact runN_succ ih

open Classical in
/-- The loop: rounds until one yields a result; none where no number of rounds does. -/
noncomputable def loopM (body : σ → Option (σ ⊕ β)) (s : σ) : Option β :=
  if h : ∃ n r, runN body n s = some r then some h.choose_spec.choose else none

theorem loopM_of_runN {body : σ → Option (σ ⊕ β)} {s : σ} {n : Nat} {r : β} (h : runN body n s = some r) : loopM body s = some r := by
  unfold loopM
  have hex : ∃ n r, runN body n s = some r := ⟨n, r, h⟩
  rw [dif_pos hex]
  have h2 := hex.choose_spec.choose_spec
  have h3 := runN_le (Nat.le_max_left n hex.choose) h
  have h4 := runN_le (Nat.le_max_right n hex.choose) h2
  rw [h4] at h3
  exact h3

theorem loopM_some {body : σ → Option (σ ⊕ β)} {s : σ} {r : β} (h : loopM body s = some r) : ∃ n, runN body n s = some r := by
  unfold loopM at h
  split at h
  · rename_i hex
    cases h
    exact ⟨_, hex.choose_spec.choose_spec⟩
  · simp at h

theorem loopM_inl {body : σ → Option (σ ⊕ β)} {s s' : σ} (h : body s = some (.inl s')) : loopM body s = loopM body s' := by
  cases hr : loopM body s' with
  | some r =>
    obtain ⟨n, hn⟩ := loopM_some hr
    exact loopM_of_runN (n := n + 1) (by simp [runN, h, hn])
  | none =>
    cases hr' : loopM body s with
    | none => rfl
    | some r =>
      obtain ⟨n, hn⟩ := loopM_some hr'
      cases n with
      | zero => simp [runN] at hn
      | succ n =>
        simp only [runN, h] at hn
        rw [loopM_of_runN hn] at hr
        simp at hr
theorem loopM_inr {body : σ → Option (σ ⊕ β)} {s : σ} {r : β} (h : body s = some (.inr r)) : loopM body s = some r :=
  loopM_of_runN (n := 1) (by simp [runN, h])

/-- What a round's end says: on with the next state, or out by the result (which is the loop's, r). -/
def LP {γ : Type} (B : Bs) (Γσ : σ → γ → Env) (Ωσ : σ → γ → List Own) (Q : Exit → Act → World → Prop) (r : β) : σ ⊕ β → Exit → Act → World → Prop
  | .inl s' => fun e a w => e = .normal ∧ ∃ g I, Sat B (Γσ s' g) (Ωσ s' g) I a w
  | .inr r' => fun e a w => e ≠ .normal ∧ (r' = r → Q e a w)

variable {P : Program} {B : Bs} {γ : Type} {Γσ : σ → γ → Env} {Ωσ : σ → γ → List Own} {Q : Exit → Act → World → Prop} {r : β}

theorem Tr.loop {c : Code} {body : σ → Option (σ ⊕ β)} {s : σ} {g : γ} (hr : loopM body s = some r)
    (h : ∀ s g t, body s = some t → Tr P B c (Γσ s g) (Ωσ s g) (LP B Γσ Ωσ Q r t)) : Tr P B (.loop c) (Γσ s g) (Ωσ s g) Q := by
  obtain ⟨n, hn⟩ := loopM_some hr
  clear hr
  intro I a w hs
  intro b k cs
  have key : ∀ n s g I a w, runN body n s = some r → Sat B (Γσ s g) (Ωσ s g) I a w →
      ∃ e a' w', Q e a' w' ∧ Arrives P (lone (b.at a (.code c :: .inLoop c :: k)) cs w) b k cs e a' w' := by
    intro n
    induction n with
    | zero => intro s g I a w h0; simp [runN] at h0
    | succ n ih =>
      intro s g I a w h0 hs
      simp only [runN] at h0
      cases hb : body s with
      | none => simp [hb] at h0
      | some t =>
        rw [hb] at h0
        obtain ⟨e, a₁, w₁, hq, harr⟩ := h s g t hb I a w hs b (.inLoop c :: k) cs
        cases t with
        | inl s' =>
          obtain ⟨he, g', I', hs'⟩ := hq
          subst he
          obtain ⟨e₂, a₂, w₂, hq₂, harr₂⟩ := ih s' g' I' a₁ w₁ h0 hs'
          exact ⟨e₂, a₂, w₂, hq₂, .of_steps (Steps.trans harr (.one step_inLoop)) harr₂⟩
        | inr r' =>
          obtain ⟨he, hq'⟩ := hq
          simp at h0
          have hq := hq' h0
          cases e with
          | normal => exact absurd rfl he
          | exit id => exact ⟨_, a₁, w₁, hq, .pass (x := .inLoop c) rfl (fun _ _ => .inl (by simp)) harr⟩
          | goto l => exact ⟨_, a₁, w₁, hq, .pass (x := .inLoop c) rfl (fun _ _ => .inl (by simp)) harr⟩
          | ret => exact ⟨_, a₁, w₁, hq, .pass (x := .inLoop c) rfl (fun _ _ => .inl (by simp)) harr⟩
          | panic ch => exact ⟨_, a₁, w₁, hq, .pass (x := .inLoop c) rfl (fun _ _ => .inl (by simp)) harr⟩
          | outgrown => exact ⟨_, a₁, w₁, hq, .pass (x := .inLoop c) rfl (fun _ _ => .inl (by simp)) harr⟩
  obtain ⟨e, a', w', hq, harr⟩ := key n s g I a w hn hs
  exact ⟨e, a', w', hq, .of_steps (.one step_loop) harr⟩

theorem Ct.again {Γ : Env} {Ω : List Own} {s' : σ} (g : γ) (hΩ : Ω = Ωσ s' g) (hs : Sub (Γσ s' g) Γ) : Ct B Γ Ω (LP B Γσ Ωσ Q r (.inl s') .normal) := fun I _ _ hw =>
  ⟨rfl, g, I, { hw with g := Sub.sat hw.g hs, o := hΩ ▸ hw.o }⟩
theorem Ct.out_exit {Γ : Env} {Ω : List Own} {r' : β} {k : Nat} (h : r' = r → Ct B Γ Ω (Q (.exit k))) : Ct B Γ Ω (LP B Γσ Ωσ Q r (.inr r') (.exit k)) := fun I a w hw => ⟨by simp, fun e => h e I a w hw⟩
theorem Ct.out_ret {Γ : Env} {Ω : List Own} {r' : β} (h : r' = r → Ct B Γ Ω (Q .ret)) : Ct B Γ Ω (LP B Γσ Ωσ Q r (.inr r') .ret) := fun I a w hw => ⟨by simp, fun e => h e I a w hw⟩
end

/-! ### calls -/
/-- A function's contract: from values of the listed kinds it returns a value of the kind q, and what was there stays. -/
def CallJ (P : Program) (f : FuncId) (ps : List Pd) (q : Pd) : Prop :=
  ∀ (I : Vw) (w : World) (args : List Value), (∀ b, I b → b < w.heap.size) → Vals I w ps args →
    Calls P f args.toArray w fun e w' => ∃ v, e = .returned v ∧ Below w.heap.size w w' ∧ q.p (gr I w w') w' v

/-- The end of a body that owes the contract. -/
def PostJ (B : Bs) (q : Pd) : Ending → World → Prop := fun e w' => ∃ v, e = .returned v ∧ Bel B.H B.W w' ∧ q.p (fun b => B.I0 b ∨ (B.L b ∧ b < w'.heap.size)) w' v

def params : Nat → List Pd → Env
  | _, [] => []
  | i, p :: r => (i, p) :: params (i + 1) r

theorem params_sat {I : Vw} {w : World} {t : Nat → Value} : ∀ {ps : List Pd} {vs : List Value} {i : Nat}, Vals I w ps vs → (∀ j (h : j < vs.length), t (i + j) = vs[j]) → SatG I w t (params i ps)
  | [], [], _, _, _ => fun s p h => by simp [params, lk] at h
  | q :: r, v :: vs, i, ⟨h, hr⟩, ht => fun s p hs => by
    by_cases hk : s = i
    · subst hk
      rw [params, lk_cons_eq] at hs
      cases hs
      have := ht 0 (by simp)
      simp at this
      rw [this]; exact h
    · rw [params, lk_cons_ne hk] at hs
      refine params_sat (i := i + 1) hr (fun j hj => ?_) s p hs
      have := ht (j + 1) (by simp; omega)
      rw [show i + 1 + j = i + (j + 1) by omega, this]
      simp
  | [], _ :: _, _, h, _ => h.elim
  | _ :: _, [], _, h, _ => h.elim

theorem CallJ.enter {P : Program} {f : FuncId} {fn : Func} {c : Code} {n : Nat} {ps : List Pd} {q : Pd} (hf : P.funcs[f]? = some fn) (hb : fn.body = some c) (hn : fn.ntmps = n) (hle' : Nat.ble ps.length n = true)
    (h : ∀ (W : World) (I0 H : Vw), Tr P ⟨W, I0, H, n⟩ c (params 0 ps) [] (bodyPost P fn (PostJ ⟨W, I0, H, n⟩ q))) : CallJ P f ps q := by
  intro I w args hbd hv
  have hle := Nat.le_of_ble_eq_true hle'
  have hl := hv.length
  have hc : Calls P f args.toArray w (PostJ ⟨w, I, fun _ => False, n⟩ q) := by
    refine calls_of_wp hf hb ?_
    refine h w I (fun _ => False) I _ w ⟨rfl, ?_, Bel.refl, hbd, fun b hb => .inl hb, fun _ hb => hb, ?_, trivial⟩
    · simp [hn]; omega
    · refine params_sat hv fun j hj => ?_
      have : (args.toArray ++ Array.replicate (fn.ntmps - args.toArray.size) undef)[j]? = some args[j] := by
        rw [Array.getElem?_append_left (by simpa using hj)]; simp
      simp only [tm, Array.getD_eq_getD_getElem?, Nat.zero_add, this, Option.getD_some]
  exact hc.mono fun e w' ⟨v, h1, h2, h3⟩ => ⟨v, h1, h2.below, q.mono (fun b hb => hb.imp id (fun h => ⟨h.1.elim (fun h => h.elim) id, h.2⟩)) (fun _ _ => rfl) h3⟩

section
variable {P : Program} {B : Bs} {fn : Func} {R : Ending → World → Prop} {Γ : Env} {Ω : List Own}

/-- The body's end: the result lies in a slot. -/
theorem Ct.ret1 {q : Pd} {s : Nat} (hr : fn.results = #[.tmp s]) (hl : lk s Γ = some q) : Ct B Γ Ω (bodyPost P fn (PostJ B q) .ret) := fun I a w hs => by
  refine ⟨hs.df, tm a s, by simp [results, hr, tm], tm a s, rfl, hs.bel, ?_⟩
  exact q.mono hs.vw (fun _ _ => rfl) (hs.g s q hl)
theorem Ct.ret2 {q1 q2 : Pd} {s1 s2 : Nat} (hr : fn.results = #[.tmp s1, .tmp s2]) (hl1 : lk s1 Γ = some q1) (hl2 : lk s2 Γ = some q2) : Ct B Γ Ω (bodyPost P fn (PostJ B (pTup [q1, q2])) .ret) := fun I a w hs => by
  refine ⟨hs.df, .tuple #[tm a s1, tm a s2], by simp [results, hr, tm], _, rfl, hs.bel, [tm a s1, tm a s2], rfl, ?_, ?_, trivial⟩
  · exact q1.mono hs.vw (fun _ _ => rfl) (hs.g s1 q1 hl1)
  · exact q2.mono hs.vw (fun _ _ => rfl) (hs.g s2 q2 hl2)
theorem Ct.ret3 {q1 q2 q3 : Pd} {s1 s2 s3 : Nat} (hr : fn.results = #[.tmp s1, .tmp s2, .tmp s3]) (hl1 : lk s1 Γ = some q1) (hl2 : lk s2 Γ = some q2) (hl3 : lk s3 Γ = some q3) : Ct B Γ Ω (bodyPost P fn (PostJ B (pTup [q1, q2, q3])) .ret) := fun I a w hs => by
  refine ⟨hs.df, .tuple #[tm a s1, tm a s2, tm a s3], by simp [results, hr, tm], _, rfl, hs.bel, [tm a s1, tm a s2, tm a s3], rfl, ?_, ?_, ?_, trivial⟩
  · exact q1.mono hs.vw (fun _ _ => rfl) (hs.g s1 q1 hl1)
  · exact q2.mono hs.vw (fun _ _ => rfl) (hs.g s2 q2 hl2)
  · exact q3.mono hs.vw (fun _ _ => rfl) (hs.g s3 q3 hl3)
end


/-! ### taking a model apart -/
theorem bind_some {α β : Type} {o : Option α} {f : α → Option β} {r : β} (h : o.bind f = some r) : ∃ x, o = some x ∧ f x = some r := Option.bind_eq_some_iff.1 h
theorem map_some {α β : Type} {o : Option α} {f : α → β} {r : β} (h : o.map f = some r) : ∃ x, o = some x ∧ f x = r := Option.map_eq_some_iff.1 h
theorem bif_t {α : Type} {c : Bool} {x y : Option α} {r : α} (hc : c = true) (h : cond c x y = some r) : x = some r := by rw [hc] at h; exact h
theorem bif_f {α : Type} {c : Bool} {x y : Option α} {r : α} (hc : c = false) (h : cond c x y = some r) : y = some r := by rw [hc] at h; exact h

/-! ### the order of what is owned -/
theorem SatO.congr {L : Vw} {I : Vw} {w : World} : ∀ {Ω : List Own} {X X' : Vw}, (∀ b, X' b → X b) → SatO L I w X Ω → SatO L I w X' Ω
  | [], _, _, _, _ => trivial
  | _ :: _, _, _, hX, ⟨F, hF, ho, hr⟩ => ⟨F, fun b hb => ⟨(hF b hb).1, (hF b hb).2.1, fun hx => (hF b hb).2.2 (hX b hx)⟩, ho, SatO.congr (fun b hb => hb.imp (hX b) id) hr⟩
theorem SatO.perm {L : Vw} {I : Vw} {w : World} {Ω Ω' : List Own} (h : Ω.Perm Ω') : ∀ {X : Vw}, SatO L I w X Ω → SatO L I w X Ω' := by
  induction h with
  | nil => exact fun h => h
  | cons x _ ih => exact fun ⟨F, hF, ho, hr⟩ => ⟨F, hF, ho, ih hr⟩
  | swap x y l =>
    intro X ⟨F, hF, ho, F', hF', ho', hr⟩
    refine ⟨F', fun b hb => ⟨(hF' b hb).1, (hF' b hb).2.1, fun hx => (hF' b hb).2.2 (.inl hx)⟩, ho', F, fun b hb => ⟨(hF b hb).1, (hF b hb).2.1, fun hx => ?_⟩, ho, SatO.congr (fun b hb => ?_) hr⟩
    · rcases hx with hx | hx
      · exact (hF b hb).2.2 hx
      · exact (hF' b hx).2.2 (.inr hb)
    · rcases hb with (hb | hb) | hb
      · exact .inl (.inl hb)
      · exact .inr hb
      · exact .inl (.inr hb)
  | trans _ _ ih1 ih2 => exact fun h => ih2 (ih1 h)
theorem RegL.perm {P : Program} {B : Bs} {ops : Array Oper} {os : List Oper} {Γ : Env} {Ω Ω' : List Own} {Q : Exit → Act → World → Prop} (hp : Ω.Perm Ω') (h : RegL P B ops os Γ Ω' Q) : RegL P B ops os Γ Ω Q :=
  fun k hk I a w hs => h k hk I a w { hs with o := SatO.perm hp hs.o }
theorem Ct.perm {B : Bs} {Γ : Env} {Ω Ω' : List Own} {K : Act → World → Prop} (hp : Ω.Perm Ω') (h : Ct B Γ Ω' K) : Ct B Γ Ω K :=
  fun I a w hs => h I a w { hs with o := SatO.perm hp hs.o }
theorem perm1 {a b : Own} {r : List Own} : (a :: b :: r).Perm (b :: a :: r) := List.Perm.swap _ _ _
theorem perm2 {a b c : Own} {r : List Own} : (a :: b :: c :: r).Perm (c :: a :: b :: r) := (List.Perm.cons _ (List.Perm.swap _ _ _)).trans (List.Perm.swap _ _ _)
theorem perm3 {a b c d : Own} {r : List Own} : (a :: b :: c :: d :: r).Perm (d :: a :: b :: c :: r) := (List.Perm.cons _ perm2).trans (List.Perm.swap _ _ _)
/-- What is owned may be let go. -/
theorem Ct.drop {B : Bs} {Γ : Env} {o : Own} {Ω : List Own} {K : Act → World → Prop} (h : Ct B Γ Ω K) : Ct B Γ (o :: Ω) K :=
  fun I a w hs => h I a w { hs with o := let ⟨_, _, _, hr⟩ := hs.o; SatO.congr (fun _ hb => .inl hb) hr }
end Go.Wk
