/-
  A table of the library's that a call reads: it rides with a parameter, as a fact of the view's memory. No program in sight. Our own work.
-/
import Derived.Test.YtbhegklilcpbmaaDoorZero
import Derived.Lib.LaidTab
import Derived.Lib.ItoaNum
import Derived.Sort.Grow
import Derived.Deep.Draws
namespace Go.Wk
open Go Go.RowKit Go.Sort

/-- The block g, which lies in the view, holds the table. -/
def pTab (g : Nat) (k : IntKind) (zs : List Int) : Pd :=
  ⟨fun I w _ => I g ∧ ∃ t c, w.heap[g]? = some (.cells (zs.map fun z => Value.int k z).toArray t c),
   fun hI hw ⟨h, t, c, hh⟩ => ⟨hI g h, t, c, (hw g h).trans hh⟩⟩
/-- A kind that a fact of the memory rides with. -/
def pG (f q : Pd) : Pd := ⟨fun I w v => f.p I w undef ∧ q.p I w v, fun hI hw ⟨h1, h2⟩ => ⟨f.mono hI hw h1, q.mono hI hw h2⟩⟩

theorem tabIs_of {P : Program} {nm : String} {g : Nat} {k : IntKind} {zs : List Int} {w : World} {t : TypeId} {c : Nat × Nat} (hg : P.globalNamed nm = some g) (h : w.heap[g]? = some (.cells (zs.map fun z => Value.int k z).toArray t c)) : Lib.TabIs P w nm k zs := by
  unfold Lib.TabIs World.var?
  rw [hg]
  simp [h]
theorem tab_of_is {P : Program} {nm : String} {g : Nat} {k : IntKind} {zs : List Int} {I : Vw} {w : World} {v : Value} (hg : P.globalNamed nm = some g) (hI : ∀ b, b < w.heap.size → I b) (h : Lib.TabIs P w nm k zs) : (pTab g k zs).p I w v := by
  unfold Lib.TabIs World.var? at h
  rw [hg] at h
  simp only [Option.bind_some] at h
  split at h
  · rename_i cs t c hh
    cases h
    exact ⟨hI g (Array.getElem?_eq_some_iff.1 hh).1, _, _, hh⟩
  · simp at h

section
variable {P : Program} {B : Bs} {Γ : Env} {Ω : List Own} {Q : Exit → Act → World → Prop} {x : Code} {s k g : Nat} {kd : IntKind} {zs : List Int} {q : Pd}
/-- What rides with a parameter gets a slot of its own, which no operation writes. -/
theorem Tr.tab (h : lk s Γ = some (pG (pTab g kd zs) q)) (hn : Tr P B x ((k, pTab g kd zs) :: (s, q) :: Γ) Ω Q) : Tr P B x Γ Ω Q := fun I a w hs => by
  refine hn I a w ⟨hs.df, hs.sz, hs.bel, hs.bd, hs.vw, hs.up, fun s' p hp => ?_, hs.o⟩
  by_cases h1 : s' = k
  · subst h1; rw [lk_cons_eq] at hp; cases hp
    exact (hs.g s _ h).1
  · rw [lk_cons_ne h1] at hp
    by_cases h2 : s' = s
    · subst h2; rw [lk_cons_eq] at hp; cases hp
      exact (hs.g s' _ h).2
    · rw [lk_cons_ne h2] at hp
      exact hs.g s' p hp
theorem Opd.tab {y : Operand} (hx : Opd Γ y q) (k : Nat) (h : lk k Γ = some (pTab g kd zs)) : Opd Γ y (pG (pTab g kd zs) q) := fun I w t hg => ⟨hg k _ h, hx I w t hg⟩
theorem Conv.tab {Ω : List Own} {f q q' : Pd} (h : Conv Ω q q') : Conv Ω (pG f q) (pG f q') := fun L I X J w v hI hX hO ⟨h1, h2⟩ => ⟨f.mono (v := undef) hI (fun _ _ => rfl) h1, h L I X J w v hI hX hO h2⟩
theorem OpdA.tab {y : Operand} (hx : OpdA Γ Ω y q) (k : Nat) (h : lk k Γ = some (pTab g kd zs)) : OpdA Γ Ω y (pG (pTab g kd zs) q) := fun L I X J w t hI hX hg hO => ⟨(pTab g kd zs).mono (v := undef) hI (fun _ _ => rfl) (hg k _ h), hx L I X J w t hI hX hg hO⟩
end

theorem below_grown {B : Nat} (w : World) (n : Nat) (os : Array Obj) (hB : B ≤ w.heap.size) : Below B w (Sort.grow (w.drewN n) os) := by
  refine ⟨rfl, rfl, rfl, ?_, fun k hk => ?_⟩
  · show w.heap.size ≤ (w.heap ++ os).size
    simp
  · show (w.heap ++ os)[k]? = w.heap[k]?
    rw [Array.getElem?_append_left (by omega)]

/-! ### facts that ride along -/
/-- A fact, whatever the value. -/
def pFact (φ : Prop) : Pd := ⟨fun _ _ _ => φ, fun _ _ h => h⟩
section
variable {P : Program} {B : Bs} {Γ : Env} {Ω : List Own} {φ : Prop}
theorem Ct.fact {K : Act → World → Prop} (k : Nat) (h : φ) (hn : Ct B ((k, pFact φ) :: Γ) Ω K) : Ct B Γ Ω K := fun I a w hs => by
  refine hn I a w ⟨hs.df, hs.sz, hs.bel, hs.bd, hs.vw, hs.up, fun s' p hp => ?_, hs.o⟩
  by_cases h1 : s' = k
  · subst h1; rw [lk_cons_eq] at hp; cases hp; exact h
  · rw [lk_cons_ne h1] at hp; exact hs.g s' p hp
theorem RegL.fact {ops : Array Oper} {os : List Oper} {Q : Exit → Act → World → Prop} (k : Nat) (h : φ) (hn : RegL P B ops os ((k, pFact φ) :: Γ) Ω Q) : RegL P B ops os Γ Ω Q := fun j hj => Ct.fact k h (hn j hj)
theorem Tr.fact {x : Code} {Q : Exit → Act → World → Prop} (k : Nat) (h : φ) (hn : Tr P B x ((k, pFact φ) :: Γ) Ω Q) : Tr P B x Γ Ω Q := Ct.fact k h hn
/-- An own row held against nil, where the row without elements is the nil one. -/
theorem W_rowNil {α : Type} {o : Oper} {et k n cap j : Nat} {f : α → List Pd} {ad : Option Addr} {l : List α} {T T' e : TypeId} {x : Operand} (s : Nat) (ho : o.op = .binOp .eql T x (.const (.slice none 0 0)) T') (hT : P.underlying T = some (.slice e)) (hx : Opd Γ x (pEq (.slice ad n cap)))
    (hf : lk s Γ = some (pFact (l = [] → ad = none))) (hj : Ω[j]? = some (oSl et k f ad n cap l)) : OpW P Ω o Γ (pEq (.bool l.isEmpty)) :=
  OpW.val fun lo' I w t hbd hg hO => by
    obtain ⟨F, hF, hown⟩ := hO.mem hj
    have h : ev t x = _ := hx I w t hg
    have hfact : l = [] → ad = none := hg s _ hf
    have hb : ad.isNone = l.isEmpty := by
      cases l with
      | nil => rw [hfact rfl]; rfl
      | cons y l =>
        obtain ⟨g, _, _, h1, _⟩ := oSl.block hown (by simp)
        rw [h1]; rfl
    refine ⟨.bool l.isEmpty, ?_, rfl⟩
    have h2 : ev t (.const (.slice none 0 0)) = .slice none 0 0 := rfl
    have := B_nil (P := P) (T := T) (x := x) (y := .const (.slice none 0 0)) (a := ad) (n := n) (c := cap) hT w
    simp only [execOp, ho, h, h2]
    rw [Sem.run_bind, this, ← hb]
    rfl
end
theorem app_ne {α : Type} {bytes : Nat} {l : List α} {x : α} {r : List α} {a : Option Addr} (h : appL bytes l [x] = some r) : r = [] → a = none := fun e => by
  have := (appL_some h).2
  rw [e] at this
  exact absurd this.symm (by simp)

/-- A list as an array of n elements. -/
def fit {α : Type} (n : Nat) (z : α) (l : List α) : List α := (l ++ List.replicate n z).take n
theorem fit_len {α : Type} {n : Nat} {z : α} {l : List α} : (fit n z l).length = n := by unfold fit; simp
theorem fit_eq {α : Type} {n : Nat} {z : α} {l : List α} (h : l.length = n) : fit n z l = l := by unfold fit; subst h; simp
/-- The cells of an array that is an element of a slice. -/
abbrev cArrF {α : Type} (n : Nat) (z : α) (f : α → List Pd) (l : List α) : List Pd := cArr f (fit n z l)
theorem cArrF_len {α : Type} {n k : Nat} {z : α} {f : α → List Pd} {l : List α} (hf : ∀ x, (f x).length = k) : (cArrF n z f l).length = n * k := by
  show ((fit n z l).flatMap f).length = _
  rw [flat_len hf, fit_len]
theorem cArrF_one {α : Type} {n : Nat} {z : α} {f : α → List Pd} {l : List α} (h1 : ∀ x I w us, Vals I w (f x) us → ∀ u ∈ us, u.oneCell' = true) {I : Vw} {w : World} {us : List Value} (h : Vals I w (cArrF n z f l) us) : ∀ u ∈ us, u.oneCell' = true := Vals.ones h1 h

/-- The cells of a variable are laid. -/
def lay1 (g : Nat) (cs : Array Value) (h : Array Obj) : Array Obj := h.modify g fun | .cells _ t fr => .cells cs t fr | o => o

/-- A number's decimal text, as the library writes it. -/
def fmtM (n b : Int) : Option ByteArray := if b = 10 ∧ -9223372036854775808 ≤ n ∧ n ≤ 9223372036854775807 then some ⟨(Lib.itoa n).toArray⟩ else none
theorem fmt_contract {P : Program} {f : FuncId} {g : Nat} {nm : String} {n b : Int} {r : ByteArray}
    (hF : ∀ (n : Int), -9223372036854775808 ≤ n → n ≤ 9223372036854775807 → ∀ (w : World), Lib.TabIs P w nm .u64 Lib.pow10Tab → Calls P f #[.int .i64 n, .int .i64 10] w fun e w' => e = .returned (.string ⟨(Lib.itoa n).toArray⟩) ∧ ∃ k os, w' = Sort.grow (w.drewN k) os)
    (hg : P.globalNamed nm = some g) (h : fmtM n b = some r) : CallJ P f [pG (pTab g .u64 Lib.pow10Tab) (pEq (.int .i64 n)), pEq (.int .i64 b)] (pEq (.string r)) := by
  unfold fmtM at h
  split at h
  · rename_i hb
    obtain ⟨rfl, h0, h1⟩ := hb
    cases h
    intro I w args hbd hv
    match args, hv with
    | [v1, v2], ⟨⟨⟨_, t, c, ht⟩, h2⟩, h3, _⟩ =>
      have h2 : v1 = .int .i64 n := h2
      have h3 : v2 = .int .i64 10 := h3
      subst h2 h3
      refine (hF n h0 h1 w (tabIs_of hg ht)).mono ?_
      rintro e w' ⟨rfl, k, os, rfl⟩
      exact ⟨_, rfl, below_grown w k os (Nat.le_refl _), rfl⟩
  · simp at h
end Go.Wk
