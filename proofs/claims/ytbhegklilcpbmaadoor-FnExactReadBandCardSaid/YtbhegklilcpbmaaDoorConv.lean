/-
  What leans on owned memory, read as data; what is owned is let in to the view; nested rows. No program in sight. Our own work.
-/
import Derived.Test.YtbhegklilcpbmaaDoorTypes
namespace Go.Wk
open Go Go.RowKit

/-- A kind that leans on what is owned, read as data. -/
def Conv (Ω : List Own) (q q' : Pd) : Prop := ∀ (L I X J : Vw) (w : World) (v : Value), (∀ b, I b → J b) → (∀ b, L b → b < w.heap.size → ¬ X b → J b) → SatO L I w X Ω → q.p I w v → q'.p J w v
def Convs (Ω : List Own) : List Pd → List Pd → Prop
  | [], [] => True
  | q :: qs, q' :: qs' => Conv Ω q q' ∧ Convs Ω qs qs'
  | _, _ => False
section
variable {Ω : List Own} {q q' : Pd}
theorem Conv.refl : Conv Ω q q := fun _ _ _ _ _ _ hI _ _ h => q.mono hI (fun _ _ => rfl) h
theorem Conv.nil {α : Type} {k : Nat} {f : α → List Pd} : Conv Ω (pEq (.slice none 0 0)) (pSl k f ([] : List α)) := fun _ _ _ _ _ _ _ _ _ h => by
  have h : _ = _ := h
  rw [h]; exact Pd.nilsl
theorem Conv.row {α : Type} {et k n cap : Nat} {f : α → List Pd} {ad : Option Addr} {l : List α} (i : Nat) (hf : ∀ x, (f x).length = k) (hi : Ω[i]? = some (oSl et k f ad n cap l)) : Conv Ω (pEq (.slice ad n cap)) (pSl k f l) := fun L I X J w v hI hX hO h => by
  have h : v = _ := h
  obtain ⟨F, hF, hown⟩ := hO.mem hi
  rw [h]
  exact (pSl k f l).mono (fun b hb => hb.elim (hI b) (fun h => hX b (hF b h).1 (hF b h).2.1 (hF b h).2.2)) (fun _ _ => rfl) (oSl.frozen hf hown)
theorem pSl.take {α : Type} {k n cap m : Nat} {f : α → List Pd} {ad : Option Addr} {l : List α} {I : Vw} {w : World} (hm : m ≤ l.length) (h : (pSl k f l).p I w (.slice ad n cap)) : (pSl k f (l.take m)).p I w (.slice ad m cap) := by
  obtain ⟨o, c, e, h1, h2, h3⟩ := h
  simp only [Value.slice.injEq] at e
  obtain ⟨rfl, rfl, rfl⟩ := e
  have hl : (l.take m).length = m := by simp; omega
  refine ⟨ad, cap, by rw [hl], by omega, h2, fun i hi => ?_⟩
  rw [hl] at hi
  obtain ⟨b, off, h4, h5, h6⟩ := h3 i (by omega)
  exact ⟨b, off, h4, h5, by simpa using h6⟩
theorem Conv.sub {α : Type} {et k n cap m : Nat} {f : α → List Pd} {ad : Option Addr} {l : List α} (i : Nat) (hf : ∀ x, (f x).length = k) (hi : Ω[i]? = some (oSl et k f ad n cap l)) (hm : m ≤ l.length) : Conv Ω (pEq (.slice ad m cap)) (pSl k f (l.take m)) := fun L I X J w v hI hX hO h => by
  have h : v = _ := h
  obtain ⟨F, hF, hown⟩ := hO.mem hi
  rw [h]
  refine pSl.take (n := n) hm ?_
  exact (pSl k f l).mono (fun b hb => hb.elim (hI b) (fun h => hX b (hF b h).1 (hF b h).2.1 (hF b h).2.2)) (fun _ _ => rfl) (oSl.frozen hf hown)
theorem Convs.nil : Convs Ω [] [] := trivial
theorem Convs.cons {qs qs' : List Pd} (h : Conv Ω q q') (t : Convs Ω qs qs') : Convs Ω (q :: qs) (q' :: qs') := ⟨h, t⟩
theorem Convs.refl : ∀ {qs : List Pd}, Convs Ω qs qs
  | [] => trivial
  | _ :: _ => ⟨Conv.refl, Convs.refl⟩
theorem Convs.vals {L I X J : Vw} {w : World} (hI : ∀ b, I b → J b) (hX : ∀ b, L b → b < w.heap.size → ¬ X b → J b) (hO : SatO L I w X Ω) : ∀ {qs qs' : List Pd} {vs : List Value}, Convs Ω qs qs' → Vals I w qs vs → Vals J w qs' vs
  | [], [], [], _, _ => trivial
  | _ :: _, _ :: _, _ :: _, ⟨h, hr⟩, ⟨hv, hvr⟩ => ⟨h _ _ _ _ _ _ hI hX hO hv, Convs.vals hI hX hO hr hvr⟩
  | [], [], _ :: _, _, h => h.elim
  | _ :: _, _ :: _, [], _, h => h.elim
  | [], _ :: _, _, h, _ => h.elim
  | _ :: _, [], _, h, _ => h.elim
theorem Conv.agg {ps ps' : List Pd} (h : Convs Ω ps ps') : Conv Ω (pAgg ps) (pAgg ps') := fun _ _ _ _ _ _ hI hX hO ⟨vs, hv, hvs⟩ => ⟨vs, hv, h.vals hI hX hO hvs⟩
theorem Conv.tup {ps ps' : List Pd} (h : Convs Ω ps ps') : Conv Ω (pTup ps) (pTup ps') := fun _ _ _ _ _ _ hI hX hO ⟨vs, hv, hvs⟩ => ⟨vs, hv, h.vals hI hX hO hvs⟩
theorem Conv.ptr {b : Nat} {ps ps' : List Pd} (i : Nat) (hi : Ω[i]? = some (oBlk b ps)) (h : Convs Ω ps ps') : Conv Ω (pEq (.pointer (some ⟨b, 0, none⟩))) (pPtr ps') := fun L I X J w v hI hX hO hv => by
  have hv : v = _ := hv
  obtain ⟨F, hF, hb, vs, T', hh, hvs⟩ := hO.mem hi
  rw [hv]
  exact ⟨b, 0, rfl, hX b (hF b hb).1 (hF b hb).2.1 (hF b hb).2.2, Vals.cells hh (us := vs) (by simp) (h.vals hI hX hO hvs)⟩
/-- A function value whose captures lean on what is owned. -/
def pClo (k : FuncId) (caps : List Pd) : Pd := ⟨fun I w v => ∃ cs : List Value, v = .func (.func k) #[] cs.toArray ∧ Vals I w caps cs, fun hI hw ⟨cs, hv, h⟩ => ⟨cs, hv, Vals.mono hI hw h⟩⟩
theorem Conv.fn {P : Program} {α β : Type} {A : α → List Pd} {f : α → Option β} {R : β → Pd} {k : FuncId} {caps caps' : List Pd} (he : Enters P k) (hc : Convs Ω caps caps') (h : ∀ x y, f x = some y → CallJ P k (A x ++ caps') (R y)) : Conv Ω (pClo k caps) (pFn P A f R) := fun _ _ _ _ _ _ hI hX hO ⟨cs, hv, hcs⟩ => ⟨k, cs, caps', hv, he, hc.vals hI hX hO hcs, h⟩
theorem OpdA.conv {Γ : Env} {s : Nat} (hx : lk s Γ = some q) (h : Conv Ω q q') : OpdA Γ Ω (.tmp s) q' := fun L I X J w t hI hX hg hO => h L I X J w _ hI hX hO (hg s q hx)

/-- What is handed back is only read. -/
theorem CallH.frozen {P : Program} {f : FuncId} {ps : List Pd} {γ : Type} {val : γ → Pd} {Ωr : γ → List Own} (h : CallH P f ps [] val Ωr) (hq : ∀ g, Conv (Ωr g) (val g) q) : CallJ P f ps q := fun I w args hbd hv =>
  (h I (fun _ => False) w args hbd hv trivial).mono fun e w' ⟨v, g, I', h1, h2, _, h4, h5, h6⟩ => ⟨v, h1, h2.below, hq g _ I' I' _ w' v (fun b hb => (h4 b hb).imp id (fun h => ⟨h.1.elim (fun h => h.elim) id, h.2⟩)) (fun b hL hlt _ => .inr ⟨hL.elim (fun h => h.elim) id, hlt⟩) h6 h5⟩

/-- Slots, their kinds, and how they read once what they lean on is let in to the view. -/
def ConvL (Γ : Env) (Ωs : List Own) : List (Nat × Pd × Pd) → Prop
  | [] => True
  | (s, q, q') :: r => (lk s Γ = some q ∧ Conv Ωs q q') ∧ ConvL Γ Ωs r
def convE (l : List (Nat × Pd × Pd)) (Γ : Env) : Env := l.foldr (fun x r => (x.1, x.2.2) :: r) Γ
theorem Ct.freezeC {B : Bs} {Γ : Env} {Ωs : List Own} {K : Act → World → Prop} (l : List (Nat × Pd × Pd)) (hl : ConvL Γ Ωs l) (h : Ct B (convE l Γ) Ω K) : Ct B Γ (Ωs ++ Ω) K := by
  intro I a w hs
  obtain ⟨H, hH, hO1, hO2⟩ := hs.o.split
  have hI : ∀ c, I c → (I c ∨ H c) := fun _ h => .inl h
  refine h (fun c => I c ∨ H c) a w { df := hs.df, sz := hs.sz, bel := hs.bel, bd := fun c hc => hc.elim (hs.bd c) (fun hc => (hH c hc).2.1), vw := fun c hc => hc.elim (hs.vw c) (fun hc => .inr ⟨(hH c hc).1, (hH c hc).2.1⟩), up := fun c hc => .inl (hs.up c hc), g := ?_, o := SatO.view hI hO2 }
  have hg := hs.g
  clear h hs
  induction l with
  | nil => exact hg.mono hI (fun _ _ => rfl)
  | cons x l ih =>
    obtain ⟨s, q1, q2⟩ := x
    obtain ⟨⟨h1, h2⟩, h3⟩ := hl
    intro s' p hs'
    simp only [convE, List.foldr_cons] at hs'
    by_cases hk : s' = s
    · subst hk
      rw [lk_cons_eq] at hs'; cases hs'
      exact h2 H I I _ w _ hI (fun b hb _ _ => .inr hb) hO1 (hg s' q1 h1)
    · rw [lk_cons_ne hk] at hs'
      exact ih h3 s' p hs'
theorem RegL.freezeC {P : Program} {B : Bs} {ops : Array Oper} {os : List Oper} {Γ : Env} {Ωs : List Own} {Q : Exit → Act → World → Prop} (l : List (Nat × Pd × Pd)) (hl : ConvL Γ Ωs l) (h : RegL P B ops os (convE l Γ) Ω Q) : RegL P B ops os Γ (Ωs ++ Ω) Q := fun k hk => Ct.freezeC l hl (h k hk)
theorem Tr.freezeC {P : Program} {B : Bs} {x : Code} {Γ : Env} {Ωs : List Own} {Q : Exit → Act → World → Prop} (l : List (Nat × Pd × Pd)) (hl : ConvL Γ Ωs l) (h : Tr P B x (convE l Γ) Ω Q) : Tr P B x Γ (Ωs ++ Ω) Q := Ct.freezeC l hl h
end
end Go.Wk
