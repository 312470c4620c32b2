/-
  Nested own rows: an own slice whose elements are own slices. No program in sight. Our own work.
-/
import Derived.Test.YtbhegklilcpbmaaDoorConv
namespace Go.Wk
open Go Go.RowKit

theorem SatO.monoF {L I I' : Vw} {w w' : World} (hI : ∀ b, I b → I' b) (hw : ∀ b, I b → w'.heap[b]? = w.heap[b]?) (hL : ∀ b, L b → w'.heap[b]? = w.heap[b]?) : ∀ {Ω : List Own} {X : Vw}, SatO L I w X Ω → SatO L I' w' X Ω
  | [], _, _ => trivial
  | _ :: _, _, ⟨F, hF, ho, hr⟩ => ⟨F, fun b hb => ⟨(hF b hb).1, by
      have h1 := hL b (hF b hb).1
      rw [Array.getElem?_eq_getElem (hF b hb).2.1] at h1
      exact (Array.getElem?_eq_some_iff.1 h1).1, (hF b hb).2.2⟩, Own.mono _ hI hw (fun b hb => hL b (hF b hb).1) ho, SatO.monoF hI hw hL hr⟩

/-- Several own things as one. -/
def oSep (Ωs : List Own) : Own := ⟨fun I F w => SatO F I w (fun _ => False) Ωs, fun hI hw hF h => SatO.monoF hI hw hF h⟩

theorem SatO.unpack {L I X : Vw} {w : World} {Ωs Ω : List Own} (h : SatO L I w X (oSep Ωs :: Ω)) : SatO L I w X (Ωs ++ Ω) := by
  obtain ⟨F, hF, ho, hr⟩ := h
  refine SatO.append (fun b hb => (hF b hb).1) (SatO.excl (X' := X) (fun b hX hf => ((hF b hf).2.2 hX).elim) ho) (fun X' hX' => SatO.congr (fun b hb => hX' b hb) hr)
theorem SatO.pack {L I X : Vw} {w : World} {Ωs Ω : List Own} (h : SatO L I w X (Ωs ++ Ω)) : SatO L I w X (oSep Ωs :: Ω) := by
  obtain ⟨H, hH, h1, h2⟩ := h.split
  exact ⟨H, hH, SatO.congr (fun b hb => hb.elim) h1, h2⟩

abbrev hdrV (h : G3) : Value := .slice h.1 h.2.1 h.2.2
abbrev cHdr (h : G3) : List Pd := [pEq (hdrV h)]
def gd (hs : List G3) (N : Int) : G3 := hs.getD N.toNat (none, 0, 0)

def bagL {α : Type} (et k : Nat) (f : α → List Pd) : List G3 → List (List α) → List Own
  | h :: hs, l :: ls => oSl et k f h.1 h.2.1 h.2.2 l :: bagL et k f hs ls
  | _, _ => []
/-- Own rows, each with its header. -/
def oBag {α : Type} (et k : Nat) (f : α → List Pd) (hs : List G3) (ls : List (List α)) : Own :=
  ⟨fun I F w => hs.length = ls.length ∧ SatO F I w (fun _ => False) (bagL et k f hs ls), fun hI hw hF h => ⟨h.1, SatO.monoF hI hw hF h.2⟩⟩
/-- An own slice of own slices: the headers hs, and what they read as. -/
def oSS {α : Type} (e1 et k : Nat) (f : α → List Pd) (o : Option Addr) (n cap : Nat) (hs : List G3) (ls : List (List α)) : Own :=
  oSep [oSl e1 1 cHdr o n cap hs, oBag et k f hs ls]

section
variable {α : Type} {e1 et k n cap : Nat} {f : α → List Pd} {ad : Option Addr} {hs : List G3} {ls : List (List α)} {L I X F : Vw} {w : World}

theorem oSS.parts (h : (oSS e1 et k f ad n cap hs ls).p I F w) : ∃ F1 F2 : Vw, (∀ b, F1 b → F b) ∧ (∀ b, F2 b → F b ∧ ¬ F1 b) ∧ (oSl e1 1 cHdr ad n cap hs).p I F1 w ∧ (oBag et k f hs ls).p I F2 w := by
  obtain ⟨F1, h1, h2, F2, h3, h4, _⟩ := h
  exact ⟨F1, F2, fun b hb => (h1 b hb).1, fun b hb => ⟨(h3 b hb).1, fun h => (h3 b hb).2.2 (.inr h)⟩, h2, h4⟩

theorem bagL_get : ∀ {hs : List G3} {ls : List (List α)} {i : Nat} {x : List α}, hs.length = ls.length → ls[i]? = some x → ∃ h, hs[i]? = some h ∧ (bagL et k f hs ls)[i]? = some (oSl et k f h.1 h.2.1 h.2.2 x)
  | [], [], i, x, _, h => by simp at h
  | h :: hs, l :: ls, 0, x, _, hx => by simp at hx; subst hx; exact ⟨h, rfl, rfl⟩
  | h :: hs, l :: ls, i + 1, x, hl, hx => by
    obtain ⟨g, h1, h2⟩ := bagL_get (i := i) (hs := hs) (ls := ls) (by simpa using hl) (by simpa using hx)
    exact ⟨g, by simpa using h1, by simpa [bagL] using h2⟩
  | [], _ :: _, _, _, hl, _ => by simp at hl
  | _ :: _, [], _, _, hl, _ => by simp at hl

theorem gd_of {N : Int} {h : G3} (hh : hs[N.toNat]? = some h) : gd hs N = h := by simp [gd, hh]

/-- The inner row at a place. -/
theorem oBag.row {N : Int} {x : List α} (h : (oBag et k f hs ls).p I F w) (hx : idx ls N = some x) : ∃ F', (∀ b, F' b → F b) ∧ hs[N.toNat]? = some (gd hs N) ∧ (oSl et k f (gd hs N).1 (gd hs N).2.1 (gd hs N).2.2 x).p I F' w := by
  obtain ⟨h0, h1, rfl⟩ := idx_some hx
  obtain ⟨g, hg, hb⟩ := bagL_get (et := et) (k := k) (f := f) h.1 (List.getElem?_eq_getElem h1)
  obtain ⟨F', hF', ho⟩ := h.2.mem hb
  rw [gd_of hg]
  exact ⟨F', fun b hb => (hF' b hb).1, hg, ho⟩

theorem Conv.hdr {Ω : List Own} {N : Int} {x : List α} (i : Nat) (hf : ∀ x, (f x).length = k) (hi : Ω[i]? = some (oSS e1 et k f ad n cap hs ls)) (hx : idx ls N = some x) : Conv Ω (pEq (hdrV (gd hs N))) (pSl k f x) := fun L I X J w v hI hX hO h => by
  have h : v = _ := h
  obtain ⟨F, hF, hown⟩ := hO.mem hi
  obtain ⟨F1, F2, hF1, hF2, _, h2⟩ := oSS.parts hown
  obtain ⟨F', hF', _, ho⟩ := oBag.row h2 hx
  rw [h]
  have hb : ∀ b, F' b → F b := fun b hb => (hF2 b (hF' b hb)).1
  exact (pSl k f x).mono (fun b hb' => hb'.elim (hI b) (fun h => hX b (hF b (hb b h)).1 (hF b (hb b h)).2.1 (hF b (hb b h)).2.2)) (fun _ _ => rfl) (oSl.frozen hf ho)

theorem Conv.nest {Ω : List Own} (i : Nat) (hf : ∀ x, (f x).length = k) (hi : Ω[i]? = some (oSS e1 et k f ad n cap hs ls)) : Conv Ω (pEq (.slice ad n cap)) (pSl 1 (cSl k f) ls) := fun L I X J w v hI hX hO h => by
  have h : v = _ := h
  obtain ⟨F, hF, hown⟩ := hO.mem hi
  obtain ⟨F1, F2, hF1, hF2, h1, h2⟩ := oSS.parts hown
  rw [h]
  have hout := oSl.frozen (k := 1) (f := cHdr) (fun _ => rfl) h1
  obtain ⟨o, c, e, h3, h4, h5⟩ := hout
  simp only [Value.slice.injEq] at e
  obtain ⟨rfl, rfl, rfl⟩ := e
  have hl := h2.1
  refine ⟨ad, cap, by rw [hl], by omega, h4, fun j hj => ?_⟩
  obtain ⟨b, off, h6, h7, ⟨v1, hv1, hp1⟩, _⟩ := h5 j (by omega)
  have hJ : J b := h7.elim (hI b) (fun hb => hX b (hF b (hF1 b hb)).1 (hF b (hF1 b hb)).2.1 (hF b (hF1 b hb)).2.2)
  refine ⟨b, off, h6, hJ, ⟨v1, hv1, ?_⟩, trivial⟩
  have hx : idx ls (j : Int) = some ls[j] := by
    unfold idx; rw [if_pos (by omega)]; simp [hj]
  obtain ⟨F', hF', hg, ho⟩ := oBag.row h2 hx
  have hv1' : v1 = hdrV (gd hs (j : Int)) := by
    have : v1 = hdrV hs[j] := hp1
    rw [this]
    congr 1
    rw [gd_of (h := hs[j])]
    simp
  rw [hv1']
  have hb : ∀ b, F' b → F b := fun b hb => (hF2 b (hF' b hb)).1
  exact (pSl k f ls[j]).mono (fun b hb' => hb'.elim (hI b) (fun h => hX b (hF b (hb b h)).1 (hF b (hb b h)).2.1 (hF b (hb b h)).2.2)) (fun _ _ => rfl) (oSl.frozen hf ho)
end

section
variable {P : Program} {B : Bs} {o : Oper} {Γ : Env} {Ω : List Own} {α : Type} {e1 et k n cap : Nat} {f : α → List Pd} {ad : Option Addr} {hs : List G3} {ls : List (List α)}

theorem W_nestIdx {T j : Nat} {x i : Operand} {kk : IntKind} {N : Int} (ho : o.op = .indexAddr T x i) (hT : P.underlying T = some (.slice e1)) (hk : ∀ w, (sizeOf e1).run P w = .ok 1 w)
    (hx : Opd Γ x (pEq (.slice ad n cap))) (hi : Opd Γ i (pEq (.int kk N))) (hj : Ω[j]? = some (oSS e1 et k f ad n cap hs ls)) (hN : 0 ≤ N ∧ N < ls.length) : OpW P Ω o Γ (pEq (.pointer (some ⟨blk ad, N.toNat * 1, none⟩))) :=
  OpW.val fun lo I w t hbd hg hO => by
    have h : ev t x = _ := hx I w t hg
    have h2 : ev t i = _ := hi I w t hg
    obtain ⟨F, hF, hown⟩ := hO.mem hj
    obtain ⟨F1, F2, _, _, hown, hb⟩ := oSS.parts hown
    have hl := hb.1
    obtain ⟨g, vs, cur, rfl, hg, hnl, _⟩ := oSl.block hown (by omega)
    refine ⟨.pointer (some ⟨g, N.toNat * 1, none⟩), ?_, rfl⟩
    simp only [execOp, ho, h, h2]
    rw [Sem.run_bind]
    simp only [Instr.indexAt, asIntOf, Sem.run_bind, Sem.run_pure, Result.andThen_ok, run_underlying hT, if_pos (show (0 ≤ N ∧ N < ((n : Nat) : Int)) from ⟨hN.1, by omega⟩), hk w, addr_add, Nat.zero_add]

theorem flat_hdr (hs : List G3) : hs.flatMap cHdr = hs.map fun h => pEq (hdrV h) := by
  induction hs with
  | nil => rfl
  | cons h hs ih => rw [List.flatMap_cons, ih]; rfl

theorem W_nestLoad {T j : Nat} {x : Operand} {N : Int} {y : List α} (ho : o.op = .load T x) (hT : ∀ w, (isAgg T).run P w = .ok false w)
    (hx : Opd Γ x (pEq (.pointer (some ⟨blk ad, N.toNat * 1, none⟩)))) (hj : Ω[j]? = some (oSS e1 et k f ad n cap hs ls)) (hy : idx ls N = some y) : OpW P Ω o Γ (pEq (hdrV (gd hs N))) :=
  OpW.val fun lo I w t hbd hg hO => by
    have h : ev t x = _ := hx I w t hg
    obtain ⟨F, hF, hown⟩ := hO.mem hj
    obtain ⟨F1, F2, _, _, hown, hb⟩ := oSS.parts hown
    obtain ⟨_, _, hgd, _⟩ := oBag.row hb hy
    obtain ⟨h0, h1, rfl⟩ := idx_some hy
    have hl := hb.1
    obtain ⟨g, vs, cur, rfl, hg, hnl, hh, _, _, hcs, htk, hvl, hv⟩ := oSl.block hown (by omega)
    rw [flat_hdr] at hv
    obtain ⟨u, hu, hp⟩ := hv.get (j := N.toNat) (q := pEq (hdrV (gd hs N))) (by rw [List.getElem?_map, hgd]; rfl)
    have hc : w.cell? ⟨g, N.toNat, none⟩ = some u := by
      rw [← htk, List.getElem?_take] at hu
      simp only [World.cell?, hh]
      split at hu
      · simpa using hu
      · simp at hu
    simp only [blk, Nat.mul_one] at h
    exact ⟨u, by simp [execOp, ho, h, Instr.loadAt, Instr.sureAddr, loadVar, hT w, hc], hp⟩

theorem W_nestLen {T e j : Nat} {x : Operand} (ho : o.op = .call { callee := .builtin .len, args := #[x], argTypes := #[T] }) (hT : P.underlying T = some (.slice e)) (hx : Opd Γ x (pEq (.slice ad n cap))) (hj : Ω[j]? = some (oSS e1 et k f ad n cap hs ls)) : OpW P Ω o Γ (pEq (.int .i64 (ls.length : Int))) :=
  OpW.val fun lo I w t hbd hg hO => by
    have h : ev t x = _ := hx I w t hg
    obtain ⟨F, hF, hown⟩ := hO.mem hj
    obtain ⟨F1, F2, _, _, hown, hb⟩ := oSS.parts hown
    have hn : n = ls.length := hown.1.trans hb.1
    exact ⟨.int .i64 ls.length, by simp [execOp, ho, h, resolve, invoke, builtin, Builtin.len_, run_underlying hT, goInt, hn], rfl⟩
theorem W_hdrLen {T e j : Nat} {x : Operand} {N : Int} {y : List α} (ho : o.op = .call { callee := .builtin .len, args := #[x], argTypes := #[T] }) (hT : P.underlying T = some (.slice e)) (hx : Opd Γ x (pEq (hdrV (gd hs N)))) (hj : Ω[j]? = some (oSS e1 et k f ad n cap hs ls)) (hy : idx ls N = some y) : OpW P Ω o Γ (pEq (.int .i64 (y.length : Int))) :=
  OpW.val fun lo I w t hbd hg hO => by
    have h : ev t x = _ := hx I w t hg
    obtain ⟨F, hF, hown⟩ := hO.mem hj
    obtain ⟨F1, F2, _, _, hown, hb⟩ := oSS.parts hown
    obtain ⟨F', _, _, ho'⟩ := oBag.row hb hy
    have hn : (gd hs N).2.1 = y.length := ho'.1
    exact ⟨.int .i64 y.length, by simp [execOp, ho, h, resolve, invoke, builtin, Builtin.len_, run_underlying hT, goInt, hn], rfl⟩
theorem W_bagIdx {T j : Nat} {x i : Operand} {kk : IntKind} {N M : Int} {y : List α} (ho : o.op = .indexAddr T x i) (hT : P.underlying T = some (.slice et)) (hk : ∀ w, (sizeOf et).run P w = .ok k w)
    (hx : Opd Γ x (pEq (hdrV (gd hs N)))) (hi : Opd Γ i (pEq (.int kk M))) (hj : Ω[j]? = some (oSS e1 et k f ad n cap hs ls)) (hy : idx ls N = some y) (hM : 0 ≤ M ∧ M < y.length) : OpW P Ω o Γ (pEq (.pointer (some ⟨blk (gd hs N).1, M.toNat * k, none⟩))) :=
  OpW.val fun lo I w t hbd hg hO => by
    have h : ev t x = _ := hx I w t hg
    have h2 : ev t i = _ := hi I w t hg
    obtain ⟨F, hF, hown⟩ := hO.mem hj
    obtain ⟨F1, F2, _, _, hown, hb⟩ := oSS.parts hown
    obtain ⟨F', _, _, ho'⟩ := oBag.row hb hy
    obtain ⟨g, vs, cur, hgd, hg, hnl, _⟩ := oSl.block ho' (by omega)
    refine ⟨.pointer (some ⟨g, M.toNat * k, none⟩), ?_, by rw [hgd]; rfl⟩
    simp only [execOp, ho, h, h2]
    rw [Sem.run_bind]
    simp only [hdrV, hgd, hnl, Instr.indexAt, asIntOf, Sem.run_bind, Sem.run_pure, Result.andThen_ok, run_underlying hT, if_pos (show (0 ≤ M ∧ M < ((y.length : Nat) : Int)) from ⟨hM.1, by omega⟩), hk w, addr_add, Nat.zero_add]
theorem W_bagLoad {T j : Nat} {x : Operand} {N M : Int} {y : List α} {z : α} {q : Pd} {r : List Pd} (ho : o.op = .load T x) (hT : ∀ w, (isAgg T).run P w = .ok false w) (hf : ∀ x, (f x).length = k)
    (hx : Opd Γ x (pEq (.pointer (some ⟨blk (gd hs N).1, M.toNat * k, none⟩)))) (hj : Ω[j]? = some (oSS e1 et k f ad n cap hs ls)) (hy : idx ls N = some y) (hz : idx y M = some z) (hq : f z = q :: r) : OpW P Ω o Γ q :=
  OpW.val fun lo I w t hbd hg hO => by
    have h : ev t x = _ := hx I w t hg
    obtain ⟨F, hF, hown⟩ := hO.mem hj
    obtain ⟨F1, F2, _, _, hown, hb⟩ := oSS.parts hown
    obtain ⟨F', _, _, ho'⟩ := oBag.row hb hy
    obtain ⟨h0, h1, rfl⟩ := idx_some hz
    obtain ⟨g, vs, cur, hgd, hg, hnl, hh, _, _, hcs, htk, hvl, hv⟩ := oSl.block ho' (by omega)
    obtain ⟨r', hr'⟩ := flatMap_at hf h1
    have hv' := hv.drop (k := M.toNat * k)
    rw [hr', hq] at hv'
    cases hvd : vs.drop (M.toNat * k) with
    | nil => rw [hvd] at hv'; exact hv'.elim
    | cons u us =>
      rw [hvd] at hv'
      have hu := (drop_head hvd).1
      have hc : w.cell? ⟨g, M.toNat * k, none⟩ = some u := by
        rw [← htk, List.getElem?_take] at hu
        simp only [World.cell?, hh]
        split at hu
        · simpa using hu
        · simp at hu
      rw [hgd] at h
      simp only [blk] at h
      exact ⟨u, by simp [execOp, ho, h, Instr.loadAt, Instr.sureAddr, loadVar, hT w, hc], hv'.1⟩

/-! ### from the parts, and back -/
theorem OpM.re {Ω1 Ω2 : List Own} {γ δ : Type} {p : γ → Pd} {q : δ → Pd} {Ω3 : γ → List Own} {Ω4 : δ → List Own} (h : OpM P B o Γ Ω2 p Ω3) (h1 : ∀ {L I X : Vw} {w : World}, SatO L I w X Ω1 → SatO L I w X Ω2) (g : γ → δ) (hq : ∀ c, q (g c) = p c) (h2 : ∀ {L I X : Vw} {w : World} (c : γ), SatO L I w X (Ω3 c) → SatO L I w X (Ω4 (g c))) : OpM P B o Γ Ω1 q Ω4 :=
  fun I a w hs => (h I a w { hs with o := h1 hs.o }).mono fun _ _ ⟨c, I', hs', hp⟩ => ⟨g c, I', { hs' with o := h2 c hs'.o }, by rw [hq]; exact hp⟩
theorem Ct.re {Ω1 Ω2 : List Own} {K : Act → World → Prop} (h1 : ∀ {L I X : Vw} {w : World}, SatO L I w X Ω1 → SatO L I w X Ω2) (h : Ct B Γ Ω2 K) : Ct B Γ Ω1 K := fun I a w hs => h I a w { hs with o := h1 hs.o }
theorem RegL.re {Ω1 Ω2 : List Own} {ops : Array Oper} {os : List Oper} {Q : Exit → Act → World → Prop} (h1 : ∀ {L I X : Vw} {w : World}, SatO L I w X Ω1 → SatO L I w X Ω2) (h : RegL P B ops os Γ Ω2 Q) : RegL P B ops os Γ Ω1 Q := fun k hk => Ct.re h1 (h k hk)
theorem Tr.re {Ω1 Ω2 : List Own} {x : Code} {Q : Exit → Act → World → Prop} (h1 : ∀ {L I X : Vw} {w : World}, SatO L I w X Ω1 → SatO L I w X Ω2) (h : Tr P B x Γ Ω2 Q) : Tr P B x Γ Ω1 Q := Ct.re h1 h

theorem SatO.bagOf {L I X : Vw} {w : World} {hs : List G3} {ls : List (List α)} (hl : hs.length = ls.length) (h : SatO L I w X (bagL et k f hs ls ++ Ω)) : SatO L I w X (oBag et k f hs ls :: Ω) := by
  obtain ⟨F, h1, h2, h3⟩ := SatO.pack h
  exact ⟨F, h1, ⟨hl, h2⟩, h3⟩
theorem SatO.ofBag {L I X : Vw} {w : World} {hs : List G3} {ls : List (List α)} (h : SatO L I w X (oBag et k f hs ls :: Ω)) : hs.length = ls.length ∧ SatO L I w X (bagL et k f hs ls ++ Ω) := by
  obtain ⟨F, h1, ⟨hl, h2⟩, h3⟩ := h
  exact ⟨hl, SatO.unpack ⟨F, h1, h2, h3⟩⟩
theorem SatO.tail {L I X : Vw} {w : World} {o : Own} {Ω1 Ω2 : List Own} (h : ∀ {X : Vw}, SatO L I w X Ω1 → SatO L I w X Ω2) : SatO L I w X (o :: Ω1) → SatO L I w X (o :: Ω2) := fun ⟨F, h1, h2, h3⟩ => ⟨F, h1, h2, h h3⟩

theorem nest_nil {L I X : Vw} {w : World} (h : SatO L I w X Ω) : SatO L I w X (oSS e1 et k f none 0 0 [] [] :: Ω) := by
  refine SatO.pack (Ωs := [_, _]) ⟨fun _ => False, fun _ hb => hb.elim, ⟨rfl, [], ⟨by simp, .inl ⟨rfl, rfl⟩⟩, trivial, fun _ h => by cases h⟩, fun _ => False, fun _ hb => hb.elim, ⟨rfl, trivial⟩, SatO.congr (fun b hb => ?_) h⟩
  rcases hb with (hb | hb) | hb
  · exact hb
  · exact hb.elim
  · exact hb.elim
theorem nest_one {L I X : Vw} {w : World} {h1 : G3} {l : List α} (h : SatO L I w X (oSl e1 1 cHdr ad n cap [h1] :: oSl et k f h1.1 h1.2.1 h1.2.2 l :: Ω)) : SatO L I w X (oSS e1 et k f ad n cap [h1] [l] :: Ω) :=
  SatO.pack (Ωs := [_, _]) (SatO.tail (fun h => SatO.bagOf (hs := [h1]) (ls := [l]) rfl h) h)
theorem nest_zero {L I X : Vw} {w : World} (h : SatO L I w X (oSl e1 1 cHdr ad n cap [] :: Ω)) : SatO L I w X (oSS e1 et k f ad n cap [] [] :: Ω) :=
  SatO.pack (Ωs := [_, _]) (SatO.tail (fun h => SatO.bagOf (hs := []) (ls := []) rfl h) h)
theorem bagL_rep {L I X : Vw} {w : World} : ∀ (m : Nat), SatO L I w X Ω → SatO L I w X (bagL et k f (List.replicate m (none, 0, 0)) (List.replicate m []) ++ Ω)
  | 0, h => h
  | m + 1, h => ⟨fun _ => False, fun _ hb => hb.elim, ⟨rfl, [], ⟨by simp, .inl ⟨rfl, rfl⟩⟩, trivial, fun _ h => by cases h⟩, SatO.congr (fun b hb => hb.elim id (fun h => h.elim)) (bagL_rep m h)⟩
theorem nest_rep {L I X : Vw} {w : World} {m : Nat} (h : SatO L I w X (oSl e1 1 cHdr ad n cap (List.replicate m (none, 0, 0)) :: Ω)) : SatO L I w X (oSS e1 et k f ad n cap (List.replicate m (none, 0, 0)) (List.replicate m []) :: Ω) :=
  SatO.pack (Ωs := [_, _]) (SatO.tail (fun h => SatO.bagOf (by simp) (bagL_rep m h)) h)

theorem bagL_append : ∀ {hs hs2 : List G3} {ls ls2 : List (List α)}, hs.length = ls.length → bagL et k f (hs ++ hs2) (ls ++ ls2) = bagL et k f hs ls ++ bagL et k f hs2 ls2
  | [], _, [], _, _ => rfl
  | h :: hs, hs2, l :: ls, ls2, hl => by simp [bagL, bagL_append (hs := hs) (ls := ls) (by simpa using hl)]
  | [], _, _ :: _, _, hl => by simp at hl
  | _ :: _, _, [], _, hl => by simp at hl

/-- append of an own slice of own slices. -/
theorem M_nestAppend {T n2 cap2 : Nat} {x y : Operand} {ad2 : Option Addr} {hs2 : List G3} {ms r : List (List α)} (ho : o.op = .call { callee := .builtin .append, args := #[x, y], argTypes := #[T, T] })
    (hT : P.underlying T = some (.slice e1)) (he : Elem P e1 1 24 cHdr ((none, 0, 0) : G3)) (hx : Opd Γ x (pEq (.slice ad n cap))) (hy : Opd Γ y (pEq (.slice ad2 n2 cap2))) (hl : appL 24 ls ms = some r) :
    OpM P B o Γ (oSS e1 et k f ad n cap hs ls :: oSS e1 et k f ad2 n2 cap2 hs2 ms :: Ω) (fun g : (Option Addr × Nat) × List G3 => pEq (.slice g.1.1 r.length g.1.2)) (fun g => oSS e1 et k f g.1.1 r.length g.1.2 g.2 r :: Ω) := by
  intro I a w hs0
  have hso := hs0.o
  have hun : SatO B.L I w I (oSl e1 1 cHdr ad n cap hs :: oSl e1 1 cHdr ad2 n2 cap2 hs2 :: oBag et k f hs ls :: oBag et k f hs2 ms :: Ω) := by
    have h1 := SatO.unpack hso
    have h2 : SatO B.L I w I (oSl e1 1 cHdr ad n cap hs :: oBag et k f hs ls :: oSl e1 1 cHdr ad2 n2 cap2 hs2 :: oBag et k f hs2 ms :: Ω) := SatO.tail (fun h => SatO.tail (fun h => SatO.unpack h) h) h1
    exact SatO.tail (fun h => SatO.perm (List.Perm.swap _ _ _) h) h2
  obtain ⟨hl1, hl2⟩ : hs.length = ls.length ∧ hs2.length = ms.length := by
    obtain ⟨_, _, _, _, _, _, F, _, hb, F', _, hb', _⟩ := hun
    exact ⟨hb.1, hb'.1⟩
  obtain ⟨hbd, rfl⟩ := appL_some hl
  have hla : appL 24 hs hs2 = some (hs ++ hs2) := by unfold appL; rw [if_pos (by rw [hl1, hl2]; exact hbd)]
  have := M_append (B := B) (Ω := oBag et k f hs ls :: oBag et k f hs2 ms :: Ω) ho hT he hx hy hla I a w { hs0 with o := hun }
  have hlen : (ls ++ ms).length = (hs ++ hs2).length := by simp [hl1, hl2]
  refine this.mono fun v w' ⟨g, I', hs', hp⟩ => ⟨(g, hs ++ hs2), I', { hs' with o := ?_ }, by rw [hlen]; exact hp⟩
  rw [hlen]
  refine SatO.pack (Ωs := [_, _]) (SatO.tail (fun h => ?_) hs'.o)
  have h3 := (SatO.ofBag (SatO.tail (fun h => (SatO.ofBag h).2) h)).2
  refine SatO.bagOf hlen.symm ?_
  rw [bagL_append hl1, List.append_assoc]
  exact h3

theorem bagL_swap : ∀ {hs : List G3} {ls : List (List α)} {i : Nat} {h0 : G3} {x : List α}, hs.length = ls.length → hs[i]? = some h0 → ls[i]? = some x →
    (bagL et k f hs ls).Perm (oSl et k f h0.1 h0.2.1 h0.2.2 x :: bagL et k f (hs.eraseIdx i) (ls.eraseIdx i))
  | h :: hs, l :: ls, 0, h0, x, _, hh, hx => by simp at hh hx; subst hh hx; exact List.Perm.refl _
  | h :: hs, l :: ls, i + 1, h0, x, hl, hh, hx => by
    have := bagL_swap (i := i) (hs := hs) (ls := ls) (by simpa using hl) (by simpa using hh) (by simpa using hx)
    simp only [bagL, List.eraseIdx_cons_succ]
    exact (List.Perm.cons _ this).trans (List.Perm.swap _ _ _)
  | [], _, _, _, _, _, hh, _ => by simp at hh
  | _ :: _, [], _, _, _, hl, _, _ => by simp at hl

theorem erase_set {β : Type} : ∀ (m : List β) (i : Nat) (y : β), (m.set i y).eraseIdx i = m.eraseIdx i
  | [], _, _ => rfl
  | _ :: _, 0, _ => rfl
  | _ :: m, i + 1, y => by simp [erase_set m i y]

/-- All but one of the inner rows. -/
def oHole {α : Type} (e1 et k : Nat) (f : α → List Pd) (o : Option Addr) (n cap : Nat) (hs : List G3) (ls : List (List α)) (N : Int) : Own :=
  oSep [oSl e1 1 cHdr o n cap hs, oBag et k f (hs.eraseIdx N.toNat) (ls.eraseIdx N.toNat), ⟨fun _ _ _ => hs.length = ls.length, fun _ _ _ h => h⟩]
theorem nest_focus {L I X : Vw} {w : World} {N : Int} {x : List α} (hx : idx ls N = some x) (h : SatO L I w X (oSS e1 et k f ad n cap hs ls :: Ω)) : SatO L I w X (oSl et k f (gd hs N).1 (gd hs N).2.1 (gd hs N).2.2 x :: oHole e1 et k f ad n cap hs ls N :: Ω) := by
  have h1 := SatO.unpack h
  obtain ⟨F1, hF1, ho1, hr⟩ := h1
  have hb : SatO L I w (fun b => X b ∨ F1 b) (oBag et k f hs ls :: Ω) := hr
  obtain ⟨hl, hbag⟩ := SatO.ofBag hb
  obtain ⟨h0, hlt, rfl⟩ := idx_some hx
  obtain ⟨g, hg, _⟩ := bagL_get (et := et) (k := k) (f := f) hl (List.getElem?_eq_getElem hlt)
  rw [gd_of hg]
  have hp := bagL_swap (et := et) (k := k) (f := f) hl hg (List.getElem?_eq_getElem hlt)
  have h2 : SatO L I w X (oSl e1 1 cHdr ad n cap hs :: oSl et k f g.1 g.2.1 g.2.2 ls[N.toNat] :: oBag et k f (hs.eraseIdx N.toNat) (ls.eraseIdx N.toNat) :: ⟨fun _ _ _ => hs.length = ls.length, fun _ _ _ h => h⟩ :: Ω) := by
    refine ⟨F1, hF1, ho1, ?_⟩
    have h3 := SatO.perm (List.Perm.append_right Ω hp) hbag
    refine SatO.tail (fun h => ?_) h3
    have h4 := SatO.bagOf (by simp [List.length_eraseIdx, hl]) h
    refine SatO.tail (fun h => ⟨fun _ => False, fun _ hb => hb.elim, hl, SatO.congr (fun b hb => hb.elim id (fun h => h.elim)) h⟩) h4
  exact SatO.tail (fun h => SatO.pack (Ωs := [_, _, _]) h) (SatO.perm (List.Perm.swap _ _ _) h2)
theorem nest_unfocus {L I X : Vw} {w : World} {N : Int} {x x' : List α} (hx : idx ls N = some x) (h : SatO L I w X (oSl et k f (gd hs N).1 (gd hs N).2.1 (gd hs N).2.2 x' :: oHole e1 et k f ad n cap hs ls N :: Ω)) : SatO L I w X (oSS e1 et k f ad n cap hs (ls.set N.toNat x') :: Ω) := by
  have h1 : SatO L I w X (oSl et k f (gd hs N).1 (gd hs N).2.1 (gd hs N).2.2 x' :: oSl e1 1 cHdr ad n cap hs :: oBag et k f (hs.eraseIdx N.toNat) (ls.eraseIdx N.toNat) :: ⟨fun _ _ _ => hs.length = ls.length, fun _ _ _ h => h⟩ :: Ω) := SatO.tail (fun h => SatO.unpack h) h
  have h2 := SatO.perm (List.Perm.swap _ _ _) h1
  refine SatO.pack (Ωs := [_, _]) (SatO.tail (fun h => ?_) h2)
  obtain ⟨Fa, hFa, hoa, Fb, hFb, hob, Fc, hFc, hl, hr⟩ := h
  have hl : hs.length = ls.length := hl
  have hr' : SatO L I w _ (oSl et k f (gd hs N).1 (gd hs N).2.1 (gd hs N).2.2 x' :: oBag et k f (hs.eraseIdx N.toNat) (ls.eraseIdx N.toNat) :: Ω) := ⟨Fa, hFa, hoa, Fb, hFb, hob, SatO.congr (fun b hb => .inl hb) hr⟩
  have hr2 := SatO.tail (fun h => (SatO.ofBag h).2) hr'
  obtain ⟨h0, hlt, rfl⟩ := idx_some hx
  have hg : hs[N.toNat]? = some (gd hs N) := by
    have : hs[N.toNat]? = some hs[N.toNat] := List.getElem?_eq_getElem (by omega)
    rw [gd_of this]; exact this
  have hp := bagL_swap (et := et) (k := k) (f := f) (hs := hs) (ls := ls.set N.toNat x') (i := N.toNat) (h0 := gd hs N) (x := x') (by simp [hl]) hg (by simp [hlt])
  rw [erase_set] at hp
  exact SatO.bagOf (by simp [hl]) (SatO.perm (List.Perm.append_right Ω hp.symm) hr2)

/-- out[i] = row: the row goes into the nest. -/
theorem M_nestStore {T n1 c1 : Nat} {x y : Operand} {N : Int} {o1 : Option Addr} {l : List α} (ho : o.op = .store T x y) (hT : ∀ w, (sizeOf T).run P w = .ok 1 w)
    (hx : Opd Γ x (pEq (.pointer (some ⟨blk ad, N.toNat * 1, none⟩)))) (hy : Opd Γ y (pEq (.slice o1 n1 c1))) (hN : 0 ≤ N ∧ N < ls.length) :
    OpM P B o Γ (oSS e1 et k f ad n cap hs ls :: oSl et k f o1 n1 c1 l :: Ω) (fun _ : Unit => pAny) (fun _ => oSS e1 et k f ad n cap (hs.set N.toNat (o1, n1, c1)) (ls.set N.toNat l) :: Ω) := by
  intro I a w hs0
  have hun := SatO.unpack hs0.o
  have hl : hs.length = ls.length := by
    obtain ⟨_, _, _, F, _, hb, _⟩ := hun
    exact hb.1
  have hsl : setL hs N (o1, n1, c1) = some (hs.set N.toNat (o1, n1, c1)) := setL_of ⟨hN.1, by rw [hl]; exact hN.2⟩
  have := M_rowStore (B := B) (et := e1) (ad := ad) (l := hs) (v := (o1, n1, c1)) (q := pEq (.slice o1 n1 c1)) (f := cHdr) (n := n) (cap := cap) (Ω := oBag et k f hs ls :: oSl et k f o1 n1 c1 l :: Ω) ho hT (fun _ => rfl) hx hy rfl OneC.slice hsl I a w { hs0 with o := hun }
  refine this.mono fun v w' ⟨g, I', hs', hp⟩ => ⟨(), I', { hs' with o := ?_ }, hp⟩
  refine SatO.pack (Ωs := [_, _]) (SatO.tail (fun h => ?_) hs'.o)
  have h1 := SatO.perm (List.Perm.swap _ _ _) h
  have h2 := SatO.tail (fun h => (SatO.ofBag h).2) h1
  have hlt : N.toNat < ls.length := by omega
  have hg : hs[N.toNat]? = some hs[N.toNat] := List.getElem?_eq_getElem (by omega)
  have hp1 := bagL_swap (et := et) (k := k) (f := f) hl hg (List.getElem?_eq_getElem hlt)
  have hp2 := bagL_swap (et := et) (k := k) (f := f) (hs := hs.set N.toNat (o1, n1, c1)) (ls := ls.set N.toNat l) (i := N.toNat) (h0 := (o1, n1, c1)) (x := l) (by simp [hl]) (by rw [List.getElem?_set_self (by omega)]) (by simp [hlt])
  rw [erase_set, erase_set] at hp2
  refine SatO.bagOf (by simp [hl]) (SatO.perm (List.Perm.append_right Ω hp2.symm) ?_)
  refine SatO.tail (fun h => ?_) h2
  have h3 := SatO.perm (List.Perm.append_right Ω hp1) h
  obtain ⟨_, _, _, hr⟩ := h3
  exact SatO.congr (fun b hb => .inl hb) hr

/-- A store into an inner row of one-cell elements. -/
theorem M_bagStore {T : Nat} {x y : Operand} {N M : Int} {z : List α} {v : α} {q : Pd} (ho : o.op = .store T x y) (hT : ∀ w, (sizeOf T).run P w = .ok 1 w)
    (hf : ∀ x, (f x).length = 1) (hx : Opd Γ x (pEq (.pointer (some ⟨blk (gd hs N).1, M.toNat * 1, none⟩)))) (hy : Opd Γ y q) (hq : f v = [q]) (h1 : OneC q) (hz : idx ls N = some z) (hM : 0 ≤ M ∧ M < z.length) :
    OpM P B o Γ (oSS e1 et 1 f ad n cap hs ls :: Ω) (fun _ : Unit => pAny) (fun _ => oSS e1 et 1 f ad n cap hs (ls.set N.toNat (z.set M.toNat v)) :: Ω) :=
  OpM.re (M_rowStore (B := B) (n := (gd hs N).2.1) (cap := (gd hs N).2.2) (Ω := oHole e1 et 1 f ad n cap hs ls N :: Ω) ho hT hf hx hy hq h1 (setL_of hM)) (fun h => nest_focus hz h) (fun _ => ()) (fun _ => rfl) (fun _ h => nest_unfocus hz h)

/-- What is owned says nothing of memory that is not owned. -/
theorem FreeO.nest (hf : ∀ x, FreePs (f x)) : FreeO (oSS e1 et k f ad n cap hs ls) := fun I I' F w h => by
  refine FreeOs.sat ⟨FreeO.sl (fun _ => ⟨FreeP.eq, trivial⟩), ?_, trivial⟩ (fun _ h => h) h
  intro I I' F w ⟨hl, h⟩
  have key : ∀ (hs : List G3) (ls : List (List α)), FreeOs (bagL et k f hs ls) := by
    intro hs
    induction hs with
    | nil => intro ls; exact trivial
    | cons h hs ih => intro ls; cases ls with
      | nil => exact trivial
      | cons l ls => exact ⟨FreeO.sl hf, ih ls⟩
  exact ⟨hl, FreeOs.sat (key hs ls) (fun _ h => h) h⟩
end
end Go.Wk
