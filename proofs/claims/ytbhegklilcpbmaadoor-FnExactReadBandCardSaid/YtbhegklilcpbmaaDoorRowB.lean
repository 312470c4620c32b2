/-
  Own rows, more: append, literals of structs and slices, whole stores, contracts that hand back what is owned. No program in sight. Our own work.
-/
import Derived.Test.YtbhegklilcpbmaaDoorRow
namespace Go.Wk
open Go Go.RowKit

/-- The state when the first own thing has turned, and may have moved to new blocks. -/
theorem Sat.turn2 {B : Bs} {Γ : Env} {Ω : List Own} {I : Vw} {a : Act} {w w' : World} {o1 o2 : Own} (hs : Sat B Γ (o1 :: Ω) I a w) (F : Vw) (hF : ∀ b, F b → B.L b ∧ b < w.heap.size ∧ ¬ I b) (hr : SatO B.L I w (fun b => I b ∨ F b) Ω)
    (hsz : w.heap.size ≤ w'.heap.size) (hos : w'.os = w.os) (htp : w'.tape = w.tape) (hout : w'.output = w.output) (hsame : ∀ b, b < w.heap.size → ¬ F b → w'.heap[b]? = w.heap[b]?)
    (F' : Vw) (hF' : ∀ b, F' b → F b ∨ (w.heap.size ≤ b ∧ b < w'.heap.size)) (ho : o2.p I F' w') : Sat B Γ (o2 :: Ω) I a w' where
  df := hs.df
  sz := hs.sz
  bel := ⟨hos.trans hs.bel.os, htp.trans hs.bel.tape, hout.trans hs.bel.output, Nat.le_trans hs.bel.size hsz, fun b hb hn => (hsame b (Nat.lt_of_lt_of_le hb hs.bel.size) (fun hf => (hF b hf).1.elim hn (fun h => absurd hb (by omega)))).trans (hs.bel.block b hb hn)⟩
  bd := fun b hb => Nat.lt_of_lt_of_le (hs.bd b hb) hsz
  vw := fun b hb => (hs.vw b hb).imp id (fun h => ⟨h.1, Nat.lt_of_lt_of_le h.2 hsz⟩)
  up := hs.up
  g := hs.g.mono (fun _ h => h) (fun b hb => hsame b (hs.bd b hb) (fun hf => (hF b hf).2.2 hb))
  o := by
    refine ⟨F', fun b hb => ?_, ho, ?_⟩
    · rcases hF' b hb with h | h
      · exact ⟨(hF b h).1, Nat.lt_of_lt_of_le (hF b h).2.1 hsz, (hF b h).2.2⟩
      · exact ⟨.inr (Nat.le_trans hs.bel.size h.1), h.2, fun hI => by have := hs.bd b hI; omega⟩
    have key : ∀ {Ω : List Own} {X X' : Vw}, (∀ b, F b → X b) → (∀ b, b < w.heap.size → X' b → X b) → SatO B.L I w X Ω → SatO B.L I w' X' Ω := by
      intro Ω
      induction Ω with
      | nil => intro X X' _ _ _; trivial
      | cons o' Ω ih =>
        intro X X' hX hX2 ⟨Fo, hFo, ho', hr'⟩
        refine ⟨Fo, fun b hb => ⟨(hFo b hb).1, Nat.lt_of_lt_of_le (hFo b hb).2.1 hsz, fun hx => (hFo b hb).2.2 (hX2 b (hFo b hb).2.1 hx)⟩, ?_, ih (fun b hb => .inl (hX b hb)) (fun b hb hx => hx.imp (hX2 b hb) id) hr'⟩
        exact o'.mono (fun _ h => h) (fun b hb => hsame b (hs.bd b hb) (fun hf => (hF b hf).2.2 hb)) (fun b hb => hsame b (hFo b hb).2.1 (fun hf => (hFo b hb).2.2 (hX b hf))) ho'
    exact key (fun b hb => .inr hb) (fun b hb hx => hx.elim .inl (fun hf => (hF' b hf).elim .inr (fun h => absurd hb (by omega)))) hr

theorem Vals.ones {α : Type} {f : α → List Pd} (hf : ∀ x I w us, Vals I w (f x) us → ∀ u ∈ us, u.oneCell' = true) {I : Vw} {w : World} : ∀ {l : List α} {us : List Value}, Vals I w (l.flatMap f) us → ∀ u ∈ us, u.oneCell' = true
  | [], [], _ => by simp
  | [], _ :: _, h => h.elim
  | x :: l, us, h => by
    rw [List.flatMap_cons] at h
    have h1 := Vals.sub (k := 0) (n := (f x).length) h
    have h2 := Vals.drop (k := (f x).length) h
    simp only [List.drop_zero, List.take_left, List.drop_left] at h1 h2
    intro u hu
    rw [← List.take_append_drop (f x).length us] at hu
    rcases List.mem_append.1 hu with hu | hu
    · exact hf x I w _ h1 u hu
    · exact Vals.ones hf h2 u hu

/-- A slice of the view, as one list of cells. -/
theorem pSl.vals {α : Type} {k : Nat} {f : α → List Pd} {l : List α} {I : Vw} {w : World} {v : Value} (hk : ∀ x, (f x).length = k) (h : (pSl k f l).p I w v) :
    ∃ o cap xs, v = .slice o l.length cap ∧ Vals I w (l.flatMap f) xs ∧ (l ≠ [] → o ≠ none) ∧ (o = none → cap = 0) ∧ ∀ a, o = some a → ∀ j u, xs[j]? = some u → w.cell? (a.add j) = some u := by
  obtain ⟨o, cap, rfl, _, hz, he⟩ := h
  cases o with
  | none =>
    cases l with
    | nil => exact ⟨none, cap, [], rfl, trivial, by simp, hz, by simp⟩
    | cons x l => obtain ⟨_, _, h, _⟩ := he 0 (by simp); cases h
  | some a =>
    cases hl : l with
    | nil => exact ⟨some a, cap, [], rfl, trivial, by simp, by simp, by simp⟩
    | cons x l' =>
      rw [← hl]
      obtain ⟨b, off, h0, _⟩ := he 0 (by simp [hl])
      cases h0
      have key : ∀ (m : List α) (off' : Nat), (∀ (i : Nat) (h : i < m.length), Cells I w b (off' + i * k) (f m[i])) → ∃ xs, Vals I w (m.flatMap f) xs ∧ ∀ j u, xs[j]? = some u → w.cell? ⟨b, off' + j, none⟩ = some u := by
        intro m
        induction m with
        | nil => intro _ _; exact ⟨[], trivial, by simp⟩
        | cons y m ih =>
          intro off' hm
          obtain ⟨vs, hvs, hc⟩ := (hm 0 (by simp)).vals
          obtain ⟨xs, hxs, hcx⟩ := ih (off' + k) (fun i hi => by have := hm (i + 1) (by simp; omega); simpa [Nat.add_mul, Nat.add_assoc, Nat.add_comm k] using this)
          refine ⟨vs ++ xs, by rw [List.flatMap_cons]; exact hvs.append hxs, fun j u hj => ?_⟩
          have hlen : vs.length = k := by rw [hvs.length]; exact hk y
          rw [List.getElem?_append] at hj
          split at hj
          · have := hc j u hj; simpa using this
          · have := hcx (j - vs.length) u hj
            rwa [hlen, show off' + k + (j - k) = off' + j by omega] at this
      obtain ⟨xs, hxs, hcx⟩ := key l off (fun i hi => by obtain ⟨b', off', h, _, hc⟩ := he i hi; cases h; exact hc)
      exact ⟨_, cap, xs, rfl, hxs, by simp, by simp, fun a ha j u hj => by cases ha; rw [addr_add]; exact hcx j u hj⟩

section
variable {P : Program} {B : Bs} {o : Oper} {Γ : Env} {Ω : List Own}

/-- Appending to an own row: the row stays in its block, or moves to the new one. -/
theorem append_own2 {T ty e k bytes n cap m : Nat} {i : TypeInfo} {z : Value} {ad : Option Addr} {xs news : List Value} {w : World} (hT : P.underlying T = some (.slice e)) (h1 : P.info? e = some i) (h2 : i.zero = some z) (h3 : i.size = k) (h4 : i.bytes = bytes) (h5 : z.cells.size = k) (h6 : 0 < k)
    (hrow : w.ownsRow 0 e k (.slice ad n cap) n xs) {a2 : Addr} {c2 : Nat} (hl : news.length = m * k) (hc : ∀ j u, news[j]? = some u → w.cell? (a2.add j) = some u) (hone : ∀ u ∈ news, u.oneCell' = true) (hml : n + m ≤ maxLen) (hb : (n + m) * bytes ≤ 140737488355328) :
    ∃ o' cap' w', (Builtin.append_ #[T, T] ty #[.slice ad n cap, .slice (some a2) m c2]).run P w = .ok (.slice o' (n + m) cap') w' ∧ w'.ownsRow 0 e k (.slice o' (n + m) cap') (n + m) (xs ++ news) ∧ w.grownBy w' (Value.slice ad n cap).ownBlock ∧ (o' = ad ∨ o' = some ⟨w.heap.size, 0, none⟩) := by
  obtain ⟨v', w', hr, hrow', hg, hiff⟩ := run_append_own (P := P) w 0 T ty e i z k bytes hT h1 h2 h3 h4 h5 h6 (.slice ad n cap) n xs hrow a2 m c2 news hl hc hone hml hb (Nat.zero_le _)
  have hm' : n + m ≤ 9223372036854775807 := by unfold maxLen at hml; omega
  subst h3 h4
  rcases hrow.2 with ⟨e1, e2⟩ | ⟨g, c, cur, e1, _, hh, hnc, _, _, _⟩
  · simp only [Value.slice.injEq] at e1
    obtain ⟨rfl, rfl, rfl⟩ := e1
    by_cases hm : m = 0
    · have := hiff.2 ⟨rfl, hm⟩
      subst hm
      subst this
      exact ⟨none, 0, w', hr, hrow', hg, .inl rfl⟩
    · have hr2 := run_append_nil (P := P) w T ty e i z hT h1 h2 a2 m c2 news hl hc (by omega) (by omega) (by simp only [Nat.zero_add] at hb; omega)
      rw [hr2] at hr
      simp only [Result.ok.injEq] at hr
      obtain ⟨rfl, rfl⟩ := hr
      simp only [Nat.zero_add] at hrow' ⊢
      exact ⟨_, _, _, hr2, hrow', hg, .inr rfl⟩
  · simp only [Value.slice.injEq, true_and] at e1
    obtain ⟨rfl, rfl⟩ := e1
    by_cases hroom : n + m ≤ cap
    · obtain ⟨w2, hr2, hrow2, hg2⟩ := run_append_fits (P := P) w 0 T ty e i i.size hT h1 rfl g n cap xs hrow a2 m c2 news hl hc hone hroom
      exact ⟨_, _, _, hr2, hrow2, hg2, .inl rfl⟩
    · have hr2 := run_append_grow (P := P) w T ty e i z hT h1 h2 ⟨g, 0, none⟩ n cap xs hrow.1 (hrow.cells (g := g) rfl) a2 m c2 news hl hc (by omega) (by omega) (growslice_fits (by omega) hb)
      rw [hr2] at hr
      simp only [Result.ok.injEq] at hr
      obtain ⟨rfl, rfl⟩ := hr
      exact ⟨_, _, _, hr2, hrow', hg, .inr rfl⟩

/-- append of given cells to the own row that is listed first. -/
theorem append_core {α : Type} {T e k bytes n cap : Nat} {x y : Operand} {f : α → List Pd} {z0 : α} {ad : Option Addr} {l m r : List α} {I : Vw} {a : Act} {w : World} (ho : o.op = .call { callee := .builtin .append, args := #[x, y], argTypes := #[T, T] })
    (hT : P.underlying T = some (.slice e)) (he : Elem P e k bytes f z0) (hx : ev (tm a) x = .slice ad n cap) (hl : appL bytes l m = some r)
    (hs : Sat B Γ (oSl e k f ad n cap l :: Ω) I a w) {o2 : Option Addr} {c2 : Nat} {news : List Value} (hy : ev (tm a) y = .slice o2 m.length c2) (hv : Vals I w (m.flatMap f) news) (hnn : m ≠ [] → o2 ≠ none) (hnil : o2 = none → c2 = 0) (hc : ∀ a, o2 = some a → ∀ j u, news[j]? = some u → w.cell? (a.add j) = some u) :
    Exec P o (ev (tm a)) w fun v w' => ∃ (g : Option Addr × Nat) (I' : Vw), Sat B Γ (oSl e k f g.1 r.length g.2 r :: Ω) I' a w' ∧ (pEq (.slice g.1 r.length g.2)).p I' w' v := by
  obtain ⟨hb, rfl⟩ := appL_some hl
  obtain ⟨i, z, vs, h1, h2, h3, h4, h5, h6, h7, h8, h9, h10⟩ := he
  obtain ⟨F, hF, hown, hr⟩ := hs.o
  have hown' := hown
  obtain ⟨hnl, xs, hrow, hvx, hoF⟩ := hown
  have hlk : (m.flatMap f).length = m.length * k := by
    clear hy hv hnn hnil hc hl hb
    induction m with
    | nil => simp
    | cons x m ih => rw [List.flatMap_cons, List.length_append, ih, h9 x, List.length_cons, Nat.add_mul, Nat.one_mul, Nat.add_comm]
  have hnews : news.length = m.length * k := by rw [hv.length, hlk]
  have hone := Vals.ones h10 hv
  have hlen : (l ++ m).length = n + m.length := by rw [List.length_append, hnl]
  have hargs : Array.map (ev (tm a)) #[x, y] = #[.slice ad n cap, .slice o2 m.length c2] := by simp [hx, hy]
  cases o2 with
  | none =>
    have hm : m = [] := Classical.byContradiction fun h => hnn h rfl
    subst hm
    have hc2 := hnil rfl
    subst hc2
    have hr0 := run_append_owned_none (P := P) w 0 T o.type e i k hT h1 (.slice ad n cap) n xs hrow
    have hex : (execOp (ev (tm a)) o).run P w = .ok (.value (.slice ad n cap)) w := by
      simp only [execOp, ho, resolve, Sem.run_bind, Sem.run_pure, Result.andThen_ok, invoke, builtin, hargs]
      simp only [List.length_nil, hr0, Result.andThen_ok]
    unfold Exec; rw [hex]
    have e0 : l ++ [] = l := List.append_nil l
    refine ⟨(ad, cap), I, ?_, ?_⟩
    · rw [e0, ← hnl]; exact hs
    · rw [e0, ← hnl]; rfl
  | some a2 =>
    have hbm : (n + m.length) * bytes ≤ 140737488355328 := by
      rw [hnl]; exact Nat.le_trans (Nat.mul_le_mul_left _ (Nat.le_succ _)) hb
    have hml : n + m.length ≤ maxLen := by
      have h' : (n + m.length) * 1 ≤ (n + m.length) * (bytes + 1) := Nat.mul_le_mul_left _ (by omega)
      rw [hnl] at *
      unfold maxLen; omega
    obtain ⟨o', cap', w', hrun, hrow', hg, hor⟩ := append_own2 (ty := o.type) (c2 := c2) hT h1 h2 h3 h4 (by rw [h5]; simpa using h6) h7 hrow hnews (hc a2 rfl) hone hml hbm
    have hex : (execOp (ev (tm a)) o).run P w = .ok (.value (.slice o' (n + m.length) cap')) w' := by
      simp only [execOp, ho, resolve, Sem.run_bind, Sem.run_pure, Result.andThen_ok, invoke, builtin, hargs, hrun]
    unfold Exec; rw [hex]
    have hsame : ∀ b, b < w.heap.size → ¬ F b → w'.heap[b]? = w.heap[b]? := fun b hb' hnF => hg.block b hb' (fun e => by
      cases ad with
      | none => simp [Value.ownBlock] at e
      | some a0 => simp [Value.ownBlock] at e; rw [e] at hnF; exact hnF (hoF _ rfl))
    refine ⟨(o', cap'), I, hs.turn2 F hF hr hg.size hg.os hg.tape hg.output hsame (fun b => ∃ a, o' = some a ∧ a.block = b) (fun b ⟨a', ha, hab⟩ => ?_) ⟨rfl, xs ++ news, by rw [hlen]; exact hrow', ?_, fun a' ha => ⟨a', ha, rfl⟩⟩, by rw [hlen]; rfl⟩
    · subst hab
      rcases hor with h | h
      · exact .inl (hoF a' (by rw [← h]; exact ha))
      · rw [h] at ha; cases ha
        refine .inr ⟨Nat.le_refl _, ?_⟩
        rcases hrow'.2 with ⟨h', _⟩ | ⟨g, c, cur, h', _, hh, _⟩
        · rw [h] at h'; simp at h'
        · rw [h] at h'
          simp only [Value.slice.injEq, Option.some.injEq, Addr.mk.injEq, and_true, true_and] at h'
          rw [← h'.1] at hh
          exact (Array.getElem?_eq_some_iff.1 hh).1
    · rw [List.flatMap_append]
      exact (hvx.append hv).mono (fun _ h => h) (fun b hb' => hsame b (hs.bd b hb') (fun hf => (hF b hf).2.2 hb'))

/-- append of a slice of the view. -/
theorem M_appendI {α : Type} {T e k bytes n cap : Nat} {x y : Operand} {f : α → List Pd} {z0 : α} {ad : Option Addr} {l m r : List α} (ho : o.op = .call { callee := .builtin .append, args := #[x, y], argTypes := #[T, T] })
    (hT : P.underlying T = some (.slice e)) (he : Elem P e k bytes f z0) (hx : Opd Γ x (pEq (.slice ad n cap))) (hy : Opd Γ y (pSl k f m)) (hl : appL bytes l m = some r) :
    OpM P B o Γ (oSl e k f ad n cap l :: Ω) (fun g : Option Addr × Nat => pEq (.slice g.1 r.length g.2)) (fun g => oSl e k f g.1 r.length g.2 r :: Ω) := by
  intro I a w hs
  have hk : ∀ x, (f x).length = k := by obtain ⟨_, _, _, _, _, _, _, _, _, _, _, h9, _⟩ := he; exact h9
  obtain ⟨o2, c2, news, h1, h2, h3, h4, h5⟩ := pSl.vals hk (hy I w (tm a) hs.g)
  exact append_core ho hT he (hx I w (tm a) hs.g) hl hs h1 h2 h3 h4 h5

/-- append of an own row, which is used up. -/
theorem M_append {α : Type} {T e k bytes n cap n2 cap2 : Nat} {x y : Operand} {f : α → List Pd} {z0 : α} {ad ad2 : Option Addr} {l m r : List α} (ho : o.op = .call { callee := .builtin .append, args := #[x, y], argTypes := #[T, T] })
    (hT : P.underlying T = some (.slice e)) (he : Elem P e k bytes f z0) (hx : Opd Γ x (pEq (.slice ad n cap))) (hy : Opd Γ y (pEq (.slice ad2 n2 cap2))) (hl : appL bytes l m = some r) :
    OpM P B o Γ (oSl e k f ad n cap l :: oSl e k f ad2 n2 cap2 m :: Ω) (fun g : Option Addr × Nat => pEq (.slice g.1 r.length g.2)) (fun g => oSl e k f g.1 r.length g.2 r :: Ω) := by
  intro I a w hs
  have hk : ∀ x, (f x).length = k := by obtain ⟨_, _, _, _, _, _, _, _, _, _, _, h9, _⟩ := he; exact h9
  have hyv : ev (tm a) y = .slice ad2 n2 cap2 := hy I w (tm a) hs.g
  obtain ⟨F, hF, ho1, F2, hF2, hown2, hr⟩ := hs.o
  have hs' : Sat B Γ (oSl e k f ad n cap l :: Ω) I a w := { hs with o := ⟨F, hF, ho1, SatO.congr (fun b hb => hb.elim (fun h => .inl (.inl h)) (fun h => .inl (.inr h))) hr⟩ }
  obtain ⟨hn2, xs, ⟨hxl, h2⟩, hvx, _⟩ := hown2
  subst hn2
  rcases h2 with ⟨e1, e2⟩ | ⟨g, c, cur, e1, _, hh, hnc, hcm, hcs, htk⟩
  · simp only [Value.slice.injEq] at e1
    obtain ⟨rfl, _, rfl⟩ := e1
    have hm : m = [] := List.eq_nil_of_length_eq_zero e2
    subst hm
    exact append_core ho hT he (hx I w (tm a) hs.g) hl hs' hyv hvx (by simp) (fun _ => rfl) (by simp)
  · simp only [Value.slice.injEq, true_and] at e1
    obtain ⟨rfl, rfl⟩ := e1
    refine append_core ho hT he (hx I w (tm a) hs.g) hl hs' hyv hvx (by simp) (by simp) (fun a' ha j u hj => ?_)
    cases ha
    rw [addr_add, Nat.zero_add, ← htk, List.getElem?_take] at *
    split at hj
    · simpa [World.cell?, hh] using hj
    · simp at hj
end
end Go.Wk
