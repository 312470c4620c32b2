/-
  Queues: own slices that begin anywhere in their block: read at the head, cut at the head, appended to. No program in sight. Our own work.
-/
import Derived.Test.YtfadnbelnfofbaaTab
namespace Go.Wk
open Go Go.RowKit

/-- The slice (o, n, cap) lies in a block of the call's own and reads as the list l. -/
def oQ {α : Type} (et k : Nat) (f : α → List Pd) (o : Option Addr) (n cap : Nat) (l : List α) : Own :=
  ⟨fun I F w => n = l.length ∧ ((o = none ∧ cap = 0 ∧ l = []) ∨ ∃ g p cur, o = some ⟨g, p, none⟩ ∧ F g ∧ w.heap[g]? = some (.cells cur et (0, 0)) ∧ n ≤ cap ∧ cap ≤ maxLen ∧ p + cap * k ≤ cur.size ∧ Vals I w (l.flatMap f) ((cur.toList.drop p).take (n * k))),
   fun hI hw hF ⟨hn, h⟩ => ⟨hn, h.imp id (fun ⟨g, p, cur, h1, h2, h3, h4, h5, h6, h7⟩ => ⟨g, p, cur, h1, h2, (hF g h2).trans h3, h4, h5, h6, Vals.mono hI hw h7⟩)⟩⟩
theorem oSl.toQ {α : Type} {et k n cap : Nat} {f : α → List Pd} {o : Option Addr} {l : List α} {I F : Vw} {w : World} (h : (oSl et k f o n cap l).p I F w) : (oQ et k f o n cap l).p I F w := by
  obtain ⟨hn, xs, ⟨h1, h2⟩, hv, ho⟩ := h
  refine ⟨hn, ?_⟩
  rcases h2 with ⟨e1, e2⟩ | ⟨g, c, cur, e1, _, e3, e4, e5, e6, e7⟩
  · simp only [Value.slice.injEq] at e1
    exact .inl ⟨e1.1, e1.2.2, List.eq_nil_of_length_eq_zero (by omega)⟩
  · simp only [Value.slice.injEq, true_and] at e1
    obtain ⟨rfl, rfl⟩ := e1
    exact .inr ⟨g, 0, cur, rfl, ho _ rfl, e3, e4, e5, by omega, by rw [List.drop_zero, e7]; exact hv⟩
theorem SatO.toQ {α : Type} {et k n cap : Nat} {f : α → List Pd} {o : Option Addr} {l : List α} {L I X : Vw} {w : World} {Ω : List Own} (h : SatO L I w X (oSl et k f o n cap l :: Ω)) : SatO L I w X (oQ et k f o n cap l :: Ω) := by
  obtain ⟨F, hF, ho, hr⟩ := h
  exact ⟨F, hF, oSl.toQ ho, hr⟩
/-- Where a slice begins in its block. -/
def offs : Option Addr → Nat | some a => a.off | none => 0

section
variable {P : Program} {B : Bs} {o : Oper} {Γ : Env} {Ω : List Own}
theorem W_qLen {α : Type} {T e et k n cap j : Nat} {x : Operand} {f : α → List Pd} {ad : Option Addr} {l : List α} (ho : o.op = .call { callee := .builtin .len, args := #[x], argTypes := #[T] }) (hT : P.underlying T = some (.slice e)) (hx : Opd Γ x (pEq (.slice ad n cap))) (hj : Ω[j]? = some (oQ et k f ad n cap l)) : OpW P Ω o Γ (pEq (.int .i64 (l.length : Int))) :=
  OpW.val fun lo I w t hbd hg hO => by
    have h : ev t x = _ := hx I w t hg
    obtain ⟨F, hF, hown⟩ := hO.mem hj
    have hn : n = l.length := hown.1
    exact ⟨.int .i64 l.length, by simp [execOp, ho, h, resolve, invoke, builtin, Builtin.len_, run_underlying hT, goInt, hn], rfl⟩
theorem oQ.block {α : Type} {et k n cap : Nat} {f : α → List Pd} {ad : Option Addr} {l : List α} {I F : Vw} {w : World} (h : (oQ et k f ad n cap l).p I F w) (hl : 0 < l.length) :
    ∃ g p cur, ad = some ⟨g, p, none⟩ ∧ F g ∧ n = l.length ∧ w.heap[g]? = some (.cells cur et (0, 0)) ∧ n ≤ cap ∧ cap ≤ maxLen ∧ p + cap * k ≤ cur.size ∧ Vals I w (l.flatMap f) ((cur.toList.drop p).take (n * k)) := by
  obtain ⟨hn, h | ⟨g, p, cur, h1, h2, h3⟩⟩ := h
  · rw [h.2.2] at hl; simp at hl
  · exact ⟨g, p, cur, h1, h2, hn, h3⟩
theorem W_qIdx {α : Type} {T et k n cap j : Nat} {x i : Operand} {kk : IntKind} {N : Int} {f : α → List Pd} {ad : Option Addr} {l : List α} (ho : o.op = .indexAddr T x i) (hT : P.underlying T = some (.slice et)) (hk : ∀ w, (sizeOf et).run P w = .ok k w)
    (hx : Opd Γ x (pEq (.slice ad n cap))) (hi : Opd Γ i (pEq (.int kk N))) (hj : Ω[j]? = some (oQ et k f ad n cap l)) (hN : 0 ≤ N ∧ N < l.length) : OpW P Ω o Γ (pEq (.pointer (some ⟨blk ad, offs ad + N.toNat * k, none⟩))) :=
  OpW.val fun lo I w t hbd hg hO => by
    have h : ev t x = _ := hx I w t hg
    have h2 : ev t i = _ := hi I w t hg
    obtain ⟨F, hF, hown⟩ := hO.mem hj
    obtain ⟨g, p, cur, rfl, _, hnl, _⟩ := oQ.block hown (by omega)
    refine ⟨_, ?_, rfl⟩
    simp only [execOp, ho, h, h2]
    rw [Sem.run_bind]
    simp only [Instr.indexAt, asIntOf, Sem.run_bind, Sem.run_pure, Result.andThen_ok, run_underlying hT, if_pos (show (0 ≤ N ∧ N < ((n : Nat) : Int)) from ⟨hN.1, by omega⟩), hk w, addr_add]
    rfl
theorem W_qLoad {α : Type} {T et k n cap j : Nat} {x : Operand} {N : Int} {f : α → List Pd} {ad : Option Addr} {l : List α} {y : α} {q : Pd} {r : List Pd} (ho : o.op = .load T x) (hT : ∀ w, (isAgg T).run P w = .ok false w)
    (hf : ∀ x, (f x).length = k) (hx : Opd Γ x (pEq (.pointer (some ⟨blk ad, offs ad + N.toNat * k, none⟩)))) (hj : Ω[j]? = some (oQ et k f ad n cap l)) (hy : idx l N = some y) (hq : f y = q :: r) : OpW P Ω o Γ q :=
  OpW.val fun lo I w t hbd hg hO => by
    have h : ev t x = _ := hx I w t hg
    obtain ⟨F, hF, hown⟩ := hO.mem hj
    obtain ⟨h0, h1, rfl⟩ := idx_some hy
    obtain ⟨g, p, cur, rfl, hg', hnl, hh, _, _, hcs, hv⟩ := oQ.block hown (by omega)
    obtain ⟨r', hr'⟩ := flatMap_at hf h1
    have hv' := hv.drop (k := N.toNat * k)
    rw [hr', hq] at hv'
    cases hvd : ((cur.toList.drop p).take (n * k)).drop (N.toNat * k) with
    | nil => rw [hvd] at hv'; exact hv'.elim
    | cons u us =>
      rw [hvd] at hv'
      have hu := (drop_head hvd).1
      have hc : w.cell? ⟨g, p + N.toNat * k, none⟩ = some u := by
        rw [List.getElem?_take] at hu
        split at hu
        · rw [List.getElem?_drop] at hu
          simpa [World.cell?, hh] using hu
        · simp at hu
      refine ⟨u, ?_, hv'.1⟩
      simp only [blk, offs] at h
      simp [execOp, ho, h, Instr.loadAt, Instr.sureAddr, loadVar, hT w, hc]
/-- The head is cut off. -/
theorem M_qCut {α : Type} {et k n cap : Nat} {f : α → List Pd} {ad : Option Addr} {l : List α} {T : TypeId} {x lo : Operand} {kk : IntKind} {m : Int} {u : Unit} (ho : o.op = .slice T x (some lo) none none) (hT : P.underlying T = some (.slice et)) (hk : ∀ w, (sizeOf et).run P w = .ok k w) (hf : ∀ x, (f x).length = k) (hx : Opd Γ x (pEq (.slice ad n cap))) (hlo : Opd Γ lo (pEq (.int kk m)))
    (hu : cutB l m = some u) : OpM P B o Γ (oQ et k f ad n cap l :: Ω) (fun _ : Unit => pEq (.slice (offA ad k cap m.toNat) (n - m.toNat) (cap - m.toNat))) (fun _ => oQ et k f (offA ad k cap m.toNat) (n - m.toNat) (cap - m.toNat) (l.drop m.toNat) :: Ω) := by
  intro I a w hs
  have h : ev (tm a) x = _ := hx I w (tm a) hs.g
  obtain ⟨F, hF, hown, hr⟩ := hs.o
  have hn : n = l.length := hown.1
  have hm := cutB_some hu
  have hb : bnd n (some m) none = some (m.toNat, n) := by
    unfold bnd
    simp only [Option.getD_some, Option.getD_none]
    rw [if_pos (by omega)]
    simp
  have hnc : n ≤ cap := by
    rcases hown.2 with ⟨_, hc, hl⟩ | ⟨_, _, _, _, _, _, h4, _⟩
    · subst hl; simp at hn; omega
    · exact h4
  obtain ⟨h1, _, _⟩ := run_bounds (P := P) (w := w) hs.g (b := true) hnc (SOpd.some hlo) SOpd.none hb
  simp only [Option.map_none] at h1
  have hrun : (execOp (ev (tm a)) o).run P w = .ok (.value (.slice (offA ad k cap m.toNat) (n - m.toNat) (cap - m.toNat))) w := by
    simp only [execOp, ho, h]
    rw [Sem.run_bind]
    simp only [Instr.sliceAt, Sem.run_bind, run_underlying hT, Result.andThen_ok, Instr.slice, Option.map_none, Sem.run_pure, h1, hk w]
    rfl
  unfold Exec
  rw [hrun]
  refine ⟨(), I, { hs with o := ⟨F, hF, ⟨by rw [List.length_drop, hn], ?_⟩, hr⟩ }, rfl⟩
  rcases hown.2 with ⟨h1, h2, h3⟩ | ⟨g, p, cur, h1, h2, h3, h4, h5, h6, h7⟩
  · subst h1 h2 h3
    refine .inl ⟨?_, by omega, by simp⟩
    unfold offA; split <;> rfl
  · subst h1
    refine .inr ?_
    by_cases hc : cap = m.toNat
    · refine ⟨g, p, cur, by unfold offA; rw [if_pos hc], h2, h3, by omega, by omega, by rw [show cap - m.toNat = 0 by omega, Nat.zero_mul]; omega, ?_⟩
      have e1 : l.drop m.toNat = [] := by rw [List.drop_eq_nil_iff]; omega
      have e2 : n - m.toNat = 0 := by omega
      rw [e1, e2, Nat.zero_mul, List.take_zero]
      trivial
    · refine ⟨g, p + m.toNat * k, cur, by unfold offA; rw [if_neg hc, Option.map_some, addr_add], h2, h3, by omega, by omega, ?_, ?_⟩
      · have : cap * k = m.toNat * k + (cap - m.toNat) * k := by rw [← Nat.add_mul]; congr 1; omega
        omega
      · have hv := h7.drop (k := m.toNat * k)
        have e1 : (l.flatMap f).drop (m.toNat * k) = (l.drop m.toNat).flatMap f := by
          have e : l.flatMap f = (l.take m.toNat).flatMap f ++ (l.drop m.toNat).flatMap f := by rw [← List.flatMap_append, List.take_append_drop]
          rw [e, List.drop_left' (by rw [flat_len hf, List.length_take]; congr 1; omega)]
        rw [e1, List.drop_take, List.drop_drop] at hv
        have e2 : n * k - m.toNat * k = (n - m.toNat) * k := by rw [Nat.sub_mul]
        rwa [e2] at hv

/-- append to a queue: it stays, or moves to a new block. -/
theorem M_qAppend {α : Type} {T e k bytes n cap : Nat} {x y : Operand} {f : α → List Pd} {z0 : α} {ad : Option Addr} {l m r : List α} (ho : o.op = .call { callee := .builtin .append, args := #[x, y], argTypes := #[T, T] })
    (hT : P.underlying T = some (.slice e)) (he : Elem P e k bytes f z0) (hx : Opd Γ x (pEq (.slice ad n cap))) (hy : Opd Γ y (pSl k f m)) (hm0 : 0 < m.length) (hl : appL bytes l m = some r) :
    OpM P B o Γ (oQ e k f ad n cap l :: Ω) (fun g : Option Addr × Nat => pEq (.slice g.1 r.length g.2)) (fun g => oQ e k f g.1 r.length g.2 r :: Ω) := by
  intro I a w hs
  have hxv : ev (tm a) x = _ := hx I w (tm a) hs.g
  obtain ⟨hb, rfl⟩ := appL_some hl
  obtain ⟨i, z, vs, h1, h2, h3, h4, h5, h6, h7, h8, h9, h10⟩ := he
  obtain ⟨o2, c2, news, hyv, hv, hnn, hnil, hc⟩ := pSl.vals h9 (hy I w (tm a) hs.g)
  obtain ⟨a2, rfl⟩ : ∃ a2, o2 = some a2 := by
    cases o2 with
    | none => exact absurd rfl (hnn (by intro h; subst h; simp at hm0))
    | some a2 => exact ⟨a2, rfl⟩
  have hcc := hc a2 rfl
  have hnews : news.length = m.length * k := by rw [hv.length, flat_len h9]
  have hone := Vals.ones h10 hv
  obtain ⟨F, hF, hown, hr⟩ := hs.o
  have hnl : n = l.length := hown.1
  have hlen : (l ++ m).length = n + m.length := by rw [List.length_append, hnl]
  have hargs : Array.map (ev (tm a)) #[x, y] = #[.slice ad n cap, .slice (some a2) m.length c2] := by simp [hxv, hyv]
  have hbm : (n + m.length) * bytes ≤ 140737488355328 := by rw [hnl]; exact Nat.le_trans (Nat.mul_le_mul_left _ (Nat.le_succ _)) hb
  have hml : n + m.length ≤ maxLen := by
    have h' : (n + m.length) * 1 ≤ (n + m.length) * (bytes + 1) := Nat.mul_le_mul_left _ (by omega)
    rw [hnl] at *
    unfold maxLen; omega
  have hm' : n + m.length ≤ 9223372036854775807 := by unfold maxLen at hml; omega
  subst h3 h4
  have hex : ∀ (o' : Option Addr) (cap' : Nat) (w' : World), (Builtin.append_ #[T, T] o.type #[.slice ad n cap, .slice (some a2) m.length c2]).run P w = .ok (.slice o' (n + m.length) cap') w' → (execOp (ev (tm a)) o).run P w = .ok (.value (.slice o' (n + m.length) cap')) w' := by
    intro o' cap' w' hrun
    simp only [execOp, ho, resolve, Sem.run_bind, Sem.run_pure, Result.andThen_ok, invoke, builtin, hargs, hrun]
  have hzs : z.cells.size = i.size := by rw [h5]; simpa using h6
  -- a new block that holds what was there and what comes
  have newRow : ∀ (xs : List Value) (c' : Nat), Vals I w (l.flatMap f) xs → n + m.length ≤ c' → c' ≤ maxLen → (oQ e i.size f (some ⟨w.heap.size, 0, none⟩) (l ++ m).length c' (l ++ m)).p I (fun b => b = w.heap.size) (w.drew.alloc (.cells (xs.toArray ++ news.toArray ++ Builtin.zeroCells z.cells (c' - (n + m.length))) e)) := by
    intro xs c' hxs hc1 hc2
    have hxl : xs.length = n * i.size := by rw [hxs.length, flat_len h9, hnl]
    refine ⟨rfl, .inr ⟨w.heap.size, 0, _, rfl, rfl, heap_alloc_new w.drew _, by rw [hlen]; exact hc1, hc2, ?_, ?_⟩⟩
    · rw [Nat.zero_add, Array.size_append, Array.size_append, size_zeroCells, hzs]
      simp only [List.size_toArray, hxl, hnews, ← Nat.add_mul]
      exact Nat.mul_le_mul_right _ (by omega)
    · rw [List.drop_zero, List.flatMap_append, hlen]
      have e1 : (xs.toArray ++ news.toArray ++ Builtin.zeroCells z.cells (c' - (n + m.length))).toList = (xs ++ news) ++ (Builtin.zeroCells z.cells (c' - (n + m.length))).toList := by simp
      rw [e1, List.take_left' (by rw [List.length_append, hxl, hnews, Nat.add_mul])]
      exact Vals.mono (w := w) (fun _ h => h) (fun b hb' => heap_alloc_old w.drew _ (hs.bd b hb')) (hxs.append hv)
  rcases hown.2 with ⟨e1, e2, e3⟩ | ⟨g, p, cur, e1, hg, hh, hnc, hcm, hcs, hvx⟩
  · subst e1 e2 e3
    have hn0 : n = 0 := hnl
    subst hn0
    have hrun := run_append_nil (P := P) w T o.type e i z hT h1 h2 a2 m.length c2 news hnews hcc (by omega) (by omega) (by simp only [Nat.zero_add] at hbm; omega)
    have hge := grownCap_ge w m.length 0 e
    have hle := grownCap_le_maxLen w m.length 0 e (by omega)
    have hq := newRow [] (grownCap w m.length 0 e) trivial (by omega) hle
    simp only [Nat.zero_add, List.nil_append] at hq hex hlen ⊢
    unfold Exec
    rw [hex _ _ _ hrun]
    refine ⟨(some ⟨w.heap.size, 0, none⟩, grownCap w m.length 0 e), I, hs.turn2 F hF hr (by simp) rfl rfl rfl (fun b hb _ => heap_alloc_old w.drew _ hb) (fun b => b = w.heap.size) (fun b hb => .inr ⟨by omega, by simp; omega⟩) ?_, rfl⟩
    simpa using hq
  · subst e1
    by_cases hroom : n + m.length ≤ cap
    · have hck : (n + m.length) * i.size ≤ cap * i.size := Nat.mul_le_mul_right _ hroom
      rw [Nat.add_mul] at hck
      have hf := run_firstCells_some (P := P) w i.size m.length a2 m.length c2 news hnews hcc
      have hst := run_storeCells_at P g (p + n * i.size) e news 0 cur w hh (by omega) hone
      simp only [Nat.add_zero] at hst
      have hrun : (Builtin.append_ #[T, T] o.type #[.slice (some ⟨g, p, none⟩) n cap, .slice (some a2) m.length c2]).run P w = .ok (.slice (some ⟨g, p, none⟩) (n + m.length) cap) (w.setRow g (cur.toList.take (p + n * i.size) ++ news ++ cur.toList.drop (p + n * i.size + news.length)).toArray) := by
        simp [Builtin.append_, run_underlying hT, sizeOf, typeInfo, h1, Builtin.lenOf, hroom, hf, Addr.add_lit, hst]
      unfold Exec
      rw [hex _ _ _ hrun]
      have hsame : ∀ b, ¬ F b → (w.setRow g (cur.toList.take (p + n * i.size) ++ news ++ cur.toList.drop (p + n * i.size + news.length)).toArray).heap[b]? = w.heap[b]? := fun b hnF => setRow_other w g b _ (fun e => by subst e; exact hnF hg)
      refine ⟨(some ⟨g, p, none⟩, cap), I, hs.turn F hF hr (setRow_size _ _ _) rfl rfl rfl hsame ⟨rfl, .inr ⟨g, p, _, rfl, hg, setRow_heap w g cur _ e (0, 0) hh, by rw [hlen]; exact hroom, hcm, ?_, ?_⟩⟩, by rw [hlen]; rfl⟩
      · simp only [List.size_toArray, List.length_append, List.length_take, List.length_drop, Array.length_toList]
        omega
      · rw [List.flatMap_append, hlen]
        have e1 : ((cur.toList.take (p + n * i.size) ++ news ++ cur.toList.drop (p + n * i.size + news.length)).drop p).take ((n + m.length) * i.size) = (cur.toList.drop p).take (n * i.size) ++ news := by
          rw [List.append_assoc, List.drop_append_of_le_length (by rw [List.length_take, Array.length_toList]; omega), List.drop_take]
          have e2 : p + n * i.size - p = n * i.size := by omega
          rw [e2, ← List.append_assoc, List.take_left' (by rw [List.length_append, List.length_take, List.length_drop, Array.length_toList, hnews, Nat.add_mul]; omega)]
        have e0 : (Array.mk (cur.toList.take (p + n * i.size) ++ news ++ cur.toList.drop (p + n * i.size + news.length))).toList = cur.toList.take (p + n * i.size) ++ news ++ cur.toList.drop (p + n * i.size + news.length) := rfl
        show Vals I _ _ ((List.drop p (cur.toList.take (p + n * i.size) ++ news ++ cur.toList.drop (p + n * i.size + news.length))).take ((n + m.length) * i.size))
        rw [e1]
        exact (hvx.append hv).mono (fun _ h => h) (fun b hb' => hsame b (fun hf' => (hF b hf').2.2 hb'))
    · have hxl : ((cur.toList.drop p).take (n * i.size)).length = n * i.size := by
        have : n * i.size ≤ cap * i.size := Nat.mul_le_mul_right _ hnc
        rw [List.length_take, List.length_drop, Array.length_toList]; omega
      have hrun := run_append_grow (P := P) w T o.type e i z hT h1 h2 ⟨g, p, none⟩ n cap ((cur.toList.drop p).take (n * i.size)) hxl (fun j v hj => by
        rw [addr_add]
        rw [List.getElem?_take] at hj
        split at hj
        · rw [List.getElem?_drop] at hj
          simpa [World.cell?, hh] using hj
        · simp at hj) a2 m.length c2 news hnews hcc (by omega) (by omega) (growslice_fits (by omega) hbm)
      have hge := grownCap_ge w (n + m.length) cap e
      have hle := grownCap_le_maxLen w (n + m.length) cap e hml
      have hq := newRow _ (grownCap w (n + m.length) cap e) hvx hge hle
      unfold Exec
      rw [hex _ _ _ hrun]
      refine ⟨(some ⟨w.heap.size, 0, none⟩, grownCap w (n + m.length) cap e), I, hs.turn2 F hF hr (by simp) rfl rfl rfl (fun b hb _ => heap_alloc_old w.drew _ hb) (fun b => b = w.heap.size) (fun b hb => .inr ⟨by omega, by simp; omega⟩) hq, by rw [hlen]; rfl⟩
end
end Go.Wk
