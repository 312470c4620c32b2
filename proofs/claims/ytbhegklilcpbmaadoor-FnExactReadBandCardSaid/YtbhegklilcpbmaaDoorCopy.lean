/-
  Ends of own rows: a slice from some element on, copy into it, clear it. No program in sight. Our own work.
-/
import Derived.Test.YtbhegklilcpbmaaDoorMore
namespace Go.Wk
open Go Go.RowKit

theorem flat_take {α : Type} {f : α → List Pd} {k : Nat} (hf : ∀ x, (f x).length = k) : ∀ (l : List α) (p : Nat), (l.take p).flatMap f = (l.flatMap f).take (p * k)
  | [], p => by simp
  | x :: l, 0 => by simp
  | x :: l, p + 1 => by
    have e : (p + 1) * k = (f x).length + p * k := by rw [hf x, Nat.add_mul, Nat.one_mul, Nat.add_comm]
    rw [List.take_succ_cons, List.flatMap_cons, List.flatMap_cons, flat_take hf l p, e, List.take_length_add_append]
theorem flat_drop {α : Type} {f : α → List Pd} {k : Nat} (hf : ∀ x, (f x).length = k) : ∀ (l : List α) (p : Nat), (l.drop p).flatMap f = (l.flatMap f).drop (p * k)
  | [], p => by simp
  | x :: l, 0 => by simp
  | x :: l, p + 1 => by
    have e : (p + 1) * k = (f x).length + p * k := by rw [hf x, Nat.add_mul, Nat.one_mul, Nat.add_comm]
    rw [List.drop_succ_cons, List.flatMap_cons, flat_drop hf l p, e, List.drop_length_add_append]
theorem flat_len {α : Type} {f : α → List Pd} {k : Nat} (hf : ∀ x, (f x).length = k) : ∀ (l : List α), (l.flatMap f).length = l.length * k
  | [] => by simp
  | y :: l => by rw [List.flatMap_cons, List.length_append, flat_len hf l, hf y, List.length_cons, Nat.add_mul, Nat.one_mul, Nat.add_comm]
theorem flat_over {α : Type} {f : α → List Pd} {k : Nat} (hf : ∀ x, (f x).length = k) (l ys : List α) (p : Nat) : (over l p ys).flatMap f = over (l.flatMap f) (p * k) (ys.flatMap f) := by
  unfold over
  rw [List.flatMap_append, List.flatMap_append, flat_take hf, flat_drop hf, flat_len hf, Nat.add_mul]
theorem over_len {α : Type} {l ys : List α} {p : Nat} (h : p + ys.length ≤ l.length) : (over l p ys).length = l.length := by
  unfold over; simp; omega
theorem flat_one {α : Type} {f : α → List Pd} {k : Nat} (hf : ∀ x, (f x).length = k) (h1 : ∀ x I w us, Vals I w (f x) us → ∀ u ∈ us, u.oneCell' = true) : ∀ (ys : List α) (I : Vw) (w : World) (us : List Value), Vals I w (ys.flatMap f) us → ∀ u ∈ us, u.oneCell' = true
  | [], I, w, [], _ => by simp
  | [], I, w, _ :: _, h => h.elim
  | y :: ys, I, w, us, h => by
    rw [List.flatMap_cons] at h
    have ha := Vals.sub (k := 0) (n := k) h
    have hb := Vals.drop (k := k) h
    rw [List.drop_zero, List.drop_zero, List.take_left' (hf y)] at ha
    rw [List.drop_left' (hf y)] at hb
    intro u hu
    rw [← List.take_append_drop k us] at hu
    rcases List.mem_append.1 hu with hu | hu
    · exact h1 y I w _ ha u hu
    · exact flat_one hf h1 ys I w _ hb u hu

/-- Where a slice starts that leaves out p elements. -/
def offA (ad : Option Addr) (k cap p : Nat) : Option Addr := if cap = p then ad else ad.map (·.add (p * k))

theorem OneC.fn {P : Program} {α β : Type} {A : α → List Pd} {f : α → Option β} {R : β → Pd} : OneC (pFn P A f R) := fun _ _ _ ⟨_, _, _, h, _⟩ => by subst h; rfl

section
variable {P : Program} {B : Bs} {o : Oper} {Γ : Env} {Ω : List Own}

/-- A slice of an own row from some element on. -/
theorem W_rowOff {α : Type} {et k n cap j : Nat} {f : α → List Pd} {ad : Option Addr} {l : List α} {T : TypeId} {x lo : Operand} {kk : IntKind} {m : Int} {u : Unit} (ho : o.op = .slice T x (some lo) none none) (hT : P.underlying T = some (.slice et)) (hk : ∀ w, (sizeOf et).run P w = .ok k w) (hx : Opd Γ x (pEq (.slice ad n cap))) (hlo : Opd Γ lo (pEq (.int kk m)))
    (hj : Ω[j]? = some (oSl et k f ad n cap l)) (hu : cutB l m = some u) : OpW P Ω o Γ (pEq (.slice (offA ad k cap m.toNat) (n - m.toNat) (cap - m.toNat))) :=
  OpW.val fun lo' I w t hbd hg hO => by
    obtain ⟨F, hF, hown⟩ := hO.mem hj
    refine ⟨_, ?_, rfl⟩
    have h : ev t x = _ := hx I w t hg
    have hn : n = l.length := hown.1
    obtain ⟨hsp, hnc⟩ := oSl.spot hown
    have hm := cutB_some hu
    have hb : bnd n (some m) none = some (m.toNat, n) := by
      unfold bnd
      simp only [Option.getD_some, Option.getD_none]
      rw [if_pos (by omega)]
      simp
    obtain ⟨h1, _, _⟩ := run_bounds (P := P) (w := w) hg (b := true) hnc (SOpd.some hlo) SOpd.none hb
    simp only [Option.map_none] at h1
    simp only [execOp, ho, h]
    rw [Sem.run_bind]
    simp only [Instr.sliceAt, Sem.run_bind, run_underlying hT, Result.andThen_ok, Instr.slice, Option.map_none, Sem.run_pure, h1, hk w]
    rfl

/-- Elements are stored into an own row from some element on. -/
theorem put_core {α : Type} {et k bytes n cap p : Nat} {f : α → List Pd} {z0 : α} {ad : Option Addr} {l ys : List α} {us : List Value} {I : Vw} {a : Act} {w : World} (he : Elem P et k bytes f z0) (hs : Sat B Γ (oSl et k f ad n cap l :: Ω) I a w)
    (hys : Vals I w (ys.flatMap f) us) (hp : p + ys.length ≤ l.length) (h0 : 0 < ys.length) : ∃ g w', ad = some ⟨g, 0, none⟩ ∧ p < cap ∧ (storeCells ⟨g, p * k, none⟩ us).run P w = .ok () w' ∧ Sat B Γ (oSl et k f ad n cap (over l p ys) :: Ω) I a w' := by
  obtain ⟨_, _, _, _, _, _, _, _, _, hk0, _, hf, hone⟩ := he
  obtain ⟨F, hF, hown, hr⟩ := hs.o
  obtain ⟨g, vs, cur, rfl, hg, hnl, hh, hnc, hcm, hcs, htk, hvl, hv⟩ := oSl.block hown (by omega)
  have hlu : us.length = ys.length * k := by rw [hys.length, flat_len hf]
  have hNk : (p + ys.length) * k ≤ n * k := Nat.mul_le_mul_right _ (by omega)
  have hnk : n * k ≤ cap * k := Nat.mul_le_mul_right _ hnc
  rw [Nat.add_mul] at hNk
  have hst := run_storeCells_at P g (p * k) et us 0 cur w hh (by omega) (flat_one hf hone ys I w us hys)
  simp only [Nat.add_zero] at hst
  have e1 : (List.take (p * k) cur.toList ++ us ++ List.drop (p * k + us.length) cur.toList) = over cur.toList (p * k) us := rfl
  rw [e1] at hst
  have hnb : ∀ b', ¬ F b' → (w.setRow g (over cur.toList (p * k) us).toArray).heap[b']? = w.heap[b']? := fun b' hb' => setRow_other w g b' _ (fun e => by subst e; exact hb' hg)
  have hol : (over cur.toList (p * k) us).length = cap * k := by
    unfold over
    rw [List.length_append, List.length_append, List.length_take, List.length_drop, Array.length_toList, hcs]
    omega
  have hov : (over cur.toList (p * k) us).take (n * k) = over vs (p * k) us := by
    unfold over
    rw [← htk, List.take_append, List.take_append, List.take_take, List.drop_take, List.length_append, List.length_take, Array.length_toList, hcs, List.take_take, List.take_of_length_le (l := us) (by omega)]
    congr 2
    · congr 1; omega
    · congr 1; omega
  refine ⟨g, _, rfl, by omega, hst, hs.turn F hF hr (setRow_size _ _ _) rfl rfl rfl hnb ?_⟩
  refine ⟨by rw [over_len hp]; exact hnl, over vs (p * k) us, ⟨?_, .inr ⟨g, cap, _, rfl, Nat.zero_le _, setRow_heap w g cur _ et (0, 0) hh, hnc, hcm, by simpa using hol, by simpa using hov⟩⟩, ?_, fun _ h' => by cases h'; exact hg⟩
  · rw [← hov, List.length_take, hol]; omega
  · rw [flat_over hf]
    exact (Vals.over hv hys).mono (fun _ h => h) (fun b' hb' => hnb b' (fun hf' => (hF b' hf').2.2 hb'))

theorem over_nil {α : Type} (l : List α) (p : Nat) : over l p [] = l := by unfold over; simp

/-- Elements are copied into an own row from some element on. -/
theorem M_copyAt {α : Type} {T T' et k bytes n cap p dn dc : Nat} {x y : Operand} {f : α → List Pd} {z0 : α} {ad ad' : Option Addr} {l ys : List α} (ho : o.op = .call { callee := .builtin .copy, args := #[x, y], argTypes := #[T, T'] }) (hT : P.underlying T = some (.slice et)) (hk : ∀ w, (sizeOf et).run P w = .ok k w) (he : Elem P et k bytes f z0)
    (hx : Opd Γ x (pEq (.slice ad' dn dc))) (hd : (ad' = offA ad k cap p ∧ dn = n - p) ∨ (p = 0 ∧ ad' = ad ∧ dn = n)) (hp : p ≤ l.length) (hy : OpdA Γ (oSl et k f ad n cap l :: Ω) y (pSl k f ys)) (hfree : ∀ x, FreePs (f x)) :
    OpM P B o Γ (oSl et k f ad n cap l :: Ω) (fun _ : Unit => pEq (.int .i64 ((min ys.length (l.length - p) : Nat) : Int))) (fun _ => oSl et k f ad n cap (over l p (ys.take (l.length - p))) :: Ω) := by
  intro I a w hs
  have hxv : ev (tm a) x = _ := hx I w (tm a) hs.g
  have hf : ∀ x, (f x).length = k := by obtain ⟨_, _, _, _, _, _, _, _, _, _, _, h9, _⟩ := he; exact h9
  have hyJ := hy B.L I I (fun b => b < w.heap.size) w (tm a) hs.bd (fun b _ hb _ => hb) hs.g hs.o
  obtain ⟨o2, c2, news, h1, h2, h3, h4, h5⟩ := pSl.vals hf hyJ
  have hnews : Vals I w (ys.flatMap f) news := (FreePs.flat hfree ys).vals h2
  have hn : n = l.length := by obtain ⟨F, hF, hown, hr⟩ := hs.o; exact hown.1
  have hdn : dn = l.length - p := by rcases hd with ⟨_, h⟩ | ⟨h, _, h'⟩ <;> omega
  have hmin : Nat.min ys.length dn = min ys.length (l.length - p) := by rw [hdn]
  have hnl : news.length = ys.length * k := by rw [hnews.length, flat_len hf]
  unfold Exec
  by_cases hm : min ys.length (l.length - p) = 0
  · have hfc : (Builtin.firstCells k 0 (ev (tm a) y)).run P w = .ok #[] w := by
      rw [h1]
      cases o2 with
      | none => rfl
      | some a2 =>
        have := run_loadCells_list (P := P) w a2 [] (by simp)
        simpa [Builtin.firstCells] using this
    have hrun : (execOp (ev (tm a)) o).run P w = .ok (.value (.int .i64 ((min ys.length (l.length - p) : Nat) : Int))) w := by
      rw [hm]
      simp only [execOp, ho]
      simp [hxv, resolve, invoke, builtin, Builtin.copy_, run_underlying hT, Builtin.lenOf, h1, hk w, goInt]
      rw [h1] at hfc
      have hmin' : Nat.min ys.length dn = 0 := by rw [hmin]; exact hm
      rw [hmin', hfc]
      cases ad' <;> simp [storeCells]
    rw [hrun]
    have e0 : ys.take (l.length - p) = [] := by
      rw [List.take_eq_nil_iff]
      by_cases h : ys = []
      · exact .inr h
      · have := List.length_pos_iff.2 h; omega
    rw [e0, over_nil]
    exact ⟨(), I, hs, rfl⟩
  · have hys0 : ys ≠ [] := by intro h; subst h; simp at hm
    cases ho2 : o2 with
    | none => exact absurd ho2 (h3 hys0)
    | some a2 =>
      subst ho2
      have htl : (ys.take (l.length - p)).length = min ys.length (l.length - p) := by rw [List.length_take, Nat.min_comm]
      have hvt : Vals I w ((ys.take (l.length - p)).flatMap f) (news.take (min ys.length (l.length - p) * k)) := by
        have hmt : ys.take (l.length - p) = ys.take (min ys.length (l.length - p)) := by
          rw [List.take_eq_take_iff]; omega
        rw [hmt, flat_take hf]
        have := Vals.sub (k := 0) (n := min ys.length (l.length - p) * k) hnews
        simpa using this
      have hul : (news.take (min ys.length (l.length - p) * k)).length = min ys.length (l.length - p) * k := by
        rw [List.length_take, hnl]
        have : min ys.length (l.length - p) * k ≤ ys.length * k := Nat.mul_le_mul_right _ (by omega)
        omega
      obtain ⟨g, w', hg, hpc, hst, hs'⟩ := put_core (p := p) he hs hvt (by rw [htl]; omega) (by rw [htl]; omega)
      have hfc : (Builtin.firstCells k (min ys.length (l.length - p)) (ev (tm a) y)).run P w = .ok (news.take (min ys.length (l.length - p) * k)).toArray w := by
        rw [h1]
        have := run_loadCells_list (P := P) w a2 (news.take (min ys.length (l.length - p) * k)) (fun j v hj => by
          rw [List.getElem?_take] at hj
          split at hj
          · exact h5 a2 rfl j v hj
          · simp at hj)
        rw [hul] at this
        exact this
      have had : ad' = some ⟨g, p * k, none⟩ := by
        subst hg
        rcases hd with ⟨h, _⟩ | ⟨h, h', _⟩
        · rw [h]; unfold offA
          rw [if_neg (by omega), Option.map_some, addr_add, Nat.zero_add]
        · rw [h', h, Nat.zero_mul]
      have hrun : (execOp (ev (tm a)) o).run P w = .ok (.value (.int .i64 ((min ys.length (l.length - p) : Nat) : Int))) w' := by
        simp only [execOp, ho]
        rw [h1] at hfc
        simp [hxv, had, resolve, invoke, builtin, Builtin.copy_, run_underlying hT, Builtin.lenOf, h1, hk w, goInt, hmin, hfc, hst]
      rw [hrun]
      exact ⟨(), I, hs', rfl⟩

/-- An own row is cleared from some element on. -/
theorem M_clearOff {α : Type} {T et k bytes n cap p : Nat} {x : Operand} {f : α → List Pd} {z0 : α} {ad : Option Addr} {l : List α} (ho : o.op = .call { callee := .builtin .clear, args := #[x], argTypes := #[T] }) (hT : P.underlying T = some (.slice et)) (he : Elem P et k bytes f z0)
    (hx : Opd Γ x (pEq (.slice (offA ad k cap p) (n - p) (cap - p)))) (hp : p ≤ l.length) :
    OpM P B o Γ (oSl et k f ad n cap l :: Ω) (fun _ : Unit => pAny) (fun _ => oSl et k f ad n cap (over l p (List.replicate (l.length - p) z0)) :: Ω) := by
  intro I a w hs
  have hxv : ev (tm a) x = _ := hx I w (tm a) hs.g
  have hn : n = l.length := by obtain ⟨F, hF, hown, hr⟩ := hs.o; exact hown.1
  unfold Exec
  by_cases hm : l.length - p = 0
  · have hrun : (execOp (ev (tm a)) o).run P w = .ok (.value (.tuple #[])) w := by
      have e : n - p = 0 := by omega
      rw [e] at hxv
      simp only [execOp, ho]
      cases hoff : offA ad k cap p <;> simp [hxv, hoff, resolve, invoke, builtin, Builtin.clear_, run_underlying hT]
    rw [hrun, hm, List.replicate_zero, over_nil]
    exact ⟨(), I, hs, trivial⟩
  · have he' := he
    obtain ⟨i, z, vs, h1, h2, h3, h4, h5, h6, h7, h8, hf, _⟩ := he'
    have hvt : Vals I w ((List.replicate (l.length - p) z0).flatMap f) (List.replicate (l.length - p) vs).flatten := Vals.flatMap (by simp) fun j x' vs' hj hj' => by
      rw [List.getElem?_replicate] at hj hj'
      split at hj <;> simp_all
    obtain ⟨g, w', hg, hpc, hst, hs'⟩ := put_core (p := p) he hs hvt (by rw [List.length_replicate]; omega) (by rw [List.length_replicate]; omega)
    have had : offA ad k cap p = some ⟨g, p * k, none⟩ := by
      subst hg
      unfold offA
      rw [if_neg (by omega), Option.map_some, addr_add, Nat.zero_add]
    have hzc : (Builtin.zeroCells z.cells (n - p)).toList = (List.replicate (l.length - p) vs).flatten := by
      rw [h5, ← flat_rep vs k h6 h7 (l.length - p), hn]
      simp [Builtin.zeroCells, h6]
    have hrun : (execOp (ev (tm a)) o).run P w = .ok (.value (.tuple #[])) w' := by
      simp only [execOp, ho]
      have hnp : n - p ≠ 0 := by omega
      obtain ⟨q, hq⟩ := Nat.exists_eq_succ_of_ne_zero hnp
      rw [had] at hxv
      have hzv : (zeroValue et).run P w = .ok z w := by
        simp [zeroValue, typeInfo, h1, h2]
      rw [hq] at hxv hzc
      simp [hxv, resolve, invoke, builtin, Builtin.clear_, run_underlying hT, hzv, hzc, hst]
    rw [hrun]
    exact ⟨(), I, hs', trivial⟩
/-- A part of an own variable is stored. -/
theorem M_storePart {T : TypeId} {x y : Operand} {b n off : Nat} {ps qs ps' : List Pd} (ho : o.op = .store T x y) (hT : ∀ w, (sizeOf T).run P w = .ok n w) (hx : Opd Γ x (pEq (.pointer (some ⟨b, off, none⟩)))) (hy : Opd Γ y (pAgg qs)) (hone : ∀ I w us, Vals I w qs us → ∀ u ∈ us, u.oneCell' = true) (hfit : Nat.ble (off + n) ps.length = true) (hqs : qs.length = n) (hps : over ps off qs = ps') :
    OpM P B o Γ (oBlk b ps :: Ω) (fun _ : Unit => pAny) (fun _ => oBlk b ps' :: Ω) := by
  subst hps
  intro I a w hs
  have h : ev (tm a) x = _ := hx I w (tm a) hs.g
  obtain ⟨us, hyv, hvu⟩ := hy I w (tm a) hs.g
  obtain ⟨F, hF, ⟨hb, vs, T', hh, hv⟩, hr⟩ := hs.o
  have hle := Nat.le_of_ble_eq_true hfit
  have hlv : vs.length = ps.length := hv.length
  have hlu : us.length = n := by rw [hvu.length, hqs]
  have hst := run_storeCells_at P b off T' us 0 vs.toArray w hh (by simp; omega) (hone I w us hvu)
  have e1 : (List.take (off + 0) vs.toArray.toList ++ us ++ List.drop (off + 0 + us.length) vs.toArray.toList).toArray = (over vs off us).toArray := rfl
  rw [e1] at hst
  unfold Exec
  have : (execOp (ev (tm a)) o).run P w = .ok .skip (w.setRow b (over vs off us).toArray) := by
    simp [execOp, ho, h, hyv, Instr.storeAt, Instr.sureAddr, storeVar, hT w, Value.cells, hlu, hst]
  rw [this]
  have hnb : ∀ b', ¬ F b' → (w.setRow b (over vs off us).toArray).heap[b']? = w.heap[b']? := fun b' hb' => setRow_other w b b' _ (fun e => by subst e; exact hb' hb)
  refine ⟨(), I, hs.turn F hF hr (setRow_size _ _ _) rfl rfl rfl hnb ⟨hb, over vs off us, T', setRow_heap w b vs.toArray (over vs off us).toArray T' (0, 0) hh, ?_⟩, trivial⟩
  exact (Vals.over hv hvu).mono (fun _ h => h) (fun b' hb' => hnb b' (fun hf => (hF b' hf).2.2 hb'))
/-- A part of an own variable is loaded. -/
theorem W_loadPart {T i : TypeId} {x : Operand} {b n off : Nat} {ps qs : List Pd} (ho : o.op = .load T x) (hT : ∀ w, (isAgg T).run P w = .ok true w) (hn : ∀ w, (sizeOf T).run P w = .ok n w) (hx : Opd Γ x (pEq (.pointer (some ⟨b, off, none⟩)))) (hi : Ω[i]? = some (oBlk b ps)) (hfit : Nat.ble (off + n) ps.length = true) (hq : (ps.drop off).take n = qs) : OpW P Ω o Γ (pAgg qs) :=
  OpW.val fun lo I w t hbd hg hO => by
    subst hq
    have h : ev t x = _ := hx I w t hg
    obtain ⟨F, hF, ⟨hb, vs, T', hh, hv⟩⟩ := hO.mem hi
    have hle := Nat.le_of_ble_eq_true hfit
    have hll : ((vs.drop off).take n).length = n := by rw [List.length_take, List.length_drop, hv.length]; omega
    have hc := run_loadCells_list (P := P) w ⟨b, off, none⟩ ((vs.drop off).take n) (fun j v hj => by
      rw [addr_add]
      rw [List.getElem?_take] at hj
      split at hj
      · rw [List.getElem?_drop] at hj
        simp [World.cell?, hh, hj]
      · simp at hj)
    rw [hll] at hc
    exact ⟨.agg ((vs.drop off).take n).toArray, by simp [execOp, ho, h, Instr.loadAt, Instr.sureAddr, loadVar, hT w, hn w, hc], _, rfl, Vals.sub hv⟩
end
end Go.Wk
