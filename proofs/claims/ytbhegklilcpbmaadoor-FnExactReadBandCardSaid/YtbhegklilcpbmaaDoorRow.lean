/-
  Own rows: slices that the call makes, writes and appends to. No program in sight. Our own work.
-/
import Derived.Test.YtbhegklilcpbmaaDoorOwn
namespace Go.Wk
open Go Go.RowKit

/-- The slice (o, n, cap) starts a block of its own and reads as the list l; an element takes k cells. -/
def oSl {α : Type} (et k : Nat) (f : α → List Pd) (o : Option Addr) (n cap : Nat) (l : List α) : Own :=
  ⟨fun I F w => n = l.length ∧ ∃ xs, w.ownsRow 0 et k (.slice o n cap) n xs ∧ Vals I w (l.flatMap f) xs ∧ (∀ a, o = some a → F a.block),
   fun hI hw hF ⟨hn, xs, ⟨h1, h2⟩, hv, ho⟩ => ⟨hn, xs, ⟨h1, h2.imp id (fun ⟨g, c, cur, e1, e2, e3, e4⟩ => ⟨g, c, cur, e1, e2, (hF g (by cases e1; exact ho _ rfl)).trans e3, e4⟩)⟩, Vals.mono hI hw hv, ho⟩⟩

/-- The state behind a step that makes one own thing and turns nothing. -/
theorem Sat.ownNew {B : Bs} {Γ : Env} {Ω : List Own} {I : Vw} {a : Act} {w w' : World} {o1 : Own} (hs : Sat B Γ Ω I a w) (hb : Below w.heap.size w w') (F : Vw) (hF : ∀ b, F b → w.heap.size ≤ b ∧ b < w'.heap.size) (ho : o1.p I F w') : Sat B Γ (o1 :: Ω) I a w' where
  df := hs.df
  sz := hs.sz
  bel := hs.bel.trans hb
  bd := fun b h => Nat.lt_of_lt_of_le (hs.bd b h) hb.size
  vw := fun b h => (hs.vw b h).imp id (fun h => ⟨h.1, Nat.lt_of_lt_of_le h.2 hb.size⟩)
  up := hs.up
  g := hs.g.mono (fun _ h => h) (fun b h => hb.block b (hs.bd b h))
  o := ⟨F, fun b h => ⟨.inr (Nat.le_trans hs.bel.size (hF b h).1), (hF b h).2, fun hI => by have := hs.bd b hI; have := (hF b h).1; omega⟩, ho,
    SatO.mono (fun _ h => h) hb.size (fun b h => hb.block b h) hs.bd (fun b h hx => hx.elim id (fun hf => absurd h (by have := (hF b hf).1; omega))) hs.o⟩

theorem grownBy_below {w w' : World} (h : w.grownBy w' none) : Below w.heap.size w w' := ⟨h.os, h.tape, h.output, h.size, fun k hk => h.block k hk (by simp)⟩

/-- The closed facts of an element type. -/
def Elem (P : Program) (e k bytes : Nat) {α : Type} (f : α → List Pd) (z0 : α) : Prop :=
  ∃ (i : TypeInfo) (z : Value) (vs : List Value), P.info? e = some i ∧ i.zero = some z ∧ i.size = k ∧ i.bytes = bytes ∧ z.cells = List.toArray vs ∧ vs.length = k ∧ 0 < k ∧ (∀ I w, Vals I w (f z0) vs) ∧ (∀ x, (f x).length = k) ∧ ∀ x I w us, Vals I w (f x) us → ∀ u ∈ us, u.oneCell' = true

theorem Vals.flatMap {α : Type} {f : α → List Pd} {I : Vw} {w : World} : ∀ {l : List α} {vss : List (List Value)}, l.length = vss.length → (∀ (i : Nat) x vs, l[i]? = some x → vss[i]? = some vs → Vals I w (f x) vs) → Vals I w (l.flatMap f) vss.flatten
  | [], [], _, _ => trivial
  | x :: l, vs :: vss, hl, h => by
    simp only [List.flatMap_cons, List.flatten_cons]
    exact (h 0 x vs rfl rfl).append (Vals.flatMap (by simpa using hl) (fun i x vs hi hj => h (i + 1) x vs (by simpa using hi) (by simpa using hj)))
  | [], _ :: _, hl, _ => by simp at hl
  | _ :: _, [], hl, _ => by simp at hl

theorem flat_rep {α : Type} [Inhabited α] (z : List α) (k : Nat) (hk : z.length = k) (h0 : 0 < k) : ∀ n : Nat, (List.range (n * k)).map (fun x => z.toArray[x % z.toArray.size]!) = (List.replicate n z).flatten
  | 0 => by simp
  | n + 1 => by
    have ih := flat_rep z k hk h0 n
    have e : (n + 1) * k = k + n * k := by rw [Nat.add_mul, Nat.one_mul, Nat.add_comm]
    rw [e, List.range_add, List.map_append, List.replicate_succ, List.flatten_cons]
    congr 1
    · apply List.ext_getElem
      · simp [hk]
      · intro i h1 h2
        simp at h1
        simp [hk, Nat.mod_eq_of_lt h1, h1]
    · rw [← ih, List.map_map]
      apply List.map_congr_left
      intro x _
      simp [hk]

theorem madeCells_list (z : List Value) (k n : Nat) (hk : z.length = k) (h0 : 0 < k) : (madeCells z.toArray (n * k)).toList = (List.replicate n z).flatten := by
  rw [← flat_rep z k hk h0 n]
  simp [madeCells]

/-! ### models of what makes and writes rows: none where Go would panic or run out of room -/
def mkL {α : Type} (bytes : Nat) (n : Int) (z : α) : Option (List α) := if 0 ≤ n ∧ n * bytes ≤ 140737488355328 then some (List.replicate n.toNat z) else none
def appL {α : Type} (bytes : Nat) (l m : List α) : Option (List α) := if (l.length + m.length) * (bytes + 1) ≤ 140737488355328 then some (l ++ m) else none
def setL {α : Type} (l : List α) (i : Int) (x : α) : Option (List α) := if 0 ≤ i ∧ i < l.length then some (l.set i.toNat x) else none

theorem mkL_some {α : Type} {bytes : Nat} {n : Int} {z : α} {l : List α} (h : mkL bytes n z = some l) : (0 ≤ n ∧ n * bytes ≤ 140737488355328) ∧ l = List.replicate n.toNat z := by
  unfold mkL at h
  split at h
  · rename_i hn; cases h; exact ⟨hn, rfl⟩
  · simp at h
theorem appL_some {α : Type} {bytes : Nat} {l m r : List α} (h : appL bytes l m = some r) : (l.length + m.length) * (bytes + 1) ≤ 140737488355328 ∧ r = l ++ m := by
  unfold appL at h
  split at h
  · rename_i hn; cases h; exact ⟨hn, rfl⟩
  · simp at h
theorem setL_some {α : Type} {l m : List α} {i : Int} {x : α} (h : setL l i x = some m) : (0 ≤ i ∧ i < l.length) ∧ m = l.set i.toNat x := by
  unfold setL at h
  split at h
  · rename_i hn; cases h; exact ⟨hn, rfl⟩
  · simp at h

section
variable {P : Program} {B : Bs} {o : Oper} {Γ : Env} {Ω : List Own}

theorem M_make {α : Type} {T e k bytes : Nat} {x : Operand} {N : Int} {f : α → List Pd} {z0 : α} {l : List α} (ho : o.op = .makeSlice T x x) (hT : P.underlying T = some (.slice e)) (he : Elem P e k bytes f z0) (hb : 0 < bytes) (hx : Opd Γ x (pEq (.int .i64 N))) (hl : mkL bytes N z0 = some l) :
    OpM P B o Γ Ω (fun a : Option Addr => pEq (.slice a N.toNat N.toNat)) (fun a => oSl e k f a N.toNat N.toNat l :: Ω) := by
  intro I a w hs
  have h : ev (tm a) x = .int .i64 N := hx I w (tm a) hs.g
  obtain ⟨hN, rfl⟩ := mkL_some hl
  obtain ⟨i, z, vs, h1, h2, h3, h4, h5, h6, h7, h8, _, _⟩ := he
  have hn : ((N.toNat : Nat) : Int) = N := by omega
  have hNb : i.bytes * N.toNat ≤ 140737488355328 := by
    have := hN.2
    rw [h4, Nat.mul_comm]
    have e : (((N.toNat * bytes : Nat)) : Int) = N * bytes := by rw [Int.natCast_mul, hn]
    omega
  have hNm : N.toNat ≤ maxLen := by
    have : N.toNat ≤ i.bytes * N.toNat := Nat.le_mul_of_pos_left _ (by omega)
    unfold maxLen; omega
  obtain ⟨w', hr, hown, hg⟩ := run_make_full (P := P) w 0 T e i z k hT h1 h2 h3 .i64 .i64 N.toNat (by omega) hNm (Nat.zero_le _)
  rw [hn] at hr
  unfold Exec
  have : (execOp (ev (tm a)) o).run P w = .ok (.value (.slice (some ⟨w.heap.size, 0, none⟩) N.toNat N.toNat)) w' := by
    simp only [execOp, ho, h]
    rw [Sem.run_bind, hr]
    rfl
  rw [this]
  refine ⟨some ⟨w.heap.size, 0, none⟩, I, hs.ownNew (grownBy_below hg) (fun b => b = w.heap.size) (fun b hb => ?_) ⟨by simp, _, hown, ?_, fun _ h => by cases h; rfl⟩, rfl⟩
  · subst hb
    refine ⟨Nat.le_refl _, ?_⟩
    rcases hown.2 with ⟨h', _⟩ | ⟨g, c, cur, h', _, hh, _⟩
    · simp at h'
    · simp only [Value.slice.injEq, Option.some.injEq, Addr.mk.injEq, and_true, true_and] at h'
      obtain ⟨rfl, _⟩ := h'
      exact (Array.getElem?_eq_some_iff.1 hh).1
  · rw [h5, madeCells_list vs k N.toNat h6 h7]
    refine Vals.flatMap (by simp) fun j x' vs' hj hj' => ?_
    rw [List.getElem?_replicate] at hj hj'
    split at hj <;> simp_all

theorem Vals.drop {I : Vw} {w : World} : ∀ {k : Nat} {ps : List Pd} {vs : List Value}, Vals I w ps vs → Vals I w (ps.drop k) (vs.drop k)
  | 0, _, _, h => h
  | k + 1, [], [], _ => by simp [Vals]
  | k + 1, _ :: _, _ :: _, ⟨_, hr⟩ => Vals.drop (k := k) hr
  | _ + 1, [], _ :: _, h => h.elim
  | _ + 1, _ :: _, [], h => h.elim

theorem flatMap_at {α : Type} {f : α → List Pd} {k : Nat} (hf : ∀ x, (f x).length = k) : ∀ {l : List α} {i : Nat} (h : i < l.length), ∃ r, (l.flatMap f).drop (i * k) = f l[i] ++ r
  | x :: l, 0, _ => ⟨l.flatMap f, by simp⟩
  | x :: l, i + 1, h => by
    obtain ⟨r, hr⟩ := flatMap_at hf (l := l) (i := i) (by simpa using h)
    refine ⟨r, ?_⟩
    rw [List.flatMap_cons, Nat.add_mul, Nat.one_mul, Nat.add_comm, ← List.drop_drop, List.drop_left' (hf x)]
    simpa using hr

/-- What an own row says of its block. -/
theorem oSl.block {α : Type} {et k n cap : Nat} {f : α → List Pd} {o : Option Addr} {l : List α} {I F : Vw} {w : World} (h : (oSl et k f o n cap l).p I F w) (hn : 0 < l.length) :
    ∃ g vs cur, o = some ⟨g, 0, none⟩ ∧ F g ∧ n = l.length ∧ w.heap[g]? = some (.cells cur et (0, 0)) ∧ n ≤ cap ∧ cap ≤ maxLen ∧ cur.size = cap * k ∧ cur.toList.take (n * k) = vs ∧ vs.length = n * k ∧ Vals I w (l.flatMap f) vs := by
  obtain ⟨hnl, xs, ⟨h1, h2⟩, hv, ho⟩ := h
  rcases h2 with ⟨_, h0⟩ | ⟨g, c, cur, e1, _, e3, e4, e5, e6, e7⟩
  · omega
  · simp only [Value.slice.injEq, true_and] at e1
    obtain ⟨rfl, rfl⟩ := e1
    exact ⟨g, xs, cur, rfl, ho _ rfl, hnl, e3, e4, e5, e6, e7, h1, hv⟩

/-- The address of an element of an own row is exact. -/
theorem M_rowIdx {α : Type} {T et k n cap : Nat} {x i : Operand} {kk : IntKind} {N : Int} {f : α → List Pd} {ad : Option Addr} {l : List α} (ho : o.op = .indexAddr T x i) (hT : P.underlying T = some (.slice et)) (hk : ∀ w, (sizeOf et).run P w = .ok k w)
    (hx : Opd Γ x (pEq (.slice ad n cap))) (hi : Opd Γ i (pEq (.int kk N))) (hN : 0 ≤ N ∧ N < l.length) :
    OpM P B o Γ (oSl et k f ad n cap l :: Ω) (fun _ : Unit => pEq (.pointer (some ⟨blk ad, N.toNat * k, none⟩))) (fun _ => oSl et k f ad n cap l :: Ω) := by
  intro I a w hs
  have h : ev (tm a) x = _ := hx I w (tm a) hs.g
  have h2 : ev (tm a) i = _ := hi I w (tm a) hs.g
  obtain ⟨F, hF, hown, hr⟩ := hs.o
  obtain ⟨g, vs, cur, rfl, hg, hnl, _⟩ := oSl.block hown (by omega)
  unfold Exec
  have : (execOp (ev (tm a)) o).run P w = .ok (.value (.pointer (some ⟨g, N.toNat * k, none⟩))) w := by
    simp only [execOp, ho, h, h2]
    rw [Sem.run_bind]
    simp only [Instr.indexAt, asIntOf, Sem.run_bind, Sem.run_pure, Result.andThen_ok, run_underlying hT, if_pos (show (0 ≤ N ∧ N < ((n : Nat) : Int)) from ⟨hN.1, by omega⟩), hk w, addr_add, Nat.zero_add]
  rw [this]
  exact ⟨(), I, hs, rfl⟩

/-- A load out of an own row. -/
theorem M_rowLoad {α : Type} {T et k n cap : Nat} {x : Operand} {N : Int} {f : α → List Pd} {ad : Option Addr} {l : List α} {y : α} {q : Pd} {r : List Pd} (ho : o.op = .load T x) (hT : ∀ w, (isAgg T).run P w = .ok false w)
    (hf : ∀ x, (f x).length = k) (hx : Opd Γ x (pEq (.pointer (some ⟨blk ad, N.toNat * k, none⟩)))) (hy : idx l N = some y) (hq : f y = q :: r) :
    OpM P B o Γ (oSl et k f ad n cap l :: Ω) (fun _ : Unit => q) (fun _ => oSl et k f ad n cap l :: Ω) := by
  intro I a w hs
  have h : ev (tm a) x = _ := hx I w (tm a) hs.g
  obtain ⟨F, hF, hown, hr⟩ := hs.o
  obtain ⟨h0, h1, rfl⟩ := idx_some hy
  obtain ⟨g, vs, cur, rfl, hg, hnl, hh, _, _, hcs, htk, hvl, hv⟩ := oSl.block hown (by omega)
  obtain ⟨r', hr'⟩ := flatMap_at hf h1
  have hv' := hv.drop (k := N.toNat * k)
  rw [hr', hq] at hv'
  cases hvd : vs.drop (N.toNat * k) with
  | nil => rw [hvd] at hv'; exact hv'.elim
  | cons u us =>
    rw [hvd] at hv'
    have hu := (drop_head hvd).1
    have hc : w.cell? ⟨g, N.toNat * k, none⟩ = some u := by
      have hlt : N.toNat * k < vs.length := (List.getElem?_eq_some_iff.1 hu).1
      rw [← htk, List.getElem?_take] at hu
      simp only [World.cell?, hh]
      split at hu
      · simpa using hu
      · simp at hu
    unfold Exec
    have : (execOp (ev (tm a)) o).run P w = .ok (.value u) w := by
      simp only [blk] at h
      simp [execOp, ho, h, Instr.loadAt, Instr.sureAddr, loadVar, hT w, hc]
    rw [this]
    exact ⟨(), I, hs, hv'.1⟩

/-- The length of an own row. -/
theorem M_rowLen {α : Type} {T e et k n cap : Nat} {x : Operand} {f : α → List Pd} {ad : Option Addr} {l : List α} (ho : o.op = .call { callee := .builtin .len, args := #[x], argTypes := #[T] }) (hT : P.underlying T = some (.slice e)) (hx : Opd Γ x (pEq (.slice ad n cap))) :
    OpM P B o Γ (oSl et k f ad n cap l :: Ω) (fun _ : Unit => pEq (.int .i64 (l.length : Int))) (fun _ => oSl et k f ad n cap l :: Ω) := by
  intro I a w hs
  have h : ev (tm a) x = _ := hx I w (tm a) hs.g
  obtain ⟨F, hF, hown, hr⟩ := hs.o
  have hn : n = l.length := hown.1
  unfold Exec
  have : (execOp (ev (tm a)) o).run P w = .ok (.value (.int .i64 l.length)) w := by
    simp [execOp, ho, h, resolve, invoke, builtin, Builtin.len_, run_underlying hT, goInt, hn]
  rw [this]
  exact ⟨(), I, hs, rfl⟩

theorem flatMap_set {α : Type} {f : α → List Pd} (hf : ∀ x, (f x).length = 1) {q : Pd} {y : α} (hq : f y = [q]) : ∀ {l : List α} {i : Nat}, (l.set i y).flatMap f = (l.flatMap f).set i q
  | [], _ => by simp
  | x :: l, 0 => by
    have := hf x
    match hx : f x, this with
    | [p], _ => simp [hq, hx]
  | x :: l, i + 1 => by
    have := hf x
    match hx : f x, this with
    | [p], _ => simp [hx, flatMap_set hf hq (l := l) (i := i)]

/-- A store into an own row of one-cell elements. -/
theorem M_rowStore {α : Type} {T et n cap : Nat} {x y : Operand} {N : Int} {f : α → List Pd} {ad : Option Addr} {l l' : List α} {v : α} {q : Pd} (ho : o.op = .store T x y) (hT : ∀ w, (sizeOf T).run P w = .ok 1 w)
    (hf : ∀ x, (f x).length = 1) (hx : Opd Γ x (pEq (.pointer (some ⟨blk ad, N.toNat * 1, none⟩)))) (hy : Opd Γ y q) (hq : f v = [q]) (h1 : OneC q) (hl : setL l N v = some l') :
    OpM P B o Γ (oSl et 1 f ad n cap l :: Ω) (fun _ : Unit => pAny) (fun _ => oSl et 1 f ad n cap l' :: Ω) := by
  intro I a w hs
  have h : ev (tm a) x = _ := hx I w (tm a) hs.g
  have hyv := hy I w (tm a) hs.g
  have hone := h1 _ _ _ hyv
  obtain ⟨F, hF, hown, hr⟩ := hs.o
  obtain ⟨hN, rfl⟩ := setL_some hl
  obtain ⟨g, vs, cur, rfl, hg, hnl, hh, hnc, hcm, hcs, htk, hvl, hv⟩ := oSl.block hown (by omega)
  simp only [Nat.mul_one] at hcs htk hvl
  have hlt : N.toNat < cur.size := by omega
  have hc : w.cell? ⟨g, N.toNat, none⟩ = some cur[N.toNat] := by simp [World.cell?, hh, hlt]
  have hfz : w.frozen? ⟨g, N.toNat, none⟩ = false := by simp [World.frozen?, hh]
  unfold Exec
  have : (execOp (ev (tm a)) o).run P w = .ok .skip (w.setCell ⟨g, N.toNat, none⟩ (ev (tm a) y)) := by
    have hst := run_store P w ⟨g, N.toNat, none⟩ (ev (tm a) y) .plain hone
    rw [hc] at hst
    simp only [hfz, Bool.false_eq_true, if_false] at hst
    simp only [blk, Nat.mul_one] at h
    simp [execOp, ho, h, Instr.storeAt, Instr.sureAddr, storeVar, hT w, cells_one hone, storeCells, addr_add, hst]
  rw [this]
  have hnb : ∀ b', ¬ F b' → (w.setCell ⟨g, N.toNat, none⟩ (ev (tm a) y)).heap[b']? = w.heap[b']? := fun b' hb' => Below.heap_setCell w ⟨g, N.toNat, none⟩ (ev (tm a) y) b' (fun e => by subst e; exact hb' hg)
  have hheap : (w.setCell ⟨g, N.toNat, none⟩ (ev (tm a) y)).heap[g]? = some (.cells (cur.setIfInBounds N.toNat (ev (tm a) y)) et (0, 0)) := by
    simp only [World.setCell, Array.getElem?_modify, if_true, hh, Option.map_some]
    simp
  refine ⟨(), I, hs.turn F hF hr (setCell_size _ _ _) rfl rfl rfl hnb ?_, trivial⟩
  refine ⟨by simpa using hnl, vs.set N.toNat (ev (tm a) y), ⟨by simpa using hvl, .inr ⟨g, cap, _, rfl, Nat.zero_le _, hheap, hnc, hcm, by simpa using hcs, ?_⟩⟩, ?_, fun _ h' => by cases h'; exact hg⟩
  · rw [Array.toList_setIfInBounds, Nat.mul_one, ← htk, List.take_set]
  · rw [flatMap_set hf hq]
    exact (Vals.set hyv hv).mono (fun _ h => h) (fun b' hb' => hnb b' (fun hf' => (hF b' hf').2.2 hb'))

/-- An own row is frozen: the view takes it in. -/
theorem Ct.freezeRow {α : Type} {s et k n cap : Nat} {f : α → List Pd} {ad : Option Addr} {l : List α} {K : Act → World → Prop} (hf : ∀ x, (f x).length = k) (hl : lk s Γ = some (pEq (.slice ad n cap))) (h : Ct B ((s, pSl k f l) :: Γ) Ω K) : Ct B Γ (oSl et k f ad n cap l :: Ω) K := by
  intro I a w hs
  obtain ⟨F, hF, hown, hr⟩ := hs.o
  have hI : ∀ c, I c → (I c ∨ F c) := fun _ h => .inl h
  refine h (fun c => I c ∨ F c) a w { df := hs.df, sz := hs.sz, bel := hs.bel, bd := fun c hc => hc.elim (hs.bd c) (fun hc => (hF c hc).2.1), vw := fun c hc => hc.elim (hs.vw c) (fun hc => .inr ⟨(hF c hc).1, (hF c hc).2.1⟩), up := fun c hc => .inl (hs.up c hc), g := ?_, o := ?_ }
  · intro s' q hs'
    by_cases hk : s' = s
    · subst hk; rw [lk_cons_eq] at hs'; cases hs'
      have hts : tm a s' = _ := hs.g s' _ hl
      have hn : n = l.length := hown.1
      have hcap : n ≤ cap := by
        obtain ⟨_, xs, ⟨_, h2⟩, _, _⟩ := hown
        rcases h2 with ⟨e1, e2⟩ | ⟨g, c, cur, e1, _, _, e4, _⟩
        · omega
        · simp only [Value.slice.injEq, true_and] at e1; omega
      have hz : ad = none → cap = 0 := fun e0 => by
        obtain ⟨_, xs, ⟨_, h2⟩, _, _⟩ := hown
        rcases h2 with ⟨e1, _⟩ | ⟨g, c, cur, e1, _⟩
        · simp only [Value.slice.injEq] at e1; exact e1.2.2
        · rw [e0] at e1; simp at e1
      refine ⟨ad, cap, by rw [hts, hn], by omega, hz, fun i hi => ?_⟩
      obtain ⟨g, vs, cur, rfl, hg, hnl, hh, _, _, hcs, htk, hvl, hv⟩ := oSl.block hown (by omega)
      obtain ⟨r', hr'⟩ := flatMap_at hf hi
      have hv' := hv.drop (k := i * k)
      rw [hr'] at hv'
      refine ⟨g, 0, rfl, .inr hg, ?_⟩
      have hv2 := (Vals.sub (k := 0) (n := k) hv').mono hI (fun _ _ => rfl)
      simp only [List.drop_zero, List.take_left' (hf l[i])] at hv2
      rw [Nat.zero_add]
      -- the cells from i * k on, k of them
      have key : ∀ {ps : List Pd} {us : List Value} {off : Nat}, (∀ j u, us[j]? = some u → w.cell? ⟨g, off + j, none⟩ = some u) → Vals (fun c => I c ∨ F c) w ps us → Cells (fun c => I c ∨ F c) w g off ps := by
        intro ps
        induction ps with
        | nil => intro us off _ _; trivial
        | cons p ps ih =>
          intro us off hu hv
          cases us with
          | nil => exact hv.elim
          | cons u us => exact ⟨⟨u, hu 0 u rfl, hv.1⟩, ih (fun j u' hj => by have := hu (j + 1) u' (by simpa using hj); rwa [show off + 1 + j = off + (j + 1) by omega]) hv.2⟩
      refine key (fun j u hj => ?_) hv2
      rw [List.getElem?_take] at hj
      split at hj
      · rw [List.getElem?_drop, ← htk, List.getElem?_take] at hj
        split at hj
        · simpa [World.cell?, hh] using hj
        · simp at hj
      · simp at hj
    · rw [lk_cons_ne hk] at hs'; exact q.mono hI (fun _ _ => rfl) (hs.g s' q hs')
  · have key : ∀ {Ω : List Own} {X : Vw}, SatO B.L I w X Ω → SatO B.L (fun c => I c ∨ F c) w X Ω := by
      intro Ω
      induction Ω with
      | nil => intro X _; trivial
      | cons o' Ω ih =>
        intro X ⟨F', hF', ho', hr'⟩
        exact ⟨F', hF', o'.mono hI (fun _ _ => rfl) (fun _ _ => rfl) ho', ih hr'⟩
    exact key hr

/-- The nil slice is a row of its own. -/
theorem Ct.nilRow {α : Type} {et k : Nat} {f : α → List Pd} {K : Act → World → Prop} (h : Ct B Γ (oSl et k f none 0 0 ([] : List α) :: Ω) K) : Ct B Γ Ω K := by
  intro I a w hs
  refine h I a w { hs with o := ⟨fun _ => False, fun _ hb => hb.elim, ⟨rfl, [], ⟨by simp, .inl ⟨rfl, rfl⟩⟩, trivial, fun _ h => by cases h⟩, SatO.congr (fun b hb => hb.elim id (fun h => h.elim)) hs.o⟩ }
end
end Go.Wk
