/-
  From the form's reading of the arguments to the walk's kinds, and back at the end of a law. No program in sight. Our own work.
-/
import Derived.Test.YtbhegklilcpbmaaDoorTypes
import Derived.ProofKit
import Derived.OpenShut
import Derived.JoinedCond
import Derived.Carry
namespace Go.Wk
open Go Go.RowKit Go.ChangeShapes Go.WideShapes Go.ChangeAt

/-- A type's values, read as data of the Lean type α whose cells are of the kinds f. -/
def Opens (P : Program) (t : TypeId) {α : Type} (f : α → List Pd) (ok : α → Prop) : Prop :=
  ∀ (H : Type) (enc : TypeId × Value → H) (w : World) (base fuel : Nat) (cs : List Value) (x : DataW H × List MemPlace), DataW.trod enc P w base (fun _ => true) true fuel t cs = some x → ∃ a, ok a ∧ Vals (fun b => b < w.heap.size) w (f a) cs

theorem opens_int {P : Program} {t : TypeId} {k : IntKind} (ht : P.underlying t = some (.int k)) : Opens P t (cK k) (fun n => (Lit.int k n).wf = true) := fun H enc w base fuel cs x h => by
  obtain ⟨n, rfl, _, hw⟩ := DataW.trod_int ht h
  exact ⟨n, hw, rfl, trivial⟩
theorem opens_bool {P : Program} {t : TypeId} (ht : P.underlying t = some .bool) : Opens P t cB (fun _ => True) := fun H enc w base fuel cs x h => by
  obtain ⟨b, rfl, _⟩ := DataW.trod_bool ht h
  exact ⟨b, trivial, rfl, trivial⟩
theorem opens_string {P : Program} {t : TypeId} (ht : P.underlying t = some .string) : Opens P t cS (fun s => s.size ≤ maxLen) := fun H enc w base fuel cs x h => by
  obtain ⟨s, rfl, _, hs⟩ := DataW.trod_string ht h
  exact ⟨s, hs, rfl, trivial⟩

theorem mapM_get {α β : Type} {f : α → Option β} : ∀ {l : List α} {r : List β}, l.mapM f = some r → r.length = l.length ∧ ∀ (i : Nat) a, l[i]? = some a → f a = r[i]?
  | [], r, h => by simp at h; subst h; simp
  | a :: l, r, h => by
    rw [List.mapM_cons] at h
    simp only [Option.bind_eq_bind, Option.bind_eq_some_iff, Option.pure_def, Option.some.injEq] at h
    obtain ⟨b, hb, bs, hbs, rfl⟩ := h
    obtain ⟨h1, h2⟩ := mapM_get hbs
    refine ⟨by simp [h1], fun i a' hi => ?_⟩
    cases i with
    | zero => simp at hi; subst hi; simpa using hb
    | succ i => simpa using h2 i a' (by simpa using hi)

theorem cells?_get {w : World} {base n : Nat} {a : Addr} {cs : List Value} (h : w.cells? base a n = some cs) : cs.length = n ∧ ∀ (j : Nat) u, cs[j]? = some u → w.cell? (a.add j) = some u := by
  unfold World.cells? at h
  split at h
  · obtain ⟨h1, h2⟩ := mapM_get h
    simp at h1
    refine ⟨h1, fun j u hj => ?_⟩
    have hlt : j < n := by rw [← h1]; exact (List.getElem?_eq_some_iff.1 hj).1
    rw [← hj]
    exact h2 j j (by simp [hlt])
  · simp at h

theorem cell?_spot {w : World} {a : Addr} {u : Value} (h : w.cell? a = some u) : a.spot = none ∧ a.block < w.heap.size := by
  unfold World.cell? at h
  cases hb : w.heap[a.block]? with
  | none => rw [hb] at h; simp at h
  | some o =>
    rw [hb] at h
    cases o <;> simp at h
    refine ⟨?_, (Array.getElem?_eq_some_iff.1 hb).1⟩
    cases hs : a.spot with
    | none => rfl
    | some s => simp [hs] at h

theorem choose_list {α : Type} {Q : Nat → α → Prop} : ∀ (n : Nat), (∀ i, i < n → ∃ y, Q i y) → ∃ l : List α, l.length = n ∧ ∀ (i : Nat) (h : i < l.length), Q i l[i]
  | 0, _ => ⟨[], rfl, fun i hi => by simp at hi⟩
  | n + 1, h => by
    obtain ⟨l, hl, hp⟩ := choose_list n (fun i hi => h i (by omega))
    obtain ⟨y, hy⟩ := h n (by omega)
    refine ⟨l ++ [y], by simp [hl], fun i hi => ?_⟩
    rw [List.getElem_append]
    split
    · exact hp i _
    · rename_i hni
      have : i = n := by simp at hi; omega
      subst this
      simpa using hy

theorem opens_slice {P : Program} {t e k : TypeId} {α : Type} {f : α → List Pd} {ok : α → Prop} (ht : P.underlying t = some (.slice e)) (hk : P.cellsOf e = k) (h0 : 0 < k) (he : Opens P e f ok) : Opens P t (cSl k f) (fun l => l.length ≤ maxLen ∧ ∀ x ∈ l, ok x) := fun H enc w base fuel cs x h => by
  rcases DataW.trod_slice ht h with ⟨rfl, _⟩ | ⟨a, len, cap, elems, rest, n, _, rfl, _, _, hlc, hcm, hel, hread, _, _⟩
  · exact ⟨[], ⟨Nat.zero_le _, by simp⟩, ⟨none, 0, rfl, Nat.le_refl _, fun _ => rfl, fun i hi => by simp at hi⟩, trivial⟩
  -- each element
  have each : ∀ i, i < len → ∃ y : α, ok y ∧ a.spot = none ∧ a.block < w.heap.size ∧ Cells (fun b => b < w.heap.size) w a.block (a.off + i * k) (f y) := by
    have first : ∀ i, i < len → ∃ cs', w.cells? base (a.add (i * k)) k = some cs' ∧ ∃ y, DataW.trod enc P w base (fun _ => true) true n e cs' = some y := by
      intro i hi
      have h1 := hread i hi
      rw [hk] at h1
      have : i < elems.length := by omega
      rw [List.getElem?_eq_getElem this] at h1
      obtain ⟨cs', h2, h3⟩ := Option.bind_eq_some_iff.1 h1
      exact ⟨cs', h2, _, h3⟩
    intro i hi
    -- the head's address is plain
    have hpos : 0 < len := Nat.lt_of_le_of_lt (Nat.zero_le _) hi
    obtain ⟨cs0, hc0, _⟩ := first 0 hpos
    obtain ⟨hl0, hg0⟩ := cells?_get hc0
    have ha : a.spot = none ∧ a.block < w.heap.size := by
      have hlt : 0 < cs0.length := by rw [hl0]; exact h0
      have := hg0 0 cs0[0] (by simp [hlt])
      simp only [Nat.zero_mul] at this
      exact cell?_spot (by simpa [Addr.add] using this)
    obtain ⟨cs', hc, y, hy⟩ := first i hi
    obtain ⟨hl, hg⟩ := cells?_get hc
    obtain ⟨z, hz, hv⟩ := he H enc w base n cs' y hy
    refine ⟨z, hz, ha.1, ha.2, ?_⟩
    have hab : a = ⟨a.block, a.off, none⟩ := by rw [← ha.1]
    have key : ∀ {ps : List Pd} {us : List Value} {off : Nat}, (∀ j u, us[j]? = some u → w.cell? ⟨a.block, off + j, none⟩ = some u) → Vals (fun b => b < w.heap.size) w ps us → Cells (fun b => b < w.heap.size) w a.block off ps := by
      intro ps
      induction ps with
      | nil => intro us off _ _; trivial
      | cons p ps ih =>
        intro us off hu hv
        cases us with
        | nil => exact hv.elim
        | cons u us => exact ⟨⟨u, hu 0 u rfl, hv.1⟩, ih (fun j u' hj => by have := hu (j + 1) u' (by simpa using hj); rwa [show off + 1 + j = off + (j + 1) by omega]) hv.2⟩
    refine key (fun j u hj => ?_) hv
    have := hg j u hj
    rw [hab, addr_add, addr_add] at this
    exact this
  have hch := choose_list len each
  obtain ⟨l, hl, hp⟩ := hch
  refine ⟨l, ⟨by omega, fun x hx => ?_⟩, ⟨some a, cap, by rw [hl], by omega, by simp, fun i hi => ?_⟩, trivial⟩
  · obtain ⟨i, hi, rfl⟩ := List.getElem_of_mem hx
    exact (hp i hi).1
  · obtain ⟨_, h2, h3, h4⟩ := hp i hi
    exact ⟨a.block, a.off, by rw [← h2], h3, h4⟩

/-- A field of a struct that is read. -/
theorem Opens.field {P : Program} {t : TypeId} {α : Type} {f : α → List Pd} {ok : α → Prop} (ho : Opens P t f ok) {H : Type} {enc : TypeId × Value → H} {w : World} {base n : Nat} {cs' : List Value} {xs : List (DataW H × List MemPlace)} {i : Nat} (h : DataW.trod enc P w base (fun _ => true) true n t cs' = xs[i]?) (hi : i < xs.length) :
    ∃ a, ok a ∧ Vals (fun b => b < w.heap.size) w (f a) cs' := by
  rw [List.getElem?_eq_getElem hi] at h
  exact ho H enc w base n cs' _ h
theorem vals_piece {I : Vw} {w : World} {ps qs : List Pd} {cs : List Value} {off k : Nat} (h : Vals I w ps ((cs.drop off).take k)) (h' : Vals I w qs (cs.drop (off + k))) : Vals I w (ps ++ qs) (cs.drop off) := by
  have e : cs.drop off = (cs.drop off).take k ++ cs.drop (off + k) := by rw [← List.drop_drop, List.take_append_drop]
  rw [e]
  exact h.append h'
theorem vals_end {I : Vw} {w : World} {cs : List Value} {off : Nat} (h : cs.length = off) : Vals I w [] (cs.drop off) := by
  rw [List.drop_of_length_le (by omega)]; trivial

/-! ### the arguments of a law -/
section
variable {H : Type} {enc : TypeId × Value → H} {P : Program} {W : World} {t : TypeId} {v : Value} {d : DataW H} {ps : List MemPlace} {base : Nat} {α : Type} {f : α → List Pd} {ok : α → Prop}
theorem arg_one {q : α → Pd} (ho : Opens P t f ok) (hf : ∀ a, f a = [q a]) (hv : v.cells = #[v]) (h : DataW.Trod enc P W 0 (fun _ => true) true t v d ps) : ∃ a, ok a ∧ (q a).p (fun b => b < W.heap.size) W v := by
  obtain ⟨fuel, hf'⟩ := h
  rw [hv] at hf'
  obtain ⟨a, h1, h2⟩ := ho H enc W 0 fuel _ _ hf'
  rw [hf a] at h2
  exact ⟨a, h1, h2.1⟩
theorem arg_int {k : IntKind} (ht : P.underlying t = some (.int k)) (hv : Value.okWide P W .any base t v) (h : DataW.Trod enc P W 0 (fun _ => true) true t v d ps) : ∃ n, (Lit.int k n).wf = true ∧ (pEq (.int k n)).p (fun b => b < W.heap.size) W v := by
  obtain ⟨n, rfl⟩ := okWide_int ht hv
  exact arg_one (opens_int ht) (fun _ => rfl) rfl h
theorem arg_bool (ht : P.underlying t = some .bool) (hv : Value.okWide P W .any base t v) (h : DataW.Trod enc P W 0 (fun _ => true) true t v d ps) : ∃ b, True ∧ (pEq (.bool b)).p (fun b => b < W.heap.size) W v := by
  obtain ⟨n, rfl⟩ := okWide_bool ht hv
  exact arg_one (opens_bool ht) (fun _ => rfl) rfl h
theorem arg_string (ht : P.underlying t = some .string) (hv : Value.okWide P W .any base t v) (h : DataW.Trod enc P W 0 (fun _ => true) true t v d ps) : ∃ s : ByteArray, s.size ≤ maxLen ∧ (pEq (.string s)).p (fun b => b < W.heap.size) W v := by
  obtain ⟨n, rfl⟩ := okWide_string ht hv
  exact arg_one (opens_string ht) (fun _ => rfl) rfl h
theorem arg_slice {e k : TypeId} {ok' : List α → Prop} (ht : P.underlying t = some (.slice e)) (ho : Opens P t (cSl k f) ok') (hv : Value.okWide P W .any base t v) (h : DataW.Trod enc P W 0 (fun _ => true) true t v d ps) : ∃ l, ok' l ∧ (pSl k f l).p (fun b => b < W.heap.size) W v := by
  obtain ⟨a, len, cap, rfl⟩ := okWide_slice ht hv
  exact arg_one ho (fun _ => rfl) rfl h
theorem arg_struct {fs : Array Field} (ht : P.underlying t = some (.struct fs)) (ho : Opens P t f ok) (hv : Value.okWide P W .any base t v) (h : DataW.Trod enc P W 0 (fun _ => true) true t v d ps) : ∃ a, ok a ∧ (pAgg (f a)).p (fun b => b < W.heap.size) W v := by
  obtain ⟨cs, rfl, _⟩ := okWide_struct ht hv
  obtain ⟨fuel, hf'⟩ := h
  obtain ⟨a, h1, h2⟩ := ho H enc W 0 fuel _ _ hf'
  exact ⟨a, h1, cs.toList, by simp, by simpa [Value.cells] using h2⟩
end

/-- The arguments read behind the call as they read before. -/
theorem trodAll_carry {H : Type} {enc : TypeId × Value → H} {P : Program} (hl : laidOutB P = true) {W W' : World} (hb : Below W.heap.size W W') : ∀ {ts : List TypeId} {vs : List Value} {ds : List (DataW H)} {ps : List MemPlace}, (∀ t ∈ ts, P.readableRec t = true ∧ t < P.types.size) → DataW.TrodAll enc P W 0 (fun _ => true) true ts vs ds ps → (∀ x ∈ ps, x.block < W.heap.size) →
    DataW.TrodAll enc P W' 0 (fun b => decide (b < W.heap.size)) true ts vs ds ps
  | [], vs, ds, ps, _, h, _ => by
    obtain ⟨rfl, rfl, rfl⟩ := trodAll_nil h
    exact trodAll_mk0
  | t :: ts, vs, ds, ps, hts, h, hlt => by
    obtain ⟨v, vs', d, ds', p, q, rfl, rfl, rfl, h0, hr⟩ := trodAll_cons h
    refine trodAll_cons_mk (Below.trod hl (hts t (by simp)).1 (hts t (by simp)).2 h0 hb (fun x hx => hlt x (by simp [hx]))) ?_
    exact trodAll_carry hl hb (fun t' ht' => hts t' (by simp [ht'])) hr (fun x hx => hlt x (by simp [hx]))

theorem rfl_vars {H : Type} {enc : TypeId × Value → H} {P : Program} {w : World} {sp : Nat → Bool} : DataW.TrodVars enc P w sp [] [] [] := by
  first | exact ⟨rfl, rfl⟩ | exact trivial | exact trodAll_mk0 | simp [DataW.TrodVars]

/-- A law's end: it returned true, and what was there stays. -/
theorem law_post {H : Type} {enc : TypeId × Value → H} {P : Program} {fn : Func} {s : ChangeSpec} {apart fresh handsOn : Bool} {W W' : World} {args : Array Value} {ds : List (DataW H)} {gs : List (DataW H)} {before : List MemPlace} {tb : TypeId} (hl : laidOutB P = true) (htb : P.underlying tb = some .bool) (hrt : fn.resultTypes = #[tb])
    (hts : (fn.params.toList.all fun t => P.readableRec t && decide (t < P.types.size)) = true) (hsv : s.vars = []) (hs : s.fn H (ds ++ gs) = { results := [.lit (.bool true)], args := ds })
    (hW : DataW.Whole enc P fn.params.toList s.vars apart W args.toList ds gs before) (hb : Below W.heap.size W W') : s.post enc P fn apart fresh handsOn false W args (.bool true) W' := by
  have hlt := hW.lt
  have hW' := hW
  obtain ⟨p, q, hA, hV, rfl, hfz, hnd⟩ := hW
  rw [hsv] at hV
  obtain ⟨rfl, rfl⟩ := trodVars_none hV
  simp only [List.append_nil] at *
  refine ⟨ds, [], p, [], p, [], hW', ?_, ?_, ?_, ?_, fun h => by cases h⟩
  · rw [List.append_nil, hs, hrt]
    exact trodAll_cons_mk (shut_bool htb _) trodAll_mk0
  · rw [List.append_nil, hs]
    refine trodAll_carry hl hb (fun t ht => ?_) hA (fun x hx => by simpa using hlt x hx)
    have := List.all_eq_true.1 hts t ht
    simpa using this
  · rw [List.append_nil, hs, hsv]; exact rfl_vars
  · exact World.keptBut_mono (fun x hx => hx.elim) (hb.frame (fun _ => False))
end Go.Wk
