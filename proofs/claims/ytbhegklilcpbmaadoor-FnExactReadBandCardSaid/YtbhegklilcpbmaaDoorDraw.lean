/-
  A region that draws its order, whose operations only read, compute, call and make new memory: whatever the order, each slot holds what its operation yields. No program in sight. Our own work.
-/
import Derived.Test.YtbhegklilcpbmaaDoorOps
namespace Go.Wk
open Go Go.RowKit

/-- What an operation of the region reads (slots and kinds), what it yields, and whether its guard lets it run. -/
structure Ent where
  Γ : Env
  p : Pd
  run : Bool

def deps (o : Oper) : List Nat := (o.after.toList.filter (Region.binds .any)).map (·.on)

def dstOf (ops : List Oper) (k : Nat) : Option Nat := (ops[k]?).bind (·.dst)

/-- The operation before i whose result i reads in slot s. -/
def src (ops : List Oper) (ds : List Nat) (s : Nat) : Option Nat := ds.find? fun k => dstOf ops k == some s

/-- What the k-th operation yields, if that is known yet. -/
def entP (es : List (Option Ent)) (k : Nat) : Option Pd := match es[k]? with | some (some e) => some e.p | _ => none

def SrcOk (ops : List Oper) (Γ0 : Env) (es : List (Option Ent)) (ds : List Nat) : Env → Prop
  | [] => True
  | (s, p) :: r => (match src ops ds s with
      | some k => entP es k = some p
      | none => lk s Γ0 = some p) ∧ SrcOk ops Γ0 es ds r

def GuardOk (es : List (Option Ent)) (o : Oper) (e : Ent) : Prop :=
  match o.guard with
  | none => e.run = true
  | some (g, want) => (∃ c, entP es g = some (pEq (.bool c)) ∧ (c == want) = e.run) ∨ (entP es g = some (pEq undef) ∧ e.run = false)

/-- As OpJ, and the operation may read what is owned. -/
def OpW (P : Program) (Ω : List Own) (o : Oper) (Γ : Env) (p : Pd) : Prop :=
  ∀ (L : Vw) (I : Vw) (w : World) (t : Nat → Value), (∀ b, I b → b < w.heap.size) → SatG I w t Γ → SatO L I w I Ω →
    Exec P o (ev t) w fun v w' => Below w.heap.size w w' ∧ p.p (gr I w w') w' v
theorem OpJ.w {P : Program} {Ω : List Own} {o : Oper} {Γ : Env} {p : Pd} (h : OpJ P o Γ p) : OpW P Ω o Γ p := fun _ I w t hb hg _ => h I w t hb hg
theorem OpW.toM {P : Program} {B : Bs} {o : Oper} {Γ : Env} {Ω : List Own} {p : Pd} (h : OpW P Ω o Γ p) : OpM P B o Γ Ω (fun _ : Unit => p) (fun _ => Ω) :=
  fun I a w hs => (h _ I w (tm a) hs.bd hs.g hs.o).mono fun _ _ ⟨hb, hp⟩ => ⟨(), _, hs.grow hb, hp⟩

def RunOk (P : Program) (Ω : List Own) (o : Oper) (e : Ent) : Prop :=
  match e.run with
  | true => OpW P Ω o e.Γ e.p
  | false => e.p = pEq undef

/-- What is owed for the operations whose entries are known and that are not done. -/
def OblD (P : Program) (Ω : List Own) (ops : List Oper) (Γ0 : Env) (es : List (Option Ent)) (done : List Nat) : Nat → List Oper → List (Option Ent) → List (List Nat) → Prop
  | _, [], [], [] => True
  | i, o :: os, some e :: es', rd :: rds => (done.contains i = true ∨ (RunOk P Ω o e ∧ SrcOk ops Γ0 es (deps o) e.Γ ∧ GuardOk es o e ∧ e.Γ.map (·.1) = rd)) ∧ OblD P Ω ops Γ0 es done (i + 1) os es' rds
  | i, _ :: os, none :: es', _ :: rds => OblD P Ω ops Γ0 es done (i + 1) os es' rds
  | _, _, _, _ => False

theorem OblD.get {P : Program} {Ω : List Own} {ops : List Oper} {Γ0 : Env} {es : List (Option Ent)} {done : List Nat} : ∀ {os : List Oper} {es' : List (Option Ent)} {rds : List (List Nat)} {j : Nat}, OblD P Ω ops Γ0 es done j os es' rds →
    os.length = es'.length ∧ ∀ (i : Nat) (o : Oper), os[i]? = some o → ∃ oe rd, es'[i]? = some oe ∧ rds[i]? = some rd ∧ ∀ e, oe = some e → done.contains (j + i) = true ∨ (RunOk P Ω o e ∧ SrcOk ops Γ0 es (deps o) e.Γ ∧ GuardOk es o e ∧ e.Γ.map (·.1) = rd)
  | [], [], [], _, _ => ⟨rfl, by simp⟩
  | o :: os, some e :: es', rd :: rds, j, ⟨h, hr⟩ => by
    obtain ⟨hl, hg⟩ := OblD.get hr
    refine ⟨by simp [hl], fun i o' hi => ?_⟩
    cases i with
    | zero => simp at hi; subst hi; exact ⟨some e, rd, rfl, rfl, fun e' he' => by cases he'; exact h⟩
    | succ i => simp at hi; obtain ⟨oe, rd', h1, h2, h3⟩ := hg i o' hi; exact ⟨oe, rd', by simpa using h1, by simpa using h2, fun e' he' => by have := h3 e' he'; rwa [show j + 1 + i = j + (i + 1) by omega] at this⟩
  | o :: os, none :: es', rd :: rds, j, hr => by
    have hr : OblD P Ω ops Γ0 es done (j + 1) os es' rds := hr
    obtain ⟨hl, hg⟩ := OblD.get hr
    refine ⟨by simp [hl], fun i o' hi => ?_⟩
    cases i with
    | zero => exact ⟨none, rd, rfl, rfl, fun e' he' => by cases he'⟩
    | succ i => simp at hi; obtain ⟨oe, rd', h1, h2, h3⟩ := hg i o' hi; exact ⟨oe, rd', by simpa using h1, by simpa using h2, fun e' he' => by have := h3 e' he'; rwa [show j + 1 + i = j + (i + 1) by omega] at this⟩
  | [], _ :: _, _, _, h => by simp [OblD] at h
  | [], [], _ :: _, _, h => by simp [OblD] at h
  | _ :: _, [], _, _, h => by simp [OblD] at h
  | _ :: _, _ :: _, [], _, h => by simp [OblD] at h

/-- The closed look at the region: results in slots of their own, what is read comes from before or is not yet written, a guard comes before. rd: the slots that each operation reads. -/
def chkOne (ops : List Oper) (i : Nat) (o : Oper) (rd : List Nat) : Bool :=
  (deps o).all (· < i)
  && (List.range ops.length).all (fun k => k == i || match dstOf ops k with
      | none => true
      | some d => o.dst != some d && (!rd.contains d || (deps o).contains k || ((ops[k]?).map fun ok => (deps ok).contains i).getD false))
  && (match o.guard with | none => true | some (g, _) => (deps o).contains g && (dstOf ops g).isSome)
  && (match o.op with | .select _ _ => false | _ => true)
def chkAll (ops : List Oper) : Nat → List Oper → List (List Nat) → Bool
  | _, [], [] => true
  | i, o :: os, rd :: rs => chkOne ops i o rd && chkAll ops (i + 1) os rs
  | _, _, _ => false

theorem chkAll_get {ops : List Oper} : ∀ {os : List Oper} {rs : List (List Nat)} {j : Nat}, chkAll ops j os rs = true → ∀ (i : Nat) (o : Oper), os[i]? = some o → ∃ rd, rs[i]? = some rd ∧ chkOne ops (j + i) o rd = true
  | [], [], _, _ => by simp
  | o :: os, rd :: rs, j, h => by
    simp only [chkAll, Bool.and_eq_true] at h
    intro i o' hi
    cases i with
    | zero => simp at hi; subst hi; exact ⟨rd, by simp, h.1⟩
    | succ i =>
      simp at hi
      obtain ⟨rd', h1, h2⟩ := chkAll_get h.2 i o' hi
      exact ⟨rd', by simpa using h1, by rwa [show j + 1 + i = j + (i + 1) by omega] at h2⟩
  | [], _ :: _, _, h => by simp [chkAll] at h
  | _ :: _, [], _, h => by simp [chkAll] at h

/-- What the slots hold behind the region. -/
def outE : List Oper → List Ent → Env → Env
  | o :: os, e :: es, Γ => match o.dst with
    | some d => (d, e.p) :: outE os es Γ
    | none => outE os es Γ
  | _, _, Γ => Γ

theorem outE_lk {s : Nat} {q : Pd} {Γ : Env} : ∀ {os : List Oper} {es : List Ent}, os.length = es.length → lk s (outE os es Γ) = some q →
    (∃ (k : Nat) (o : Oper) (e : Ent), os[k]? = some o ∧ es[k]? = some e ∧ o.dst = some s ∧ e.p = q) ∨ (lk s Γ = some q ∧ ∀ (k : Nat) (o : Oper), os[k]? = some o → o.dst ≠ some s)
  | [], [], _, h => .inr ⟨h, by simp⟩
  | o :: os, e :: es, hl, h => by
    have hl' : os.length = es.length := by simpa using hl
    have step : lk s (outE os es Γ) = some q → o.dst ≠ some s → ((∃ (k : Nat) (o' : Oper) (e' : Ent), (o :: os)[k]? = some o' ∧ (e :: es)[k]? = some e' ∧ o'.dst = some s ∧ e'.p = q) ∨ (lk s Γ = some q ∧ ∀ (k : Nat) (o' : Oper), (o :: os)[k]? = some o' → o'.dst ≠ some s)) := fun h' hd => by
      rcases outE_lk hl' h' with ⟨k, o', e', h1, h2, h3, h4⟩ | ⟨h1, h2⟩
      · exact .inl ⟨k + 1, o', e', by simpa using h1, by simpa using h2, h3, h4⟩
      · refine .inr ⟨h1, fun k o' hk => ?_⟩
        cases k with
        | zero => simp at hk; subst hk; exact hd
        | succ k => exact h2 k o' (by simpa using hk)
    simp only [outE] at h
    cases hd : o.dst with
    | none => rw [hd] at h; exact step h (by rw [hd]; simp)
    | some d =>
      rw [hd] at h
      by_cases hsd : s = d
      · subst hsd
        simp only [lk_cons_eq, Option.some.injEq] at h
        exact .inl ⟨0, o, e, by simp, by simp, hd, h⟩
      · rw [lk_cons_ne hsd] at h
        exact step h (by rw [hd]; simpa using fun e => hsd e.symm)
  | [], _ :: _, hl, _ => by simp at hl
  | _ :: _, [], hl, _ => by simp at hl

theorem SrcOk.get {ops : List Oper} {Γ0 : Env} {es : List (Option Ent)} {ds : List Nat} : ∀ {Γ : Env} {s : Nat} {p : Pd}, SrcOk ops Γ0 es ds Γ → lk s Γ = some p →
    (match src ops ds s with | some k => entP es k = some p | none => lk s Γ0 = some p)
  | [], _, _, _, h => by simp [lk] at h
  | (k, q) :: r, s, p, ⟨h1, h2⟩, h => by
    by_cases hk : s = k
    · subst hk; rw [lk_cons_eq] at h; cases h; exact h1
    · rw [lk_cons_ne hk] at h; exact SrcOk.get h2 h

theorem lk_mem {s : Nat} {p : Pd} : ∀ {Γ : Env}, lk s Γ = some p → s ∈ Γ.map (·.1)
  | [], h => by simp [lk] at h
  | (k, q) :: r, h => by
    by_cases hk : s = k
    · subst hk; simp
    · rw [lk_cons_ne hk] at h; exact List.mem_cons_of_mem _ (lk_mem h)

theorem filter_set : ∀ {l : List Bool} {i : Nat}, l[i]? = some false → ((l.set i true).filter id).length = (l.filter id).length + 1
  | [], _, hl => by simp at hl
  | b :: l, 0, hl => by simp at hl; subst hl; simp
  | b :: l, i + 1, hl => by
    have := filter_set (l := l) (i := i) (by simpa using hl)
    cases b <;> simp [this]

section
variable {P : Program} {B : Bs} {ops : Array Oper} {Γ : Env} {Ω : List Own} {Q : Exit → Act → World → Prop}

/-- The state in the midst of the region's first part. -/
structure MidR (B : Bs) (n : Nat) (ops : List Oper) (es : List (Option Ent)) (Γ : Env) (Ω : List Own) (listed : Array Bool) (I : Vw) (a : Act) (w : World) : Prop where
  base : Sat B [] Ω I a w
  sz : listed.size = n
  lt : ∀ k, listed.getD k false = true → k < ops.length
  known : ∀ k, listed.getD k false = true → ∃ e, es[k]? = some (some e)
  closed : ∀ (k : Nat) (o : Oper), ops[k]? = some o → listed.getD k false = true → ∀ d ∈ deps o, listed.getD d false = true
  inn : ∀ s p, lk s Γ = some p → (∀ k, listed.getD k false = true → dstOf ops k ≠ some s) → p.p I w (tm a s)
  out : ∀ (k : Nat) (e : Ent) (d : Nat), listed.getD k false = true → es[k]? = some (some e) → dstOf ops k = some d → e.p.p I w (tm a d)

theorem getD_true_lt {l : Array Bool} {k : Nat} (h : l.getD k false = true) : k < l.size := by
  rcases Nat.lt_or_ge k l.size with h' | h'
  · exact h'
  · simp [Array.getElem?_eq_none h'] at h

theorem wpOp_mono' {i : Nat} {K K' : Act → World → Prop} {a : Act} {w : World} (h : ∀ a w, K a w → K' a w) (hh : wpOp P ops Q i K a w) : wpOp P ops Q i K' a w := by
  unfold wpOp at *
  split at hh
  · exact h _ _ hh
  · split at hh
    · rename_i hw
      rw [if_pos hw]
      exact hh.imp (fun h' => Oper.wp_mono h h') id
    · rename_i hw
      rw [if_neg hw]
      exact h _ _ hh

/-- Operations that each wait for all before them run in the order of the text. -/
theorem wpAny_tail {m : Nat} (hlt : ∀ (i : Nat) (o : Oper), m ≤ i → ops[i]? = some o → ∀ d ∈ deps o, d < i) (hd : ∀ (i : Nat) (o : Oper), m ≤ i → ops[i]? = some o → ∀ j, j < i → j ∈ deps o) :
    ∀ (n k fuel : Nat) (listed : Array Bool) (a : Act) (w : World), k + n = ops.size → m ≤ k → listed.size = ops.size → (∀ j, listed.getD j false = true ↔ j < k) → n ≤ fuel → wpOps P ops Q (List.range' k n) a w → wpAny P .any ops Q fuel listed a w := by
  intro n
  induction n with
  | zero =>
    intro k fuel listed a w hk hm hs hl _ h
    have hr : Region.ready .any ops listed = [] := by
      rw [List.eq_nil_iff_forall_not_mem]
      intro i hi
      obtain ⟨h0, o, ho, _⟩ := mem_ready.1 hi
      have hi' : i < ops.size := (Array.getElem?_eq_some_iff.1 ho).1
      have h1 := (hl i).2 (by omega)
      have hi2 : i < listed.size := by omega
      simp [hi2] at h0 h1
      rw [h0] at h1; simp at h1
    cases fuel with
    | zero => exact ⟨hr, h⟩
    | succ f => exact ⟨fun _ => h, fun i hi => by rw [hr] at hi; simp at hi⟩
  | succ n ih =>
    intro k fuel listed a w hk hm hs hl hf h
    cases fuel with
    | zero => omega
    | succ f =>
      have hko : ops[k]? = some ops[k] := by simp
      have hmem : k ∈ Region.ready .any ops listed := by
        refine mem_ready.2 ⟨?_, ops[k], hko, fun e he hb => ?_⟩
        · have h1 : listed.getD k false ≠ true := fun h => by have := (hl k).1 h; omega
          have hks : k < listed.size := by omega
          simp [hks] at h1 ⊢; exact h1
        · exact (hl e.on).2 (hlt k ops[k] hm hko e.on (List.mem_map.2 ⟨e, List.mem_filter.2 ⟨Array.mem_toList_iff.2 he, hb⟩, rfl⟩))
      refine ⟨fun hr => by rw [hr] at hmem; simp at hmem, fun i hi => ?_⟩
      have hik : i = k := by
        obtain ⟨h0, o, ho, hdeps⟩ := mem_ready.1 hi
        have hi' : i < ops.size := (Array.getElem?_eq_some_iff.1 ho).1
        have hnl : ¬ i < k := fun h' => by
          have h1 := (hl i).2 h'
          have hi2 : i < listed.size := by omega
          simp [hi2] at h0 h1
          rw [h0] at h1; simp at h1
        rcases Nat.lt_or_ge k i with h' | h'
        · obtain ⟨e, he, hon⟩ := List.mem_map.1 (hd i o (by omega) ho k h')
          obtain ⟨he1, he2⟩ := List.mem_filter.1 he
          have := (hl e.on).1 (hdeps e (Array.mem_toList_iff.1 he1) he2)
          omega
        · omega
      subst hik
      rw [List.range'_succ, wpOps_cons] at h
      refine wpOp_mono' (fun a' w' h' => ?_) h
      refine ih (i + 1) f _ a' w' (by omega) (by omega) (by simpa using hs) (fun j => ?_) (by omega) h'
      by_cases hj : j = i
      · subst hj
        have : j < listed.size := by omega
        simp [this]
      · rw [getD_set_ne false (Ne.symm hj), hl j]; omega

/-- The closed facts of a region whose first part is drawn, and the rest of which runs in the order of the text. -/
structure DrawOk (B : Bs) (ops : Array Oper) (pre : List Oper) (rd : List (List Nat)) : Prop where
  same : ∀ i, i < pre.length → ops[i]? = pre[i]?
  le : pre.length ≤ ops.size
  tlt : ∀ (i : Nat) (o : Oper), pre.length ≤ i → ops[i]? = some o → ∀ d ∈ deps o, d < i
  tall : ∀ (i : Nat) (o : Oper), pre.length ≤ i → ops[i]? = some o → ∀ j, j < i → j ∈ deps o
  dn : ∀ (k : Nat) d, dstOf pre k = some d → d < B.n
  chk : chkAll pre 0 pre rd = true

/-- What holds of a region in its midst: from each state in which the entries 'es' are known and 'done' are done, it goes on well. -/
def RD (P : Program) (B : Bs) (ops : Array Oper) (Q : Exit → Act → World → Prop) (pre : List Oper) (Γ : Env) (es : List (Option Ent)) (done : List Nat) (Ω : List Own) : Prop :=
  ∀ (fuel : Nat) (listed : Array Bool) (I : Vw) (a : Act) (w : World), MidR B ops.size pre es Γ Ω listed I a w → (∀ d ∈ done, listed.getD d false = true) → (ops.size - fuel ≤ (listed.toList.filter id).length) → wpAny P .any ops Q fuel listed a w

theorem MidR.count {es : List (Option Ent)} {pre : List Oper} {n : Nat} {listed : Array Bool} {I : Vw} {a : Act} {w : World} (hm : MidR B n pre es Γ Ω listed I a w) : (listed.toList.filter id).length ≤ pre.length := by
  have key : ∀ (l : List Bool) (n : Nat), (∀ k, l[k]? = some true → k < n) → (l.filter id).length ≤ n := by
    intro l
    induction l with
    | nil => intro n _; simp
    | cons b l ih =>
      intro n hn
      cases n with
      | zero =>
        have hz : ∀ x ∈ b :: l, ¬ (id x = true) := fun x hx hx' => by
          obtain ⟨k, hk, e⟩ := List.getElem_of_mem hx
          have := hn k (by rw [List.getElem?_eq_getElem hk, e]; simpa using hx')
          omega
        rw [List.filter_eq_nil_iff.2 hz]; simp
      | succ n =>
        have := ih n (fun k hk => by have := hn (k + 1) (by simpa using hk); omega)
        cases b <;> simp <;> omega
  refine key _ _ fun k hk => hm.lt k ?_
  rw [Array.getElem?_toList] at hk
  simp [Array.getD_eq_getD_getElem?, hk]

/-- The next state, once the slot is put. -/
theorem MidR.next {es : List (Option Ent)} {pre : List Oper} {rd : List (List Nat)} (hD : DrawOk B ops pre rd) {listed : Array Bool} {I I' : Vw} {a : Act} {w w' : World} {v : Value} {i : Nat} {o : Oper} {e : Ent} {Ω' : List Own} (hm : MidR B ops.size pre es Γ Ω listed I a w)
    (hol : pre[i]? = some o) (he : es[i]? = some (some e)) (hnl : listed.getD i false = false) (hdl : ∀ d ∈ deps o, listed.getD d false = true) (hs : Sat B [] Ω' I' a w') (hmono : ∀ p : Pd, ∀ u, p.p I w u → p.p I' w' u) (hv : e.p.p I' w' v) :
    MidR B ops.size pre es Γ Ω' (listed.setIfInBounds i true) I' (a.put o.dst v) w' := by
  have hil : i < pre.length := (List.getElem?_eq_some_iff.1 hol).1
  have hils : i < listed.size := by rw [hm.sz]; have := hD.le; omega
  obtain ⟨rdi, _, hc⟩ := chkAll_get hD.chk i o hol
  simp only [chkOne, Bool.and_eq_true, List.all_eq_true, decide_eq_true_eq, Nat.zero_add] at hc
  obtain ⟨⟨⟨_, hc2⟩, _⟩, _⟩ := hc
  have hget' : ∀ k, (listed.setIfInBounds i true).getD k false = true → k = i ∨ (k ≠ i ∧ listed.getD k false = true) := fun k hk => by
    by_cases hki : k = i
    · exact .inl hki
    · rw [getD_set_ne false (Ne.symm hki)] at hk; exact .inr ⟨hki, hk⟩
  have hslot : ∀ k, k ≠ i → k < pre.length → ∀ s, dstOf pre k = some s → o.dst ≠ some s := fun k hki hk s hs' => by
    have := hc2 k (List.mem_range.2 (by simpa using hk))
    simp only [hs', Bool.or_eq_true, Bool.and_eq_true, beq_iff_eq, hki, false_or, bne_iff_ne] at this
    exact this.1
  have hput : ∀ s, o.dst ≠ some s → tm (a.put o.dst v) s = tm a s := fun s hs' => by
    cases hd : o.dst with
    | none => rfl
    | some d => exact tm_put_ne (fun e => hs' (by rw [hd, e]))
  refine ⟨?_, by simpa using hm.sz, ?_, ?_, ?_, ?_, ?_⟩
  · refine { hs with df := put_defers.trans hs.df, sz := put_size.trans hs.sz, g := fun s p h => by simp [lk] at h }
  · intro k hk
    rcases hget' k hk with rfl | ⟨_, hk'⟩
    · exact hil
    · exact hm.lt k hk'
  · intro k hk
    rcases hget' k hk with rfl | ⟨_, hk'⟩
    · exact ⟨e, he⟩
    · exact hm.known k hk'
  · intro k ok hok hk d hd
    rcases hget' k hk with rfl | ⟨_, hk'⟩
    · rw [hol] at hok; cases hok
      exact getD_set_true (hdl d hd)
    · exact getD_set_true (hm.closed k ok hok hk' d hd)
  · intro s p hs' hno
    have h1 := hno i (by simp [hils])
    simp only [dstOf, hol, Option.bind_some] at h1
    rw [hput s h1]
    exact hmono p _ (hm.inn s p hs' fun k hk => hno k (getD_set_true hk))
  · intro k ek d hk hek hd
    rcases hget' k hk with rfl | ⟨hki, hk'⟩
    · rw [he] at hek; cases hek
      simp only [dstOf, hol, Option.bind_some] at hd
      rw [hd, tm_put_eq (by rw [hs.sz]; exact hD.dn k d (by simp only [dstOf, hol, Option.bind_some]; exact hd))]
      exact hv
    · have hko : k < pre.length := hm.lt k hk'
      rw [hput d (hslot k hki hko d hd)]
      exact hmono _ _ (hm.out k ek d hk' hek hd)

/-- The slots that a ready operation reads hold what its entry says. -/
theorem MidR.reads {es : List (Option Ent)} {pre : List Oper} {rd : List (List Nat)} (hD : DrawOk B ops pre rd) {listed : Array Bool} {I : Vw} {a : Act} {w : World} {i : Nat} {o : Oper} {Γi : Env} (hm : MidR B ops.size pre es Γ Ω listed I a w)
    (hol : pre[i]? = some o) (hnl : listed.getD i false = false) (hdl : ∀ d ∈ deps o, listed.getD d false = true) (hsrc : SrcOk pre Γ es (deps o) Γi) {rdi : List Nat} (hrdi : rd[i]? = some rdi) (hrde : Γi.map (·.1) = rdi) : SatG I w (tm a) Γi := by
  obtain ⟨rdi', hrdi', hc⟩ := chkAll_get hD.chk i o hol
  rw [hrdi] at hrdi'; cases hrdi'
  simp only [chkOne, Bool.and_eq_true, List.all_eq_true, decide_eq_true_eq, Nat.zero_add] at hc
  obtain ⟨⟨⟨_, hc2⟩, _⟩, _⟩ := hc
  intro s p hs
  have h1 := hsrc.get hs
  cases hsr : src pre (deps o) s with
  | some k =>
    rw [hsr] at h1
    simp only at h1
    have hk1 := List.find?_some hsr
    have hk2 := List.mem_of_find?_eq_some hsr
    obtain ⟨ek, hek⟩ := hm.known k (hdl k hk2)
    simp only [entP, hek, Option.some.injEq] at h1
    rw [← h1]
    exact hm.out k ek s (hdl k hk2) hek (by simpa using hk1)
  | none =>
    rw [hsr] at h1
    refine hm.inn s p h1 fun k hk hd => ?_
    have hko : k < pre.length := hm.lt k hk
    have hki : k ≠ i := fun e' => by rw [e', hnl] at hk; simp at hk
    have h2 := hc2 k (List.mem_range.2 (by simpa using hko))
    have hsm : rdi.contains s = true := by rw [← hrde]; simpa using lk_mem hs
    simp only [hd, hsm, Bool.or_eq_true, Bool.and_eq_true, beq_iff_eq, hki, false_or, Bool.not_true, Bool.false_eq_true] at h2
    rcases h2.2 with h3 | h3
    · have := List.find?_eq_none.1 hsr k (by simpa using h3)
      exact this (by rw [hd]; simp)
    · cases hok : pre[k]? with
      | none => rw [hok] at h3; simp at h3
      | some ok =>
        rw [hok] at h3
        have := hm.closed k ok hok hk i (by simpa using h3)
        rw [hnl] at this; simp at this

/-- A guard's test, read in the midst of the region. -/
theorem MidR.wanted {es : List (Option Ent)} {pre : List Oper} {rd : List (List Nat)} (hD : DrawOk B ops pre rd) {listed : Array Bool} {I : Vw} {a : Act} {w : World} {i : Nat} {o : Oper} {e : Ent} (hm : MidR B ops.size pre es Γ Ω listed I a w)
    (hol : pre[i]? = some o) (hdl : ∀ d ∈ deps o, listed.getD d false = true) (hguard : GuardOk es o e) : Region.wanted o (yielded ops a.tmps) = e.run := by
  obtain ⟨rdi, _, hc⟩ := chkAll_get hD.chk i o hol
  simp only [chkOne, Bool.and_eq_true, List.all_eq_true, decide_eq_true_eq, Nat.zero_add] at hc
  obtain ⟨⟨_, hc3⟩, _⟩ := hc
  unfold GuardOk at hguard
  unfold Region.wanted
  cases hg : o.guard with
  | none => rw [hg] at hguard; exact hguard.symm
  | some gw =>
    obtain ⟨g, want⟩ := gw
    rw [hg] at hguard hc3
    simp only [Bool.and_eq_true] at hc3
    have hgl := hdl g (by simpa using hc3.1)
    cases hdg : dstOf pre g with
    | none => have h10 := hc3.2; rw [hdg] at h10; simp at h10
    | some d =>
      have hy : yielded ops a.tmps g = match a.tmps[d]? with | some (.bool b) => some b | _ => none := by
        unfold yielded
        unfold dstOf at hdg
        rw [hD.same g (hm.lt g hgl), hdg]
        rfl
      simp only []
      rw [hy]
      obtain ⟨eg, heg⟩ := hm.known g hgl
      have this := hm.out g eg d hgl heg hdg
      rcases hguard with ⟨c, hc', hcr⟩ | ⟨hu, hr⟩
      · simp only [entP, heg, Option.some.injEq] at hc'
        rw [hc'] at this
        have htm : tm a d = .bool c := this
        unfold tm at htm
        cases hx : a.tmps[d]? with
        | none => simp [Array.getD_eq_getD_getElem?, hx, undef] at htm
        | some v =>
          simp [Array.getD_eq_getD_getElem?, hx] at htm
          rw [htm, ← hcr]
          cases c <;> cases want <;> rfl
      · simp only [entP, heg, Option.some.injEq] at hu
        rw [hu] at this
        have htm : tm a d = undef := this
        unfold tm at htm
        rw [hr]
        cases hx : a.tmps[d]? with
        | none => rfl
        | some v =>
          simp [Array.getD_eq_getD_getElem?, hx] at htm
          rw [htm]
          rfl

theorem RD.core {pre : List Oper} {rd : List (List Nat)} (hD : DrawOk B ops pre rd) {es : List (Option Ent)} {done : List Nat} (hob : OblD P Ω pre Γ es done 0 pre es rd)
    (hN : ∀ (fuel : Nat) (listed : Array Bool) (I : Vw) (a : Act) (w : World), MidR B ops.size pre es Γ Ω listed I a w → (∀ d ∈ done, listed.getD d false = true) → ∀ (i : Nat) (o : Oper), pre[i]? = some o → es[i]? = some none → listed.getD i false = false → (∀ d ∈ deps o, listed.getD d false = true) → (ops.size - fuel ≤ ((listed.setIfInBounds i true).toList.filter id).length) → wpOp P ops Q i (wpAny P .any ops Q fuel (listed.setIfInBounds i true)) a w)
    (h : ∀ (I : Vw) (a : Act) (w : World) (listed : Array Bool), MidR B ops.size pre es Γ Ω listed I a w → (∀ k, k < pre.length → listed.getD k false = true) → wpOps P ops Q (List.range' pre.length (ops.size - pre.length)) a w) : RD P B ops Q pre Γ es done Ω := by
  obtain ⟨hlen, hget⟩ := OblD.get hob
  have hcg := chkAll_get hD.chk
  have hple := hD.le
  -- the first part is done
  have hdone : ∀ (fuel : Nat) (listed : Array Bool) (I : Vw) (a : Act) (w : World), MidR B ops.size pre es Γ Ω listed I a w → ops.size - pre.length ≤ fuel → (∀ k, k < pre.length → listed.getD k false = true) → wpAny P .any ops Q fuel listed a w := by
    intro fuel listed I a w hm hf hall
    exact wpAny_tail hD.tlt hD.tall (ops.size - pre.length) pre.length fuel listed a w (by omega) (Nat.le_refl _) hm.sz (fun j => ⟨hm.lt j, hall j⟩) hf (h I a w listed hm hall)
  intro fuel
  induction fuel with
  | zero =>
    intro listed I a w hm _ hf
    have h1 := hm.count
    refine hdone 0 listed I a w hm (by omega) fun k hk => ?_
    have hall : (listed.toList.filter id).length = listed.toList.length := by
      have h1 := List.length_filter_le id listed.toList
      have h2 := hm.sz
      simp at h2 hf h1 ⊢
      omega
    have hks : k < listed.size := by rw [hm.sz]; omega
    have := List.length_filter_eq_length_iff.1 hall listed[k] (by simp)
    simpa [hks] using this
  | succ fuel ih =>
    intro listed I a w hm hdn hf
    by_cases hallp : ∀ k, k < pre.length → listed.getD k false = true
    · have h1 := hm.count
      refine hdone _ listed I a w hm ?_ hallp
      omega
    have hrne : Region.ready .any ops listed ≠ [] := by
      intro hr
      apply hallp
      intro k
      induction k using Nat.strongRecOn with
      | _ k ihk =>
        intro hk
        cases hl : listed.getD k false with
        | true => rfl
        | false =>
          exfalso
          have hok : ops[k]? = some pre[k] := by rw [hD.same k hk]; simp
          obtain ⟨rdk, _, hc⟩ := hcg k pre[k] (by simp)
          have hmem : k ∈ Region.ready .any ops listed := by
            refine mem_ready.2 ⟨?_, pre[k], hok, fun e he hb => ?_⟩
            · have hks : k < listed.size := by rw [hm.sz]; omega
              simp [hks] at hl ⊢; exact hl
            · have hd : e.on ∈ deps pre[k] := List.mem_map.2 ⟨e, List.mem_filter.2 ⟨Array.mem_toList_iff.2 he, hb⟩, rfl⟩
              simp only [chkOne, Bool.and_eq_true, List.all_eq_true, decide_eq_true_eq] at hc
              have hlt := hc.1.1.1 e.on hd
              exact ihk e.on (by omega) (by omega)
          rw [hr] at hmem
          simp at hmem
    refine ⟨fun hr => absurd hr hrne, fun i hi => ?_⟩
    obtain ⟨h0, o, ho, hdeps⟩ := mem_ready.1 hi
    have hil0 : i < ops.size := (Array.getElem?_eq_some_iff.1 ho).1
    have hil : i < pre.length := by
      rcases Nat.lt_or_ge i pre.length with h' | h'
      · exact h'
      · exfalso
        apply hallp
        intro k hk
        obtain ⟨ed, hed, hon⟩ := List.mem_map.1 (hD.tall i o h' ho k (by omega))
        obtain ⟨hmem, hb⟩ := List.mem_filter.1 hed
        rw [← hon]
        exact hdeps ed (Array.mem_toList_iff.1 hmem) hb
    have hils : i < listed.size := by rw [hm.sz]; exact hil0
    have hol : pre[i]? = some o := by rw [← hD.same i hil]; exact ho
    have hnl : listed.getD i false = false := by simp [hils] at h0 ⊢; exact h0
    have hdl : ∀ d ∈ deps o, listed.getD d false = true := by
      intro d hd
      obtain ⟨ed, hed, rfl⟩ := List.mem_map.1 hd
      obtain ⟨hmem, hb⟩ := List.mem_filter.1 hed
      exact hdeps ed (Array.mem_toList_iff.1 hmem) hb
    have hcount : ops.size - fuel ≤ ((listed.setIfInBounds i true).toList.filter id).length := by
      have hl : listed.toList[i]? = some false := by
        rw [Array.getElem?_toList]; simp [hils] at hnl ⊢; exact hnl
      have := filter_set hl
      simp only [Array.toList_setIfInBounds]
      omega
    obtain ⟨oe, rdi, he, hrdi, hrest⟩ := hget i o hol
    cases oe with
    | none => exact hN fuel listed I a w hm hdn i o hol he hnl hdl hcount
    | some e =>
      rcases hrest e rfl with hdi | ⟨hrun, hsrc, hguard, hrde⟩
      · have := hdn i (by simpa using hdi)
        rw [hnl] at this; simp at this
      have hwr := hm.wanted hD hol hdl hguard
      unfold wpOp
      rw [ho]
      simp only []
      by_cases hw : Region.wanted o (yielded ops a.tmps) = true
      · rw [if_pos hw]
        left
        have hr : e.run = true := by rw [← hwr]; exact hw
        unfold RunOk at hrun
        rw [hr] at hrun
        have hgI := hm.reads hD hol hnl hdl hsrc hrdi hrde
        have hex := hrun _ I w (tm a) hm.base.bd hgI hm.base.o
        rw [← eval_eq] at hex
        refine hex.wp fun v w' ⟨hb, hp⟩ => ?_
        exact ih _ _ _ _ (hm.next hD hol he hnl hdl (hm.base.grow hb) (fun p u hu => p.mono gr_sub (fun b hb' => hb.block b (hm.base.bd b hb')) hu) hp) (fun d hd => getD_set_true (hdn d hd)) hcount
      · rw [if_neg hw]
        have hr : e.run = false := by rw [← hwr]; simpa using hw
        unfold RunOk at hrun
        rw [hr] at hrun
        simp only at hrun
        exact ih _ _ _ _ (hm.next hD hol he hnl hdl hm.base (fun _ _ h => h) (by rw [hrun]; rfl)) (fun d hd => getD_set_true (hdn d hd)) hcount

/-- All entries are known: the rest runs in the order of the text. -/
theorem RD.fin {pre : List Oper} {rd : List (List Nat)} (hD : DrawOk B ops pre rd) {es : List Ent} {done : List Nat} (hob : OblD P Ω pre Γ (es.map some) done 0 pre (es.map some) rd) (h : RegL P B ops (ops.toList.drop pre.length) (outE pre es Γ) Ω Q) : RD P B ops Q pre Γ (es.map some) done Ω := by
  have hlen : pre.length = es.length := by simpa using (OblD.get hob).1
  refine RD.core hD hob (fun fuel listed I a w hm _ i o hol he => ?_) (fun I a w listed hm hall => ?_)
  · rw [List.getElem?_map] at he
    cases hx : es[i]? <;> simp [hx] at he
  · have hfin : Ct B (outE pre es Γ) Ω (wpOps P ops Q (List.range' pre.length (ops.size - pre.length))) := by
      have := h pre.length rfl
      simpa using this
    refine hfin I a w { hm.base with g := fun s q hs => ?_ }
    rcases outE_lk hlen hs with ⟨k, o, e, h1, h2, h3, h4⟩ | ⟨h1, h2⟩
    · subst h4
      have hk : k < pre.length := (List.getElem?_eq_some_iff.1 h1).1
      exact hm.out k e s (hall k hk) (by rw [List.getElem?_map, h2]; rfl) (by simp only [dstOf, h1, Option.bind_some]; exact h3)
    · refine hm.inn s q h1 fun k hk hd => ?_
      unfold dstOf at hd
      cases ho : pre[k]? with
      | none => simp [ho] at hd
      | some o => rw [ho] at hd; exact h2 k o ho hd

def Ext : List (Option Ent) → List (Option Ent) → Prop
  | [], [] => True
  | some e :: r, x :: r' => x = some e ∧ Ext r r'
  | none :: r, _ :: r' => Ext r r'
  | _, _ => False
theorem Ext.get : ∀ {es es' : List (Option Ent)} {k : Nat} {e : Ent}, Ext es es' → es[k]? = some (some e) → es'[k]? = some (some e)
  | [], _, k, e, _, hk => by simp at hk
  | some e0 :: r, x :: r', 0, e, ⟨h, _⟩, hk => by simp at hk; subst hk; simp [h]
  | some e0 :: r, x :: r', k + 1, e, ⟨_, h⟩, hk => by simpa using Ext.get h (by simpa using hk)
  | none :: r, x :: r', 0, e, _, hk => by simp at hk
  | none :: r, x :: r', k + 1, e, h, hk => by
    have h : Ext r r' := h
    simpa using Ext.get h (by simpa using hk)
  | some _ :: _, [], _, _, h, _ => by simp [Ext] at h
  | none :: _, [], _, _, h, _ => by simp [Ext] at h

/-- Each operation whose entry is not known yet, but for c, waits for another such. -/
def chkWait (pre : List Oper) (mask : List Bool) (c : Nat) : Bool := (List.range pre.length).all fun i => mask.getD i true || i == c || match pre[i]? with | none => true | some o => (deps o).any fun d => !(mask.getD d true)

theorem lk_append_none {s : Nat} : ∀ {Γ Δ : Env}, lk s Γ = none → lk s (Γ ++ Δ) = lk s Δ
  | [], _, _ => rfl
  | (k, p) :: r, Δ, h => by
    by_cases hk : s = k
    · subst hk; rw [lk_cons_eq] at h; simp at h
    · rw [List.cons_append, lk_cons_ne hk]; rw [lk_cons_ne hk] at h; exact lk_append_none h
theorem lk_append_some {s : Nat} {q : Pd} : ∀ {Γ Δ : Env}, lk s Γ = some q → lk s (Γ ++ Δ) = some q
  | [], _, h => by simp [lk] at h
  | (k, p) :: r, Δ, h => by
    by_cases hk : s = k
    · subst hk; rw [List.cons_append, lk_cons_eq]; rw [lk_cons_eq] at h; exact h
    · rw [List.cons_append, lk_cons_ne hk]; rw [lk_cons_ne hk] at h; exact lk_append_some h
theorem lk_far : ∀ (Γ : Env), ∃ N, ∀ s, N ≤ s → ∀ {Δ : Env}, lk s (Γ ++ Δ) = lk s Δ
  | [] => ⟨0, fun _ _ _ => rfl⟩
  | (k, p) :: r => by
    obtain ⟨N, hN⟩ := lk_far r
    refine ⟨max N (k + 1), fun s hs Δ => ?_⟩
    rw [List.cons_append, lk_cons_ne (by omega)]
    exact hN s (by omega)
/-- The view has grown, and its blocks are as they were. -/
def pFrame (I : Vw) (w : World) : Pd := ⟨fun J w' _ => (∀ b, I b → J b) ∧ ∀ b, I b → w'.heap[b]? = w.heap[b]?, fun hJ hw ⟨h1, h2⟩ => ⟨fun b hb => hJ b (h1 b hb), fun b hb => (hw b (h1 b hb)).trans (h2 b hb)⟩⟩

/-- One operation turns what is owned; all that waits for it becomes known. -/
theorem RD.step {pre : List Oper} {rd : List (List Nat)} (hD : DrawOk B ops pre rd) {es : List (Option Ent)} {done : List Nat} {mask : List Bool} {γ : Type} {p : γ → Pd} {Ω' : γ → List Own} {es' : γ → List (Option Ent)} {Γc : Env} {o : Oper} {rdc : List Nat} (c : Nat) (hc : pre[c]? = some o) (hg : GuardOk es o ⟨Γc, pAny, true⟩)
    (hmask : es.map Option.isSome = mask) (hw : chkWait pre mask c = true) (hob : OblD P Ω pre Γ es done 0 pre es rd) (hrd : rd[c]? = some rdc) (hrdc : Γc.map (·.1) = rdc) (hsrc : SrcOk pre Γ es (deps o) Γc) (hJ : ∀ Δ : Env, OpM P B o (Γc ++ Δ) Ω p Ω')
    (hx : ∀ g, Ext es (es' g)) (hce : ∀ g, (es' g)[c]? = some (some ⟨Γc, p g, true⟩)) (hne : mask.getD c true = false) (h : ∀ g, RD P B ops Q pre Γ (es' g) (c :: done) (Ω' g)) : RD P B ops Q pre Γ es done Ω := by
  have hunk : ∀ (i : Nat), mask.getD i true = false → es[i]? = some none := by
    intro i hi
    rw [← hmask] at hi
    simp [List.getD_eq_getElem?_getD] at hi
    cases hx : es[i]? with
    | none => simp [hx] at hi
    | some oe => cases oe <;> simp [hx] at hi ⊢
  have hcl : ∀ {listed : Array Bool} {I : Vw} {a : Act} {w : World}, MidR B ops.size pre es Γ Ω listed I a w → ∀ i, mask.getD i true = false → listed.getD i false = true → False := by
    intro listed I a w hm i hi hl
    obtain ⟨e, he⟩ := hm.known i hl
    rw [hunk i hi] at he; simp at he
  refine RD.core hD hob (fun fuel listed I a w hm hdn i oi hol he hnl hdl hcount => ?_) (fun I a w listed hm hall => ?_)
  · -- the operation is c
    have hic : i = c := by
      have hil : i < pre.length := (List.getElem?_eq_some_iff.1 hol).1
      have := List.all_eq_true.1 hw i (List.mem_range.2 hil)
      have hmi : mask.getD i true = false := by rw [← hmask]; simp [List.getD_eq_getElem?_getD, he]
      rw [hmi, hol] at this
      simp only [Bool.false_or, Bool.or_eq_true, beq_iff_eq, List.any_eq_true] at this
      rcases this with h' | ⟨d, hd, hdm⟩
      · exact h'
      · exact (hcl hm d (by simpa using hdm) (hdl d hd)).elim
    subst hic
    rw [hc] at hol; cases hol
    have hil : i < pre.length := (List.getElem?_eq_some_iff.1 hc).1
    have ho : ops[i]? = some o := by rw [hD.same i hil]; exact hc
    have hgI := hm.reads hD hc hnl hdl hsrc hrd hrdc
    obtain ⟨N, hN⟩ := lk_far Γc
    have hgD : SatG I w (tm a) (Γc ++ [(N, pFrame I w)]) := by
      intro s q hs
      by_cases hk : lk s Γc = none
      · rw [lk_append_none hk] at hs
        by_cases hsN : s = N
        · subst hsN; rw [lk_cons_eq] at hs; cases hs; exact ⟨fun _ h => h, fun _ _ => rfl⟩
        · rw [lk_cons_ne hsN] at hs; simp [lk] at hs
      · cases hx : lk s Γc with
        | none => exact absurd hx hk
        | some q' => rw [lk_append_some hx] at hs; cases hs; exact hgI s q hx
    have hex := hJ [(N, pFrame I w)] I a w { hm.base with g := hgD }
    have hwr := hm.wanted hD hc hdl hg
    unfold wpOp
    rw [ho]
    simp only []
    rw [if_pos hwr]
    left
    rw [← eval_eq] at hex
    refine hex.wp fun v w' ⟨g, I', hs', hp⟩ => ?_
    have hm' : MidR B ops.size pre (es' g) Γ Ω listed I a w := ⟨hm.base, hm.sz, hm.lt, fun k hk => (hm.known k hk).imp fun e he => (hx g).get he, hm.closed, hm.inn, fun k e d hk hek hd => by
      obtain ⟨e2, he2⟩ := hm.known k hk
      have := (hx g).get he2
      rw [hek] at this
      simp only [Option.some.injEq] at this
      subst this
      exact hm.out k e d hk he2 hd⟩
    -- the view has grown, and what is said in it holds on
    obtain ⟨hI, hsame⟩ : (pFrame I w).p I' w' (tm a N) := hs'.g N _ (by rw [hN N (Nat.le_refl _)]; exact lk_cons_eq)
    exact h g fuel _ _ _ _ (hm'.next hD hc (hce g) hnl hdl { hs' with g := fun s p h => by simp [lk] at h } (fun p u hu => p.mono hI hsame hu) hp) (fun d hd => by
      rcases List.mem_cons.1 hd with rfl | hd
      · have : d < listed.size := by rw [hm.sz]; have := hD.le; omega
        simp [this]
      · exact getD_set_true (hdn d hd)) hcount
  · have hcl' : c < pre.length := (List.getElem?_eq_some_iff.1 hc).1
    exact (hcl hm c hne (hall c hcl')).elim

/-- More entries become known. -/
theorem RD.ext {pre : List Oper} {es es' : List (Option Ent)} {done : List Nat} (hx : Ext es es') (h : RD P B ops Q pre Γ es' done Ω) : RD P B ops Q pre Γ es done Ω := by
  intro fuel listed I a w hm hdn hf
  refine h fuel listed I a w ⟨hm.base, hm.sz, hm.lt, fun k hk => (hm.known k hk).imp fun e he => hx.get he, hm.closed, hm.inn, fun k e d hk hek hd => ?_⟩ hdn hf
  obtain ⟨e2, he2⟩ := hm.known k hk
  have := hx.get he2
  rw [hek] at this
  simp only [Option.some.injEq] at this
  subst this
  exact hm.out k e d hk he2 hd

/-- What a done operation waits for is done too. -/
def addOk (pre : List Oper) (done : List Nat) (k d : Nat) : Bool := done.contains k && match pre[k]? with | none => false | some o => (deps o).contains d
theorem RD.add {pre : List Oper} {es : List (Option Ent)} {done : List Nat} (k d : Nat) (hk : addOk pre done k d = true) (h : RD P B ops Q pre Γ es (d :: done) Ω) : RD P B ops Q pre Γ es done Ω := by
  intro fuel listed I a w hm hdn hf
  refine h fuel listed I a w hm (fun x hx => ?_) hf
  rcases List.mem_cons.1 hx with rfl | hx
  · unfold addOk at hk
    rw [Bool.and_eq_true] at hk
    cases ho : pre[k]? with
    | none => rw [ho] at hk; exact absurd hk.2 (by simp)
    | some o =>
      rw [ho] at hk
      exact hm.closed k o ho (hdn k (by simpa using hk.1)) x (by simpa using hk.2)
  · exact hdn x hx

/-- The slots that the region writes lie in the frame. -/
def dstIn (n : Nat) (ops : List Oper) : Bool := ops.all fun o => match o.dst with | none => true | some d => Nat.blt d n
/-- From the m-th on, each operation waits for all before it. -/
def chkTail (m : Nat) (ops : List Oper) : Bool := (List.range ops.length).all fun i => Nat.blt i m || match ops[i]? with | none => true | some o => (deps o).all (Nat.blt · i) && (List.range i).all fun j => (deps o).contains j

/-- The closed look at a drawn region as one Bool. -/
def chkDraw (n m : Nat) (ops : Array Oper) (rd : List (List Nat)) : Bool := chkAll (ops.toList.take m) 0 (ops.toList.take m) rd && dstIn n (ops.toList.take m) && chkTail m ops.toList && Nat.ble m ops.size

theorem DrawOk.mk' {n m : Nat} {rd : List (List Nat)} (hn : B.n = n) (hchk : chkDraw n m ops rd = true) : DrawOk B ops (ops.toList.take m) rd := by
  subst hn
  simp only [chkDraw, Bool.and_eq_true] at hchk
  obtain ⟨⟨⟨hc1, hc2⟩, hc3⟩, hc4⟩ := hchk
  have hmle := Nat.le_of_ble_eq_true hc4
  have hpl : (ops.toList.take m).length = m := by simp; omega
  have htail : ∀ (i : Nat) (o : Oper), (ops.toList.take m).length ≤ i → ops[i]? = some o → (∀ d ∈ deps o, d < i) ∧ ∀ j, j < i → j ∈ deps o := by
    intro i o hi ho
    have hil : i < ops.size := (Array.getElem?_eq_some_iff.1 ho).1
    have := List.all_eq_true.1 hc3 i (List.mem_range.2 (by simpa using hil))
    have hnb : Nat.blt i m = false := by
      cases hb : Nat.blt i m
      · rfl
      · have : i < m := by simpa [Nat.blt_eq] using hb
        omega
    rw [hnb, Bool.false_or, Array.getElem?_toList, ho] at this
    simp only [Bool.and_eq_true, List.all_eq_true] at this
    exact ⟨fun d hd => by have h := this.1 d hd; simpa [Nat.blt_eq] using h, fun j hj => by simpa using this.2 j (List.mem_range.2 hj)⟩
  refine ⟨fun i hi => ?_, by rw [hpl]; exact hmle, fun i o hi ho => (htail i o hi ho).1, fun i o hi ho => (htail i o hi ho).2, ?_, hc1⟩
  · rw [List.getElem?_take_of_lt (by omega), Array.getElem?_toList]
  · intro k d hd
    unfold dstOf at hd
    cases ho : (ops.toList.take m)[k]? with
    | none => simp [ho] at hd
    | some o =>
      rw [ho] at hd
      simp only [Option.bind_some] at hd
      have := List.all_eq_true.1 hc2 o (List.mem_of_getElem? ho)
      rw [hd] at this
      simpa [Nat.blt_eq] using this

/-- A region that draws: from its start, where no operation is done. -/
theorem Tr.drawD {id n m : Nat} {es : List (Option Ent)} {rd : List (List Nat)} (hn : B.n = n) (hm : P.follows .mixedOrders = true) (hchk : chkDraw n m ops rd = true)
    (h : DrawOk B ops (ops.toList.take m) rd → RD P B ops Q (ops.toList.take m) Γ es [] Ω) : Tr P B (.region id ops true) Γ Ω Q := by
  have hD := DrawOk.mk' hn hchk
  intro I a w hs
  refine wp_region_any hm ?_
  have hz : ∀ k, (Array.replicate ops.size false).getD k false = true → False := fun k hk => by
    simp [Array.getElem?_replicate] at hk
    split at hk <;> simp at hk
  have hs' : Sat B Γ Ω I a w.drew := { hs with bel := ⟨hs.bel.os, hs.bel.tape, hs.bel.output, hs.bel.size, hs.bel.block⟩, g := SatG.mono (w := w) (w' := w.drew) (fun _ h => h) (fun _ _ => rfl) hs.g, o := SatO.mono (w := w) (w' := w.drew) (fun _ h => h) (Nat.le_refl _) (fun _ _ => rfl) hs.bd (fun _ _ h => h) hs.o }
  refine h hD ops.size _ I a _ ⟨{ hs' with g := fun s p h => by simp [lk] at h }, by simp, ?_, ?_, ?_, ?_, ?_⟩ (by simp) ?_
  · intro k hk; exact (hz k hk).elim
  · intro k hk; exact (hz k hk).elim
  · intro k o _ hk; exact (hz k hk).elim
  · intro s p hq _; exact hs'.g s p hq
  · intro k e d hk; exact (hz k hk).elim
  · omega

/-- A region that draws and whose first part turns nothing that is owned. -/
theorem Tr.drawT {id n m : Nat} {es : List Ent} {rd : List (List Nat)} (hn : B.n = n) (hm : P.follows .mixedOrders = true) (hchk : chkDraw n m ops rd = true) (hob : OblD P Ω (ops.toList.take m) Γ (es.map some) [] 0 (ops.toList.take m) (es.map some) rd)
    (h : RegL P B ops (ops.toList.drop m) (outE (ops.toList.take m) es Γ) Ω Q) : Tr P B (.region id ops true) Γ Ω Q :=
  Tr.drawD hn hm hchk fun hD => RD.fin hD hob (by
    have hpl : (ops.toList.take m).length = m := by
      simp only [chkDraw, Bool.and_eq_true] at hchk
      have := Nat.le_of_ble_eq_true hchk.2
      simp; omega
    rw [hpl]; exact h)

theorem RegL.pureW {os : List Oper} {o : Oper} {p : Pd} {d : Nat} (hg : o.guard = none) (hd : o.dst = some d) (hdn : Nat.blt d B.n = true) (hJ : OpW P Ω o Γ p) (h : RegL P B ops os ((d, p) :: Γ) Ω Q) : RegL P B ops (o :: os) Γ Ω Q :=
  RegL.step (γ := Unit) hg hd hdn hJ.toM fun _ => h
theorem RegL.pureGW {os : List Oper} {o : Oper} {p : Pd} {d j s : Nat} {b c : Bool} (hg : o.guard = some (j, b)) (hgs : (ops[j]?).bind (·.dst) = some s) (hl : lk s Γ = some (pEq (.bool c))) (hc : c = b)
    (hd : o.dst = some d) (hdn : Nat.blt d B.n = true) (hJ : OpW P Ω o Γ p) (h : RegL P B ops os ((d, p) :: Γ) Ω Q) : RegL P B ops (o :: os) Γ Ω Q :=
  RegL.stepG (γ := Unit) hg hgs hl hc hd hdn hJ.toM fun _ => h
end
end Go.Wk
