/-
  A region that draws its order, whose operations only read, compute, call and make new memory: whatever the order, each slot holds what its operation yields. No program in sight. Our own work.
-/
import Derived.Test.YtdilkjbhbglpbaaOps
namespace Go.Wk
open Go Go.RowKit

/-- What an operation of the region reads (slots and kinds), what it yields, and whether its guard lets it run. -/
structure Ent where
  Γ : Env
  p : Pd
  run : Bool

def deps (o : Oper) : List Nat := (o.after.toList.filter (Region.binds .any)).map (·.on)

def dstOf (ops : List Oper) (k : Nat) : Option Nat := (ops[k]?).bind (·.dst)

/-- The operation before i whose result i reads in slot s. -/
def src (ops : List Oper) (ds : List Nat) (s : Nat) : Option Nat := ds.find? fun k => dstOf ops k == some s

def SrcOk (ops : List Oper) (Γ0 : Env) (es : List Ent) (ds : List Nat) : Env → Prop
  | [] => True
  | (s, p) :: r => (match src ops ds s with
      | some k => (es[k]?).map (·.p) = some p
      | none => lk s Γ0 = some p) ∧ SrcOk ops Γ0 es ds r

def GuardOk (es : List Ent) (o : Oper) (e : Ent) : Prop :=
  match o.guard with
  | none => e.run = true
  | some (g, want) => (∃ c, (es[g]?).map (·.p) = some (pEq (.bool c)) ∧ (c == want) = e.run) ∨ ((es[g]?).map (·.p) = some (pEq undef) ∧ e.run = false)

/-- As OpJ, and the operation may read what is owned. -/
def OpW (P : Program) (Ω : List Own) (o : Oper) (Γ : Env) (p : Pd) : Prop :=
  ∀ (lo : Nat) (I : Vw) (w : World) (t : Nat → Value), (∀ b, I b → b < w.heap.size) → SatG I w t Γ → SatO lo I w I Ω →
    Exec P o (ev t) w fun v w' => Below w.heap.size w w' ∧ p.p (gr I w w') w' v
theorem OpJ.w {P : Program} {Ω : List Own} {o : Oper} {Γ : Env} {p : Pd} (h : OpJ P o Γ p) : OpW P Ω o Γ p := fun _ I w t hb hg _ => h I w t hb hg
theorem OpW.toM {P : Program} {B : Bs} {o : Oper} {Γ : Env} {Ω : List Own} {p : Pd} (h : OpW P Ω o Γ p) : OpM P B o Γ Ω (fun _ : Unit => p) (fun _ => Ω) :=
  fun I a w hs => (h _ I w (tm a) hs.bd hs.g hs.o).mono fun _ _ ⟨hb, hp⟩ => ⟨(), _, hs.grow hb, hp⟩

def RunOk (P : Program) (Ω : List Own) (o : Oper) (e : Ent) : Prop :=
  match e.run with
  | true => OpW P Ω o e.Γ e.p
  | false => e.p = pEq undef

def Obl (P : Program) (Ω : List Own) (ops : List Oper) (Γ0 : Env) (es : List Ent) : List Oper → List Ent → Prop
  | [], [] => True
  | o :: os, e :: es' => (RunOk P Ω o e ∧ SrcOk ops Γ0 es (deps o) e.Γ ∧ GuardOk es o e) ∧ Obl P Ω ops Γ0 es os es'
  | _, _ => False

theorem Obl.get {P : Program} {Ω : List Own} {ops : List Oper} {Γ0 : Env} {es : List Ent} : ∀ {os : List Oper} {es' : List Ent}, Obl P Ω ops Γ0 es os es' → os.length = es'.length ∧ ∀ (i : Nat) (o : Oper), os[i]? = some o → ∃ e, es'[i]? = some e ∧ RunOk P Ω o e ∧ SrcOk ops Γ0 es (deps o) e.Γ ∧ GuardOk es o e
  | [], [], _ => ⟨rfl, by simp⟩
  | o :: os, e :: es', ⟨h, hr⟩ => by
    obtain ⟨hl, hg⟩ := Obl.get hr
    refine ⟨by simp [hl], fun i o' hi => ?_⟩
    cases i with
    | zero => simp at hi; subst hi; exact ⟨e, by simp, h⟩
    | succ i => simp at hi; obtain ⟨e', he', h'⟩ := hg i o' hi; exact ⟨e', by simpa using he', h'⟩
  | [], _ :: _, h => h.elim
  | _ :: _, [], h => h.elim

/-- The closed look at the region: results in slots of their own, what is read comes from before or is not yet written, a guard comes before. rd: the slots that each operation reads. -/
def chkOne (ops : List Oper) (i : Nat) (o : Oper) (rd : List Nat) : Bool :=
  (deps o).all (· < i)
  && (List.range ops.length).all (fun k => k == i || match dstOf ops k with
      | none => true
      | some d => o.dst != some d && (!rd.contains d || (deps o).contains k || ((ops[k]?).map fun ok => (deps ok).contains i).getD false))
  && (match o.guard with | none => true | some (g, _) => (deps o).contains g && (dstOf ops g).isSome)
  && (match o.op with | .select _ _ => false | _ => true)
def chkAll (ops : List Oper) : Nat → List Oper → List (List Nat) → Bool
  | _, [], [] => true
  | i, o :: os, rd :: rs => chkOne ops i o rd && chkAll ops (i + 1) os rs
  | _, _, _ => false

theorem chkAll_get {ops : List Oper} : ∀ {os : List Oper} {rs : List (List Nat)} {j : Nat}, chkAll ops j os rs = true → ∀ (i : Nat) (o : Oper), os[i]? = some o → ∃ rd, rs[i]? = some rd ∧ chkOne ops (j + i) o rd = true
  | [], [], _, _ => by simp
  | o :: os, rd :: rs, j, h => by
    simp only [chkAll, Bool.and_eq_true] at h
    intro i o' hi
    cases i with
    | zero => simp at hi; subst hi; exact ⟨rd, by simp, h.1⟩
    | succ i =>
      simp at hi
      obtain ⟨rd', h1, h2⟩ := chkAll_get h.2 i o' hi
      exact ⟨rd', by simpa using h1, by rwa [show j + 1 + i = j + (i + 1) by omega] at h2⟩
  | [], _ :: _, _, h => by simp [chkAll] at h
  | _ :: _, [], _, h => by simp [chkAll] at h

/-- What the slots hold behind the region. -/
def outE : List Oper → List Ent → Env → Env
  | o :: os, e :: es, Γ => match o.dst with
    | some d => (d, e.p) :: outE os es Γ
    | none => outE os es Γ
  | _, _, Γ => Γ

theorem outE_lk {s : Nat} {q : Pd} {Γ : Env} : ∀ {os : List Oper} {es : List Ent}, os.length = es.length → lk s (outE os es Γ) = some q →
    (∃ (k : Nat) (o : Oper) (e : Ent), os[k]? = some o ∧ es[k]? = some e ∧ o.dst = some s ∧ e.p = q) ∨ (lk s Γ = some q ∧ ∀ (k : Nat) (o : Oper), os[k]? = some o → o.dst ≠ some s)
  | [], [], _, h => .inr ⟨h, by simp⟩
  | o :: os, e :: es, hl, h => by
    have hl' : os.length = es.length := by simpa using hl
    have step : lk s (outE os es Γ) = some q → o.dst ≠ some s → ((∃ (k : Nat) (o' : Oper) (e' : Ent), (o :: os)[k]? = some o' ∧ (e :: es)[k]? = some e' ∧ o'.dst = some s ∧ e'.p = q) ∨ (lk s Γ = some q ∧ ∀ (k : Nat) (o' : Oper), (o :: os)[k]? = some o' → o'.dst ≠ some s)) := fun h' hd => by
      rcases outE_lk hl' h' with ⟨k, o', e', h1, h2, h3, h4⟩ | ⟨h1, h2⟩
      · exact .inl ⟨k + 1, o', e', by simpa using h1, by simpa using h2, h3, h4⟩
      · refine .inr ⟨h1, fun k o' hk => ?_⟩
        cases k with
        | zero => simp at hk; subst hk; exact hd
        | succ k => exact h2 k o' (by simpa using hk)
    simp only [outE] at h
    cases hd : o.dst with
    | none => rw [hd] at h; exact step h (by rw [hd]; simp)
    | some d =>
      rw [hd] at h
      by_cases hsd : s = d
      · subst hsd
        simp only [lk_cons_eq, Option.some.injEq] at h
        exact .inl ⟨0, o, e, by simp, by simp, hd, h⟩
      · rw [lk_cons_ne hsd] at h
        exact step h (by rw [hd]; simpa using fun e => hsd e.symm)
  | [], _ :: _, hl, _ => by simp at hl
  | _ :: _, [], hl, _ => by simp at hl

theorem SrcOk.get {ops : List Oper} {Γ0 : Env} {es : List Ent} {ds : List Nat} : ∀ {Γ : Env} {s : Nat} {p : Pd}, SrcOk ops Γ0 es ds Γ → lk s Γ = some p →
    (match src ops ds s with | some k => (es[k]?).map (·.p) = some p | none => lk s Γ0 = some p)
  | [], _, _, _, h => by simp [lk] at h
  | (k, q) :: r, s, p, ⟨h1, h2⟩, h => by
    by_cases hk : s = k
    · subst hk; rw [lk_cons_eq] at h; cases h; exact h1
    · rw [lk_cons_ne hk] at h; exact SrcOk.get h2 h

theorem lk_mem {s : Nat} {p : Pd} : ∀ {Γ : Env}, lk s Γ = some p → s ∈ Γ.map (·.1)
  | [], h => by simp [lk] at h
  | (k, q) :: r, h => by
    by_cases hk : s = k
    · subst hk; simp
    · rw [lk_cons_ne hk] at h; exact List.mem_cons_of_mem _ (lk_mem h)

theorem filter_set : ∀ {l : List Bool} {i : Nat}, l[i]? = some false → ((l.set i true).filter id).length = (l.filter id).length + 1
  | [], _, hl => by simp at hl
  | b :: l, 0, hl => by simp at hl; subst hl; simp
  | b :: l, i + 1, hl => by
    have := filter_set (l := l) (i := i) (by simpa using hl)
    cases b <;> simp [this]

section
variable {P : Program} {B : Bs} {ops : Array Oper} {Γ : Env} {Ω : List Own} {Q : Exit → Act → World → Prop}

/-- The state in the midst of the region. -/
structure MidR (B : Bs) (ops : List Oper) (es : List Ent) (Γ : Env) (Ω : List Own) (listed : Array Bool) (I : Vw) (a : Act) (w : World) : Prop where
  base : Sat B [] Ω I a w
  sz : listed.size = ops.length
  closed : ∀ (k : Nat) (o : Oper), ops[k]? = some o → listed.getD k false = true → ∀ d ∈ deps o, listed.getD d false = true
  inn : ∀ s p, lk s Γ = some p → (∀ k, listed.getD k false = true → dstOf ops k ≠ some s) → p.p I w (tm a s)
  out : ∀ (k : Nat) (e : Ent) (d : Nat), listed.getD k false = true → es[k]? = some e → dstOf ops k = some d → e.p.p I w (tm a d)

theorem getD_true_lt {l : Array Bool} {k : Nat} (h : l.getD k false = true) : k < l.size := by
  rcases Nat.lt_or_ge k l.size with h' | h'
  · exact h'
  · simp [Array.getElem?_eq_none h'] at h

theorem drawn_any {es : List Ent} (hdn : ∀ (k : Nat) d, dstOf ops.toList k = some d → d < B.n) {rd : List (List Nat)} (hrd : es.map (fun e => e.Γ.map (·.1)) = rd) (hchk : chkAll ops.toList 0 ops.toList rd = true) (hob : Obl P Ω ops.toList Γ es ops.toList es)
    (h : Ct B (outE ops.toList es Γ) Ω (Q .normal)) :
    ∀ (fuel : Nat) (listed : Array Bool) (I : Vw) (a : Act) (w : World), MidR B ops.toList es Γ Ω listed I a w → (ops.size - fuel ≤ (listed.toList.filter id).length) → wpAny P .any ops Q fuel listed a w := by
  obtain ⟨hlen, hget⟩ := Obl.get hob
  have hcg := chkAll_get hchk
  -- a region with nothing ready is done
  have hdone : ∀ (listed : Array Bool) (I : Vw) (a : Act) (w : World), MidR B ops.toList es Γ Ω listed I a w → Region.ready .any ops listed = [] → Q .normal a w := by
    intro listed I a w hm hr
    have hall : ∀ k, k < ops.size → listed.getD k false = true := by
      intro k
      induction k using Nat.strongRecOn with
      | _ k ih =>
        intro hk
        cases hl : listed.getD k false with
        | true => rfl
        | false =>
          exfalso
          have hok : ops[k]? = some ops[k] := by simp [hk]
          obtain ⟨rdk, _, hc⟩ := hcg k ops[k] (by rw [Array.getElem?_toList]; exact hok)
          have hmem : k ∈ Region.ready .any ops listed := by
            refine mem_ready.2 ⟨?_, ops[k], hok, fun e he hb => ?_⟩
            · have hks : k < listed.size := by rw [hm.sz]; simpa using hk
              simp [hks] at hl ⊢; exact hl
            · have hd : e.on ∈ deps ops[k] := List.mem_map.2 ⟨e, List.mem_filter.2 ⟨Array.mem_toList_iff.2 he, hb⟩, rfl⟩
              simp only [chkOne, Bool.and_eq_true, List.all_eq_true, decide_eq_true_eq] at hc
              have hlt := hc.1.1.1 e.on hd
              exact ih e.on (by omega) (by omega)
          rw [hr] at hmem
          simp at hmem
    refine h I a w { hm.base with g := fun s q hs => ?_ }
    rcases outE_lk hlen hs with ⟨k, o, e, h1, h2, h3, h4⟩ | ⟨h1, h2⟩
    · subst h4
      have hk : k < ops.size := by
        have := (List.getElem?_eq_some_iff.1 h1).1; simpa using this
      exact hm.out k e s (hall k hk) h2 (by simp only [dstOf, h1, Option.bind_some]; exact h3)
    · refine hm.inn s q h1 fun k hk hd => ?_
      unfold dstOf at hd
      cases ho : ops.toList[k]? with
      | none => simp [ho] at hd
      | some o => rw [ho] at hd; exact h2 k o ho hd
  intro fuel
  induction fuel with
  | zero =>
    intro listed I a w hm hf
    have hall : (listed.toList.filter id).length = listed.toList.length := by
      have h1 := List.length_filter_le id listed.toList
      have h2 := hm.sz
      simp at h2 hf h1 ⊢
      omega
    have hr : Region.ready .any ops listed = [] := by
      rw [List.eq_nil_iff_forall_not_mem]
      intro i hi
      obtain ⟨h0, o, ho, _⟩ := mem_ready.1 hi
      have hi' : i < listed.size := by
        rw [hm.sz]; simp; exact (Array.getElem?_eq_some_iff.1 ho).1
      have := List.length_filter_eq_length_iff.1 hall listed[i] (by simp)
      simp [hi'] at h0
      simp [h0] at this
    exact ⟨hr, hdone listed I a w hm hr⟩
  | succ fuel ih =>
    intro listed I a w hm hf
    refine ⟨fun hr => hdone listed I a w hm hr, fun i hi => ?_⟩
    obtain ⟨h0, o, ho, hdeps⟩ := mem_ready.1 hi
    have hil : i < ops.size := (Array.getElem?_eq_some_iff.1 ho).1
    have hils : i < listed.size := by rw [hm.sz]; simpa using hil
    have hol : ops.toList[i]? = some o := by rw [Array.getElem?_toList]; exact ho
    have hnl : listed.getD i false = false := by simp [hils] at h0 ⊢; exact h0
    obtain ⟨e, he, hrun, hsrc, hguard⟩ := hget i o hol
    obtain ⟨rdi, hrdi, hc⟩ := hcg i o hol
    have hrde : rdi = e.Γ.map (·.1) := by
      rw [← hrd, List.getElem?_map, he] at hrdi; simpa using hrdi.symm
    simp only [chkOne, Bool.and_eq_true, List.all_eq_true, decide_eq_true_eq, Nat.zero_add] at hc
    obtain ⟨⟨⟨hc1, hc2⟩, hc3⟩, _⟩ := hc
    have hdl : ∀ d ∈ deps o, listed.getD d false = true := by
      intro d hd
      obtain ⟨ed, hed, rfl⟩ := List.mem_map.1 hd
      obtain ⟨hmem, hb⟩ := List.mem_filter.1 hed
      exact hdeps ed (Array.mem_toList_iff.1 hmem) hb
    -- the next state, once the slot is put
    have hnext : ∀ (I' : Vw) (a' : Act) (w' : World) (v : Value), Sat B [] Ω I' a w' → (∀ p : Pd, ∀ u, p.p I w u → p.p I' w' u) → e.p.p I' w' v → a' = a.put o.dst v →
        MidR B ops.toList es Γ Ω (listed.setIfInBounds i true) I' a' w' := by
      intro I' a' w' v hs hmono hv ha'
      subst ha'
      have hget' : ∀ k, (listed.setIfInBounds i true).getD k false = true → k = i ∨ (k ≠ i ∧ listed.getD k false = true) := fun k hk => by
        by_cases hki : k = i
        · exact .inl hki
        · rw [getD_set_ne false (Ne.symm hki)] at hk; exact .inr ⟨hki, hk⟩
      have hslot : ∀ k, k ≠ i → k < ops.size → ∀ s, dstOf ops.toList k = some s → o.dst ≠ some s := fun k hki hk s hs' => by
        have := hc2 k (List.mem_range.2 (by simpa using hk))
        simp only [hs', Bool.or_eq_true, Bool.and_eq_true, beq_iff_eq, hki, false_or, bne_iff_ne] at this
        exact this.1
      have hput : ∀ s, o.dst ≠ some s → tm (a.put o.dst v) s = tm a s := fun s hs' => by
        cases hd : o.dst with
        | none => rfl
        | some d => exact tm_put_ne (fun e => hs' (by rw [hd, e]))
      refine ⟨?_, by simpa using hm.sz, ?_, ?_, ?_⟩
      · refine { hs with df := put_defers.trans hs.df, sz := put_size.trans hs.sz, g := fun s p h => by simp [lk] at h }
      · intro k ok hok hk d hd
        rcases hget' k hk with rfl | ⟨_, hk'⟩
        · rw [hol] at hok; cases hok
          exact getD_set_true (hdl d hd)
        · exact getD_set_true (hm.closed k ok hok hk' d hd)
      · intro s p hs' hno
        have h1 := hno i (by simp [hils])
        simp only [dstOf, hol, Option.bind_some] at h1
        rw [hput s h1]
        exact hmono p _ (hm.inn s p hs' fun k hk => hno k (getD_set_true hk))
      · intro k ek d hk hek hd
        rcases hget' k hk with rfl | ⟨hki, hk'⟩
        · rw [he] at hek; cases hek
          simp only [dstOf, hol, Option.bind_some] at hd
          rw [hd, tm_put_eq (by rw [hs.sz]; exact hdn k d (by simp only [dstOf, hol, Option.bind_some]; exact hd))]
          exact hv
        · have hko : k < ops.size := by have := getD_true_lt hk'; rw [hm.sz] at this; simpa using this
          rw [hput d (hslot k hki hko d hd)]
          exact hmono _ _ (hm.out k ek d hk' hek hd)
    have hcount : ops.size - fuel ≤ ((listed.setIfInBounds i true).toList.filter id).length := by
      have hl : listed.toList[i]? = some false := by
        rw [Array.getElem?_toList]; simp [hils] at hnl ⊢; exact hnl
      have := filter_set hl
      simp only [Array.toList_setIfInBounds]
      omega
    have hwr : Region.wanted o (yielded ops a.tmps) = e.run := by
      unfold GuardOk at hguard
      unfold Region.wanted
      cases hg : o.guard with
      | none => rw [hg] at hguard; exact hguard.symm
      | some gw =>
        obtain ⟨g, want⟩ := gw
        rw [hg] at hguard hc3
        simp only [Bool.and_eq_true] at hc3
        have hgl := hdl g (by simpa using hc3.1)
        cases hdg : dstOf ops.toList g with
        | none => have h10 := hc3.2; rw [hdg] at h10; simp at h10
        | some d =>
          have hy : yielded ops a.tmps g = match a.tmps[d]? with | some (.bool b) => some b | _ => none := by
            unfold yielded
            unfold dstOf at hdg
            rw [← Array.getElem?_toList, hdg]
            rfl
          simp only []
          rw [hy]
          have hout := fun (eg : Ent) (heg : es[g]? = some eg) => hm.out g eg d hgl heg hdg
          rcases hguard with ⟨c, hc', hcr⟩ | ⟨hu, hr⟩
          · cases heg : es[g]? with
            | none => simp [heg] at hc'
            | some eg =>
              simp [heg] at hc'
              have := hout eg heg
              rw [hc'] at this
              have htm : tm a d = .bool c := this
              unfold tm at htm
              cases hx : a.tmps[d]? with
              | none => simp [Array.getD_eq_getD_getElem?, hx, undef] at htm
              | some v =>
                simp [Array.getD_eq_getD_getElem?, hx] at htm
                rw [htm, ← hcr]
                cases c <;> cases want <;> rfl
          · cases heg : es[g]? with
            | none => simp [heg] at hu
            | some eg =>
              simp [heg] at hu
              have := hout eg heg
              rw [hu] at this
              have htm : tm a d = undef := this
              unfold tm at htm
              rw [hr]
              cases hx : a.tmps[d]? with
              | none => rfl
              | some v =>
                simp [Array.getD_eq_getD_getElem?, hx] at htm
                rw [htm]
                rfl
    unfold wpOp
    rw [ho]
    simp only []
    by_cases hw : Region.wanted o (yielded ops a.tmps) = true
    · rw [if_pos hw]
      left
      have hr : e.run = true := by rw [← hwr]; exact hw
      unfold RunOk at hrun
      rw [hr] at hrun
      have hgI : SatG I w (tm a) e.Γ := by
        intro s p hs
        have h1 := hsrc.get hs
        cases hsr : src ops.toList (deps o) s with
        | some k =>
          rw [hsr] at h1
          simp only at h1
          have hk1 := List.find?_some hsr
          have hk2 := List.mem_of_find?_eq_some hsr
          cases hek : es[k]? with
          | none => simp [hek] at h1
          | some ek =>
            simp [hek] at h1
            rw [← h1]
            exact hm.out k ek s (hdl k hk2) hek (by simpa using hk1)
        | none =>
          rw [hsr] at h1
          refine hm.inn s p h1 fun k hk hd => ?_
          have hko : k < ops.size := by have := getD_true_lt hk; rw [hm.sz] at this; simpa using this
          have hki : k ≠ i := fun e' => by rw [e', hnl] at hk; simp at hk
          have h2 := hc2 k (List.mem_range.2 (by simpa using hko))
          have hsm : rdi.contains s = true := by rw [hrde]; simpa using lk_mem hs
          simp only [hd, hsm, Bool.or_eq_true, Bool.and_eq_true, beq_iff_eq, hki, false_or, Bool.not_true, Bool.false_eq_true] at h2
          rcases h2.2 with h3 | h3
          · have := List.find?_eq_none.1 hsr k (by simpa using h3)
            exact this (by rw [hd]; simp)
          · cases hok : ops.toList[k]? with
            | none => rw [hok] at h3; simp at h3
            | some ok =>
              rw [hok] at h3
              have := hm.closed k ok hok hk i (by simpa using h3)
              rw [hnl] at this; simp at this
      have hex := hrun _ I w (tm a) hm.base.bd hgI hm.base.o
      rw [← eval_eq] at hex
      refine hex.wp fun v w' ⟨hb, hp⟩ => ?_
      exact ih _ _ _ _ (hnext _ _ w' v (hm.base.grow hb) (fun p u hu => p.mono gr_sub (fun b hb' => hb.block b (hm.base.bd b hb')) hu) hp rfl) hcount
    · rw [if_neg hw]
      have hr : e.run = false := by rw [← hwr]; simpa using hw
      unfold RunOk at hrun
      rw [hr] at hrun
      simp only at hrun
      exact ih _ _ _ _ (hnext I _ w undef hm.base (fun _ _ h => h) (by rw [hrun]; rfl) rfl) hcount

/-- The slots that the region writes lie in the frame. -/
def dstIn (n : Nat) (ops : List Oper) : Bool := ops.all fun o => match o.dst with | none => true | some d => Nat.blt d n

theorem Tr.draw {id n : Nat} {es : List Ent} {rd : List (List Nat)} (hn : B.n = n) (hm : P.follows .mixedOrders = true) (hrd : es.map (fun e => e.Γ.map (·.1)) = rd) (hchk : (chkAll ops.toList 0 ops.toList rd && dstIn n ops.toList) = true) (hob : Obl P Ω ops.toList Γ es ops.toList es)
    (h : Ct B (outE ops.toList es Γ) Ω (Q .normal)) : Tr P B (.region id ops true) Γ Ω Q := by
  subst hn
  intro I a w hs
  simp only [Bool.and_eq_true] at hchk
  have hdn : ∀ (k : Nat) d, dstOf ops.toList k = some d → d < B.n := by
    intro k d hd
    unfold dstOf at hd
    cases ho : ops.toList[k]? with
    | none => simp [ho] at hd
    | some o =>
      rw [ho] at hd
      simp only [Option.bind_some] at hd
      have := List.all_eq_true.1 hchk.2 o (List.mem_of_getElem? ho)
      rw [hd] at this
      simpa [Nat.blt_eq] using this
  refine wp_region_any hm ?_
  have hz : ∀ k, (Array.replicate ops.size false).getD k false = true → False := fun k hk => by
    simp [Array.getElem?_replicate] at hk
    split at hk <;> simp at hk
  have hs' : Sat B Γ Ω I a w.drew := { hs with bel := hs.bel.drew, g := SatG.mono (w := w) (w' := w.drew) (fun _ h => h) (fun _ _ => rfl) hs.g, o := SatO.mono (w := w) (w' := w.drew) (fun _ h => h) (Nat.le_refl _) (fun _ _ => rfl) hs.bd (fun _ _ h => h) hs.o }
  refine drawn_any hdn hrd hchk.1 hob h ops.size _ I a _ ⟨{ hs' with g := fun s p h => by simp [lk] at h }, by simp, ?_, ?_, ?_⟩ ?_
  · intro k o _ hk; exact (hz k hk).elim
  · intro s p hq _; exact hs'.g s p hq
  · intro k e d hk; exact (hz k hk).elim
  · omega

theorem RegL.pureW {os : List Oper} {o : Oper} {p : Pd} {d : Nat} (hg : o.guard = none) (hd : o.dst = some d) (hdn : Nat.blt d B.n = true) (hJ : OpW P Ω o Γ p) (h : RegL P B ops os ((d, p) :: Γ) Ω Q) : RegL P B ops (o :: os) Γ Ω Q :=
  RegL.step (γ := Unit) hg hd hdn hJ.toM fun _ => h
theorem RegL.pureGW {os : List Oper} {o : Oper} {p : Pd} {d j s : Nat} {b c : Bool} (hg : o.guard = some (j, b)) (hgs : (ops[j]?).bind (·.dst) = some s) (hl : lk s Γ = some (pEq (.bool c))) (hc : c = b)
    (hd : o.dst = some d) (hdn : Nat.blt d B.n = true) (hJ : OpW P Ω o Γ p) (h : RegL P B ops os ((d, p) :: Γ) Ω Q) : RegL P B ops (o :: os) Γ Ω Q :=
  RegL.stepG (γ := Unit) hg hgs hl hc hd hdn hJ.toM fun _ => h
end
end Go.Wk
