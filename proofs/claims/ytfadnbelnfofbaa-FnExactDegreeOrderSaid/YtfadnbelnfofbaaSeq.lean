/-
  The library's sort of what an iterator over a row gives. The walks of AppendSeq, Collect and Sorted are turned from the worked proof GgCollectAtTheDump. No program in sight. Our own work.
-/
import Derived.Test.YtfadnbelnfofbaaSort
import Derived.Shelf.SlIterI.Sorted
namespace Go.Wk
open Go Go.RowKit Go.Maps Go.Sort Go.Shelf Go.Proofs

/-- The iterator's word to a caller that turns nothing that lay below. -/
def GivesB (F : Fence) (n : Nat) (P : Program) (g : Nat) (lb : Array Value) (xs : List Int) (w : World) : Prop :=
  ∀ (l : Nat) (J : List Int → World → Prop) (W : World), Below w.heap.size w W → (∀ s W', J s W' → Below w.heap.size w W') → AbidesFrom W.heap.size J →
    (∀ pre x W1, J pre W1 → pre.length < xs.length → YieldAt F (n - 1) P l #[.int .i64 x] W1 fun e W' => e = .returned (.bool true) ∧ J (pre ++ [x]) W' ∧ KeepsWalks W1 W') →
    J [] W →
    CallsIn F n P g (#[.func (.yield l) #[] #[]] ++ lb) W fun e W' => (∃ v, e = .returned v) ∧ J xs W'

set_option maxRecDepth 100000 in
set_option maxHeartbeats 2000000 in
/-- The iterator's elements, put behind none. -/
theorem append_b {P : Program} {ρ : Ren} (L : SlLaysZI.n11 P ρ) (n : Nat) (hn : 2 ≤ n) (g : Nat) (lb : Array Value) (eg : ∀ args w, (callFunc g args).run P w = .ok (.enter g args) w)
    (xs : List Int) (hN : xs.length ≤ maxLen) (hNb : xs.length * 8 ≤ 140737488355328) (w : World) (hseq : GivesB Fence.wide (n - 1) P g lb xs w) :
    CallsIn Fence.wide n P (ρ.f 11) #[.slice none 0 0, .func (.func g) #[] lb] w fun e w' => ∃ v, e = .returned v ∧ w'.ownsRow w.heap.size (ρ.t 26) 1 v xs.length (xs.map encZ) ∧ (v = .slice none 0 0 ↔ xs = []) ∧ Below w.heap.size w w' := by
  have h1 : 1 ≤ n := by omega
  have mixed := L.mixed; have t0 := L.t0; have a0 := L.a0; have z0 := L.z0; have v0 := L.v0; have t24 := L.t24; have a24 := L.a24; have z24 := L.z24; have v24 := L.v24; have t26 := L.t26; have a26 := L.a26; have z26 := L.z26; have v26 := L.v26; have t28 := L.t28; have a28 := L.a28; have z28 := L.z28; have v28 := L.v28
  have hne : ρ.t 24 ≠ ρ.t 26 := fun e => by have h := L.t24; rw [e, L.t26] at h; cases h
  have u0 := run_underlying L.t0; have u24 := run_underlying L.t24; have u26 := run_underlying L.t26; have u28 := run_underlying L.t28
  obtain ⟨_, _, FG⟩ := L.f11
  refine callsIn_of_wp_marks FG rfl trivial ?_ rfl
  simp only [SlBodyZ.n11_ntmps ρ, List.size_toArray, List.length_cons, List.length_nil, Nat.reduceAdd, Nat.reduceSub, Array.replicate_succ, Array.replicate_zero, List.push_toArray, List.append_toArray, List.nil_append, List.cons_append]
  gi_wp2
  refine wpIn_rangeFunc ?_
  intro fn hfn
  obtain ⟨W0, hW0⟩ : ∃ W0, w.alloc (.cells #[.slice none 0 0] (ρ.t 24)) = W0 := ⟨_, rfl⟩
  have hs0 : W0.heap.size = w.heap.size + 1 := by rw [← hW0]; simp
  have hv0 : W0.heap[w.heap.size]? = some (.cells #[.slice none 0 0] (ρ.t 24) (0, 0)) := by rw [← hW0]; exact World.alloc_heap_new w _
  have hb0 : RowKit.Below w.heap.size w W0 := by rw [← hW0]; exact (RowKit.Below.refl _ w).alloc (Nat.le_refl _) _
  rw [hW0]
  obtain ⟨W1, hW1⟩ : ∃ W1, (W0.alloc (.deferred (some []))).alloc (.loop (AnyZI.apRec ρ fn (.func (.func g) #[] lb) w.heap.size W0.heap.size .ready none)) = W1 := ⟨_, rfl⟩
  have hold : ∀ k, k < W0.heap.size → W1.heap[k]? = W0.heap[k]? := fun k hk => by
    rw [← hW1]; exact (Below.heap_alloc _ _ k (by simp; omega)).trans (Below.heap_alloc _ _ k hk)
  have hb1 : RowKit.Below w.heap.size w W1 := by rw [← hW1]; exact (hb0.alloc hb0.size _).alloc (by have := hb0.size; simp; omega) _
  have hs1 : W1.heap.size = W0.heap.size + 2 := by rw [← hW1]; simp
  have hM : AnyZI.ApAt ρ w fn (.func (.func g) #[] lb) w.heap.size (W0.heap.size + 1) W0.heap.size [] W1 :=
    ⟨⟨_, (hold w.heap.size (by omega)).trans hv0, ⟨rfl, .inl ⟨rfl, rfl⟩⟩, by simp⟩,
     by rw [← hW1]; have := World.alloc_heap_new (W0.alloc (.deferred (some []))) (.loop (AnyZI.apRec ρ fn (.func (.func g) #[] lb) w.heap.size W0.heap.size .ready none)); rwa [World.size_alloc] at this,
     by rw [← hW1]; exact (Below.heap_alloc _ _ _ (by simp)).trans (World.alloc_heap_new W0 _), hb1⟩
  refine ⟨W0.heap.size + 1, [{ target := .collected W0.heap.size, args := #[] }], W1, { target := .fn (.func g) lb, args := #[.func (.yield (W0.heap.size + 1)) #[] #[]] }, W1, g,
    #[.func (.yield (W0.heap.size + 1)) #[] #[]] ++ lb, W1, ?_, ?_, ?_, ?_, fun _ => h1, ?_⟩
  · rw [← hW1]; exact run_enterLoop_outer _ _ _ _ _
  · simp [resolve, go_sem]
  · intro f' hf'; simp [Target.leads] at hf'; subst hf'; trivial
  · simp [invoke, go_sem, eg]
  · refine (hseq (W0.heap.size + 1) (AnyZI.ApAt ρ w fn (.func (.func g) #[] lb) w.heap.size (W0.heap.size + 1) W0.heap.size) W1 hb1 (fun _ _ h => h.below) (AnyZI.ap_abides ρ _ _ _ _ _ _ _ hb1.size)
      (fun pre x W hJ hl => AnyZI.apYield { L with } Fence.wide (n - 1 - 1) w fn hfn _ w.heap.size (W0.heap.size + 1) W0.heap.size (by omega) (by omega) (by omega) (Nat.le_refl _) (by omega) xs.length hN hNb pre x W hJ hl) hM).mono ?_
    rintro e W2 ⟨⟨v0, rfl⟩, h2⟩
    obtain ⟨v, hv, hrow, hnil⟩ := h2.box
    have hend := run_endLoop (P := P) h2.L (by simp [AnyZI.apRec])
    obtain ⟨W3, hW3⟩ : ∃ W3, W2.putObj (W0.heap.size + 1) (.loop { AnyZI.apRec ρ fn (.func (.func g) #[] lb) w.heap.size W0.heap.size .ready none with state := .exhausted }) = W3 := ⟨_, rfl⟩
    rw [hW3] at hend
    have hg3 : W2.grownBy W3 (some (W0.heap.size + 1)) := by rw [← hW3]; exact grownBy_putObj_a _ _ _
    have hv3 : W3.heap[w.heap.size]? = some (.cells #[v] (ρ.t 24) (0, 0)) := by rw [← hW3]; exact (World.putObj_heap_other (by omega)).trans hv
    have hK3 : W3.heap[W0.heap.size]? = some (.deferred (some [])) := by rw [← hW3]; exact (World.putObj_heap_other (by omega)).trans h2.K
    have hrow3 := hrow.kept hg3 (ownsRow_ne_a hrow h2.L (fun cur e => by first | cases e | exact hne (Obj.cells.inj e).2.1))
    have hb3 : RowKit.Below w.heap.size w W3 := h2.below.grown hg3 h2.below.size (fun k e => by cases e; omega)
    obtain ⟨hc3, hf3⟩ := cell_of_box_a hv3
    clear hW3
    refine ⟨none, W3, hend, ?_⟩
    gi_wp2
    rw [← hs0]
    refine ⟨by simp, .inl ⟨_, _, rfl, run_takeDeferred hK3, ?_⟩⟩
    exact ⟨_, results_tmp rfl _ _ _, v, rfl, hrow3.kept (grownBy_putObj_a _ _ _) (ownsRow_ne_a hrow3 hK3 (fun cur e => by first | cases e | exact hne (Obj.cells.inj e).2.1)), hnil, hb3.grown (grownBy_putObj_a _ _ _) hb3.size (fun k e => by cases e; omega)⟩

set_option maxHeartbeats 1000000 in
theorem collect_b {P : Program} {ρ : Ren} (L : SlLaysZI.n8 P ρ) (n : Nat) (hn : 3 ≤ n) (g : Nat) (lb : Array Value) (eg : ∀ args w, (callFunc g args).run P w = .ok (.enter g args) w)
    (xs : List Int) (hN : xs.length ≤ maxLen) (hNb : xs.length * 8 ≤ 140737488355328) (w : World) (hseq : GivesB Fence.wide (n - 1 - 1) P g lb xs w) :
    CallsIn Fence.wide n P (ρ.f 8) #[.func (.func g) #[] lb] w fun e w' => ∃ v, e = .returned v ∧ w'.ownsRow w.heap.size (ρ.t 26) 1 v xs.length (xs.map encZ) ∧ (v = .slice none 0 0 ↔ xs = []) ∧ Below w.heap.size w w' := by
  have h1 : 1 ≤ n := by omega
  have h11 : Fence.wide.fn (ρ.f 11) := trivial
  have e11 : ∀ args w, (callFunc (ρ.f 11) args).run P w = .ok (.enter (ρ.f 11) args) w := L.f11.enters rfl
  have mixed := L.mixed; have t0 := L.t0; have a0 := L.a0; have z0 := L.z0; have v0 := L.v0; have t24 := L.t24; have a24 := L.a24; have z24 := L.z24; have v24 := L.v24; have t26 := L.t26; have a26 := L.a26; have z26 := L.z26; have v26 := L.v26; have t28 := L.t28; have a28 := L.a28; have z28 := L.z28; have v28 := L.v28
  have u0 := run_underlying L.t0; have u24 := run_underlying L.t24; have u26 := run_underlying L.t26; have u28 := run_underlying L.t28
  obtain ⟨_, _, FG⟩ := L.f8
  refine callsIn_of_wp FG rfl trivial ?_ rfl
  simp only [SlBodyZ.n8_ntmps ρ, List.size_toArray, List.length_cons, List.length_nil, Nat.reduceAdd, Nat.reduceSub, Array.replicate_succ, Array.replicate_zero, List.push_toArray, List.append_toArray, List.nil_append, List.cons_append]
  gi_wp2_with (gi_at_fn (ρ.f 11); refine (append_b { L with } (n - 1) (by omega) g lb eg xs hN hNb _ hseq).mono ?_; rintro e w' ⟨v, rfl, hrow, hnil, hb⟩)
  go_ret
  exact ⟨v, rfl, hrow, hnil, hb⟩

set_option maxRecDepth 100000 in
set_option maxHeartbeats 2000000 in
theorem sorted_b {P : Program} {ρ : Ren} (L : SlLaysZI.n6 P ρ) (n : Nat) (hn : 4 ≤ n) (hsort : AnyZI.SortsIn P ρ Fence.wide (n - 1)) (e9 : ∀ args w, (callFunc (ρ.f 9) args).run P w = .ok (.enter (ρ.f 9) args) w) (g : Nat) (lb : Array Value) (eg : ∀ args w, (callFunc g args).run P w = .ok (.enter g args) w)
    (xs : List Int) (hN : xs.length ≤ maxLen) (hNb : xs.length * 8 ≤ 140737488355328) (w : World) (hseq : GivesB Fence.wide (n - 1 - 1 - 1) P g lb xs w) :
    CallsIn Fence.wide n P (ρ.f 6) #[.func (.func g) #[] lb] w fun e w' => ∃ v, e = .returned v ∧ w'.ownsRow w.heap.size (ρ.t 26) 1 v xs.length ((xs.mergeSort (fun x y => decide (x ≤ y))).map encZ) ∧ Below w.heap.size w w' := by
  have h1 : 1 ≤ n := by omega
  have h8 : Fence.wide.fn (ρ.f 8) := trivial
  have h9 : Fence.wide.fn (ρ.f 9) := trivial
  have e8 : ∀ args w, (callFunc (ρ.f 8) args).run P w = .ok (.enter (ρ.f 8) args) w := L.f8.enters rfl
  have mixed := L.mixed; have t0 := L.t0; have a0 := L.a0; have z0 := L.z0; have v0 := L.v0; have t24 := L.t24; have a24 := L.a24; have z24 := L.z24; have v24 := L.v24; have t26 := L.t26; have a26 := L.a26; have z26 := L.z26; have v26 := L.v26; have t28 := L.t28; have a28 := L.a28; have z28 := L.z28; have v28 := L.v28
  have u0 := run_underlying L.t0; have u24 := run_underlying L.t24; have u26 := run_underlying L.t26; have u28 := run_underlying L.t28
  obtain ⟨_, _, FG⟩ := L.f6
  refine callsIn_of_wp FG rfl trivial ?_ rfl
  simp only [SlBodyZ.n6_ntmps ρ, List.size_toArray, List.length_cons, List.length_nil, Nat.reduceAdd, Nat.reduceSub, Array.replicate_succ, Array.replicate_zero, List.push_toArray, List.append_toArray, List.nil_append, List.cons_append]
  gi_wp2_with (gi_at_fn (ρ.f 8); refine (collect_b { L with } (n - 1) (by omega) g lb eg xs hN hNb _ hseq).mono ?_; rintro e W ⟨v, rfl, hrow, hnil, hb⟩)
  rcases hrow.2 with ⟨rfl, hz⟩ | ⟨gb, cap, cur, rfl, hbase, hgb, r1, r2, r3, r4⟩
  · have hss : xs = [] := List.eq_nil_of_length_eq_zero hz
    subst hss
    gi_wp2_with (gi_at_fn (ρ.f 9); refine (hsort.2 none 0 W).mono ?_; rintro e w' ⟨rfl, rfl⟩)
    go_ret
    exact ⟨.slice none 0 0, rfl, by simpa using hrow, hb⟩
  · have hH : Holds encZ W gb 0 xs.toArray := holds_of_block_i hgb (by simpa using r4)
    have hgl : gb < W.heap.size := (Array.getElem?_eq_some_iff.1 hgb).1
    have hsz : xs.length < 4611686018427387904 := by omega
    have cS := hsort.1 gb 0 cap xs W hH hgl hsz
    gi_wp2_with (gi_at_fn (ρ.f 9); refine cS.mono ?_; rintro e w' ⟨rfl, nn, os, rfl⟩)
    go_ret
    exact ⟨_, rfl, ownsRow_sorted_i (by simp) hbase hgb r1 r2 r3, hb.grown (grownBy_sorted_i _) hb.size (fun j hj => by cases hj; exact hbase)⟩

/-- An iterator over a row of integers, as the library makes it. -/
def pSeq (g : FuncId) (l : List Int) : Pd :=
  ⟨fun I w v => ∃ b, v = .func (.func g) #[] #[.pointer (some ⟨b, 0, none⟩)] ∧ I b ∧ Cells I w b 0 [pSl 1 (cK .i64) l],
   fun hI hw ⟨b, hv, hb, hc⟩ => ⟨b, hv, hI b hb, hc.mono hI hw (hw b hb)⟩⟩

abbrev ValsAt (P : Program) (f g : FuncId) (et : TypeId) : Prop := ∀ (o : Option Addr) (n c : Nat) (w : World), Calls P f #[.slice o n c] w fun e w' => e = .returned (.func (.func g) #[] #[.pointer (some ⟨w.heap.size, 0, none⟩)]) ∧ w' = w.alloc (.cells #[.slice o n c] et)
theorem vals_contract {P : Program} {f g : FuncId} {et : TypeId} {l r : List Int} (h1 : ValsAt P f g et) (h : (some l : Option (List Int)) = some r) : CallJ P f [pSl 1 (cK .i64) l] (pSeq g r) := by
  cases h
  intro I w args hbd hv
  match args, hv with
  | [v1], ⟨hs, _⟩ =>
    obtain ⟨o, c, rfl, hrest⟩ := hs
    refine (h1 o l.length c w).mono ?_
    rintro e w' ⟨rfl, rfl⟩
    have hb := below_alloc w (.cells #[.slice o l.length c] et)
    refine ⟨_, rfl, hb, w.heap.size, rfl, .inr ⟨Nat.le_refl _, by rw [alloc_size]; omega⟩, ⟨.slice o l.length c, ?_, ?_⟩, trivial⟩
    · simp only [World.cell?, heap_alloc_last]; rfl
    · exact Pd.mono _ (fun b hb => .inl hb) (fun b hb' => hb.block b (hbd b hb')) ⟨o, c, rfl, hrest⟩

/-- What is asked of the iterator's walk. -/
structure SeqAt (P : Program) (g : FuncId) : Prop where
  some' : ∀ (n : Nat), 1 ≤ n → ∀ (b c ob off : Nat) (l : List Int), l.length ≤ 140737488355328 → ∀ w : World, w.cell? ⟨b, 0, none⟩ = some (.slice (some ⟨ob, off, none⟩) l.length c) → b < w.heap.size → ob < w.heap.size →
    (∀ (j : Nat) (h : j < l.length), w.cell? ⟨ob, off + j, none⟩ = some (.int .i64 l[j])) → GivesB Fence.wide n P g #[.pointer (some ⟨b, 0, none⟩)] l w
  none' : ∀ (n : Nat), 1 ≤ n → ∀ (b c : Nat) (o : Option Addr) (w : World), w.cell? ⟨b, 0, none⟩ = some (.slice o 0 c) → b < w.heap.size → GivesB Fence.wide n P g #[.pointer (some ⟨b, 0, none⟩)] [] w
def sortedM (l : List Int) : Option (List Int) := if l.length * 8 ≤ 140737488355328 then some (sortL l) else none
theorem sorted_contract {P : Program} {f g : FuncId} {et : TypeId} {ρ : Ren} {l r : List Int} (L : SlLaysZI.n6 P ρ) (hf : ρ.f 6 = f) (he : ρ.t 26 = et) (hsort : ∀ m, AnyZI.SortsIn P ρ Fence.wide m) (e9 : ∀ args w, (callFunc (ρ.f 9) args).run P w = .ok (.enter (ρ.f 9) args) w) (eg : ∀ args w, (callFunc g args).run P w = .ok (.enter g args) w) (hg : SeqAt P g)
    (h : sortedM l = some r) : CallO P f [pSeq g l] (fun g : (Option Addr × Nat × Nat) => pEq (.slice g.1 g.2.1 g.2.2)) (fun g => [oSl et 1 (cK .i64) g.1 g.2.1 g.2.2 r]) := by
  unfold sortedM at h
  split at h
  case isFalse => cases h
  rename_i hb8
  cases h
  subst hf; subst he
  intro I H w args hbd hv hO
  match args, hv with
  | [v1], ⟨hs, _⟩ =>
    obtain ⟨b, rfl, hIb, ⟨vs, hc, o, c, rfl, hcap, hz, hel⟩, _⟩ := hs
    have hgives : GivesB Fence.wide 2 P g #[.pointer (some ⟨b, 0, none⟩)] l w := by
      by_cases hl : l = []
      · subst hl
        exact hg.none' 2 (by omega) b c o w hc (hbd b hIb)
      · have hpos : 0 < l.length := List.length_pos_iff.2 hl
        obtain ⟨ob, off, rfl, hob, _⟩ := hel 0 hpos
        refine hg.some' 2 (by omega) b c ob off l (by omega) w hc (hbd b hIb) (hbd ob hob) (fun j hj => ?_)
        obtain ⟨ob', off', e3, _, ⟨v, hv1, hv2⟩, _⟩ := hel j hj
        cases e3
        rw [Nat.mul_one] at hv1
        have hv2 : v = .int .i64 l[j] := hv2
        rw [hv1, hv2]
    have hC := callsIn_wide.1 (sorted_b L 5 (by omega) (hsort _) e9 g _ eg l (by unfold maxLen; omega) hb8 w hgives)
    refine hC.mono ?_
    rintro e w' ⟨v, rfl, hrow, hbel⟩
    have hsl : (sortL l).length = l.length := List.length_mergeSort _
    have hbel' : Bel H w w' := ⟨hbel.os, hbel.tape, hbel.output, hbel.size, fun b hb _ => hbel.block b hb⟩
    have fin : ∀ o' c', v = .slice o' l.length c' → (∀ a, o' = some a → w.heap.size ≤ a.block ∧ a.block < w'.heap.size) → w'.ownsRow 0 (ρ.t 26) 1 (.slice o' l.length c') l.length ((sortL l).map encZ) →
        ∃ v' g' I', Ending.returned v = .returned v' ∧ Bel H w w' ∧ (∀ b, I b → I' b) ∧ (∀ b, I' b → I b ∨ ((H b ∨ w.heap.size ≤ b) ∧ b < w'.heap.size)) ∧ ((fun g : (Option Addr × Nat × Nat) => pEq (.slice g.1 g.2.1 g.2.2)) g').p I' w' v' ∧ SatO (fun b => H b ∨ w.heap.size ≤ b) I' w' I' ((fun g : (Option Addr × Nat × Nat) => [oSl (ρ.t 26) 1 (cK .i64) g.1 g.2.1 g.2.2 (sortL l)]) g') := by
      intro o' c' hv' hblk hrow'
      refine ⟨v, (o', l.length, c'), I, rfl, hbel', fun _ h => h, fun _ h => .inl h, hv', ⟨fun b => w.heap.size ≤ b ∧ b < w'.heap.size, fun b hb => ⟨.inr hb.1, hb.2, fun hi => absurd (hbd b hi) (by omega)⟩, ⟨hsl.symm, (sortL l).map encZ, hrow', ?_, hblk⟩, trivial⟩⟩
      rw [flat_cK]
      have gen : ∀ xs : List Value, Vals I w' (xs.map pEq) xs := by
        intro xs
        induction xs with
        | nil => trivial
        | cons x xs ih => exact ⟨rfl, ih⟩
      exact gen _
    rcases hrow with ⟨hr1, ⟨rfl, h0⟩ | ⟨gb, cap, cur, rfl, hbase, hgb, r1, r2, r3, r4⟩⟩
    · refine fin none 0 (by rw [h0]) (fun a ha => by cases ha) ⟨hr1, .inl ⟨by rw [h0], h0⟩⟩
    · exact fin (some ⟨gb, 0, none⟩) cap rfl (fun a ha => by cases ha; exact ⟨hbase, (Array.getElem?_eq_some_iff.1 hgb).1⟩) ⟨hr1, .inr ⟨gb, cap, cur, rfl, Nat.zero_le _, hgb, r1, r2, r3, r4⟩⟩
end Go.Wk
