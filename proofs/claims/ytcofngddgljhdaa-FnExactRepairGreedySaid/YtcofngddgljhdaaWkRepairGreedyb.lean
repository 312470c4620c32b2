/-
  The walks that the law FnExactRepairGreedy reaches: each function computes its model. Printed by our own program.
-/
import Derived.Test.YtcofngddgljhdaaProg
import Derived.Test.YtcofngddgljhdaaMod
import Derived.Test.YtcofngddgljhdaaMore
import Derived.KernelRfl
import Derived.Test.YtcofngddgljhdaaWkRepairGreedya
namespace Go.Proofs.Ytcofngddgljhdaa.fnExactRepairGreedyW
open Go Go.RowKit Go.Wk
set_option linter.unusedVariables false
set_option maxRecDepth 100000


theorem c_slices_ContainsFunc_int64_int64 {s_0 : (List Int)} {f_1 : (Int → Option Bool)} {r : Bool} (h : m_slices_ContainsFunc_int64_int64 s_0 f_1 = some r) : CallJ Try.prog 104 [(pSl 1 (cK .i64) s_0), (pFn Try.prog (fun x => [(pEq (.int .i64 x))]) f_1 (fun y => (pEq (.bool y))))] (pEq (.bool r)) := by
  unfold m_slices_ContainsFunc_int64_int64 at h
  refine CallJ.enterH Try.func104 rfl Try.ntmps104 rfl fun W I0 H => ?_
  refine Tr.weak (Γ' := [(0, (pSl 1 (cK .i64) s_0)), (1, (pFn Try.prog (fun x => [(pEq (.int .i64 x))]) f_1 (fun y => (pEq (.bool y)))))]) ⟨rfl, rfl, trivial⟩ ?_
  refine Tr.seq ?_
  refine Tr.region ?_
  refine RegL.pure (p := (pEq (.bool false))) rfl rfl rfl (J_assign rfl Opd.con) ?_
  refine RegL.nil ?_
  refine Ct.then_tr ?_
  refine Tr.weak (Γ' := [(0, (pSl 1 (cK .i64) s_0)), (1, (pFn Try.prog (fun x => [(pEq (.int .i64 x))]) f_1 (fun y => (pEq (.bool y)))))]) ⟨rfl, rfl, trivial⟩ ?_
  refine Tr.seq ?_
  refine Tr.region ?_
  refine RegL.pure (p := (pSl 1 (cK .i64) s_0)) rfl rfl rfl (J_move rfl (Opd.tmp rfl)) ?_
  refine RegL.pure (p := (pFn Try.prog (fun x => [(pEq (.int .i64 x))]) f_1 (fun y => (pEq (.bool y))))) rfl rfl rfl (J_move rfl (Opd.tmp rfl)) ?_
  replace h := bind_some h; obtain ⟨x1, hx1, h⟩ := h
  refine RegL.pure (p := (pEq (.int .i64 x1))) rfl rfl rfl (J_call rfl Try.call90 (c_slices_IndexFunc_int64_int64 hx1) (Opds.cons (Opd.tmp rfl) (Opds.cons (Opd.tmp rfl) Opds.nil))) ?_
  refine RegL.pure (p := (pEq (.bool (decide ((0 : Int) ≤ x1))))) rfl rfl rfl (J_bin rfl (Opd.tmp rfl) Opd.con B_geq) ?_
  refine RegL.pure (p := (pEq (.bool (decide ((0 : Int) ≤ x1))))) rfl rfl rfl (J_assign rfl (Opd.tmp rfl)) ?_
  refine RegL.nil ?_
  refine Ct.then_tr ?_
  refine Tr.weak (Γ' := [(4, (pEq (.bool (decide ((0 : Int) ≤ x1)))))]) ⟨rfl, trivial⟩ ?_
  refine Tr.ret ?_
  replace h := Option.some.inj h; subst h
  exact Ct.retH1 (Ωx := []) () rfl (RvOk.tmp rfl) rfl

theorem c_impl_allWithin {list_0 : (List Int)} {low_1 : Int} {high_2 : Int} {r : Bool} (h : m_impl_allWithin list_0 low_1 high_2 = some r) : CallJ Try.prog 89 [(pSl 1 (cK .i64) list_0), (pEq (.int .i64 low_1)), (pEq (.int .i64 high_2))] (pEq (.bool r)) := by
  unfold m_impl_allWithin at h
  refine CallJ.enterH Try.func89 rfl Try.ntmps89 rfl fun W I0 H => ?_
  refine Tr.weak (Γ' := [(0, (pSl 1 (cK .i64) list_0)), (1, (pEq (.int .i64 low_1))), (2, (pEq (.int .i64 high_2)))]) ⟨rfl, rfl, rfl, trivial⟩ ?_
  refine Tr.seq ?_
  refine Tr.region ?_
  refine RegL.pure (p := (pPtr ((cK .i64) low_1))) rfl rfl rfl (J_box rfl (Opd.tmp rfl) OneC.int) ?_
  refine RegL.pure (p := (pPtr ((cK .i64) high_2))) rfl rfl rfl (J_box rfl (Opd.tmp rfl) OneC.int) ?_
  refine RegL.pure (p := (pEq (.bool false))) rfl rfl rfl (J_assign rfl Opd.con) ?_
  refine RegL.nil ?_
  refine Ct.then_tr ?_
  refine Tr.weak (Γ' := [(0, (pSl 1 (cK .i64) list_0)), (4, (pPtr ((cK .i64) low_1))), (5, (pPtr ((cK .i64) high_2)))]) ⟨rfl, rfl, rfl, trivial⟩ ?_
  refine Tr.seq ?_
  refine Tr.region ?_
  refine RegL.pure (p := (pSl 1 (cK .i64) list_0)) rfl rfl rfl (J_move rfl (Opd.tmp rfl)) ?_
  refine RegL.pure (p := (pFn Try.prog (fun x => [(pEq (.int .i64 x))]) (fun x => m_impl_allWithin_1 x low_1 high_2) (fun y => (pEq (.bool y))))) rfl rfl rfl (J_makeFn rfl Try.call111 (Opds.cons (Opd.tmp rfl) (Opds.cons (Opd.tmp rfl) Opds.nil)) (fun _ _ h => c_impl_allWithin_1 h)) ?_
  replace h := bind_some h; obtain ⟨x1, hx1, h⟩ := h
  refine RegL.pure (p := (pEq (.bool x1))) rfl rfl rfl (J_call rfl Try.call104 (c_slices_ContainsFunc_int64_int64 hx1) (Opds.cons (Opd.tmp rfl) (Opds.cons (Opd.tmp rfl) Opds.nil))) ?_
  refine RegL.pure (p := (pEq (.bool (!x1)))) rfl rfl rfl (J_not rfl (Opd.tmp rfl)) ?_
  refine RegL.pure (p := (pEq (.bool (!x1)))) rfl rfl rfl (J_assign rfl (Opd.tmp rfl)) ?_
  refine RegL.nil ?_
  refine Ct.then_tr ?_
  refine Tr.weak (Γ' := [(6, (pEq (.bool (!x1))))]) ⟨rfl, trivial⟩ ?_
  refine Tr.ret ?_
  replace h := Option.some.inj h; subst h
  exact Ct.retH1 (Ωx := []) () rfl (RvOk.tmp rfl) rfl

theorem c_impl_domainOk {domain_0 : (List Int)} {r : Bool} (h : m_impl_domainOk domain_0 = some r) : CallJ Try.prog 115 [(pSl 1 (cK .i64) domain_0)] (pEq (.bool r)) := by
  unfold m_impl_domainOk at h
  refine CallJ.enterH Try.func115 rfl Try.ntmps115 rfl fun W I0 H => ?_
  refine Tr.weak (Γ' := [(0, (pSl 1 (cK .i64) domain_0))]) ⟨rfl, trivial⟩ ?_
  refine Tr.seq ?_
  refine Tr.region ?_
  refine RegL.pure (p := (pEq (.bool false))) rfl rfl rfl (J_assign rfl Opd.con) ?_
  refine RegL.nil ?_
  refine Ct.then_tr ?_
  refine Tr.weak (Γ' := [(0, (pSl 1 (cK .i64) domain_0))]) ⟨rfl, trivial⟩ ?_
  refine Tr.seq ?_
  replace h := bind_some h; obtain ⟨x1, hx1, h⟩ := h
  refine Tr.cut (γ := Unit) (Γm := fun g => [(2, (pEq (.bool x1)))]) (Ωm := fun g => []) ?_ (fun g7 => ?_)
  · clear h
    have h := hx1
    clear hx1
    refine Tr.region ?_
    refine RegL.pure (p := (pSl 1 (cK .i64) domain_0)) rfl rfl rfl (J_move rfl (Opd.tmp rfl)) ?_
    refine RegL.pure (p := (pEq (.int .i64 (domain_0.length : Int)))) rfl rfl rfl (J_len rfl Try.underlying25 (Opd.tmp rfl) rfl) ?_
    refine RegL.pure (p := (pEq (.bool (decide ((1 : Int) ≤ (domain_0.length : Int)))))) rfl rfl rfl (J_bin rfl (Opd.tmp rfl) Opd.con B_geq) ?_
    refine RegL.pure (p := (pEq (.bool (decide ((1 : Int) ≤ (domain_0.length : Int)))))) rfl rfl rfl (J_move rfl (Opd.tmp rfl)) ?_
    rcases Bool.eq_false_or_eq_true (decide ((1 : Int) ≤ (domain_0.length : Int))) with hc2 | hc2
    · replace h := bif_t hc2 h
      refine RegL.pureG (p := (pSl 1 (cK .i64) domain_0)) rfl rfl rfl hc2 rfl rfl (J_move rfl (Opd.tmp rfl)) ?_
      refine RegL.pureG (p := (pEq (.int .i64 (domain_0.length : Int)))) rfl rfl rfl hc2 rfl rfl (J_len rfl Try.underlying25 (Opd.tmp rfl) rfl) ?_
      refine RegL.pureG (p := (pEq (.bool (decide ((domain_0.length : Int) ≤ (32 : Int)))))) rfl rfl rfl hc2 rfl rfl (J_bin rfl (Opd.tmp rfl) Opd.con B_leq) ?_
      refine RegL.pure (p := (pEq (.bool (decide ((domain_0.length : Int) ≤ (32 : Int)))))) rfl rfl rfl (J_pick rfl (Opd.tmp rfl) (fun _ => (Opd.tmp rfl)) (fun hf => absurd (hc2.symm.trans hf) (by decide))) ?_
      refine RegL.pure (p := (pEq (.bool (decide ((domain_0.length : Int) ≤ (32 : Int)))))) rfl rfl rfl (J_move rfl (Opd.tmp rfl)) ?_
      rcases Bool.eq_false_or_eq_true (decide ((domain_0.length : Int) ≤ (32 : Int))) with hc3 | hc3
      · replace h := bif_t hc3 h
        refine RegL.pureG (p := (pSl 1 (cK .i64) domain_0)) rfl rfl rfl hc3 rfl rfl (J_move rfl (Opd.tmp rfl)) ?_
        replace h := bind_some h; obtain ⟨x4, hx4, h⟩ := h
        refine RegL.pureG (p := (pEq (.bool x4))) rfl rfl rfl hc3 rfl rfl (J_call rfl Try.call121 (c_impl_increasing hx4) (Opds.cons (Opd.tmp rfl) Opds.nil)) ?_
        refine RegL.pure (p := (pEq (.bool x4))) rfl rfl rfl (J_pick rfl (Opd.tmp rfl) (fun _ => (Opd.tmp rfl)) (fun hf => absurd (hc3.symm.trans hf) (by decide))) ?_
        refine RegL.pure (p := (pEq (.bool x4))) rfl rfl rfl (J_move rfl (Opd.tmp rfl)) ?_
        rcases Bool.eq_false_or_eq_true x4 with hc5 | hc5
        · replace h := bif_t hc5 h
          refine RegL.pureG (p := (pSl 1 (cK .i64) domain_0)) rfl rfl rfl hc5 rfl rfl (J_move rfl (Opd.tmp rfl)) ?_
          replace h := bind_some h; obtain ⟨x6, hx6, h⟩ := h
          refine RegL.pureG (p := (pEq (.bool x6))) rfl rfl rfl hc5 rfl rfl (J_call rfl Try.call89 (c_impl_allWithin hx6) (Opds.cons (Opd.tmp rfl) (Opds.cons Opd.con (Opds.cons Opd.con Opds.nil)))) ?_
          refine RegL.pure (p := (pEq (.bool x6))) rfl rfl rfl (J_pick rfl (Opd.tmp rfl) (fun _ => (Opd.tmp rfl)) (fun hf => absurd (hc5.symm.trans hf) (by decide))) ?_
          refine RegL.pure (p := (pEq (.bool x6))) rfl rfl rfl (J_assign rfl (Opd.tmp rfl)) ?_
          refine RegL.nil ?_
          replace h := Option.some.inj h; subst h
          exact Ct.mid () rfl ⟨rfl, trivial⟩
        · replace h := bif_f hc5 h
          refine RegL.skipG rfl rfl rfl hc5 rfl rfl ?_
          refine RegL.skipG rfl rfl rfl hc5 rfl rfl ?_
          refine RegL.pure (p := (pEq (.bool false))) rfl rfl rfl (J_pick rfl (Opd.tmp rfl) (fun hf => absurd (hc5.symm.trans hf) (by decide)) (fun _ => Opd.con)) ?_
          refine RegL.pure (p := (pEq (.bool false))) rfl rfl rfl (J_assign rfl (Opd.tmp rfl)) ?_
          refine RegL.nil ?_
          replace h := Option.some.inj h; subst h
          exact Ct.mid () rfl ⟨rfl, trivial⟩
      · replace h := bif_f hc3 h
        refine RegL.skipG rfl rfl rfl hc3 rfl rfl ?_
        refine RegL.skipG rfl rfl rfl hc3 rfl rfl ?_
        refine RegL.pure (p := (pEq (.bool false))) rfl rfl rfl (J_pick rfl (Opd.tmp rfl) (fun hf => absurd (hc3.symm.trans hf) (by decide)) (fun _ => Opd.con)) ?_
        refine RegL.pure (p := (pEq (.bool false))) rfl rfl rfl (J_move rfl (Opd.tmp rfl)) ?_
        refine RegL.skipG rfl rfl rfl rfl rfl rfl ?_
        refine RegL.skipG rfl rfl rfl rfl rfl rfl ?_
        refine RegL.pure (p := (pEq (.bool false))) rfl rfl rfl (J_pick rfl (Opd.tmp rfl) (fun hf => absurd hf (by decide)) (fun _ => Opd.con)) ?_
        refine RegL.pure (p := (pEq (.bool false))) rfl rfl rfl (J_assign rfl (Opd.tmp rfl)) ?_
        refine RegL.nil ?_
        replace h := Option.some.inj h; subst h
        exact Ct.mid () rfl ⟨rfl, trivial⟩
    · replace h := bif_f hc2 h
      refine RegL.skipG rfl rfl rfl hc2 rfl rfl ?_
      refine RegL.skipG rfl rfl rfl hc2 rfl rfl ?_
      refine RegL.skipG rfl rfl rfl hc2 rfl rfl ?_
      refine RegL.pure (p := (pEq (.bool false))) rfl rfl rfl (J_pick rfl (Opd.tmp rfl) (fun hf => absurd (hc2.symm.trans hf) (by decide)) (fun _ => Opd.con)) ?_
      refine RegL.pure (p := (pEq (.bool false))) rfl rfl rfl (J_move rfl (Opd.tmp rfl)) ?_
      refine RegL.skipG rfl rfl rfl rfl rfl rfl ?_
      refine RegL.skipG rfl rfl rfl rfl rfl rfl ?_
      refine RegL.pure (p := (pEq (.bool false))) rfl rfl rfl (J_pick rfl (Opd.tmp rfl) (fun hf => absurd hf (by decide)) (fun _ => Opd.con)) ?_
      refine RegL.pure (p := (pEq (.bool false))) rfl rfl rfl (J_move rfl (Opd.tmp rfl)) ?_
      refine RegL.skipG rfl rfl rfl rfl rfl rfl ?_
      refine RegL.skipG rfl rfl rfl rfl rfl rfl ?_
      refine RegL.pure (p := (pEq (.bool false))) rfl rfl rfl (J_pick rfl (Opd.tmp rfl) (fun hf => absurd hf (by decide)) (fun _ => Opd.con)) ?_
      refine RegL.pure (p := (pEq (.bool false))) rfl rfl rfl (J_assign rfl (Opd.tmp rfl)) ?_
      refine RegL.nil ?_
      replace h := Option.some.inj h; subst h
      exact Ct.mid () rfl ⟨rfl, trivial⟩
  · clear hx1
    refine Ct.then_tr ?_
    refine Tr.weak (Γ' := [(2, (pEq (.bool x1)))]) ⟨rfl, trivial⟩ ?_
    refine Tr.ret ?_
    replace h := Option.some.inj h; subst h
    exact Ct.retH1 (Ωx := []) () rfl (RvOk.tmp rfl) rfl

theorem c_impl_domainsOk_1 {d_0 : (List Int)} {r : Bool} (h : m_impl_domainsOk_1 d_0 = some r) : CallJ Try.prog 114 [(pSl 1 (cK .i64) d_0)] (pEq (.bool r)) := by
  unfold m_impl_domainsOk_1 at h
  refine CallJ.enterH Try.func114 rfl Try.ntmps114 rfl fun W I0 H => ?_
  refine Tr.weak (Γ' := [(0, (pSl 1 (cK .i64) d_0))]) ⟨rfl, trivial⟩ ?_
  refine Tr.seq ?_
  refine Tr.region ?_
  refine RegL.pure (p := (pEq (.bool false))) rfl rfl rfl (J_assign rfl Opd.con) ?_
  refine RegL.nil ?_
  refine Ct.then_tr ?_
  refine Tr.weak (Γ' := [(0, (pSl 1 (cK .i64) d_0))]) ⟨rfl, trivial⟩ ?_
  refine Tr.seq ?_
  refine Tr.region ?_
  refine RegL.pure (p := (pSl 1 (cK .i64) d_0)) rfl rfl rfl (J_move rfl (Opd.tmp rfl)) ?_
  replace h := bind_some h; obtain ⟨x1, hx1, h⟩ := h
  refine RegL.pure (p := (pEq (.bool x1))) rfl rfl rfl (J_call rfl Try.call115 (c_impl_domainOk hx1) (Opds.cons (Opd.tmp rfl) Opds.nil)) ?_
  refine RegL.pure (p := (pEq (.bool (!x1)))) rfl rfl rfl (J_not rfl (Opd.tmp rfl)) ?_
  refine RegL.pure (p := (pEq (.bool (!x1)))) rfl rfl rfl (J_assign rfl (Opd.tmp rfl)) ?_
  refine RegL.nil ?_
  refine Ct.then_tr ?_
  refine Tr.weak (Γ' := [(2, (pEq (.bool (!x1))))]) ⟨rfl, trivial⟩ ?_
  refine Tr.ret ?_
  replace h := Option.some.inj h; subst h
  exact Ct.retH1 (Ωx := []) () rfl (RvOk.tmp rfl) rfl

theorem c_impl_domainsOk {domains_0 : (List (List Int))} {r : Bool} (h : m_impl_domainsOk domains_0 = some r) : CallJ Try.prog 95 [(pSl 1 (cSl 1 (cK .i64)) domains_0)] (pEq (.bool r)) := by
  unfold m_impl_domainsOk at h
  refine CallJ.enterH Try.func95 rfl Try.ntmps95 rfl fun W I0 H => ?_
  refine Tr.weak (Γ' := [(0, (pSl 1 (cSl 1 (cK .i64)) domains_0))]) ⟨rfl, trivial⟩ ?_
  refine Tr.seq ?_
  refine Tr.region ?_
  refine RegL.pure (p := (pEq (.bool false))) rfl rfl rfl (J_assign rfl Opd.con) ?_
  refine RegL.nil ?_
  refine Ct.then_tr ?_
  refine Tr.weak (Γ' := [(0, (pSl 1 (cSl 1 (cK .i64)) domains_0))]) ⟨rfl, trivial⟩ ?_
  refine Tr.seq ?_
  replace h := bind_some h; obtain ⟨x1, hx1, h⟩ := h
  refine Tr.cut (γ := Unit) (Γm := fun g => [(2, (pEq (.bool x1)))]) (Ωm := fun g => []) ?_ (fun g5 => ?_)
  · clear h
    have h := hx1
    clear hx1
    refine Tr.region ?_
    refine RegL.pure (p := (pSl 1 (cSl 1 (cK .i64)) domains_0)) rfl rfl rfl (J_move rfl (Opd.tmp rfl)) ?_
    refine RegL.pure (p := (pEq (.int .i64 (domains_0.length : Int)))) rfl rfl rfl (J_len rfl Try.underlying22 (Opd.tmp rfl) rfl) ?_
    refine RegL.pure (p := (pEq (.bool (decide ((1 : Int) ≤ (domains_0.length : Int)))))) rfl rfl rfl (J_bin rfl (Opd.tmp rfl) Opd.con B_geq) ?_
    refine RegL.pure (p := (pEq (.bool (decide ((1 : Int) ≤ (domains_0.length : Int)))))) rfl rfl rfl (J_move rfl (Opd.tmp rfl)) ?_
    rcases Bool.eq_false_or_eq_true (decide ((1 : Int) ≤ (domains_0.length : Int))) with hc2 | hc2
    · replace h := bif_t hc2 h
      refine RegL.pureG (p := (pSl 1 (cSl 1 (cK .i64)) domains_0)) rfl rfl rfl hc2 rfl rfl (J_move rfl (Opd.tmp rfl)) ?_
      refine RegL.pureG (p := (pEq (.int .i64 (domains_0.length : Int)))) rfl rfl rfl hc2 rfl rfl (J_len rfl Try.underlying22 (Opd.tmp rfl) rfl) ?_
      refine RegL.pureG (p := (pEq (.bool (decide ((domains_0.length : Int) ≤ (24 : Int)))))) rfl rfl rfl hc2 rfl rfl (J_bin rfl (Opd.tmp rfl) Opd.con B_leq) ?_
      refine RegL.pure (p := (pEq (.bool (decide ((domains_0.length : Int) ≤ (24 : Int)))))) rfl rfl rfl (J_pick rfl (Opd.tmp rfl) (fun _ => (Opd.tmp rfl)) (fun hf => absurd (hc2.symm.trans hf) (by decide))) ?_
      refine RegL.pure (p := (pEq (.bool (decide ((domains_0.length : Int) ≤ (24 : Int)))))) rfl rfl rfl (J_move rfl (Opd.tmp rfl)) ?_
      rcases Bool.eq_false_or_eq_true (decide ((domains_0.length : Int) ≤ (24 : Int))) with hc3 | hc3
      · replace h := bif_t hc3 h
        refine RegL.pureG (p := (pSl 1 (cSl 1 (cK .i64)) domains_0)) rfl rfl rfl hc3 rfl rfl (J_move rfl (Opd.tmp rfl)) ?_
        replace h := bind_some h; obtain ⟨x4, hx4, h⟩ := h
        refine RegL.pureG (p := (pEq (.bool x4))) rfl rfl rfl hc3 rfl rfl (J_call rfl Try.call113 (c_slices_ContainsFunc_SSint64_int64 hx4) (Opds.cons (Opd.tmp rfl) (Opds.cons (Opd.fnv Try.call114 (fun _ _ h => c_impl_domainsOk_1 h)) Opds.nil))) ?_
        refine RegL.pureG (p := (pEq (.bool (!x4)))) rfl rfl rfl hc3 rfl rfl (J_not rfl (Opd.tmp rfl)) ?_
        refine RegL.pure (p := (pEq (.bool (!x4)))) rfl rfl rfl (J_pick rfl (Opd.tmp rfl) (fun _ => (Opd.tmp rfl)) (fun hf => absurd (hc3.symm.trans hf) (by decide))) ?_
        refine RegL.pure (p := (pEq (.bool (!x4)))) rfl rfl rfl (J_assign rfl (Opd.tmp rfl)) ?_
        refine RegL.nil ?_
        replace h := Option.some.inj h; subst h
        exact Ct.mid () rfl ⟨rfl, trivial⟩
      · replace h := bif_f hc3 h
        refine RegL.skipG rfl rfl rfl hc3 rfl rfl ?_
        refine RegL.skipG rfl rfl rfl hc3 rfl rfl ?_
        refine RegL.skipG rfl rfl rfl hc3 rfl rfl ?_
        refine RegL.pure (p := (pEq (.bool false))) rfl rfl rfl (J_pick rfl (Opd.tmp rfl) (fun hf => absurd (hc3.symm.trans hf) (by decide)) (fun _ => Opd.con)) ?_
        refine RegL.pure (p := (pEq (.bool false))) rfl rfl rfl (J_assign rfl (Opd.tmp rfl)) ?_
        refine RegL.nil ?_
        replace h := Option.some.inj h; subst h
        exact Ct.mid () rfl ⟨rfl, trivial⟩
    · replace h := bif_f hc2 h
      refine RegL.skipG rfl rfl rfl hc2 rfl rfl ?_
      refine RegL.skipG rfl rfl rfl hc2 rfl rfl ?_
      refine RegL.skipG rfl rfl rfl hc2 rfl rfl ?_
      refine RegL.pure (p := (pEq (.bool false))) rfl rfl rfl (J_pick rfl (Opd.tmp rfl) (fun hf => absurd (hc2.symm.trans hf) (by decide)) (fun _ => Opd.con)) ?_
      refine RegL.pure (p := (pEq (.bool false))) rfl rfl rfl (J_move rfl (Opd.tmp rfl)) ?_
      refine RegL.skipG rfl rfl rfl rfl rfl rfl ?_
      refine RegL.skipG rfl rfl rfl rfl rfl rfl ?_
      refine RegL.skipG rfl rfl rfl rfl rfl rfl ?_
      refine RegL.pure (p := (pEq (.bool false))) rfl rfl rfl (J_pick rfl (Opd.tmp rfl) (fun hf => absurd hf (by decide)) (fun _ => Opd.con)) ?_
      refine RegL.pure (p := (pEq (.bool false))) rfl rfl rfl (J_assign rfl (Opd.tmp rfl)) ?_
      refine RegL.nil ?_
      replace h := Option.some.inj h; subst h
      exact Ct.mid () rfl ⟨rfl, trivial⟩
  · clear hx1
    refine Ct.then_tr ?_
    refine Tr.weak (Γ' := [(2, (pEq (.bool x1)))]) ⟨rfl, trivial⟩ ?_
    refine Tr.ret ?_
    replace h := Option.some.inj h; subst h
    exact Ct.retH1 (Ωx := []) () rfl (RvOk.tmp rfl) rfl

theorem c_impl_ValidProblem {p_0 : GProblem} {r : Bool} (h : m_impl_ValidProblem p_0 = some r) : CallJ Try.prog 58 [(pAgg (cGProblem p_0))] (pEq (.bool r)) := by
  unfold m_impl_ValidProblem at h
  refine CallJ.enterH Try.func58 rfl Try.ntmps58 rfl fun W I0 H => ?_
  refine Tr.weak (Γ' := [(0, (pAgg (cGProblem p_0)))]) ⟨rfl, trivial⟩ ?_
  refine Tr.seq ?_
  refine Tr.region ?_
  refine RegL.pure (p := (pPtr (cGProblem p_0))) rfl rfl rfl (J_boxA rfl (Opd.tmp rfl)) ?_
  refine RegL.pure (p := (pEq (.bool false))) rfl rfl rfl (J_assign rfl Opd.con) ?_
  refine RegL.nil ?_
  refine Ct.then_tr ?_
  refine Tr.weak (Γ' := [(1, (pPtr (cGProblem p_0)))]) ⟨rfl, trivial⟩ ?_
  refine Tr.seq ?_
  refine Tr.seq ?_
  replace h := bind_some h; obtain ⟨x1, hx1, h⟩ := h
  refine Tr.cut (γ := Unit) (Γm := fun g => [(1, (pPtr (cGProblem p_0))), (18, (pEq (.bool x1)))]) (Ωm := fun g => []) ?_ (fun g4 => ?_)
  · clear h
    have h := hx1
    clear hx1
    refine Tr.region ?_
    refine RegL.pure (p := (pPtr ((cSl 1 (cSl 1 (cK .i64))) p_0.Domains))) rfl rfl rfl (J_fieldAddr rfl Try.underlying29 rfl sz22 (by decide) (Opd.tmp rfl) rfl) ?_
    refine RegL.pure (p := (pSl 1 (cSl 1 (cK .i64)) p_0.Domains)) rfl rfl rfl (J_load rfl Try.isAgg22 (Opd.tmp rfl)) ?_
    replace h := bind_some h; obtain ⟨x2, hx2, h⟩ := h
    refine RegL.pure (p := (pEq (.bool x2))) rfl rfl rfl (J_call rfl Try.call95 (c_impl_domainsOk hx2) (Opds.cons (Opd.tmp rfl) Opds.nil)) ?_
    refine RegL.pure (p := (pEq (.bool (!x2)))) rfl rfl rfl (J_not rfl (Opd.tmp rfl)) ?_
    refine RegL.pure (p := (pEq (.bool (!x2)))) rfl rfl rfl (J_move rfl (Opd.tmp rfl)) ?_
    rcases Bool.eq_false_or_eq_true (!x2) with hc3 | hc3
    · replace h := bif_t hc3 h
      refine RegL.skipG rfl rfl rfl hc3 rfl rfl ?_
      refine RegL.skipG rfl rfl rfl hc3 rfl rfl ?_
      refine RegL.skipG rfl rfl rfl hc3 rfl rfl ?_
      refine RegL.skipG rfl rfl rfl hc3 rfl rfl ?_
      refine RegL.skipG rfl rfl rfl hc3 rfl rfl ?_
      refine RegL.skipG rfl rfl rfl hc3 rfl rfl ?_
      refine RegL.skipG rfl rfl rfl hc3 rfl rfl ?_
      refine RegL.pure (p := (pEq (.bool true))) rfl rfl rfl (J_pick rfl (Opd.tmp rfl) (fun _ => Opd.con) (fun hf => absurd (hc3.symm.trans hf) (by decide))) ?_
      refine RegL.nil ?_
      replace h := Option.some.inj h; subst h
      exact Ct.mid () rfl ⟨rfl, rfl, trivial⟩
    · replace h := bif_f hc3 h
      refine RegL.pureG (p := (pPtr ((cSl 1 (cSl 1 (cK .i64))) p_0.Apart))) rfl rfl rfl hc3 rfl rfl (J_fieldAddr rfl Try.underlying29 rfl sz22 (by decide) (Opd.tmp rfl) rfl) ?_
      refine RegL.pureG (p := (pSl 1 (cSl 1 (cK .i64)) p_0.Apart)) rfl rfl rfl hc3 rfl rfl (J_load rfl Try.isAgg22 (Opd.tmp rfl)) ?_
      refine RegL.pureG (p := (pEq (.int .i64 (p_0.Apart.length : Int)))) rfl rfl rfl hc3 rfl rfl (J_len rfl Try.underlying22 (Opd.tmp rfl) rfl) ?_
      refine RegL.pureG (p := (pPtr ((cSl 1 (cSl 1 (cK .i64))) p_0.Domains))) rfl rfl rfl hc3 rfl rfl (J_fieldAddr rfl Try.underlying29 rfl sz22 (by decide) (Opd.tmp rfl) rfl) ?_
      refine RegL.pureG (p := (pSl 1 (cSl 1 (cK .i64)) p_0.Domains)) rfl rfl rfl hc3 rfl rfl (J_load rfl Try.isAgg22 (Opd.tmp rfl)) ?_
      refine RegL.pureG (p := (pEq (.int .i64 (p_0.Domains.length : Int)))) rfl rfl rfl hc3 rfl rfl (J_len rfl Try.underlying22 (Opd.tmp rfl) rfl) ?_
      refine RegL.pureG (p := (pEq (.bool ((p_0.Apart.length : Int) != (p_0.Domains.length : Int))))) rfl rfl rfl hc3 rfl rfl (J_bin rfl (Opd.tmp rfl) (Opd.tmp rfl) B_neq) ?_
      refine RegL.pure (p := (pEq (.bool ((p_0.Apart.length : Int) != (p_0.Domains.length : Int))))) rfl rfl rfl (J_pick rfl (Opd.tmp rfl) (fun hf => absurd (hc3.symm.trans hf) (by decide)) (fun _ => (Opd.tmp rfl))) ?_
      refine RegL.nil ?_
      replace h := Option.some.inj h; subst h
      exact Ct.mid () rfl ⟨rfl, rfl, trivial⟩
  · clear hx1
    refine Ct.then_tr ?_
    refine Tr.weak (Γ' := [(1, (pPtr (cGProblem p_0))), (18, (pEq (.bool x1)))]) ⟨rfl, rfl, trivial⟩ ?_
    refine Tr.cond (Opd.tmp rfl) (fun hc => ?_) (fun hc => ?_)
    · replace h := bif_t hc h
      refine Tr.seq ?_
      refine Tr.region ?_
      refine RegL.pure (p := (pEq (.bool false))) rfl rfl rfl (J_assign rfl Opd.con) ?_
      refine RegL.nil ?_
      refine Ct.then_tr ?_
      refine Tr.weak (Γ' := [(2, (pEq (.bool false)))]) ⟨rfl, trivial⟩ ?_
      refine Tr.ret ?_
      refine Ct.then_ret ?_
      replace h := Option.some.inj h; subst h
      exact Ct.retH1 (Ωx := []) () rfl (RvOk.tmp rfl) rfl
    · replace h := bif_f hc h
      refine Tr.skip ?_
      refine Ct.then_tr ?_
      refine Tr.weak (Γ' := [(1, (pPtr (cGProblem p_0)))]) ⟨rfl, trivial⟩ ?_
      refine Tr.seq ?_
      refine Tr.seq ?_
      refine Tr.region ?_
      refine RegL.pure (p := (pPtr ((cSl 1 (cSl 1 (cK .i64))) p_0.Apart))) rfl rfl rfl (J_fieldAddr rfl Try.underlying29 rfl sz22 (by decide) (Opd.tmp rfl) rfl) ?_
      refine RegL.pure (p := (pSl 1 (cSl 1 (cK .i64)) p_0.Apart)) rfl rfl rfl (J_load rfl Try.isAgg22 (Opd.tmp rfl)) ?_
      refine RegL.pure (p := (pEq (.int .i64 (p_0.Apart.length : Int)))) rfl rfl rfl (J_len rfl Try.underlying22 (Opd.tmp rfl) rfl) ?_
      refine RegL.pure (p := (pEq (.int .i64 (0 : Int)))) rfl rfl rfl (J_move rfl Opd.con) ?_
      refine RegL.nil ?_
      refine Ct.then_tr ?_
      refine Tr.weak (Γ' := [(1, (pPtr (cGProblem p_0))), (20, (pSl 1 (cSl 1 (cK .i64)) p_0.Apart)), (21, (pEq (.int .i64 (p_0.Apart.length : Int)))), (22, (pEq (.int .i64 (0 : Int))))]) ⟨rfl, rfl, rfl, rfl, trivial⟩ ?_
      refine Tr.block ?_
      refine Tr.weak (Γ' := [(1, (pPtr (cGProblem p_0))), (20, (pSl 1 (cSl 1 (cK .i64)) p_0.Apart)), (21, (pEq (.int .i64 (p_0.Apart.length : Int)))), (22, (pEq (.int .i64 (0 : Int))))]) ⟨rfl, rfl, rfl, rfl, trivial⟩ ?_
      refine Tr.loop (γ := Unit) (σ := Int) (Γσ := fun s g => [(1, (pPtr (cGProblem p_0))), (20, (pSl 1 (cSl 1 (cK .i64)) p_0.Apart)), (21, (pEq (.int .i64 (p_0.Apart.length : Int)))), (22, (pEq (.int .i64 s)))]) (Ωσ := fun s g => []) (g := ()) h ?_
      clear h
      rintro v6 g7 t h
      replace h : m_impl_ValidProblem_B5 p_0 v6 = some t := h
      unfold m_impl_ValidProblem_B5 at h
      refine Tr.weakO (Γ' := [(1, (pPtr (cGProblem p_0))), (20, (pSl 1 (cSl 1 (cK .i64)) p_0.Apart)), (21, (pEq (.int .i64 (p_0.Apart.length : Int)))), (22, (pEq (.int .i64 v6)))]) (Ω' := []) rfl ⟨rfl, rfl, rfl, rfl, trivial⟩ ?_
      refine Tr.seq ?_
      refine Tr.region ?_
      refine RegL.pure (p := (pEq (.bool (decide (v6 < (p_0.Apart.length : Int)))))) rfl rfl rfl (J_bin rfl (Opd.tmp rfl) (Opd.tmp rfl) B_lss) ?_
      refine RegL.nil ?_
      refine Ct.then_tr ?_
      refine Tr.weak (Γ' := [(1, (pPtr (cGProblem p_0))), (20, (pSl 1 (cSl 1 (cK .i64)) p_0.Apart)), (21, (pEq (.int .i64 (p_0.Apart.length : Int)))), (22, (pEq (.int .i64 v6))), (23, (pEq (.bool (decide (v6 < (p_0.Apart.length : Int))))))]) ⟨rfl, rfl, rfl, rfl, rfl, trivial⟩ ?_
      refine Tr.seq ?_
      refine Tr.cond (Opd.tmp rfl) (fun hc => ?_) (fun hc => ?_)
      · replace h := bif_t hc h
        refine Tr.skip ?_
        refine Ct.then_tr ?_
        refine Tr.weak (Γ' := [(1, (pPtr (cGProblem p_0))), (20, (pSl 1 (cSl 1 (cK .i64)) p_0.Apart)), (21, (pEq (.int .i64 (p_0.Apart.length : Int)))), (22, (pEq (.int .i64 v6)))]) ⟨rfl, rfl, rfl, rfl, trivial⟩ ?_
        refine Tr.seq ?_
        refine Tr.block ?_
        refine Tr.seq ?_
        refine Tr.region ?_
        refine RegL.pure (p := (pEq (.int .i64 v6))) rfl rfl rfl (J_move rfl (Opd.tmp rfl)) ?_
        replace h := bind_some h; obtain ⟨x8, hx8, h⟩ := h
        refine RegL.pure (p := (pPtr ((cSl 1 (cK .i64)) x8))) rfl rfl rfl (J_idx rfl Try.underlying22 sz25 (Opd.tmp rfl) (Opd.tmp rfl) hx8) ?_
        refine RegL.pure (p := (pSl 1 (cK .i64) x8)) rfl rfl rfl (J_load rfl Try.isAgg25 (Opd.tmp rfl)) ?_
        refine RegL.pure (p := (pEq (.int .i64 v6))) rfl rfl rfl (J_assign rfl (Opd.tmp rfl)) ?_
        refine RegL.pure (p := (pSl 1 (cK .i64) x8)) rfl rfl rfl (J_assign rfl (Opd.tmp rfl)) ?_
        refine RegL.nil ?_
        refine Ct.then_tr ?_
        refine Tr.weak (Γ' := [(1, (pPtr (cGProblem p_0))), (3, (pEq (.int .i64 v6))), (4, (pSl 1 (cK .i64) x8)), (20, (pSl 1 (cSl 1 (cK .i64)) p_0.Apart)), (21, (pEq (.int .i64 (p_0.Apart.length : Int)))), (22, (pEq (.int .i64 v6)))]) ⟨rfl, rfl, rfl, rfl, rfl, rfl, trivial⟩ ?_
        refine Tr.seq ?_
        refine Tr.seq ?_
        replace h := bind_some h; obtain ⟨x9, hx9, h⟩ := h
        refine Tr.cut (γ := Unit) (Γm := fun g => [(1, (pPtr (cGProblem p_0))), (3, (pEq (.int .i64 v6))), (4, (pSl 1 (cK .i64) x8)), (20, (pSl 1 (cSl 1 (cK .i64)) p_0.Apart)), (21, (pEq (.int .i64 (p_0.Apart.length : Int)))), (22, (pEq (.int .i64 v6))), (44, (pEq (.bool x9)))]) (Ωm := fun g => []) ?_ (fun g14 => ?_)
        · clear h
          have h := hx9
          clear hx9
          refine Tr.region ?_
          refine RegL.pure (p := (pSl 1 (cK .i64) x8)) rfl rfl rfl (J_move rfl (Opd.tmp rfl)) ?_
          refine RegL.pure (p := (pEq (.int .i64 (x8.length : Int)))) rfl rfl rfl (J_len rfl Try.underlying25 (Opd.tmp rfl) rfl) ?_
          refine RegL.pure (p := (pPtr ((cSl 1 (cSl 1 (cK .i64))) p_0.Domains))) rfl rfl rfl (J_fieldAddr rfl Try.underlying29 rfl sz22 (by decide) (Opd.tmp rfl) rfl) ?_
          refine RegL.pure (p := (pSl 1 (cSl 1 (cK .i64)) p_0.Domains)) rfl rfl rfl (J_load rfl Try.isAgg22 (Opd.tmp rfl)) ?_
          refine RegL.pure (p := (pEq (.int .i64 (p_0.Domains.length : Int)))) rfl rfl rfl (J_len rfl Try.underlying22 (Opd.tmp rfl) rfl) ?_
          refine RegL.pure (p := (pEq (.bool ((x8.length : Int) != (p_0.Domains.length : Int))))) rfl rfl rfl (J_bin rfl (Opd.tmp rfl) (Opd.tmp rfl) B_neq) ?_
          refine RegL.pure (p := (pEq (.bool ((x8.length : Int) != (p_0.Domains.length : Int))))) rfl rfl rfl (J_move rfl (Opd.tmp rfl)) ?_
          rcases Bool.eq_false_or_eq_true ((x8.length : Int) != (p_0.Domains.length : Int)) with hc10 | hc10
          · replace h := bif_t hc10 h
            refine RegL.skipG rfl rfl rfl hc10 rfl rfl ?_
            refine RegL.skipG rfl rfl rfl hc10 rfl rfl ?_
            refine RegL.skipG rfl rfl rfl hc10 rfl rfl ?_
            refine RegL.pure (p := (pEq (.bool true))) rfl rfl rfl (J_pick rfl (Opd.tmp rfl) (fun _ => Opd.con) (fun hf => absurd (hc10.symm.trans hf) (by decide))) ?_
            refine RegL.pure (p := (pEq (.bool true))) rfl rfl rfl (J_move rfl (Opd.tmp rfl)) ?_
            refine RegL.skipG rfl rfl rfl rfl rfl rfl ?_
            refine RegL.skipG rfl rfl rfl rfl rfl rfl ?_
            refine RegL.skipG rfl rfl rfl rfl rfl rfl ?_
            refine RegL.skipG rfl rfl rfl rfl rfl rfl ?_
            refine RegL.skipG rfl rfl rfl rfl rfl rfl ?_
            refine RegL.pure (p := (pEq (.bool true))) rfl rfl rfl (J_pick rfl (Opd.tmp rfl) (fun _ => Opd.con) (fun hf => absurd hf (by decide))) ?_
            refine RegL.nil ?_
            replace h := Option.some.inj h; subst h
            exact Ct.mid () rfl ⟨rfl, rfl, rfl, rfl, rfl, rfl, rfl, trivial⟩
          · replace h := bif_f hc10 h
            refine RegL.pureG (p := (pSl 1 (cK .i64) x8)) rfl rfl rfl hc10 rfl rfl (J_move rfl (Opd.tmp rfl)) ?_
            replace h := bind_some h; obtain ⟨x11, hx11, h⟩ := h
            refine RegL.pureG (p := (pEq (.bool x11))) rfl rfl rfl hc10 rfl rfl (J_call rfl Try.call89 (c_impl_allWithin hx11) (Opds.cons (Opd.tmp rfl) (Opds.cons Opd.con (Opds.cons Opd.con Opds.nil)))) ?_
            refine RegL.pureG (p := (pEq (.bool (!x11)))) rfl rfl rfl hc10 rfl rfl (J_not rfl (Opd.tmp rfl)) ?_
            refine RegL.pure (p := (pEq (.bool (!x11)))) rfl rfl rfl (J_pick rfl (Opd.tmp rfl) (fun hf => absurd (hc10.symm.trans hf) (by decide)) (fun _ => (Opd.tmp rfl))) ?_
            refine RegL.pure (p := (pEq (.bool (!x11)))) rfl rfl rfl (J_move rfl (Opd.tmp rfl)) ?_
            rcases Bool.eq_false_or_eq_true (!x11) with hc12 | hc12
            · replace h := bif_t hc12 h
              refine RegL.skipG rfl rfl rfl hc12 rfl rfl ?_
              refine RegL.skipG rfl rfl rfl hc12 rfl rfl ?_
              refine RegL.skipG rfl rfl rfl hc12 rfl rfl ?_
              refine RegL.skipG rfl rfl rfl hc12 rfl rfl ?_
              refine RegL.skipG rfl rfl rfl hc12 rfl rfl ?_
              refine RegL.pure (p := (pEq (.bool true))) rfl rfl rfl (J_pick rfl (Opd.tmp rfl) (fun _ => Opd.con) (fun hf => absurd (hc12.symm.trans hf) (by decide))) ?_
              refine RegL.nil ?_
              replace h := Option.some.inj h; subst h
              exact Ct.mid () rfl ⟨rfl, rfl, rfl, rfl, rfl, rfl, rfl, trivial⟩
            · replace h := bif_f hc12 h
              refine RegL.pureG (p := (pSl 1 (cK .i64) x8)) rfl rfl rfl hc12 rfl rfl (J_move rfl (Opd.tmp rfl)) ?_
              refine RegL.pureG (p := (pEq (.int .i64 v6))) rfl rfl rfl hc12 rfl rfl (J_move rfl (Opd.tmp rfl)) ?_
              replace h := bind_some h; obtain ⟨x13, hx13, h⟩ := h
              refine RegL.pureG (p := (pPtr ((cK .i64) x13))) rfl rfl rfl hc12 rfl rfl (J_idx rfl Try.underlying25 sz2 (Opd.tmp rfl) (Opd.tmp rfl) hx13) ?_
              refine RegL.pureG (p := (pEq (.int .i64 x13))) rfl rfl rfl hc12 rfl rfl (J_load rfl Try.isAgg2 (Opd.tmp rfl)) ?_
              refine RegL.pureG (p := (pEq (.bool (x13 != (0 : Int))))) rfl rfl rfl hc12 rfl rfl (J_bin rfl (Opd.tmp rfl) Opd.con B_neq) ?_
              refine RegL.pure (p := (pEq (.bool (x13 != (0 : Int))))) rfl rfl rfl (J_pick rfl (Opd.tmp rfl) (fun hf => absurd (hc12.symm.trans hf) (by decide)) (fun _ => (Opd.tmp rfl))) ?_
              refine RegL.nil ?_
              replace h := Option.some.inj h; subst h
              exact Ct.mid () rfl ⟨rfl, rfl, rfl, rfl, rfl, rfl, rfl, trivial⟩
        · clear hx9
          refine Ct.then_tr ?_
          refine Tr.weak (Γ' := [(1, (pPtr (cGProblem p_0))), (3, (pEq (.int .i64 v6))), (4, (pSl 1 (cK .i64) x8)), (20, (pSl 1 (cSl 1 (cK .i64)) p_0.Apart)), (21, (pEq (.int .i64 (p_0.Apart.length : Int)))), (22, (pEq (.int .i64 v6))), (44, (pEq (.bool x9)))]) ⟨rfl, rfl, rfl, rfl, rfl, rfl, rfl, trivial⟩ ?_
          refine Tr.cond (Opd.tmp rfl) (fun hc => ?_) (fun hc => ?_)
          · replace h := bif_t hc h
            refine Tr.seq ?_
            refine Tr.region ?_
            refine RegL.pure (p := (pEq (.bool false))) rfl rfl rfl (J_assign rfl Opd.con) ?_
            refine RegL.nil ?_
            refine Ct.then_tr ?_
            refine Tr.weak (Γ' := [(2, (pEq (.bool false)))]) ⟨rfl, trivial⟩ ?_
            refine Tr.ret ?_
            refine Ct.then_ret ?_
            refine Ct.blk_ret ?_
            refine Ct.then_ret ?_
            replace h := map_some h; obtain ⟨r1, h, rfl⟩ := h
            refine Ct.out_ret fun e => ?_
            subst e
            refine Ct.blk_ret ?_
            refine Ct.then_ret ?_
            replace h := Option.some.inj h; subst h
            exact Ct.retH1 (Ωx := []) () rfl (RvOk.tmp rfl) rfl
          · replace h := bif_f hc h
            refine Tr.skip ?_
            refine Ct.then_tr ?_
            refine Tr.weak (Γ' := [(1, (pPtr (cGProblem p_0))), (3, (pEq (.int .i64 v6))), (4, (pSl 1 (cK .i64) x8)), (20, (pSl 1 (cSl 1 (cK .i64)) p_0.Apart)), (21, (pEq (.int .i64 (p_0.Apart.length : Int)))), (22, (pEq (.int .i64 v6)))]) ⟨rfl, rfl, rfl, rfl, rfl, rfl, trivial⟩ ?_
            refine Tr.seq ?_
            refine Tr.region ?_
            refine RegL.pure (p := (pEq (.int .i64 v6))) rfl rfl rfl (J_move rfl (Opd.tmp rfl)) ?_
            refine RegL.pure (p := (pEq (.int .i64 (0 : Int)))) rfl rfl rfl (J_move rfl Opd.con) ?_
            refine RegL.nil ?_
            refine Ct.then_tr ?_
            refine Tr.weak (Γ' := [(1, (pPtr (cGProblem p_0))), (3, (pEq (.int .i64 v6))), (4, (pSl 1 (cK .i64) x8)), (20, (pSl 1 (cSl 1 (cK .i64)) p_0.Apart)), (21, (pEq (.int .i64 (p_0.Apart.length : Int)))), (22, (pEq (.int .i64 v6))), (45, (pEq (.int .i64 v6))), (46, (pEq (.int .i64 (0 : Int))))]) ⟨rfl, rfl, rfl, rfl, rfl, rfl, rfl, rfl, trivial⟩ ?_
            refine Tr.block ?_
            refine Tr.weak (Γ' := [(1, (pPtr (cGProblem p_0))), (3, (pEq (.int .i64 v6))), (4, (pSl 1 (cK .i64) x8)), (20, (pSl 1 (cSl 1 (cK .i64)) p_0.Apart)), (21, (pEq (.int .i64 (p_0.Apart.length : Int)))), (22, (pEq (.int .i64 v6))), (45, (pEq (.int .i64 v6))), (46, (pEq (.int .i64 (0 : Int))))]) ⟨rfl, rfl, rfl, rfl, rfl, rfl, rfl, rfl, trivial⟩ ?_
            refine Tr.loop (γ := Unit) (σ := Int) (Γσ := fun s g => [(1, (pPtr (cGProblem p_0))), (3, (pEq (.int .i64 v6))), (4, (pSl 1 (cK .i64) x8)), (20, (pSl 1 (cSl 1 (cK .i64)) p_0.Apart)), (21, (pEq (.int .i64 (p_0.Apart.length : Int)))), (22, (pEq (.int .i64 v6))), (45, (pEq (.int .i64 v6))), (46, (pEq (.int .i64 s)))]) (Ωσ := fun s g => []) (g := ()) h ?_
            clear h
            rintro v16 g17 t h
            replace h : m_impl_ValidProblem_B15 p_0 v6 x8 v16 = some t := h
            unfold m_impl_ValidProblem_B15 at h
            refine Tr.weakO (Γ' := [(1, (pPtr (cGProblem p_0))), (3, (pEq (.int .i64 v6))), (4, (pSl 1 (cK .i64) x8)), (20, (pSl 1 (cSl 1 (cK .i64)) p_0.Apart)), (21, (pEq (.int .i64 (p_0.Apart.length : Int)))), (22, (pEq (.int .i64 v6))), (45, (pEq (.int .i64 v6))), (46, (pEq (.int .i64 v16)))]) (Ω' := []) rfl ⟨rfl, rfl, rfl, rfl, rfl, rfl, rfl, rfl, trivial⟩ ?_
            refine Tr.seq ?_
            refine Tr.region ?_
            refine RegL.pure (p := (pEq (.bool (decide (v16 < v6))))) rfl rfl rfl (J_bin rfl (Opd.tmp rfl) (Opd.tmp rfl) B_lss) ?_
            refine RegL.nil ?_
            refine Ct.then_tr ?_
            refine Tr.weak (Γ' := [(1, (pPtr (cGProblem p_0))), (3, (pEq (.int .i64 v6))), (4, (pSl 1 (cK .i64) x8)), (20, (pSl 1 (cSl 1 (cK .i64)) p_0.Apart)), (21, (pEq (.int .i64 (p_0.Apart.length : Int)))), (22, (pEq (.int .i64 v6))), (45, (pEq (.int .i64 v6))), (46, (pEq (.int .i64 v16))), (47, (pEq (.bool (decide (v16 < v6)))))]) ⟨rfl, rfl, rfl, rfl, rfl, rfl, rfl, rfl, rfl, trivial⟩ ?_
            refine Tr.seq ?_
            refine Tr.cond (Opd.tmp rfl) (fun hc => ?_) (fun hc => ?_)
            · replace h := bif_t hc h
              refine Tr.skip ?_
              refine Ct.then_tr ?_
              refine Tr.weak (Γ' := [(1, (pPtr (cGProblem p_0))), (3, (pEq (.int .i64 v6))), (4, (pSl 1 (cK .i64) x8)), (20, (pSl 1 (cSl 1 (cK .i64)) p_0.Apart)), (21, (pEq (.int .i64 (p_0.Apart.length : Int)))), (22, (pEq (.int .i64 v6))), (45, (pEq (.int .i64 v6))), (46, (pEq (.int .i64 v16)))]) ⟨rfl, rfl, rfl, rfl, rfl, rfl, rfl, rfl, trivial⟩ ?_
              refine Tr.seq ?_
              refine Tr.block ?_
              refine Tr.seq ?_
              refine Tr.region ?_
              refine RegL.pure (p := (pEq (.int .i64 v16))) rfl rfl rfl (J_move rfl (Opd.tmp rfl)) ?_
              refine RegL.pure (p := (pEq (.int .i64 v16))) rfl rfl rfl (J_assign rfl (Opd.tmp rfl)) ?_
              refine RegL.nil ?_
              refine Ct.then_tr ?_
              refine Tr.weak (Γ' := [(1, (pPtr (cGProblem p_0))), (3, (pEq (.int .i64 v6))), (4, (pSl 1 (cK .i64) x8)), (5, (pEq (.int .i64 v16))), (20, (pSl 1 (cSl 1 (cK .i64)) p_0.Apart)), (21, (pEq (.int .i64 (p_0.Apart.length : Int)))), (22, (pEq (.int .i64 v6))), (45, (pEq (.int .i64 v6))), (46, (pEq (.int .i64 v16)))]) ⟨rfl, rfl, rfl, rfl, rfl, rfl, rfl, rfl, rfl, trivial⟩ ?_
              refine Tr.seq ?_
              replace h := bind_some h; obtain ⟨x18, hx18, h⟩ := h
              replace h := bind_some h; obtain ⟨x19, hx19, h⟩ := h
              replace h := bind_some h; obtain ⟨x20, hx20, h⟩ := h
              refine Tr.drawD (n := 64) (m := 13) (es := [some (Ent.mk [(4, (pSl 1 (cK .i64) x8))] (pSl 1 (cK .i64) x8) true), some (Ent.mk [(5, (pEq (.int .i64 v16)))] (pEq (.int .i64 v16)) true), some (Ent.mk [(49, (pSl 1 (cK .i64) x8)), (50, (pEq (.int .i64 v16)))] (pPtr ((cK .i64) x18)) true), some (Ent.mk [(51, (pPtr ((cK .i64) x18)))] (pEq (.int .i64 x18)) true), some (Ent.mk [(1, (pPtr (cGProblem p_0)))] (pPtr ((cSl 1 (cSl 1 (cK .i64))) p_0.Apart)) true), some (Ent.mk [(53, (pPtr ((cSl 1 (cSl 1 (cK .i64))) p_0.Apart)))] (pSl 1 (cSl 1 (cK .i64)) p_0.Apart) true), some (Ent.mk [(5, (pEq (.int .i64 v16)))] (pEq (.int .i64 v16)) true), some (Ent.mk [(54, (pSl 1 (cSl 1 (cK .i64)) p_0.Apart)), (55, (pEq (.int .i64 v16)))] (pPtr ((cSl 1 (cK .i64)) x19)) true), some (Ent.mk [(56, (pPtr ((cSl 1 (cK .i64)) x19)))] (pSl 1 (cK .i64) x19) true), some (Ent.mk [(3, (pEq (.int .i64 v6)))] (pEq (.int .i64 v6)) true), some (Ent.mk [(57, (pSl 1 (cK .i64) x19)), (58, (pEq (.int .i64 v6)))] (pPtr ((cK .i64) x20)) true), some (Ent.mk [(59, (pPtr ((cK .i64) x20)))] (pEq (.int .i64 x20)) true), some (Ent.mk [(52, (pEq (.int .i64 x18))), (60, (pEq (.int .i64 x20)))] (pEq (.bool (x18 != x20))) true)]) (rd := [[4], [5], [49, 50], [51], [1], [53], [5], [54, 55], [56], [3], [57, 58], [59], [52, 60]]) rfl hmix (by kernel_rfl) fun hD => ?_
              refine RD.fin (es := [Ent.mk [(4, (pSl 1 (cK .i64) x8))] (pSl 1 (cK .i64) x8) true, Ent.mk [(5, (pEq (.int .i64 v16)))] (pEq (.int .i64 v16)) true, Ent.mk [(49, (pSl 1 (cK .i64) x8)), (50, (pEq (.int .i64 v16)))] (pPtr ((cK .i64) x18)) true, Ent.mk [(51, (pPtr ((cK .i64) x18)))] (pEq (.int .i64 x18)) true, Ent.mk [(1, (pPtr (cGProblem p_0)))] (pPtr ((cSl 1 (cSl 1 (cK .i64))) p_0.Apart)) true, Ent.mk [(53, (pPtr ((cSl 1 (cSl 1 (cK .i64))) p_0.Apart)))] (pSl 1 (cSl 1 (cK .i64)) p_0.Apart) true, Ent.mk [(5, (pEq (.int .i64 v16)))] (pEq (.int .i64 v16)) true, Ent.mk [(54, (pSl 1 (cSl 1 (cK .i64)) p_0.Apart)), (55, (pEq (.int .i64 v16)))] (pPtr ((cSl 1 (cK .i64)) x19)) true, Ent.mk [(56, (pPtr ((cSl 1 (cK .i64)) x19)))] (pSl 1 (cK .i64) x19) true, Ent.mk [(3, (pEq (.int .i64 v6)))] (pEq (.int .i64 v6)) true, Ent.mk [(57, (pSl 1 (cK .i64) x19)), (58, (pEq (.int .i64 v6)))] (pPtr ((cK .i64) x20)) true, Ent.mk [(59, (pPtr ((cK .i64) x20)))] (pEq (.int .i64 x20)) true, Ent.mk [(52, (pEq (.int .i64 x18))), (60, (pEq (.int .i64 x20)))] (pEq (.bool (x18 != x20))) true]) (done := []) hD ⟨.inr ⟨(OpJ.w (J_move rfl (Opd.tmp rfl))), ⟨rfl, trivial⟩, rfl, rfl⟩, ⟨.inr ⟨(OpJ.w (J_move rfl (Opd.tmp rfl))), ⟨rfl, trivial⟩, rfl, rfl⟩, ⟨.inr ⟨(OpJ.w (J_idx rfl Try.underlying25 sz2 (Opd.tmp rfl) (Opd.tmp rfl) hx18)), ⟨rfl, rfl, trivial⟩, rfl, rfl⟩, ⟨.inr ⟨(OpJ.w (J_load rfl Try.isAgg2 (Opd.tmp rfl))), ⟨rfl, trivial⟩, rfl, rfl⟩, ⟨.inr ⟨(OpJ.w (J_fieldAddr rfl Try.underlying29 rfl sz22 (by decide) (Opd.tmp rfl) rfl)), ⟨rfl, trivial⟩, rfl, rfl⟩, ⟨.inr ⟨(OpJ.w (J_load rfl Try.isAgg22 (Opd.tmp rfl))), ⟨rfl, trivial⟩, rfl, rfl⟩, ⟨.inr ⟨(OpJ.w (J_move rfl (Opd.tmp rfl))), ⟨rfl, trivial⟩, rfl, rfl⟩, ⟨.inr ⟨(OpJ.w (J_idx rfl Try.underlying22 sz25 (Opd.tmp rfl) (Opd.tmp rfl) hx19)), ⟨rfl, rfl, trivial⟩, rfl, rfl⟩, ⟨.inr ⟨(OpJ.w (J_load rfl Try.isAgg25 (Opd.tmp rfl))), ⟨rfl, trivial⟩, rfl, rfl⟩, ⟨.inr ⟨(OpJ.w (J_move rfl (Opd.tmp rfl))), ⟨rfl, trivial⟩, rfl, rfl⟩, ⟨.inr ⟨(OpJ.w (J_idx rfl Try.underlying25 sz2 (Opd.tmp rfl) (Opd.tmp rfl) hx20)), ⟨rfl, rfl, trivial⟩, rfl, rfl⟩, ⟨.inr ⟨(OpJ.w (J_load rfl Try.isAgg2 (Opd.tmp rfl))), ⟨rfl, trivial⟩, rfl, rfl⟩, ⟨.inr ⟨(OpJ.w (J_bin rfl (Opd.tmp rfl) (Opd.tmp rfl) B_neq)), ⟨rfl, rfl, trivial⟩, rfl, rfl⟩, trivial⟩⟩⟩⟩⟩⟩⟩⟩⟩⟩⟩⟩⟩ ?_
              refine RegL.nil ?_
              refine Ct.then_tr ?_
              refine Tr.weak (Γ' := [(1, (pPtr (cGProblem p_0))), (3, (pEq (.int .i64 v6))), (4, (pSl 1 (cK .i64) x8)), (20, (pSl 1 (cSl 1 (cK .i64)) p_0.Apart)), (21, (pEq (.int .i64 (p_0.Apart.length : Int)))), (22, (pEq (.int .i64 v6))), (45, (pEq (.int .i64 v6))), (46, (pEq (.int .i64 v16))), (61, (pEq (.bool (x18 != x20))))]) ⟨rfl, rfl, rfl, rfl, rfl, rfl, rfl, rfl, rfl, trivial⟩ ?_
              refine Tr.cond (Opd.tmp rfl) (fun hc => ?_) (fun hc => ?_)
              · replace h := bif_t hc h
                refine Tr.seq ?_
                refine Tr.region ?_
                refine RegL.pure (p := (pEq (.bool false))) rfl rfl rfl (J_assign rfl Opd.con) ?_
                refine RegL.nil ?_
                refine Ct.then_tr ?_
                refine Tr.weak (Γ' := [(2, (pEq (.bool false)))]) ⟨rfl, trivial⟩ ?_
                refine Tr.ret ?_
                refine Ct.blk_ret ?_
                refine Ct.then_ret ?_
                replace h := map_some h; obtain ⟨r1, h, rfl⟩ := h
                refine Ct.out_ret fun e => ?_
                subst e
                refine Ct.blk_ret ?_
                refine Ct.blk_ret ?_
                refine Ct.then_ret ?_
                replace h := map_some h; obtain ⟨r1, h, rfl⟩ := h
                refine Ct.out_ret fun e => ?_
                subst e
                refine Ct.blk_ret ?_
                refine Ct.then_ret ?_
                replace h := Option.some.inj h; subst h
                exact Ct.retH1 (Ωx := []) () rfl (RvOk.tmp rfl) rfl
              · replace h := bif_f hc h
                refine Tr.skip ?_
                refine Ct.blk_normal ?_
                refine Ct.then_tr ?_
                refine Tr.weak (Γ' := [(1, (pPtr (cGProblem p_0))), (3, (pEq (.int .i64 v6))), (4, (pSl 1 (cK .i64) x8)), (20, (pSl 1 (cSl 1 (cK .i64)) p_0.Apart)), (21, (pEq (.int .i64 (p_0.Apart.length : Int)))), (22, (pEq (.int .i64 v6))), (45, (pEq (.int .i64 v6))), (46, (pEq (.int .i64 v16)))]) ⟨rfl, rfl, rfl, rfl, rfl, rfl, rfl, rfl, trivial⟩ ?_
                refine Tr.region ?_
                refine RegL.pure (p := (pEq (.int .i64 (w64 (v16 + (1 : Int)))))) rfl rfl rfl (J_bin rfl (Opd.tmp rfl) Opd.con B_add) ?_
                refine RegL.pure (p := (pEq (.int .i64 (w64 (v16 + (1 : Int)))))) rfl rfl rfl (J_move rfl (Opd.tmp rfl)) ?_
                refine RegL.nil ?_
                replace h := Option.some.inj h; subst h
                exact Ct.again () rfl ⟨rfl, rfl, rfl, rfl, rfl, rfl, rfl, rfl, trivial⟩
            · replace h := bif_f hc h
              refine Tr.exit ?_
              refine Ct.then_exit ?_
              replace h := map_some h; obtain ⟨r1, h, rfl⟩ := h
              refine Ct.out_exit fun e => ?_
              subst e
              refine Ct.blk_exit ?_
              refine Ct.blk_normal ?_
              refine Ct.then_tr ?_
              refine Tr.weak (Γ' := [(1, (pPtr (cGProblem p_0))), (20, (pSl 1 (cSl 1 (cK .i64)) p_0.Apart)), (21, (pEq (.int .i64 (p_0.Apart.length : Int)))), (22, (pEq (.int .i64 v6)))]) ⟨rfl, rfl, rfl, rfl, trivial⟩ ?_
              refine Tr.region ?_
              refine RegL.pure (p := (pEq (.int .i64 (w64 (v6 + (1 : Int)))))) rfl rfl rfl (J_bin rfl (Opd.tmp rfl) Opd.con B_add) ?_
              refine RegL.pure (p := (pEq (.int .i64 (w64 (v6 + (1 : Int)))))) rfl rfl rfl (J_move rfl (Opd.tmp rfl)) ?_
              refine RegL.nil ?_
              replace h := Option.some.inj h; subst h
              exact Ct.again () rfl ⟨rfl, rfl, rfl, rfl, trivial⟩
      · replace h := bif_f hc h
        refine Tr.exit ?_
        refine Ct.then_exit ?_
        replace h := map_some h; obtain ⟨r1, h, rfl⟩ := h
        refine Ct.out_exit fun e => ?_
        subst e
        refine Ct.blk_exit ?_
        refine Ct.then_tr ?_
        refine Tr.weak (Γ' := []) trivial ?_
        refine Tr.seq ?_
        refine Tr.region ?_
        refine RegL.pure (p := (pEq (.bool true))) rfl rfl rfl (J_assign rfl Opd.con) ?_
        refine RegL.nil ?_
        refine Ct.then_tr ?_
        refine Tr.weak (Γ' := [(2, (pEq (.bool true)))]) ⟨rfl, trivial⟩ ?_
        refine Tr.ret ?_
        replace h := Option.some.inj h; subst h
        exact Ct.retH1 (Ωx := []) () rfl (RvOk.tmp rfl) rfl

theorem c_impl_stateCode {p_0 : GProblem} {list_1 : (List Int)} {items_2 : (List Int)} {r : Int} (h : m_impl_stateCode p_0 list_1 items_2 = some r) : CallJ Try.prog 42 [(pAgg (cGProblem p_0)), (pSl 1 (cK .i64) list_1), (pSl 1 (cK .i64) items_2)] (pEq (.int .i64 r)) := by
  unfold m_impl_stateCode at h
  refine CallJ.enterH Try.func42 rfl Try.ntmps42 rfl fun W I0 H => ?_
  refine Tr.weak (Γ' := [(0, (pAgg (cGProblem p_0))), (1, (pSl 1 (cK .i64) list_1)), (2, (pSl 1 (cK .i64) items_2))]) ⟨rfl, rfl, rfl, trivial⟩ ?_
  refine Tr.seq ?_
  refine Tr.region ?_
  refine RegL.pure (p := (pPtr (cGProblem p_0))) rfl rfl rfl (J_boxA rfl (Opd.tmp rfl)) ?_
  refine RegL.pure (p := (pEq (.int .i64 (0 : Int)))) rfl rfl rfl (J_assign rfl Opd.con) ?_
  refine RegL.nil ?_
  refine Ct.then_tr ?_
  refine Tr.weak (Γ' := [(1, (pSl 1 (cK .i64) list_1)), (2, (pSl 1 (cK .i64) items_2)), (3, (pPtr (cGProblem p_0)))]) ⟨rfl, rfl, rfl, trivial⟩ ?_
  refine Tr.seq ?_
  refine Tr.block ?_
  refine Tr.seq ?_
  refine Tr.region ?_
  refine RegL.pure (p := (pAgg (cGProblem p_0))) rfl rfl rfl (J_loadA rfl Try.isAgg29 sz29 (Opd.tmp rfl) rfl) ?_
  replace h := bind_some h; obtain ⟨x1, hx1, h⟩ := h
  refine RegL.pure (p := (pEq (.bool x1))) rfl rfl rfl (J_call rfl Try.call58 (c_impl_ValidProblem hx1) (Opds.cons (Opd.tmp rfl) Opds.nil)) ?_
  refine RegL.pure (p := (pEq (.bool (!x1)))) rfl rfl rfl (J_not rfl (Opd.tmp rfl)) ?_
  refine RegL.pure (p := (pEq (.bool (!x1)))) rfl rfl rfl (J_assign rfl (Opd.tmp rfl)) ?_
  refine RegL.nil ?_
  refine Ct.then_tr ?_
  refine Tr.weak (Γ' := [(1, (pSl 1 (cK .i64) list_1)), (2, (pSl 1 (cK .i64) items_2)), (3, (pPtr (cGProblem p_0))), (7, (pEq (.bool (!x1))))]) ⟨rfl, rfl, rfl, rfl, trivial⟩ ?_
  refine Tr.cond (Opd.tmp rfl) (fun hc => ?_) (fun hc => ?_)
  · replace h := bif_t hc h
    refine Tr.seq ?_
    refine Tr.region ?_
    refine RegL.pure (p := (pEq (.int .i64 (1 : Int)))) rfl rfl rfl (J_assign rfl Opd.con) ?_
    refine RegL.nil ?_
    refine Ct.then_tr ?_
    refine Tr.weak (Γ' := [(6, (pEq (.int .i64 (1 : Int))))]) ⟨rfl, trivial⟩ ?_
    refine Tr.ret ?_
    refine Ct.blk_ret ?_
    refine Ct.then_ret ?_
    replace h := Option.some.inj h; subst h
    exact Ct.retH1 (Ωx := []) () rfl (RvOk.tmp rfl) rfl
  · replace h := bif_f hc h
    refine Tr.seq ?_
    replace h := bind_some h; obtain ⟨x2, hx2, h⟩ := h
    refine Tr.cut (γ := Unit) (Γm := fun g => [(1, (pSl 1 (cK .i64) list_1)), (2, (pSl 1 (cK .i64) items_2)), (11, (pEq (.bool x2)))]) (Ωm := fun g => []) ?_ (fun g5 => ?_)
    · clear h
      have h := hx2
      clear hx2
      refine Tr.region ?_
      refine RegL.pure (p := (pSl 1 (cK .i64) list_1)) rfl rfl rfl (J_move rfl (Opd.tmp rfl)) ?_
      refine RegL.pure (p := (pEq (.int .i64 (list_1.length : Int)))) rfl rfl rfl (J_len rfl Try.underlying25 (Opd.tmp rfl) rfl) ?_
      refine RegL.pure (p := (pPtr ((cSl 1 (cSl 1 (cK .i64))) p_0.Domains))) rfl rfl rfl (J_fieldAddr rfl Try.underlying29 rfl sz22 (by decide) (Opd.tmp rfl) rfl) ?_
      refine RegL.pure (p := (pSl 1 (cSl 1 (cK .i64)) p_0.Domains)) rfl rfl rfl (J_load rfl Try.isAgg22 (Opd.tmp rfl)) ?_
      refine RegL.pure (p := (pEq (.int .i64 (p_0.Domains.length : Int)))) rfl rfl rfl (J_len rfl Try.underlying22 (Opd.tmp rfl) rfl) ?_
      refine RegL.pure (p := (pEq (.bool ((list_1.length : Int) != (p_0.Domains.length : Int))))) rfl rfl rfl (J_bin rfl (Opd.tmp rfl) (Opd.tmp rfl) B_neq) ?_
      refine RegL.pure (p := (pEq (.bool ((list_1.length : Int) != (p_0.Domains.length : Int))))) rfl rfl rfl (J_move rfl (Opd.tmp rfl)) ?_
      rcases Bool.eq_false_or_eq_true ((list_1.length : Int) != (p_0.Domains.length : Int)) with hc3 | hc3
      · replace h := bif_t hc3 h
        refine RegL.skipG rfl rfl rfl hc3 rfl rfl ?_
        refine RegL.skipG rfl rfl rfl hc3 rfl rfl ?_
        refine RegL.skipG rfl rfl rfl hc3 rfl rfl ?_
        refine RegL.pure (p := (pEq (.bool true))) rfl rfl rfl (J_pick rfl (Opd.tmp rfl) (fun _ => Opd.con) (fun hf => absurd (hc3.symm.trans hf) (by decide))) ?_
        refine RegL.pure (p := (pEq (.bool true))) rfl rfl rfl (J_assign rfl (Opd.tmp rfl)) ?_
        refine RegL.nil ?_
        replace h := Option.some.inj h; subst h
        exact Ct.mid () rfl ⟨rfl, rfl, rfl, trivial⟩
      · replace h := bif_f hc3 h
        refine RegL.pureG (p := (pSl 1 (cK .i64) list_1)) rfl rfl rfl hc3 rfl rfl (J_move rfl (Opd.tmp rfl)) ?_
        replace h := bind_some h; obtain ⟨x4, hx4, h⟩ := h
        refine RegL.pureG (p := (pEq (.bool x4))) rfl rfl rfl hc3 rfl rfl (J_call rfl Try.call89 (c_impl_allWithin hx4) (Opds.cons (Opd.tmp rfl) (Opds.cons Opd.con (Opds.cons Opd.con Opds.nil)))) ?_
        refine RegL.pureG (p := (pEq (.bool (!x4)))) rfl rfl rfl hc3 rfl rfl (J_not rfl (Opd.tmp rfl)) ?_
        refine RegL.pure (p := (pEq (.bool (!x4)))) rfl rfl rfl (J_pick rfl (Opd.tmp rfl) (fun hf => absurd (hc3.symm.trans hf) (by decide)) (fun _ => (Opd.tmp rfl))) ?_
        refine RegL.pure (p := (pEq (.bool (!x4)))) rfl rfl rfl (J_assign rfl (Opd.tmp rfl)) ?_
        refine RegL.nil ?_
        replace h := Option.some.inj h; subst h
        exact Ct.mid () rfl ⟨rfl, rfl, rfl, trivial⟩
    · clear hx2
      refine Ct.then_tr ?_
      refine Tr.weak (Γ' := [(1, (pSl 1 (cK .i64) list_1)), (2, (pSl 1 (cK .i64) items_2)), (11, (pEq (.bool x2)))]) ⟨rfl, rfl, rfl, trivial⟩ ?_
      refine Tr.cond (Opd.tmp rfl) (fun hc => ?_) (fun hc => ?_)
      · replace h := bif_t hc h
        refine Tr.seq ?_
        refine Tr.region ?_
        refine RegL.pure (p := (pEq (.int .i64 (6 : Int)))) rfl rfl rfl (J_assign rfl Opd.con) ?_
        refine RegL.nil ?_
        refine Ct.then_tr ?_
        refine Tr.weak (Γ' := [(6, (pEq (.int .i64 (6 : Int))))]) ⟨rfl, trivial⟩ ?_
        refine Tr.ret ?_
        refine Ct.blk_ret ?_
        refine Ct.then_ret ?_
        replace h := Option.some.inj h; subst h
        exact Ct.retH1 (Ωx := []) () rfl (RvOk.tmp rfl) rfl
      · replace h := bif_f hc h
        refine Tr.seq ?_
        refine Tr.region ?_
        refine RegL.pure (p := (pSl 1 (cK .i64) items_2)) rfl rfl rfl (J_move rfl (Opd.tmp rfl)) ?_
        refine RegL.pure (p := (pSl 1 (cK .i64) list_1)) rfl rfl rfl (J_move rfl (Opd.tmp rfl)) ?_
        refine RegL.pure (p := (pEq (.int .i64 (list_1.length : Int)))) rfl rfl rfl (J_len rfl Try.underlying25 (Opd.tmp rfl) rfl) ?_
        refine RegL.pure (p := (pEq (.int .i64 (w64 ((list_1.length : Int) - (1 : Int)))))) rfl rfl rfl (J_bin rfl (Opd.tmp rfl) Opd.con B_sub) ?_
        replace h := bind_some h; obtain ⟨x6, hx6, h⟩ := h
        refine RegL.pure (p := (pEq (.bool x6))) rfl rfl rfl (J_call rfl Try.call89 (c_impl_allWithin hx6) (Opds.cons (Opd.tmp rfl) (Opds.cons Opd.con (Opds.cons (Opd.tmp rfl) Opds.nil)))) ?_
        refine RegL.pure (p := (pEq (.bool (!x6)))) rfl rfl rfl (J_not rfl (Opd.tmp rfl)) ?_
        refine RegL.pure (p := (pEq (.bool (!x6)))) rfl rfl rfl (J_assign rfl (Opd.tmp rfl)) ?_
        refine RegL.nil ?_
        refine Ct.then_tr ?_
        refine Tr.weak (Γ' := [(23, (pEq (.bool (!x6))))]) ⟨rfl, trivial⟩ ?_
        refine Tr.cond (Opd.tmp rfl) (fun hc => ?_) (fun hc => ?_)
        · replace h := bif_t hc h
          refine Tr.seq ?_
          refine Tr.region ?_
          refine RegL.pure (p := (pEq (.int .i64 (2 : Int)))) rfl rfl rfl (J_assign rfl Opd.con) ?_
          refine RegL.nil ?_
          refine Ct.then_tr ?_
          refine Tr.weak (Γ' := [(6, (pEq (.int .i64 (2 : Int))))]) ⟨rfl, trivial⟩ ?_
          refine Tr.ret ?_
          refine Ct.blk_ret ?_
          refine Ct.then_ret ?_
          replace h := Option.some.inj h; subst h
          exact Ct.retH1 (Ωx := []) () rfl (RvOk.tmp rfl) rfl
        · replace h := bif_f hc h
          refine Tr.skip ?_
          refine Ct.blk_normal ?_
          refine Ct.then_tr ?_
          refine Tr.weak (Γ' := []) trivial ?_
          refine Tr.seq ?_
          refine Tr.region ?_
          refine RegL.pure (p := (pEq (.int .i64 (0 : Int)))) rfl rfl rfl (J_assign rfl Opd.con) ?_
          refine RegL.nil ?_
          refine Ct.then_tr ?_
          refine Tr.weak (Γ' := [(6, (pEq (.int .i64 (0 : Int))))]) ⟨rfl, trivial⟩ ?_
          refine Tr.ret ?_
          replace h := Option.some.inj h; subst h
          exact Ct.retH1 (Ωx := []) () rfl (RvOk.tmp rfl) rfl

theorem o_slices_Clone_int64_int64 {s_0 : (List Int)}  {r : (List Int)} (h : m_slices_Clone_int64_int64 s_0 = some r) : CallH Try.prog 52 [(pSl 1 (cK .i64) s_0)] [] (fun g : G3 => (pEq (.slice g.1 g.2.1 g.2.2))) (fun g : G3 => [oSl 2 1 (cK .i64) g.1 g.2.1 g.2.2 r]) := by
  unfold m_slices_Clone_int64_int64 at h
  refine CallH.enter Try.func52 rfl Try.ntmps52 rfl fun W I0 H => ?_
  refine Tr.weak (Γ' := [(0, (pSl 1 (cK .i64) s_0))]) ⟨rfl, trivial⟩ ?_
  refine Tr.seq ?_
  refine Tr.region ?_
  refine RegL.pure (p := (pEq (.slice none 0 0))) rfl rfl rfl (J_assign rfl Opd.con) ?_
  refine RegL.nil ?_
  refine Ct.then_tr ?_
  refine Tr.weak (Γ' := [(0, (pSl 1 (cK .i64) s_0))]) ⟨rfl, trivial⟩ ?_
  refine Tr.seq ?_
  refine Tr.seq ?_
  refine Tr.region ?_
  refine RegL.pure (p := (pSl 1 (cK .i64) s_0)) rfl rfl rfl (J_move rfl (Opd.tmp rfl)) ?_
  refine RegL.pure (p := (pNil s_0)) rfl rfl rfl (J_nilEq rfl Try.underlying25 (Opd.tmp rfl)) ?_
  refine RegL.nil ?_
  refine Ct.then_tr ?_
  refine Tr.weak (Γ' := [(0, (pSl 1 (cK .i64) s_0)), (4, (pNil s_0))]) ⟨rfl, rfl, trivial⟩ ?_
  refine Tr.condNil rfl (fun hl => ?_) ?_
  · replace h : some ([] : (List Int)) = some r := by subst hl; simpa [appL] using h
    refine Tr.seq ?_
    refine Tr.region ?_
    refine RegL.pure (p := (pEq (.slice none 0 0))) rfl rfl rfl (J_assign rfl Opd.con) ?_
    refine RegL.nil ?_
    refine Ct.then_tr ?_
    refine Tr.weak (Γ' := [(2, (pEq (.slice none 0 0)))]) ⟨rfl, trivial⟩ ?_
    refine Tr.ret ?_
    refine Ct.then_ret ?_
    refine Ct.re (Ω2 := [oSl 2 1 (cK .i64) none 0 0 ([] : (List Int))]) (fun h => SatO.nilRow h) ?_
    replace h := Option.some.inj h; subst h
    exact Ct.retH1 (Ωx := []) (none, 0, 0) rfl (RvOk.tmp rfl) rfl
  · refine Tr.skip ?_
    refine Ct.then_tr ?_
    refine Tr.weak (Γ' := [(0, (pSl 1 (cK .i64) s_0))]) ⟨rfl, trivial⟩ ?_
    refine Tr.seq ?_
    refine Tr.region ?_
    refine RegL.step (γ := Option Addr) (p := fun a => pEq (.slice a 0 0)) (Ω' := fun a => [oSl 2 1 (cK .i64) a 0 0 ([] : (List Int))]) rfl rfl rfl (M_buildSlice (qss := []) rfl Try.underlying25 el2 rfl Parts.nil rfl rfl) fun o3 => ?_
    refine RegL.pure (p := (pSl 1 (cK .i64) s_0)) rfl rfl rfl (J_move rfl (Opd.tmp rfl)) ?_
    replace h := bind_some h; obtain ⟨x4, hx4, h⟩ := h
    refine RegL.step (γ := Option Addr × Nat) (p := fun g => pEq (.slice g.1 x4.length g.2)) (Ω' := fun g => [oSl 2 1 (cK .i64) g.1 x4.length g.2 x4]) rfl rfl rfl (M_appendI rfl Try.underlying25 el2 (Opd.tmp rfl) (Opd.tmp rfl) hx4) fun g5 => ?_
    refine RegL.pure (p := (pEq (.slice g5.1 x4.length g5.2))) rfl rfl rfl (J_assign rfl (Opd.tmp rfl)) ?_
    refine RegL.nil ?_
    refine Ct.then_tr ?_
    refine Tr.weak (Γ' := [(2, (pEq (.slice g5.1 x4.length g5.2)))]) ⟨rfl, trivial⟩ ?_
    refine Tr.ret ?_
    replace h := Option.some.inj h; subst h
    exact Ct.retH1 (Ωx := []) (g5.1, x4.length, g5.2) rfl (RvOk.tmp rfl) rfl

theorem c_slices_Clone_int64_int64 {s_0 : (List Int)} {r : (List Int)} (h : m_slices_Clone_int64_int64 s_0 = some r) : CallJ Try.prog 52 [(pSl 1 (cK .i64) s_0)] (pSl 1 (cK .i64) r) :=
  CallH.frozen (o_slices_Clone_int64_int64 h) (fun g => (Conv.row 0 (fun _ => rfl) rfl))

theorem c_impl_abs {n_0 : Int} {r : Int} (h : m_impl_abs n_0 = some r) : CallJ Try.prog 96 [(pEq (.int .i64 n_0))] (pEq (.int .i64 r)) := by
  unfold m_impl_abs at h
  refine CallJ.enterH Try.func96 rfl Try.ntmps96 rfl fun W I0 H => ?_
  refine Tr.weak (Γ' := [(0, (pEq (.int .i64 n_0)))]) ⟨rfl, trivial⟩ ?_
  refine Tr.seq ?_
  refine Tr.region ?_
  refine RegL.pure (p := (pEq (.int .i64 (0 : Int)))) rfl rfl rfl (J_assign rfl Opd.con) ?_
  refine RegL.nil ?_
  refine Ct.then_tr ?_
  refine Tr.weak (Γ' := [(0, (pEq (.int .i64 n_0)))]) ⟨rfl, trivial⟩ ?_
  refine Tr.seq ?_
  refine Tr.region ?_
  refine RegL.pure (p := (pEq (.int .i64 n_0))) rfl rfl rfl (J_move rfl (Opd.tmp rfl)) ?_
  refine RegL.pure (p := (pEq (.int .i64 n_0))) rfl rfl rfl (J_move rfl (Opd.tmp rfl)) ?_
  refine RegL.pure (p := (pEq (.int .i64 (w64 (0 - n_0))))) rfl rfl rfl (J_neg rfl (Opd.tmp rfl)) ?_
  refine RegL.pure (p := (pEq (.int .i64 (if (w64 (0 - n_0)) > n_0 then (w64 (0 - n_0)) else n_0)))) rfl rfl rfl (J_max2 rfl (Opd.tmp rfl) (Opd.tmp rfl)) ?_
  refine RegL.pure (p := (pEq (.int .i64 (if (w64 (0 - n_0)) > n_0 then (w64 (0 - n_0)) else n_0)))) rfl rfl rfl (J_assign rfl (Opd.tmp rfl)) ?_
  refine RegL.nil ?_
  refine Ct.then_tr ?_
  refine Tr.weak (Γ' := [(2, (pEq (.int .i64 (if (w64 (0 - n_0)) > n_0 then (w64 (0 - n_0)) else n_0))))]) ⟨rfl, trivial⟩ ?_
  refine Tr.ret ?_
  replace h := Option.some.inj h; subst h
  exact Ct.retH1 (Ωx := []) () rfl (RvOk.tmp rfl) rfl

theorem c_impl_Problem_conflicts {p_0 : GProblem} {list_1 : (List Int)} {item_2 : Int} {channel_3 : Int} {r : Int} (h : m_impl_Problem_conflicts p_0 list_1 item_2 channel_3 = some r) : CallJ Try.prog 65 [(pAgg (cGProblem p_0)), (pSl 1 (cK .i64) list_1), (pEq (.int .i64 item_2)), (pEq (.int .i64 channel_3))] (pEq (.int .i64 r)) := by
  unfold m_impl_Problem_conflicts at h
  refine CallJ.enterH Try.func65 rfl Try.ntmps65 rfl fun W I0 H => ?_
  refine Tr.weak (Γ' := [(0, (pAgg (cGProblem p_0))), (1, (pSl 1 (cK .i64) list_1)), (2, (pEq (.int .i64 item_2))), (3, (pEq (.int .i64 channel_3)))]) ⟨rfl, rfl, rfl, rfl, trivial⟩ ?_
  refine Tr.seq ?_
  refine Tr.region ?_
  refine RegL.pure (p := (pPtr (cGProblem p_0))) rfl rfl rfl (J_boxA rfl (Opd.tmp rfl)) ?_
  refine RegL.pure (p := (pEq (.int .i64 (0 : Int)))) rfl rfl rfl (J_assign rfl Opd.con) ?_
  refine RegL.nil ?_
  refine Ct.then_tr ?_
  refine Tr.weak (Γ' := [(1, (pSl 1 (cK .i64) list_1)), (2, (pEq (.int .i64 item_2))), (3, (pEq (.int .i64 channel_3))), (4, (pPtr (cGProblem p_0)))]) ⟨rfl, rfl, rfl, rfl, trivial⟩ ?_
  refine Tr.seq ?_
  refine Tr.region ?_
  refine RegL.pure (p := (pEq (.int .i64 (0 : Int)))) rfl rfl rfl (J_assign rfl Opd.con) ?_
  refine RegL.nil ?_
  refine Ct.then_tr ?_
  refine Tr.weak (Γ' := [(1, (pSl 1 (cK .i64) list_1)), (2, (pEq (.int .i64 item_2))), (3, (pEq (.int .i64 channel_3))), (4, (pPtr (cGProblem p_0))), (9, (pEq (.int .i64 (0 : Int))))]) ⟨rfl, rfl, rfl, rfl, rfl, trivial⟩ ?_
  refine Tr.seq ?_
  refine Tr.seq ?_
  refine Tr.region ?_
  refine RegL.pure (p := (pSl 1 (cK .i64) list_1)) rfl rfl rfl (J_move rfl (Opd.tmp rfl)) ?_
  refine RegL.pure (p := (pEq (.int .i64 (list_1.length : Int)))) rfl rfl rfl (J_len rfl Try.underlying25 (Opd.tmp rfl) rfl) ?_
  refine RegL.pure (p := (pEq (.int .i64 (0 : Int)))) rfl rfl rfl (J_move rfl Opd.con) ?_
  refine RegL.nil ?_
  refine Ct.then_tr ?_
  refine Tr.weak (Γ' := [(2, (pEq (.int .i64 item_2))), (3, (pEq (.int .i64 channel_3))), (4, (pPtr (cGProblem p_0))), (9, (pEq (.int .i64 (0 : Int)))), (12, (pSl 1 (cK .i64) list_1)), (13, (pEq (.int .i64 (list_1.length : Int)))), (14, (pEq (.int .i64 (0 : Int))))]) ⟨rfl, rfl, rfl, rfl, rfl, rfl, rfl, trivial⟩ ?_
  replace h := bind_some h; obtain ⟨x1, hx1, h⟩ := h
  refine Tr.cut (γ := Unit) (Γm := fun g => [(9, (pEq (.int .i64 x1)))]) (Ωm := fun g => []) ?_ (fun g15 => ?_)
  · clear h
    have h := hx1
    clear hx1
    refine Tr.block ?_
    refine Tr.weak (Γ' := [(2, (pEq (.int .i64 item_2))), (3, (pEq (.int .i64 channel_3))), (4, (pPtr (cGProblem p_0))), (9, (pEq (.int .i64 (0 : Int)))), (12, (pSl 1 (cK .i64) list_1)), (13, (pEq (.int .i64 (list_1.length : Int)))), (14, (pEq (.int .i64 (0 : Int))))]) ⟨rfl, rfl, rfl, rfl, rfl, rfl, rfl, trivial⟩ ?_
    refine Tr.loop (γ := Unit) (σ := (Int × Int)) (Γσ := fun s g => [(2, (pEq (.int .i64 item_2))), (3, (pEq (.int .i64 channel_3))), (4, (pPtr (cGProblem p_0))), (9, (pEq (.int .i64 s.1))), (12, (pSl 1 (cK .i64) list_1)), (13, (pEq (.int .i64 (list_1.length : Int)))), (14, (pEq (.int .i64 s.2)))]) (Ωσ := fun s g => []) (g := ()) h ?_
    clear h
    rintro ⟨v3, v4⟩ g5 t h
    replace h : m_impl_Problem_conflicts_B2 p_0 list_1 item_2 channel_3 v3 v4 = some t := h
    unfold m_impl_Problem_conflicts_B2 at h
    refine Tr.weakO (Γ' := [(2, (pEq (.int .i64 item_2))), (3, (pEq (.int .i64 channel_3))), (4, (pPtr (cGProblem p_0))), (9, (pEq (.int .i64 v3))), (12, (pSl 1 (cK .i64) list_1)), (13, (pEq (.int .i64 (list_1.length : Int)))), (14, (pEq (.int .i64 v4)))]) (Ω' := []) rfl ⟨rfl, rfl, rfl, rfl, rfl, rfl, rfl, trivial⟩ ?_
    refine Tr.seq ?_
    refine Tr.region ?_
    refine RegL.pure (p := (pEq (.bool (decide (v4 < (list_1.length : Int)))))) rfl rfl rfl (J_bin rfl (Opd.tmp rfl) (Opd.tmp rfl) B_lss) ?_
    refine RegL.nil ?_
    refine Ct.then_tr ?_
    refine Tr.weak (Γ' := [(2, (pEq (.int .i64 item_2))), (3, (pEq (.int .i64 channel_3))), (4, (pPtr (cGProblem p_0))), (9, (pEq (.int .i64 v3))), (12, (pSl 1 (cK .i64) list_1)), (13, (pEq (.int .i64 (list_1.length : Int)))), (14, (pEq (.int .i64 v4))), (15, (pEq (.bool (decide (v4 < (list_1.length : Int))))))]) ⟨rfl, rfl, rfl, rfl, rfl, rfl, rfl, rfl, trivial⟩ ?_
    refine Tr.seq ?_
    refine Tr.cond (Opd.tmp rfl) (fun hc => ?_) (fun hc => ?_)
    · replace h := bif_t hc h
      refine Tr.skip ?_
      refine Ct.then_tr ?_
      refine Tr.weak (Γ' := [(2, (pEq (.int .i64 item_2))), (3, (pEq (.int .i64 channel_3))), (4, (pPtr (cGProblem p_0))), (9, (pEq (.int .i64 v3))), (12, (pSl 1 (cK .i64) list_1)), (13, (pEq (.int .i64 (list_1.length : Int)))), (14, (pEq (.int .i64 v4)))]) ⟨rfl, rfl, rfl, rfl, rfl, rfl, rfl, trivial⟩ ?_
      refine Tr.seq ?_
      refine Tr.block ?_
      refine Tr.seq ?_
      refine Tr.region ?_
      refine RegL.pure (p := (pEq (.int .i64 v4))) rfl rfl rfl (J_move rfl (Opd.tmp rfl)) ?_
      replace h := bind_some h; obtain ⟨x6, hx6, h⟩ := h
      refine RegL.pure (p := (pPtr ((cK .i64) x6))) rfl rfl rfl (J_idx rfl Try.underlying25 sz2 (Opd.tmp rfl) (Opd.tmp rfl) hx6) ?_
      refine RegL.pure (p := (pEq (.int .i64 x6))) rfl rfl rfl (J_load rfl Try.isAgg2 (Opd.tmp rfl)) ?_
      refine RegL.pure (p := (pEq (.int .i64 v4))) rfl rfl rfl (J_assign rfl (Opd.tmp rfl)) ?_
      refine RegL.pure (p := (pEq (.int .i64 x6))) rfl rfl rfl (J_assign rfl (Opd.tmp rfl)) ?_
      refine RegL.nil ?_
      refine Ct.then_tr ?_
      refine Tr.weak (Γ' := [(2, (pEq (.int .i64 item_2))), (3, (pEq (.int .i64 channel_3))), (4, (pPtr (cGProblem p_0))), (9, (pEq (.int .i64 v3))), (10, (pEq (.int .i64 v4))), (11, (pEq (.int .i64 x6))), (12, (pSl 1 (cK .i64) list_1)), (13, (pEq (.int .i64 (list_1.length : Int)))), (14, (pEq (.int .i64 v4)))]) ⟨rfl, rfl, rfl, rfl, rfl, rfl, rfl, rfl, rfl, trivial⟩ ?_
      refine Tr.seq ?_
      replace h := bind_some h; obtain ⟨x7, hx7, h⟩ := h
      refine Tr.cut (γ := Unit) (Γm := fun g => [(2, (pEq (.int .i64 item_2))), (3, (pEq (.int .i64 channel_3))), (4, (pPtr (cGProblem p_0))), (9, (pEq (.int .i64 v3))), (12, (pSl 1 (cK .i64) list_1)), (13, (pEq (.int .i64 (list_1.length : Int)))), (14, (pEq (.int .i64 v4))), (36, (pEq (.bool x7)))]) (Ωm := fun g => []) ?_ (fun g12 => ?_)
      · clear h
        have h := hx7
        clear hx7
        rcases Bool.eq_false_or_eq_true (v4 != item_2) with hc8 | hc8
        · replace h := bif_t hc8 h
          replace h := bind_some h; obtain ⟨x9, hx9, h⟩ := h
          replace h := bind_some h; obtain ⟨x10, hx10, h⟩ := h
          replace h := bind_some h; obtain ⟨x11, hx11, h⟩ := h
          refine Tr.drawD (n := 41) (m := 18) (es := [some (Ent.mk [(10, (pEq (.int .i64 v4)))] (pEq (.int .i64 v4)) true), some (Ent.mk [(2, (pEq (.int .i64 item_2)))] (pEq (.int .i64 item_2)) true), some (Ent.mk [(19, (pEq (.int .i64 v4))), (20, (pEq (.int .i64 item_2)))] (pEq (.bool (v4 != item_2))) true), some (Ent.mk [(21, (pEq (.bool (v4 != item_2))))] (pEq (.bool (v4 != item_2))) true), some (Ent.mk [(3, (pEq (.int .i64 channel_3)))] (pEq (.int .i64 channel_3)) true), some (Ent.mk [(11, (pEq (.int .i64 x6)))] (pEq (.int .i64 x6)) true), some (Ent.mk [(23, (pEq (.int .i64 channel_3))), (24, (pEq (.int .i64 x6)))] (pEq (.int .i64 (w64 (channel_3 - x6)))) true), some (Ent.mk [(25, (pEq (.int .i64 (w64 (channel_3 - x6)))))] (pEq (.int .i64 x9)) true), some (Ent.mk [(4, (pPtr (cGProblem p_0)))] (pPtr ((cSl 1 (cSl 1 (cK .i64))) p_0.Apart)) true), some (Ent.mk [(27, (pPtr ((cSl 1 (cSl 1 (cK .i64))) p_0.Apart)))] (pSl 1 (cSl 1 (cK .i64)) p_0.Apart) true), some (Ent.mk [(2, (pEq (.int .i64 item_2)))] (pEq (.int .i64 item_2)) true), some (Ent.mk [(28, (pSl 1 (cSl 1 (cK .i64)) p_0.Apart)), (29, (pEq (.int .i64 item_2)))] (pPtr ((cSl 1 (cK .i64)) x10)) true), some (Ent.mk [(30, (pPtr ((cSl 1 (cK .i64)) x10)))] (pSl 1 (cK .i64) x10) true), some (Ent.mk [(10, (pEq (.int .i64 v4)))] (pEq (.int .i64 v4)) true), some (Ent.mk [(31, (pSl 1 (cK .i64) x10)), (32, (pEq (.int .i64 v4)))] (pPtr ((cK .i64) x11)) true), some (Ent.mk [(33, (pPtr ((cK .i64) x11)))] (pEq (.int .i64 x11)) true), some (Ent.mk [(26, (pEq (.int .i64 x9))), (34, (pEq (.int .i64 x11)))] (pEq (.bool (decide (x9 < x11)))) true), some (Ent.mk [(22, (pEq (.bool (v4 != item_2)))), (35, (pEq (.bool (decide (x9 < x11)))))] (pEq (.bool (decide (x9 < x11)))) true)]) (rd := [[10], [2], [19, 20], [21], [3], [11], [23, 24], [25], [4], [27], [2], [28, 29], [30], [10], [31, 32], [33], [26, 34], [22, 35]]) rfl hmix (by kernel_rfl) fun hD => ?_
          refine RD.fin (es := [Ent.mk [(10, (pEq (.int .i64 v4)))] (pEq (.int .i64 v4)) true, Ent.mk [(2, (pEq (.int .i64 item_2)))] (pEq (.int .i64 item_2)) true, Ent.mk [(19, (pEq (.int .i64 v4))), (20, (pEq (.int .i64 item_2)))] (pEq (.bool (v4 != item_2))) true, Ent.mk [(21, (pEq (.bool (v4 != item_2))))] (pEq (.bool (v4 != item_2))) true, Ent.mk [(3, (pEq (.int .i64 channel_3)))] (pEq (.int .i64 channel_3)) true, Ent.mk [(11, (pEq (.int .i64 x6)))] (pEq (.int .i64 x6)) true, Ent.mk [(23, (pEq (.int .i64 channel_3))), (24, (pEq (.int .i64 x6)))] (pEq (.int .i64 (w64 (channel_3 - x6)))) true, Ent.mk [(25, (pEq (.int .i64 (w64 (channel_3 - x6)))))] (pEq (.int .i64 x9)) true, Ent.mk [(4, (pPtr (cGProblem p_0)))] (pPtr ((cSl 1 (cSl 1 (cK .i64))) p_0.Apart)) true, Ent.mk [(27, (pPtr ((cSl 1 (cSl 1 (cK .i64))) p_0.Apart)))] (pSl 1 (cSl 1 (cK .i64)) p_0.Apart) true, Ent.mk [(2, (pEq (.int .i64 item_2)))] (pEq (.int .i64 item_2)) true, Ent.mk [(28, (pSl 1 (cSl 1 (cK .i64)) p_0.Apart)), (29, (pEq (.int .i64 item_2)))] (pPtr ((cSl 1 (cK .i64)) x10)) true, Ent.mk [(30, (pPtr ((cSl 1 (cK .i64)) x10)))] (pSl 1 (cK .i64) x10) true, Ent.mk [(10, (pEq (.int .i64 v4)))] (pEq (.int .i64 v4)) true, Ent.mk [(31, (pSl 1 (cK .i64) x10)), (32, (pEq (.int .i64 v4)))] (pPtr ((cK .i64) x11)) true, Ent.mk [(33, (pPtr ((cK .i64) x11)))] (pEq (.int .i64 x11)) true, Ent.mk [(26, (pEq (.int .i64 x9))), (34, (pEq (.int .i64 x11)))] (pEq (.bool (decide (x9 < x11)))) true, Ent.mk [(22, (pEq (.bool (v4 != item_2)))), (35, (pEq (.bool (decide (x9 < x11)))))] (pEq (.bool (decide (x9 < x11)))) true]) (done := []) hD ⟨.inr ⟨(OpJ.w (J_move rfl (Opd.tmp rfl))), ⟨rfl, trivial⟩, rfl, rfl⟩, ⟨.inr ⟨(OpJ.w (J_move rfl (Opd.tmp rfl))), ⟨rfl, trivial⟩, rfl, rfl⟩, ⟨.inr ⟨(OpJ.w (J_bin rfl (Opd.tmp rfl) (Opd.tmp rfl) B_neq)), ⟨rfl, rfl, trivial⟩, rfl, rfl⟩, ⟨.inr ⟨(OpJ.w (J_move rfl (Opd.tmp rfl))), ⟨rfl, trivial⟩, rfl, rfl⟩, ⟨.inr ⟨(OpJ.w (J_move rfl (Opd.tmp rfl))), ⟨rfl, trivial⟩, (.inl ⟨_, rfl, by simp [hc8]⟩), rfl⟩, ⟨.inr ⟨(OpJ.w (J_move rfl (Opd.tmp rfl))), ⟨rfl, trivial⟩, (.inl ⟨_, rfl, by simp [hc8]⟩), rfl⟩, ⟨.inr ⟨(OpJ.w (J_bin rfl (Opd.tmp rfl) (Opd.tmp rfl) B_sub)), ⟨rfl, rfl, trivial⟩, (.inl ⟨_, rfl, by simp [hc8]⟩), rfl⟩, ⟨.inr ⟨(OpJ.w (J_call rfl Try.call96 (c_impl_abs hx9) (Opds.cons (Opd.tmp rfl) Opds.nil))), ⟨rfl, trivial⟩, (.inl ⟨_, rfl, by simp [hc8]⟩), rfl⟩, ⟨.inr ⟨(OpJ.w (J_fieldAddr rfl Try.underlying29 rfl sz22 (by decide) (Opd.tmp rfl) rfl)), ⟨rfl, trivial⟩, (.inl ⟨_, rfl, by simp [hc8]⟩), rfl⟩, ⟨.inr ⟨(OpJ.w (J_load rfl Try.isAgg22 (Opd.tmp rfl))), ⟨rfl, trivial⟩, (.inl ⟨_, rfl, by simp [hc8]⟩), rfl⟩, ⟨.inr ⟨(OpJ.w (J_move rfl (Opd.tmp rfl))), ⟨rfl, trivial⟩, (.inl ⟨_, rfl, by simp [hc8]⟩), rfl⟩, ⟨.inr ⟨(OpJ.w (J_idx rfl Try.underlying22 sz25 (Opd.tmp rfl) (Opd.tmp rfl) hx10)), ⟨rfl, rfl, trivial⟩, (.inl ⟨_, rfl, by simp [hc8]⟩), rfl⟩, ⟨.inr ⟨(OpJ.w (J_load rfl Try.isAgg25 (Opd.tmp rfl))), ⟨rfl, trivial⟩, (.inl ⟨_, rfl, by simp [hc8]⟩), rfl⟩, ⟨.inr ⟨(OpJ.w (J_move rfl (Opd.tmp rfl))), ⟨rfl, trivial⟩, (.inl ⟨_, rfl, by simp [hc8]⟩), rfl⟩, ⟨.inr ⟨(OpJ.w (J_idx rfl Try.underlying25 sz2 (Opd.tmp rfl) (Opd.tmp rfl) hx11)), ⟨rfl, rfl, trivial⟩, (.inl ⟨_, rfl, by simp [hc8]⟩), rfl⟩, ⟨.inr ⟨(OpJ.w (J_load rfl Try.isAgg2 (Opd.tmp rfl))), ⟨rfl, trivial⟩, (.inl ⟨_, rfl, by simp [hc8]⟩), rfl⟩, ⟨.inr ⟨(OpJ.w (J_bin rfl (Opd.tmp rfl) (Opd.tmp rfl) B_lss)), ⟨rfl, rfl, trivial⟩, (.inl ⟨_, rfl, by simp [hc8]⟩), rfl⟩, ⟨.inr ⟨(OpJ.w (J_pick rfl (Opd.tmp rfl) (fun _ => (Opd.tmp rfl)) (fun hf => absurd (hc8.symm.trans hf) (by decide)))), ⟨rfl, rfl, trivial⟩, rfl, rfl⟩, trivial⟩⟩⟩⟩⟩⟩⟩⟩⟩⟩⟩⟩⟩⟩⟩⟩⟩⟩ ?_
          refine RegL.nil ?_
          replace h := Option.some.inj h; subst h
          exact Ct.mid () rfl ⟨rfl, rfl, rfl, rfl, rfl, rfl, rfl, rfl, trivial⟩
        · replace h := bif_f hc8 h
          refine Tr.drawD (n := 41) (m := 18) (es := [some (Ent.mk [(10, (pEq (.int .i64 v4)))] (pEq (.int .i64 v4)) true), some (Ent.mk [(2, (pEq (.int .i64 item_2)))] (pEq (.int .i64 item_2)) true), some (Ent.mk [(19, (pEq (.int .i64 v4))), (20, (pEq (.int .i64 item_2)))] (pEq (.bool (v4 != item_2))) true), some (Ent.mk [(21, (pEq (.bool (v4 != item_2))))] (pEq (.bool (v4 != item_2))) true), some (Ent.mk [(3, (pEq (.int .i64 channel_3)))] (pEq undef) false), some (Ent.mk [(11, (pEq (.int .i64 x6)))] (pEq undef) false), some (Ent.mk [(23, (pEq undef)), (24, (pEq undef))] (pEq undef) false), some (Ent.mk [(25, (pEq undef))] (pEq undef) false), some (Ent.mk [(4, (pPtr (cGProblem p_0)))] (pEq undef) false), some (Ent.mk [(27, (pEq undef))] (pEq undef) false), some (Ent.mk [(2, (pEq (.int .i64 item_2)))] (pEq undef) false), some (Ent.mk [(28, (pEq undef)), (29, (pEq undef))] (pEq undef) false), some (Ent.mk [(30, (pEq undef))] (pEq undef) false), some (Ent.mk [(10, (pEq (.int .i64 v4)))] (pEq undef) false), some (Ent.mk [(31, (pEq undef)), (32, (pEq undef))] (pEq undef) false), some (Ent.mk [(33, (pEq undef))] (pEq undef) false), some (Ent.mk [(26, (pEq undef)), (34, (pEq undef))] (pEq undef) false), some (Ent.mk [(22, (pEq (.bool (v4 != item_2)))), (35, (pEq undef))] (pEq (.bool false)) true)]) (rd := [[10], [2], [19, 20], [21], [3], [11], [23, 24], [25], [4], [27], [2], [28, 29], [30], [10], [31, 32], [33], [26, 34], [22, 35]]) rfl hmix (by kernel_rfl) fun hD => ?_
          refine RD.fin (es := [Ent.mk [(10, (pEq (.int .i64 v4)))] (pEq (.int .i64 v4)) true, Ent.mk [(2, (pEq (.int .i64 item_2)))] (pEq (.int .i64 item_2)) true, Ent.mk [(19, (pEq (.int .i64 v4))), (20, (pEq (.int .i64 item_2)))] (pEq (.bool (v4 != item_2))) true, Ent.mk [(21, (pEq (.bool (v4 != item_2))))] (pEq (.bool (v4 != item_2))) true, Ent.mk [(3, (pEq (.int .i64 channel_3)))] (pEq undef) false, Ent.mk [(11, (pEq (.int .i64 x6)))] (pEq undef) false, Ent.mk [(23, (pEq undef)), (24, (pEq undef))] (pEq undef) false, Ent.mk [(25, (pEq undef))] (pEq undef) false, Ent.mk [(4, (pPtr (cGProblem p_0)))] (pEq undef) false, Ent.mk [(27, (pEq undef))] (pEq undef) false, Ent.mk [(2, (pEq (.int .i64 item_2)))] (pEq undef) false, Ent.mk [(28, (pEq undef)), (29, (pEq undef))] (pEq undef) false, Ent.mk [(30, (pEq undef))] (pEq undef) false, Ent.mk [(10, (pEq (.int .i64 v4)))] (pEq undef) false, Ent.mk [(31, (pEq undef)), (32, (pEq undef))] (pEq undef) false, Ent.mk [(33, (pEq undef))] (pEq undef) false, Ent.mk [(26, (pEq undef)), (34, (pEq undef))] (pEq undef) false, Ent.mk [(22, (pEq (.bool (v4 != item_2)))), (35, (pEq undef))] (pEq (.bool false)) true]) (done := []) hD ⟨.inr ⟨(OpJ.w (J_move rfl (Opd.tmp rfl))), ⟨rfl, trivial⟩, rfl, rfl⟩, ⟨.inr ⟨(OpJ.w (J_move rfl (Opd.tmp rfl))), ⟨rfl, trivial⟩, rfl, rfl⟩, ⟨.inr ⟨(OpJ.w (J_bin rfl (Opd.tmp rfl) (Opd.tmp rfl) B_neq)), ⟨rfl, rfl, trivial⟩, rfl, rfl⟩, ⟨.inr ⟨(OpJ.w (J_move rfl (Opd.tmp rfl))), ⟨rfl, trivial⟩, rfl, rfl⟩, ⟨.inr ⟨rfl, ⟨rfl, trivial⟩, (.inl ⟨_, rfl, by simp [hc8]⟩), rfl⟩, ⟨.inr ⟨rfl, ⟨rfl, trivial⟩, (.inl ⟨_, rfl, by simp [hc8]⟩), rfl⟩, ⟨.inr ⟨rfl, ⟨rfl, rfl, trivial⟩, (.inl ⟨_, rfl, by simp [hc8]⟩), rfl⟩, ⟨.inr ⟨rfl, ⟨rfl, trivial⟩, (.inl ⟨_, rfl, by simp [hc8]⟩), rfl⟩, ⟨.inr ⟨rfl, ⟨rfl, trivial⟩, (.inl ⟨_, rfl, by simp [hc8]⟩), rfl⟩, ⟨.inr ⟨rfl, ⟨rfl, trivial⟩, (.inl ⟨_, rfl, by simp [hc8]⟩), rfl⟩, ⟨.inr ⟨rfl, ⟨rfl, trivial⟩, (.inl ⟨_, rfl, by simp [hc8]⟩), rfl⟩, ⟨.inr ⟨rfl, ⟨rfl, rfl, trivial⟩, (.inl ⟨_, rfl, by simp [hc8]⟩), rfl⟩, ⟨.inr ⟨rfl, ⟨rfl, trivial⟩, (.inl ⟨_, rfl, by simp [hc8]⟩), rfl⟩, ⟨.inr ⟨rfl, ⟨rfl, trivial⟩, (.inl ⟨_, rfl, by simp [hc8]⟩), rfl⟩, ⟨.inr ⟨rfl, ⟨rfl, rfl, trivial⟩, (.inl ⟨_, rfl, by simp [hc8]⟩), rfl⟩, ⟨.inr ⟨rfl, ⟨rfl, trivial⟩, (.inl ⟨_, rfl, by simp [hc8]⟩), rfl⟩, ⟨.inr ⟨rfl, ⟨rfl, rfl, trivial⟩, (.inl ⟨_, rfl, by simp [hc8]⟩), rfl⟩, ⟨.inr ⟨(OpJ.w (J_pick rfl (Opd.tmp rfl) (fun hf => absurd (hc8.symm.trans hf) (by decide)) (fun _ => Opd.con))), ⟨rfl, rfl, trivial⟩, rfl, rfl⟩, trivial⟩⟩⟩⟩⟩⟩⟩⟩⟩⟩⟩⟩⟩⟩⟩⟩⟩⟩ ?_
          refine RegL.nil ?_
          replace h := Option.some.inj h; subst h
          exact Ct.mid () rfl ⟨rfl, rfl, rfl, rfl, rfl, rfl, rfl, rfl, trivial⟩
      · clear hx7
        refine Ct.then_tr ?_
        refine Tr.weak (Γ' := [(2, (pEq (.int .i64 item_2))), (3, (pEq (.int .i64 channel_3))), (4, (pPtr (cGProblem p_0))), (9, (pEq (.int .i64 v3))), (12, (pSl 1 (cK .i64) list_1)), (13, (pEq (.int .i64 (list_1.length : Int)))), (14, (pEq (.int .i64 v4))), (36, (pEq (.bool x7)))]) ⟨rfl, rfl, rfl, rfl, rfl, rfl, rfl, rfl, trivial⟩ ?_
        replace h := bind_some h; obtain ⟨x13, hx13, h⟩ := h
        refine Tr.cut (γ := Unit) (Γm := fun g => [(2, (pEq (.int .i64 item_2))), (3, (pEq (.int .i64 channel_3))), (4, (pPtr (cGProblem p_0))), (9, (pEq (.int .i64 x13))), (12, (pSl 1 (cK .i64) list_1)), (13, (pEq (.int .i64 (list_1.length : Int)))), (14, (pEq (.int .i64 v4)))]) (Ωm := fun g => []) ?_ (fun g14 => ?_)
        · clear h
          have h := hx13
          clear hx13
          refine Tr.cond (Opd.tmp rfl) (fun hc => ?_) (fun hc => ?_)
          · replace h := bif_t hc h
            refine Tr.region ?_
            refine RegL.pure (p := (pEq (.int .i64 v3))) rfl rfl rfl (J_move rfl (Opd.tmp rfl)) ?_
            refine RegL.pure (p := (pEq (.int .i64 (w64 (v3 + (1 : Int)))))) rfl rfl rfl (J_bin rfl (Opd.tmp rfl) Opd.con B_add) ?_
            refine RegL.pure (p := (pEq (.int .i64 (w64 (v3 + (1 : Int)))))) rfl rfl rfl (J_assign rfl (Opd.tmp rfl)) ?_
            refine RegL.nil ?_
            replace h := Option.some.inj h; subst h
            exact Ct.mid () rfl ⟨rfl, rfl, rfl, rfl, rfl, rfl, rfl, trivial⟩
          · replace h := bif_f hc h
            refine Tr.skip ?_
            replace h := Option.some.inj h; subst h
            exact Ct.mid () rfl ⟨rfl, rfl, rfl, rfl, rfl, rfl, rfl, trivial⟩
        · clear hx13
          refine Ct.blk_normal ?_
          refine Ct.then_tr ?_
          refine Tr.weak (Γ' := [(2, (pEq (.int .i64 item_2))), (3, (pEq (.int .i64 channel_3))), (4, (pPtr (cGProblem p_0))), (9, (pEq (.int .i64 x13))), (12, (pSl 1 (cK .i64) list_1)), (13, (pEq (.int .i64 (list_1.length : Int)))), (14, (pEq (.int .i64 v4)))]) ⟨rfl, rfl, rfl, rfl, rfl, rfl, rfl, trivial⟩ ?_
          refine Tr.region ?_
          refine RegL.pure (p := (pEq (.int .i64 (w64 (v4 + (1 : Int)))))) rfl rfl rfl (J_bin rfl (Opd.tmp rfl) Opd.con B_add) ?_
          refine RegL.pure (p := (pEq (.int .i64 (w64 (v4 + (1 : Int)))))) rfl rfl rfl (J_move rfl (Opd.tmp rfl)) ?_
          refine RegL.nil ?_
          replace h := Option.some.inj h; subst h
          exact Ct.again () rfl ⟨rfl, rfl, rfl, rfl, rfl, rfl, rfl, trivial⟩
    · replace h := bif_f hc h
      refine Tr.exit ?_
      refine Ct.then_exit ?_
      replace h := map_some h; obtain ⟨r1, h, rfl⟩ := h
      refine Ct.out_exit fun e => ?_
      subst e
      refine Ct.blk_exit ?_
      replace h := Option.some.inj h; subst h
      exact Ct.mid () rfl ⟨rfl, trivial⟩
  · clear hx1
    refine Ct.then_tr ?_
    refine Tr.weak (Γ' := [(9, (pEq (.int .i64 x1)))]) ⟨rfl, trivial⟩ ?_
    refine Tr.seq ?_
    refine Tr.region ?_
    refine RegL.pure (p := (pEq (.int .i64 x1))) rfl rfl rfl (J_move rfl (Opd.tmp rfl)) ?_
    refine RegL.pure (p := (pEq (.int .i64 x1))) rfl rfl rfl (J_assign rfl (Opd.tmp rfl)) ?_
    refine RegL.nil ?_
    refine Ct.then_tr ?_
    refine Tr.weak (Γ' := [(8, (pEq (.int .i64 x1)))]) ⟨rfl, trivial⟩ ?_
    refine Tr.ret ?_
    replace h := Option.some.inj h; subst h
    exact Ct.retH1 (Ωx := []) () rfl (RvOk.tmp rfl) rfl

theorem c_slices_Index_int64_int64 {s_0 : (List Int)} {v_1 : Int} {r : Int} (h : m_slices_Index_int64_int64 s_0 v_1 = some r) : CallJ Try.prog 100 [(pSl 1 (cK .i64) s_0), (pEq (.int .i64 v_1))] (pEq (.int .i64 r)) := by
  unfold m_slices_Index_int64_int64 at h
  refine CallJ.enterH Try.func100 rfl Try.ntmps100 rfl fun W I0 H => ?_
  refine Tr.weak (Γ' := [(0, (pSl 1 (cK .i64) s_0)), (1, (pEq (.int .i64 v_1)))]) ⟨rfl, rfl, trivial⟩ ?_
  refine Tr.seq ?_
  refine Tr.region ?_
  refine RegL.pure (p := (pEq (.int .i64 (0 : Int)))) rfl rfl rfl (J_assign rfl Opd.con) ?_
  refine RegL.nil ?_
  refine Ct.then_tr ?_
  refine Tr.weak (Γ' := [(0, (pSl 1 (cK .i64) s_0)), (1, (pEq (.int .i64 v_1)))]) ⟨rfl, rfl, trivial⟩ ?_
  refine Tr.seq ?_
  refine Tr.seq ?_
  refine Tr.region ?_
  refine RegL.pure (p := (pSl 1 (cK .i64) s_0)) rfl rfl rfl (J_move rfl (Opd.tmp rfl)) ?_
  refine RegL.pure (p := (pEq (.int .i64 (s_0.length : Int)))) rfl rfl rfl (J_len rfl Try.underlying25 (Opd.tmp rfl) rfl) ?_
  refine RegL.pure (p := (pEq (.int .i64 (0 : Int)))) rfl rfl rfl (J_move rfl Opd.con) ?_
  refine RegL.nil ?_
  refine Ct.then_tr ?_
  refine Tr.weak (Γ' := [(0, (pSl 1 (cK .i64) s_0)), (1, (pEq (.int .i64 v_1))), (7, (pEq (.int .i64 (s_0.length : Int)))), (8, (pEq (.int .i64 (0 : Int))))]) ⟨rfl, rfl, rfl, rfl, trivial⟩ ?_
  refine Tr.block ?_
  refine Tr.weak (Γ' := [(0, (pSl 1 (cK .i64) s_0)), (1, (pEq (.int .i64 v_1))), (7, (pEq (.int .i64 (s_0.length : Int)))), (8, (pEq (.int .i64 (0 : Int))))]) ⟨rfl, rfl, rfl, rfl, trivial⟩ ?_
  refine Tr.loop (γ := Unit) (σ := Int) (Γσ := fun s g => [(0, (pSl 1 (cK .i64) s_0)), (1, (pEq (.int .i64 v_1))), (7, (pEq (.int .i64 (s_0.length : Int)))), (8, (pEq (.int .i64 s)))]) (Ωσ := fun s g => []) (g := ()) h ?_
  clear h
  rintro v2 g3 t h
  replace h : m_slices_Index_int64_int64_B1 s_0 v_1 v2 = some t := h
  unfold m_slices_Index_int64_int64_B1 at h
  refine Tr.weakO (Γ' := [(0, (pSl 1 (cK .i64) s_0)), (1, (pEq (.int .i64 v_1))), (7, (pEq (.int .i64 (s_0.length : Int)))), (8, (pEq (.int .i64 v2)))]) (Ω' := []) rfl ⟨rfl, rfl, rfl, rfl, trivial⟩ ?_
  refine Tr.seq ?_
  refine Tr.region ?_
  refine RegL.pure (p := (pEq (.bool (decide (v2 < (s_0.length : Int)))))) rfl rfl rfl (J_bin rfl (Opd.tmp rfl) (Opd.tmp rfl) B_lss) ?_
  refine RegL.nil ?_
  refine Ct.then_tr ?_
  refine Tr.weak (Γ' := [(0, (pSl 1 (cK .i64) s_0)), (1, (pEq (.int .i64 v_1))), (7, (pEq (.int .i64 (s_0.length : Int)))), (8, (pEq (.int .i64 v2))), (9, (pEq (.bool (decide (v2 < (s_0.length : Int))))))]) ⟨rfl, rfl, rfl, rfl, rfl, trivial⟩ ?_
  refine Tr.seq ?_
  refine Tr.cond (Opd.tmp rfl) (fun hc => ?_) (fun hc => ?_)
  · replace h := bif_t hc h
    refine Tr.skip ?_
    refine Ct.then_tr ?_
    refine Tr.weak (Γ' := [(0, (pSl 1 (cK .i64) s_0)), (1, (pEq (.int .i64 v_1))), (7, (pEq (.int .i64 (s_0.length : Int)))), (8, (pEq (.int .i64 v2)))]) ⟨rfl, rfl, rfl, rfl, trivial⟩ ?_
    refine Tr.seq ?_
    refine Tr.block ?_
    refine Tr.seq ?_
    refine Tr.region ?_
    refine RegL.pure (p := (pEq (.int .i64 v2))) rfl rfl rfl (J_move rfl (Opd.tmp rfl)) ?_
    refine RegL.pure (p := (pEq (.int .i64 v2))) rfl rfl rfl (J_assign rfl (Opd.tmp rfl)) ?_
    refine RegL.nil ?_
    refine Ct.then_tr ?_
    refine Tr.weak (Γ' := [(0, (pSl 1 (cK .i64) s_0)), (1, (pEq (.int .i64 v_1))), (5, (pEq (.int .i64 v2))), (7, (pEq (.int .i64 (s_0.length : Int)))), (8, (pEq (.int .i64 v2)))]) ⟨rfl, rfl, rfl, rfl, rfl, trivial⟩ ?_
    refine Tr.seq ?_
    refine Tr.region ?_
    refine RegL.pure (p := (pEq (.int .i64 v_1))) rfl rfl rfl (J_move rfl (Opd.tmp rfl)) ?_
    refine RegL.pure (p := (pSl 1 (cK .i64) s_0)) rfl rfl rfl (J_move rfl (Opd.tmp rfl)) ?_
    refine RegL.pure (p := (pEq (.int .i64 v2))) rfl rfl rfl (J_move rfl (Opd.tmp rfl)) ?_
    replace h := bind_some h; obtain ⟨x4, hx4, h⟩ := h
    refine RegL.pure (p := (pPtr ((cK .i64) x4))) rfl rfl rfl (J_idx rfl Try.underlying25 sz2 (Opd.tmp rfl) (Opd.tmp rfl) hx4) ?_
    refine RegL.pure (p := (pEq (.int .i64 x4))) rfl rfl rfl (J_load rfl Try.isAgg2 (Opd.tmp rfl)) ?_
    refine RegL.pure (p := (pEq (.bool (v_1 == x4)))) rfl rfl rfl (J_bin rfl (Opd.tmp rfl) (Opd.tmp rfl) B_eql) ?_
    refine RegL.nil ?_
    refine Ct.then_tr ?_
    refine Tr.weak (Γ' := [(0, (pSl 1 (cK .i64) s_0)), (1, (pEq (.int .i64 v_1))), (5, (pEq (.int .i64 v2))), (7, (pEq (.int .i64 (s_0.length : Int)))), (8, (pEq (.int .i64 v2))), (16, (pEq (.bool (v_1 == x4))))]) ⟨rfl, rfl, rfl, rfl, rfl, rfl, trivial⟩ ?_
    refine Tr.cond (Opd.tmp rfl) (fun hc => ?_) (fun hc => ?_)
    · replace h := bif_t hc h
      refine Tr.seq ?_
      refine Tr.region ?_
      refine RegL.pure (p := (pEq (.int .i64 v2))) rfl rfl rfl (J_move rfl (Opd.tmp rfl)) ?_
      refine RegL.pure (p := (pEq (.int .i64 v2))) rfl rfl rfl (J_assign rfl (Opd.tmp rfl)) ?_
      refine RegL.nil ?_
      refine Ct.then_tr ?_
      refine Tr.weak (Γ' := [(4, (pEq (.int .i64 v2)))]) ⟨rfl, trivial⟩ ?_
      refine Tr.ret ?_
      refine Ct.blk_ret ?_
      refine Ct.then_ret ?_
      replace h := map_some h; obtain ⟨r1, h, rfl⟩ := h
      refine Ct.out_ret fun e => ?_
      subst e
      refine Ct.blk_ret ?_
      refine Ct.then_ret ?_
      replace h := Option.some.inj h; subst h
      exact Ct.retH1 (Ωx := []) () rfl (RvOk.tmp rfl) rfl
    · replace h := bif_f hc h
      refine Tr.skip ?_
      refine Ct.blk_normal ?_
      refine Ct.then_tr ?_
      refine Tr.weak (Γ' := [(0, (pSl 1 (cK .i64) s_0)), (1, (pEq (.int .i64 v_1))), (7, (pEq (.int .i64 (s_0.length : Int)))), (8, (pEq (.int .i64 v2)))]) ⟨rfl, rfl, rfl, rfl, trivial⟩ ?_
      refine Tr.region ?_
      refine RegL.pure (p := (pEq (.int .i64 (w64 (v2 + (1 : Int)))))) rfl rfl rfl (J_bin rfl (Opd.tmp rfl) Opd.con B_add) ?_
      refine RegL.pure (p := (pEq (.int .i64 (w64 (v2 + (1 : Int)))))) rfl rfl rfl (J_move rfl (Opd.tmp rfl)) ?_
      refine RegL.nil ?_
      replace h := Option.some.inj h; subst h
      exact Ct.again () rfl ⟨rfl, rfl, rfl, rfl, trivial⟩
  · replace h := bif_f hc h
    refine Tr.exit ?_
    refine Ct.then_exit ?_
    replace h := map_some h; obtain ⟨r1, h, rfl⟩ := h
    refine Ct.out_exit fun e => ?_
    subst e
    refine Ct.blk_exit ?_
    refine Ct.then_tr ?_
    refine Tr.weak (Γ' := []) trivial ?_
    refine Tr.seq ?_
    refine Tr.region ?_
    refine RegL.pure (p := (pEq (.int .i64 (-1 : Int)))) rfl rfl rfl (J_assign rfl Opd.con) ?_
    refine RegL.nil ?_
    refine Ct.then_tr ?_
    refine Tr.weak (Γ' := [(4, (pEq (.int .i64 (-1 : Int))))]) ⟨rfl, trivial⟩ ?_
    refine Tr.ret ?_
    replace h := Option.some.inj h; subst h
    exact Ct.retH1 (Ωx := []) () rfl (RvOk.tmp rfl) rfl

theorem c_slices_Contains_int64_int64 {s_0 : (List Int)} {v_1 : Int} {r : Bool} (h : m_slices_Contains_int64_int64 s_0 v_1 = some r) : CallJ Try.prog 70 [(pSl 1 (cK .i64) s_0), (pEq (.int .i64 v_1))] (pEq (.bool r)) := by
  unfold m_slices_Contains_int64_int64 at h
  refine CallJ.enterH Try.func70 rfl Try.ntmps70 rfl fun W I0 H => ?_
  refine Tr.weak (Γ' := [(0, (pSl 1 (cK .i64) s_0)), (1, (pEq (.int .i64 v_1)))]) ⟨rfl, rfl, trivial⟩ ?_
  refine Tr.seq ?_
  refine Tr.region ?_
  refine RegL.pure (p := (pEq (.bool false))) rfl rfl rfl (J_assign rfl Opd.con) ?_
  refine RegL.nil ?_
  refine Ct.then_tr ?_
  refine Tr.weak (Γ' := [(0, (pSl 1 (cK .i64) s_0)), (1, (pEq (.int .i64 v_1)))]) ⟨rfl, rfl, trivial⟩ ?_
  refine Tr.seq ?_
  refine Tr.region ?_
  refine RegL.pure (p := (pSl 1 (cK .i64) s_0)) rfl rfl rfl (J_move rfl (Opd.tmp rfl)) ?_
  refine RegL.pure (p := (pEq (.int .i64 v_1))) rfl rfl rfl (J_move rfl (Opd.tmp rfl)) ?_
  replace h := bind_some h; obtain ⟨x1, hx1, h⟩ := h
  refine RegL.pure (p := (pEq (.int .i64 x1))) rfl rfl rfl (J_call rfl Try.call100 (c_slices_Index_int64_int64 hx1) (Opds.cons (Opd.tmp rfl) (Opds.cons (Opd.tmp rfl) Opds.nil))) ?_
  refine RegL.pure (p := (pEq (.bool (decide ((0 : Int) ≤ x1))))) rfl rfl rfl (J_bin rfl (Opd.tmp rfl) Opd.con B_geq) ?_
  refine RegL.pure (p := (pEq (.bool (decide ((0 : Int) ≤ x1))))) rfl rfl rfl (J_assign rfl (Opd.tmp rfl)) ?_
  refine RegL.nil ?_
  refine Ct.then_tr ?_
  refine Tr.weak (Γ' := [(4, (pEq (.bool (decide ((0 : Int) ≤ x1)))))]) ⟨rfl, trivial⟩ ?_
  refine Tr.ret ?_
  replace h := Option.some.inj h; subst h
  exact Ct.retH1 (Ωx := []) () rfl (RvOk.tmp rfl) rfl

theorem c_impl_Problem_badness {p_0 : GProblem} {list_1 : (List Int)} {item_2 : Int} {r : Int} (h : m_impl_Problem_badness p_0 list_1 item_2 = some r) : CallJ Try.prog 46 [(pAgg (cGProblem p_0)), (pSl 1 (cK .i64) list_1), (pEq (.int .i64 item_2))] (pEq (.int .i64 r)) := by
  unfold m_impl_Problem_badness at h
  refine CallJ.enterH Try.func46 rfl Try.ntmps46 rfl fun W I0 H => ?_
  refine Tr.weak (Γ' := [(0, (pAgg (cGProblem p_0))), (1, (pSl 1 (cK .i64) list_1)), (2, (pEq (.int .i64 item_2)))]) ⟨rfl, rfl, rfl, trivial⟩ ?_
  refine Tr.seq ?_
  refine Tr.region ?_
  refine RegL.pure (p := (pPtr (cGProblem p_0))) rfl rfl rfl (J_boxA rfl (Opd.tmp rfl)) ?_
  refine RegL.pure (p := (pEq (.int .i64 (0 : Int)))) rfl rfl rfl (J_assign rfl Opd.con) ?_
  refine RegL.nil ?_
  refine Ct.then_tr ?_
  refine Tr.weak (Γ' := [(1, (pSl 1 (cK .i64) list_1)), (2, (pEq (.int .i64 item_2))), (3, (pPtr (cGProblem p_0)))]) ⟨rfl, rfl, rfl, trivial⟩ ?_
  refine Tr.seq ?_
  replace h := bind_some h; obtain ⟨x1, hx1, h⟩ := h
  replace h := bind_some h; obtain ⟨x2, hx2, h⟩ := h
  refine Tr.drawD (n := 30) (m := 8) (es := [some (Ent.mk [(3, (pPtr (cGProblem p_0)))] (pAgg (cGProblem p_0)) true), some (Ent.mk [(1, (pSl 1 (cK .i64) list_1))] (pSl 1 (cK .i64) list_1) true), some (Ent.mk [(2, (pEq (.int .i64 item_2)))] (pEq (.int .i64 item_2)) true), some (Ent.mk [(1, (pSl 1 (cK .i64) list_1))] (pSl 1 (cK .i64) list_1) true), some (Ent.mk [(2, (pEq (.int .i64 item_2)))] (pEq (.int .i64 item_2)) true), some (Ent.mk [(11, (pSl 1 (cK .i64) list_1)), (12, (pEq (.int .i64 item_2)))] (pPtr ((cK .i64) x1)) true), some (Ent.mk [(13, (pPtr ((cK .i64) x1)))] (pEq (.int .i64 x1)) true), some (Ent.mk [(8, (pAgg (cGProblem p_0))), (9, (pSl 1 (cK .i64) list_1)), (10, (pEq (.int .i64 item_2))), (14, (pEq (.int .i64 x1)))] (pEq (.int .i64 x2)) true)]) (rd := [[3], [1], [2], [1], [2], [11, 12], [13], [8, 9, 10, 14]]) rfl hmix (by kernel_rfl) fun hD => ?_
  refine RD.fin (es := [Ent.mk [(3, (pPtr (cGProblem p_0)))] (pAgg (cGProblem p_0)) true, Ent.mk [(1, (pSl 1 (cK .i64) list_1))] (pSl 1 (cK .i64) list_1) true, Ent.mk [(2, (pEq (.int .i64 item_2)))] (pEq (.int .i64 item_2)) true, Ent.mk [(1, (pSl 1 (cK .i64) list_1))] (pSl 1 (cK .i64) list_1) true, Ent.mk [(2, (pEq (.int .i64 item_2)))] (pEq (.int .i64 item_2)) true, Ent.mk [(11, (pSl 1 (cK .i64) list_1)), (12, (pEq (.int .i64 item_2)))] (pPtr ((cK .i64) x1)) true, Ent.mk [(13, (pPtr ((cK .i64) x1)))] (pEq (.int .i64 x1)) true, Ent.mk [(8, (pAgg (cGProblem p_0))), (9, (pSl 1 (cK .i64) list_1)), (10, (pEq (.int .i64 item_2))), (14, (pEq (.int .i64 x1)))] (pEq (.int .i64 x2)) true]) (done := []) hD ⟨.inr ⟨(OpJ.w (J_loadA rfl Try.isAgg29 sz29 (Opd.tmp rfl) rfl)), ⟨rfl, trivial⟩, rfl, rfl⟩, ⟨.inr ⟨(OpJ.w (J_move rfl (Opd.tmp rfl))), ⟨rfl, trivial⟩, rfl, rfl⟩, ⟨.inr ⟨(OpJ.w (J_move rfl (Opd.tmp rfl))), ⟨rfl, trivial⟩, rfl, rfl⟩, ⟨.inr ⟨(OpJ.w (J_move rfl (Opd.tmp rfl))), ⟨rfl, trivial⟩, rfl, rfl⟩, ⟨.inr ⟨(OpJ.w (J_move rfl (Opd.tmp rfl))), ⟨rfl, trivial⟩, rfl, rfl⟩, ⟨.inr ⟨(OpJ.w (J_idx rfl Try.underlying25 sz2 (Opd.tmp rfl) (Opd.tmp rfl) hx1)), ⟨rfl, rfl, trivial⟩, rfl, rfl⟩, ⟨.inr ⟨(OpJ.w (J_load rfl Try.isAgg2 (Opd.tmp rfl))), ⟨rfl, trivial⟩, rfl, rfl⟩, ⟨.inr ⟨(OpJ.w (J_call rfl Try.call65 (c_impl_Problem_conflicts hx2) (Opds.cons (Opd.tmp rfl) (Opds.cons (Opd.tmp rfl) (Opds.cons (Opd.tmp rfl) (Opds.cons (Opd.tmp rfl) Opds.nil)))))), ⟨rfl, rfl, rfl, rfl, trivial⟩, rfl, rfl⟩, trivial⟩⟩⟩⟩⟩⟩⟩⟩ ?_
  refine RegL.pure (p := (pEq (.int .i64 x2))) rfl rfl rfl (J_assign rfl (Opd.tmp rfl)) ?_
  refine RegL.nil ?_
  refine Ct.then_tr ?_
  refine Tr.weak (Γ' := [(1, (pSl 1 (cK .i64) list_1)), (2, (pEq (.int .i64 item_2))), (3, (pPtr (cGProblem p_0))), (7, (pEq (.int .i64 x2)))]) ⟨rfl, rfl, rfl, rfl, trivial⟩ ?_
  refine Tr.seq ?_
  refine Tr.seq ?_
  replace h := bind_some h; obtain ⟨x3, hx3, h⟩ := h
  replace h := bind_some h; obtain ⟨x4, hx4, h⟩ := h
  replace h := bind_some h; obtain ⟨x5, hx5, h⟩ := h
  refine Tr.drawD (n := 30) (m := 11) (es := [some (Ent.mk [(3, (pPtr (cGProblem p_0)))] (pPtr ((cSl 1 (cSl 1 (cK .i64))) p_0.Domains)) true), some (Ent.mk [(16, (pPtr ((cSl 1 (cSl 1 (cK .i64))) p_0.Domains)))] (pSl 1 (cSl 1 (cK .i64)) p_0.Domains) true), some (Ent.mk [(2, (pEq (.int .i64 item_2)))] (pEq (.int .i64 item_2)) true), some (Ent.mk [(17, (pSl 1 (cSl 1 (cK .i64)) p_0.Domains)), (18, (pEq (.int .i64 item_2)))] (pPtr ((cSl 1 (cK .i64)) x3)) true), some (Ent.mk [(19, (pPtr ((cSl 1 (cK .i64)) x3)))] (pSl 1 (cK .i64) x3) true), some (Ent.mk [(1, (pSl 1 (cK .i64) list_1))] (pSl 1 (cK .i64) list_1) true), some (Ent.mk [(2, (pEq (.int .i64 item_2)))] (pEq (.int .i64 item_2)) true), some (Ent.mk [(21, (pSl 1 (cK .i64) list_1)), (22, (pEq (.int .i64 item_2)))] (pPtr ((cK .i64) x4)) true), some (Ent.mk [(23, (pPtr ((cK .i64) x4)))] (pEq (.int .i64 x4)) true), some (Ent.mk [(20, (pSl 1 (cK .i64) x3)), (24, (pEq (.int .i64 x4)))] (pEq (.bool x5)) true), some (Ent.mk [(25, (pEq (.bool x5)))] (pEq (.bool (!x5))) true)]) (rd := [[3], [16], [2], [17, 18], [19], [1], [2], [21, 22], [23], [20, 24], [25]]) rfl hmix (by kernel_rfl) fun hD => ?_
  refine RD.fin (es := [Ent.mk [(3, (pPtr (cGProblem p_0)))] (pPtr ((cSl 1 (cSl 1 (cK .i64))) p_0.Domains)) true, Ent.mk [(16, (pPtr ((cSl 1 (cSl 1 (cK .i64))) p_0.Domains)))] (pSl 1 (cSl 1 (cK .i64)) p_0.Domains) true, Ent.mk [(2, (pEq (.int .i64 item_2)))] (pEq (.int .i64 item_2)) true, Ent.mk [(17, (pSl 1 (cSl 1 (cK .i64)) p_0.Domains)), (18, (pEq (.int .i64 item_2)))] (pPtr ((cSl 1 (cK .i64)) x3)) true, Ent.mk [(19, (pPtr ((cSl 1 (cK .i64)) x3)))] (pSl 1 (cK .i64) x3) true, Ent.mk [(1, (pSl 1 (cK .i64) list_1))] (pSl 1 (cK .i64) list_1) true, Ent.mk [(2, (pEq (.int .i64 item_2)))] (pEq (.int .i64 item_2)) true, Ent.mk [(21, (pSl 1 (cK .i64) list_1)), (22, (pEq (.int .i64 item_2)))] (pPtr ((cK .i64) x4)) true, Ent.mk [(23, (pPtr ((cK .i64) x4)))] (pEq (.int .i64 x4)) true, Ent.mk [(20, (pSl 1 (cK .i64) x3)), (24, (pEq (.int .i64 x4)))] (pEq (.bool x5)) true, Ent.mk [(25, (pEq (.bool x5)))] (pEq (.bool (!x5))) true]) (done := []) hD ⟨.inr ⟨(OpJ.w (J_fieldAddr rfl Try.underlying29 rfl sz22 (by decide) (Opd.tmp rfl) rfl)), ⟨rfl, trivial⟩, rfl, rfl⟩, ⟨.inr ⟨(OpJ.w (J_load rfl Try.isAgg22 (Opd.tmp rfl))), ⟨rfl, trivial⟩, rfl, rfl⟩, ⟨.inr ⟨(OpJ.w (J_move rfl (Opd.tmp rfl))), ⟨rfl, trivial⟩, rfl, rfl⟩, ⟨.inr ⟨(OpJ.w (J_idx rfl Try.underlying22 sz25 (Opd.tmp rfl) (Opd.tmp rfl) hx3)), ⟨rfl, rfl, trivial⟩, rfl, rfl⟩, ⟨.inr ⟨(OpJ.w (J_load rfl Try.isAgg25 (Opd.tmp rfl))), ⟨rfl, trivial⟩, rfl, rfl⟩, ⟨.inr ⟨(OpJ.w (J_move rfl (Opd.tmp rfl))), ⟨rfl, trivial⟩, rfl, rfl⟩, ⟨.inr ⟨(OpJ.w (J_move rfl (Opd.tmp rfl))), ⟨rfl, trivial⟩, rfl, rfl⟩, ⟨.inr ⟨(OpJ.w (J_idx rfl Try.underlying25 sz2 (Opd.tmp rfl) (Opd.tmp rfl) hx4)), ⟨rfl, rfl, trivial⟩, rfl, rfl⟩, ⟨.inr ⟨(OpJ.w (J_load rfl Try.isAgg2 (Opd.tmp rfl))), ⟨rfl, trivial⟩, rfl, rfl⟩, ⟨.inr ⟨(OpJ.w (J_call rfl Try.call70 (c_slices_Contains_int64_int64 hx5) (Opds.cons (Opd.tmp rfl) (Opds.cons (Opd.tmp rfl) Opds.nil)))), ⟨rfl, rfl, trivial⟩, rfl, rfl⟩, ⟨.inr ⟨(OpJ.w (J_not rfl (Opd.tmp rfl))), ⟨rfl, trivial⟩, rfl, rfl⟩, trivial⟩⟩⟩⟩⟩⟩⟩⟩⟩⟩⟩ ?_
  refine RegL.nil ?_
  refine Ct.then_tr ?_
  refine Tr.weak (Γ' := [(7, (pEq (.int .i64 x2))), (26, (pEq (.bool (!x5))))]) ⟨rfl, rfl, trivial⟩ ?_
  replace h := bind_some h; obtain ⟨x6, hx6, h⟩ := h
  refine Tr.cut (γ := Unit) (Γm := fun g => [(7, (pEq (.int .i64 x6)))]) (Ωm := fun g => []) ?_ (fun g7 => ?_)
  · clear h
    have h := hx6
    clear hx6
    refine Tr.cond (Opd.tmp rfl) (fun hc => ?_) (fun hc => ?_)
    · replace h := bif_t hc h
      refine Tr.region ?_
      refine RegL.pure (p := (pEq (.int .i64 x2))) rfl rfl rfl (J_move rfl (Opd.tmp rfl)) ?_
      refine RegL.pure (p := (pEq (.int .i64 (w64 (x2 + (24 : Int)))))) rfl rfl rfl (J_bin rfl (Opd.tmp rfl) Opd.con B_add) ?_
      refine RegL.pure (p := (pEq (.int .i64 (w64 (x2 + (24 : Int)))))) rfl rfl rfl (J_assign rfl (Opd.tmp rfl)) ?_
      refine RegL.nil ?_
      replace h := Option.some.inj h; subst h
      exact Ct.mid () rfl ⟨rfl, trivial⟩
    · replace h := bif_f hc h
      refine Tr.skip ?_
      replace h := Option.some.inj h; subst h
      exact Ct.mid () rfl ⟨rfl, trivial⟩
  · clear hx6
    refine Ct.then_tr ?_
    refine Tr.weak (Γ' := [(7, (pEq (.int .i64 x6)))]) ⟨rfl, trivial⟩ ?_
    refine Tr.seq ?_
    refine Tr.region ?_
    refine RegL.pure (p := (pEq (.int .i64 x6))) rfl rfl rfl (J_move rfl (Opd.tmp rfl)) ?_
    refine RegL.pure (p := (pEq (.int .i64 x6))) rfl rfl rfl (J_assign rfl (Opd.tmp rfl)) ?_
    refine RegL.nil ?_
    refine Ct.then_tr ?_
    refine Tr.weak (Γ' := [(6, (pEq (.int .i64 x6)))]) ⟨rfl, trivial⟩ ?_
    refine Tr.ret ?_
    replace h := Option.some.inj h; subst h
    exact Ct.retH1 (Ωx := []) () rfl (RvOk.tmp rfl) rfl

theorem o_impl_Problem_violations {p_0 : GProblem} {list_1 : (List Int)}  {r : (List (List Int))} (h : m_impl_Problem_violations p_0 list_1 = some r) : CallH Try.prog 66 [(pAgg (cGProblem p_0)), (pSl 1 (cK .i64) list_1)] [] (fun g : (G3 × List G3) => (pEq (.slice g.1.1 g.1.2.1 g.1.2.2))) (fun g : (G3 × List G3) => [oSS 25 2 1 (cK .i64) g.1.1 g.1.2.1 g.1.2.2 g.2 r]) := by
  unfold m_impl_Problem_violations at h
  refine CallH.enter Try.func66 rfl Try.ntmps66 rfl fun W I0 H => ?_
  refine Tr.weak (Γ' := [(0, (pAgg (cGProblem p_0))), (1, (pSl 1 (cK .i64) list_1))]) ⟨rfl, rfl, trivial⟩ ?_
  refine Tr.seq ?_
  refine Tr.region ?_
  refine RegL.pure (p := (pPtr (cGProblem p_0))) rfl rfl rfl (J_boxA rfl (Opd.tmp rfl)) ?_
  refine RegL.pure (p := (pEq (.slice none 0 0))) rfl rfl rfl (J_assign rfl Opd.con) ?_
  refine RegL.nil ?_
  refine Ct.then_tr ?_
  refine Tr.weak (Γ' := [(1, (pSl 1 (cK .i64) list_1)), (2, (pPtr (cGProblem p_0)))]) ⟨rfl, rfl, trivial⟩ ?_
  refine Tr.seq ?_
  refine Tr.region ?_
  refine RegL.pure (p := (pEq (.slice none 0 0))) rfl rfl rfl (J_assign rfl Opd.con) ?_
  refine RegL.nil ?_
  refine Ct.then_tr ?_
  refine Tr.weak (Γ' := [(1, (pSl 1 (cK .i64) list_1)), (2, (pPtr (cGProblem p_0))), (5, (pEq (.slice none 0 0)))]) ⟨rfl, rfl, rfl, trivial⟩ ?_
  refine Tr.seq ?_
  refine Tr.seq ?_
  refine Tr.region ?_
  refine RegL.pure (p := (pSl 1 (cK .i64) list_1)) rfl rfl rfl (J_move rfl (Opd.tmp rfl)) ?_
  refine RegL.pure (p := (pEq (.int .i64 (list_1.length : Int)))) rfl rfl rfl (J_len rfl Try.underlying25 (Opd.tmp rfl) rfl) ?_
  refine RegL.pure (p := (pEq (.int .i64 (0 : Int)))) rfl rfl rfl (J_move rfl Opd.con) ?_
  refine RegL.nil ?_
  refine Ct.then_tr ?_
  refine Tr.weak (Γ' := [(1, (pSl 1 (cK .i64) list_1)), (2, (pPtr (cGProblem p_0))), (5, (pEq (.slice none 0 0))), (9, (pEq (.int .i64 (list_1.length : Int)))), (10, (pEq (.int .i64 (0 : Int))))]) ⟨rfl, rfl, rfl, rfl, rfl, trivial⟩ ?_
  refine Tr.re (Ω2 := [oSS 25 2 1 (cK .i64) none 0 0 [] ([] : (List (List Int)))]) (fun h => nest_nil h) ?_
  replace h := bind_some h; obtain ⟨x2, hx2, h⟩ := h
  refine Tr.cut (γ := (G3 × List G3)) (Γm := fun g => [(5, (pEq (.slice g.1.1 g.1.2.1 g.1.2.2)))]) (Ωm := fun g => [oSS 25 2 1 (cK .i64) g.1.1 g.1.2.1 g.1.2.2 g.2 x2]) ?_ (fun g26 => ?_)
  · clear h
    have h := hx2
    clear hx2
    refine Tr.block ?_
    refine Tr.weak (Γ' := [(1, (pSl 1 (cK .i64) list_1)), (2, (pPtr (cGProblem p_0))), (5, (pEq (.slice none 0 0))), (9, (pEq (.int .i64 (list_1.length : Int)))), (10, (pEq (.int .i64 (0 : Int))))]) ⟨rfl, rfl, rfl, rfl, rfl, trivial⟩ ?_
    refine Tr.loop (γ := (G3 × List G3)) (σ := (Int × (List (List Int)))) (Γσ := fun s g => [(1, (pSl 1 (cK .i64) list_1)), (2, (pPtr (cGProblem p_0))), (5, (pEq (.slice g.1.1 g.1.2.1 g.1.2.2))), (9, (pEq (.int .i64 (list_1.length : Int)))), (10, (pEq (.int .i64 s.1)))]) (Ωσ := fun s g => [oSS 25 2 1 (cK .i64) g.1.1 g.1.2.1 g.1.2.2 g.2 s.2]) (g := ((none, 0, 0), [])) h ?_
    clear h
    rintro ⟨v4, v5⟩ g6 t h
    replace h : m_impl_Problem_violations_B3 p_0 list_1 v4 v5 = some t := h
    unfold m_impl_Problem_violations_B3 at h
    refine Tr.weakO (Γ' := [(1, (pSl 1 (cK .i64) list_1)), (2, (pPtr (cGProblem p_0))), (5, (pEq (.slice g6.1.1 g6.1.2.1 g6.1.2.2))), (9, (pEq (.int .i64 (list_1.length : Int)))), (10, (pEq (.int .i64 v4)))]) (Ω' := [oSS 25 2 1 (cK .i64) g6.1.1 g6.1.2.1 g6.1.2.2 g6.2 v5]) rfl ⟨rfl, rfl, rfl, rfl, rfl, trivial⟩ ?_
    refine Tr.seq ?_
    refine Tr.region ?_
    refine RegL.pure (p := (pEq (.bool (decide (v4 < (list_1.length : Int)))))) rfl rfl rfl (J_bin rfl (Opd.tmp rfl) (Opd.tmp rfl) B_lss) ?_
    refine RegL.nil ?_
    refine Ct.then_tr ?_
    refine Tr.weak (Γ' := [(1, (pSl 1 (cK .i64) list_1)), (2, (pPtr (cGProblem p_0))), (5, (pEq (.slice g6.1.1 g6.1.2.1 g6.1.2.2))), (9, (pEq (.int .i64 (list_1.length : Int)))), (10, (pEq (.int .i64 v4))), (11, (pEq (.bool (decide (v4 < (list_1.length : Int))))))]) ⟨rfl, rfl, rfl, rfl, rfl, rfl, trivial⟩ ?_
    refine Tr.seq ?_
    refine Tr.cond (Opd.tmp rfl) (fun hc => ?_) (fun hc => ?_)
    · replace h := bif_t hc h
      refine Tr.skip ?_
      refine Ct.then_tr ?_
      refine Tr.weak (Γ' := [(1, (pSl 1 (cK .i64) list_1)), (2, (pPtr (cGProblem p_0))), (5, (pEq (.slice g6.1.1 g6.1.2.1 g6.1.2.2))), (9, (pEq (.int .i64 (list_1.length : Int)))), (10, (pEq (.int .i64 v4)))]) ⟨rfl, rfl, rfl, rfl, rfl, trivial⟩ ?_
      refine Tr.seq ?_
      refine Tr.block ?_
      refine Tr.seq ?_
      refine Tr.region ?_
      refine RegL.pure (p := (pEq (.int .i64 v4))) rfl rfl rfl (J_move rfl (Opd.tmp rfl)) ?_
      refine RegL.pure (p := (pEq (.int .i64 v4))) rfl rfl rfl (J_assign rfl (Opd.tmp rfl)) ?_
      refine RegL.nil ?_
      refine Ct.then_tr ?_
      refine Tr.weak (Γ' := [(1, (pSl 1 (cK .i64) list_1)), (2, (pPtr (cGProblem p_0))), (5, (pEq (.slice g6.1.1 g6.1.2.1 g6.1.2.2))), (6, (pEq (.int .i64 v4))), (9, (pEq (.int .i64 (list_1.length : Int)))), (10, (pEq (.int .i64 v4)))]) ⟨rfl, rfl, rfl, rfl, rfl, rfl, trivial⟩ ?_
      refine Tr.seq ?_
      refine Tr.region ?_
      refine RegL.pure (p := (pEq (.int .i64 v4))) rfl rfl rfl (J_move rfl (Opd.tmp rfl)) ?_
      refine RegL.pure (p := (pEq (.int .i64 (w64 (v4 + (1 : Int)))))) rfl rfl rfl (J_bin rfl (Opd.tmp rfl) Opd.con B_add) ?_
      refine RegL.pure (p := (pEq (.int .i64 (w64 (v4 + (1 : Int)))))) rfl rfl rfl (J_assign rfl (Opd.tmp rfl)) ?_
      refine RegL.nil ?_
      refine Ct.then_tr ?_
      refine Tr.weak (Γ' := [(1, (pSl 1 (cK .i64) list_1)), (2, (pPtr (cGProblem p_0))), (5, (pEq (.slice g6.1.1 g6.1.2.1 g6.1.2.2))), (6, (pEq (.int .i64 v4))), (7, (pEq (.int .i64 (w64 (v4 + (1 : Int)))))), (9, (pEq (.int .i64 (list_1.length : Int)))), (10, (pEq (.int .i64 v4)))]) ⟨rfl, rfl, rfl, rfl, rfl, rfl, rfl, trivial⟩ ?_
      replace h := bind_some h; obtain ⟨x7, hx7, h⟩ := h
      refine Tr.cut (γ := (G3 × List G3)) (Γm := fun g => [(1, (pSl 1 (cK .i64) list_1)), (2, (pPtr (cGProblem p_0))), (5, (pEq (.slice g.1.1 g.1.2.1 g.1.2.2))), (9, (pEq (.int .i64 (list_1.length : Int)))), (10, (pEq (.int .i64 v4)))]) (Ωm := fun g => [oSS 25 2 1 (cK .i64) g.1.1 g.1.2.1 g.1.2.2 g.2 x7]) ?_ (fun g25 => ?_)
      · clear h
        have h := hx7
        clear hx7
        refine Tr.block ?_
        refine Tr.weak (Γ' := [(1, (pSl 1 (cK .i64) list_1)), (2, (pPtr (cGProblem p_0))), (5, (pEq (.slice g6.1.1 g6.1.2.1 g6.1.2.2))), (6, (pEq (.int .i64 v4))), (7, (pEq (.int .i64 (w64 (v4 + (1 : Int)))))), (9, (pEq (.int .i64 (list_1.length : Int)))), (10, (pEq (.int .i64 v4)))]) ⟨rfl, rfl, rfl, rfl, rfl, rfl, rfl, trivial⟩ ?_
        refine Tr.loop (γ := (G3 × List G3)) (σ := (Int × (List (List Int)))) (Γσ := fun s g => [(1, (pSl 1 (cK .i64) list_1)), (2, (pPtr (cGProblem p_0))), (5, (pEq (.slice g.1.1 g.1.2.1 g.1.2.2))), (6, (pEq (.int .i64 v4))), (7, (pEq (.int .i64 s.1))), (9, (pEq (.int .i64 (list_1.length : Int)))), (10, (pEq (.int .i64 v4)))]) (Ωσ := fun s g => [oSS 25 2 1 (cK .i64) g.1.1 g.1.2.1 g.1.2.2 g.2 s.2]) (g := ((g6.1.1, g6.1.2.1, g6.1.2.2), g6.2)) h ?_
        clear h
        rintro ⟨v9, v10⟩ g11 t h
        replace h : m_impl_Problem_violations_B8 p_0 list_1 v4 v9 v10 = some t := h
        unfold m_impl_Problem_violations_B8 at h
        refine Tr.weakO (Γ' := [(1, (pSl 1 (cK .i64) list_1)), (2, (pPtr (cGProblem p_0))), (5, (pEq (.slice g11.1.1 g11.1.2.1 g11.1.2.2))), (6, (pEq (.int .i64 v4))), (7, (pEq (.int .i64 v9))), (9, (pEq (.int .i64 (list_1.length : Int)))), (10, (pEq (.int .i64 v4)))]) (Ω' := [oSS 25 2 1 (cK .i64) g11.1.1 g11.1.2.1 g11.1.2.2 g11.2 v10]) rfl ⟨rfl, rfl, rfl, rfl, rfl, rfl, rfl, trivial⟩ ?_
        refine Tr.seq ?_
        refine Tr.seq ?_
        refine Tr.region ?_
        refine RegL.pure (p := (pEq (.int .i64 v9))) rfl rfl rfl (J_move rfl (Opd.tmp rfl)) ?_
        refine RegL.pure (p := (pSl 1 (cK .i64) list_1)) rfl rfl rfl (J_move rfl (Opd.tmp rfl)) ?_
        refine RegL.pure (p := (pEq (.int .i64 (list_1.length : Int)))) rfl rfl rfl (J_len rfl Try.underlying25 (Opd.tmp rfl) rfl) ?_
        refine RegL.pure (p := (pEq (.bool (decide (v9 < (list_1.length : Int)))))) rfl rfl rfl (J_bin rfl (Opd.tmp rfl) (Opd.tmp rfl) B_lss) ?_
        refine RegL.nil ?_
        refine Ct.then_tr ?_
        refine Tr.weak (Γ' := [(1, (pSl 1 (cK .i64) list_1)), (2, (pPtr (cGProblem p_0))), (5, (pEq (.slice g11.1.1 g11.1.2.1 g11.1.2.2))), (6, (pEq (.int .i64 v4))), (7, (pEq (.int .i64 v9))), (9, (pEq (.int .i64 (list_1.length : Int)))), (10, (pEq (.int .i64 v4))), (18, (pEq (.bool (decide (v9 < (list_1.length : Int))))))]) ⟨rfl, rfl, rfl, rfl, rfl, rfl, rfl, rfl, trivial⟩ ?_
        refine Tr.cond (Opd.tmp rfl) (fun hc => ?_) (fun hc => ?_)
        · replace h := bif_t hc h
          refine Tr.skip ?_
          refine Ct.then_tr ?_
          refine Tr.weak (Γ' := [(1, (pSl 1 (cK .i64) list_1)), (2, (pPtr (cGProblem p_0))), (5, (pEq (.slice g11.1.1 g11.1.2.1 g11.1.2.2))), (6, (pEq (.int .i64 v4))), (7, (pEq (.int .i64 v9))), (9, (pEq (.int .i64 (list_1.length : Int)))), (10, (pEq (.int .i64 v4)))]) ⟨rfl, rfl, rfl, rfl, rfl, rfl, rfl, trivial⟩ ?_
          refine Tr.seq ?_
          refine Tr.block ?_
          refine Tr.seq ?_
          replace h := bind_some h; obtain ⟨x12, hx12, h⟩ := h
          replace h := bind_some h; obtain ⟨x13, hx13, h⟩ := h
          replace h := bind_some h; obtain ⟨x14, hx14, h⟩ := h
          replace h := bind_some h; obtain ⟨x15, hx15, h⟩ := h
          replace h := bind_some h; obtain ⟨x16, hx16, h⟩ := h
          refine Tr.drawD (n := 48) (m := 19) (es := [some (Ent.mk [(1, (pSl 1 (cK .i64) list_1))] (pSl 1 (cK .i64) list_1) true), some (Ent.mk [(6, (pEq (.int .i64 v4)))] (pEq (.int .i64 v4)) true), some (Ent.mk [(21, (pSl 1 (cK .i64) list_1)), (22, (pEq (.int .i64 v4)))] (pPtr ((cK .i64) x12)) true), some (Ent.mk [(23, (pPtr ((cK .i64) x12)))] (pEq (.int .i64 x12)) true), some (Ent.mk [(1, (pSl 1 (cK .i64) list_1))] (pSl 1 (cK .i64) list_1) true), some (Ent.mk [(7, (pEq (.int .i64 v9)))] (pEq (.int .i64 v9)) true), some (Ent.mk [(25, (pSl 1 (cK .i64) list_1)), (26, (pEq (.int .i64 v9)))] (pPtr ((cK .i64) x13)) true), some (Ent.mk [(27, (pPtr ((cK .i64) x13)))] (pEq (.int .i64 x13)) true), some (Ent.mk [(24, (pEq (.int .i64 x12))), (28, (pEq (.int .i64 x13)))] (pEq (.int .i64 (w64 (x12 - x13)))) true), some (Ent.mk [(29, (pEq (.int .i64 (w64 (x12 - x13)))))] (pEq (.int .i64 x14)) true), some (Ent.mk [(2, (pPtr (cGProblem p_0)))] (pPtr ((cSl 1 (cSl 1 (cK .i64))) p_0.Apart)) true), some (Ent.mk [(31, (pPtr ((cSl 1 (cSl 1 (cK .i64))) p_0.Apart)))] (pSl 1 (cSl 1 (cK .i64)) p_0.Apart) true), some (Ent.mk [(6, (pEq (.int .i64 v4)))] (pEq (.int .i64 v4)) true), some (Ent.mk [(32, (pSl 1 (cSl 1 (cK .i64)) p_0.Apart)), (33, (pEq (.int .i64 v4)))] (pPtr ((cSl 1 (cK .i64)) x15)) true), some (Ent.mk [(34, (pPtr ((cSl 1 (cK .i64)) x15)))] (pSl 1 (cK .i64) x15) true), some (Ent.mk [(7, (pEq (.int .i64 v9)))] (pEq (.int .i64 v9)) true), some (Ent.mk [(35, (pSl 1 (cK .i64) x15)), (36, (pEq (.int .i64 v9)))] (pPtr ((cK .i64) x16)) true), some (Ent.mk [(37, (pPtr ((cK .i64) x16)))] (pEq (.int .i64 x16)) true), some (Ent.mk [(30, (pEq (.int .i64 x14))), (38, (pEq (.int .i64 x16)))] (pEq (.bool (decide (x14 < x16)))) true)]) (rd := [[1], [6], [21, 22], [23], [1], [7], [25, 26], [27], [24, 28], [29], [2], [31], [6], [32, 33], [34], [7], [35, 36], [37], [30, 38]]) rfl hmix (by kernel_rfl) fun hD => ?_
          refine RD.fin (es := [Ent.mk [(1, (pSl 1 (cK .i64) list_1))] (pSl 1 (cK .i64) list_1) true, Ent.mk [(6, (pEq (.int .i64 v4)))] (pEq (.int .i64 v4)) true, Ent.mk [(21, (pSl 1 (cK .i64) list_1)), (22, (pEq (.int .i64 v4)))] (pPtr ((cK .i64) x12)) true, Ent.mk [(23, (pPtr ((cK .i64) x12)))] (pEq (.int .i64 x12)) true, Ent.mk [(1, (pSl 1 (cK .i64) list_1))] (pSl 1 (cK .i64) list_1) true, Ent.mk [(7, (pEq (.int .i64 v9)))] (pEq (.int .i64 v9)) true, Ent.mk [(25, (pSl 1 (cK .i64) list_1)), (26, (pEq (.int .i64 v9)))] (pPtr ((cK .i64) x13)) true, Ent.mk [(27, (pPtr ((cK .i64) x13)))] (pEq (.int .i64 x13)) true, Ent.mk [(24, (pEq (.int .i64 x12))), (28, (pEq (.int .i64 x13)))] (pEq (.int .i64 (w64 (x12 - x13)))) true, Ent.mk [(29, (pEq (.int .i64 (w64 (x12 - x13)))))] (pEq (.int .i64 x14)) true, Ent.mk [(2, (pPtr (cGProblem p_0)))] (pPtr ((cSl 1 (cSl 1 (cK .i64))) p_0.Apart)) true, Ent.mk [(31, (pPtr ((cSl 1 (cSl 1 (cK .i64))) p_0.Apart)))] (pSl 1 (cSl 1 (cK .i64)) p_0.Apart) true, Ent.mk [(6, (pEq (.int .i64 v4)))] (pEq (.int .i64 v4)) true, Ent.mk [(32, (pSl 1 (cSl 1 (cK .i64)) p_0.Apart)), (33, (pEq (.int .i64 v4)))] (pPtr ((cSl 1 (cK .i64)) x15)) true, Ent.mk [(34, (pPtr ((cSl 1 (cK .i64)) x15)))] (pSl 1 (cK .i64) x15) true, Ent.mk [(7, (pEq (.int .i64 v9)))] (pEq (.int .i64 v9)) true, Ent.mk [(35, (pSl 1 (cK .i64) x15)), (36, (pEq (.int .i64 v9)))] (pPtr ((cK .i64) x16)) true, Ent.mk [(37, (pPtr ((cK .i64) x16)))] (pEq (.int .i64 x16)) true, Ent.mk [(30, (pEq (.int .i64 x14))), (38, (pEq (.int .i64 x16)))] (pEq (.bool (decide (x14 < x16)))) true]) (done := []) hD ⟨.inr ⟨(OpJ.w (J_move rfl (Opd.tmp rfl))), ⟨rfl, trivial⟩, rfl, rfl⟩, ⟨.inr ⟨(OpJ.w (J_move rfl (Opd.tmp rfl))), ⟨rfl, trivial⟩, rfl, rfl⟩, ⟨.inr ⟨(OpJ.w (J_idx rfl Try.underlying25 sz2 (Opd.tmp rfl) (Opd.tmp rfl) hx12)), ⟨rfl, rfl, trivial⟩, rfl, rfl⟩, ⟨.inr ⟨(OpJ.w (J_load rfl Try.isAgg2 (Opd.tmp rfl))), ⟨rfl, trivial⟩, rfl, rfl⟩, ⟨.inr ⟨(OpJ.w (J_move rfl (Opd.tmp rfl))), ⟨rfl, trivial⟩, rfl, rfl⟩, ⟨.inr ⟨(OpJ.w (J_move rfl (Opd.tmp rfl))), ⟨rfl, trivial⟩, rfl, rfl⟩, ⟨.inr ⟨(OpJ.w (J_idx rfl Try.underlying25 sz2 (Opd.tmp rfl) (Opd.tmp rfl) hx13)), ⟨rfl, rfl, trivial⟩, rfl, rfl⟩, ⟨.inr ⟨(OpJ.w (J_load rfl Try.isAgg2 (Opd.tmp rfl))), ⟨rfl, trivial⟩, rfl, rfl⟩, ⟨.inr ⟨(OpJ.w (J_bin rfl (Opd.tmp rfl) (Opd.tmp rfl) B_sub)), ⟨rfl, rfl, trivial⟩, rfl, rfl⟩, ⟨.inr ⟨(OpJ.w (J_call rfl Try.call96 (c_impl_abs hx14) (Opds.cons (Opd.tmp rfl) Opds.nil))), ⟨rfl, trivial⟩, rfl, rfl⟩, ⟨.inr ⟨(OpJ.w (J_fieldAddr rfl Try.underlying29 rfl sz22 (by decide) (Opd.tmp rfl) rfl)), ⟨rfl, trivial⟩, rfl, rfl⟩, ⟨.inr ⟨(OpJ.w (J_load rfl Try.isAgg22 (Opd.tmp rfl))), ⟨rfl, trivial⟩, rfl, rfl⟩, ⟨.inr ⟨(OpJ.w (J_move rfl (Opd.tmp rfl))), ⟨rfl, trivial⟩, rfl, rfl⟩, ⟨.inr ⟨(OpJ.w (J_idx rfl Try.underlying22 sz25 (Opd.tmp rfl) (Opd.tmp rfl) hx15)), ⟨rfl, rfl, trivial⟩, rfl, rfl⟩, ⟨.inr ⟨(OpJ.w (J_load rfl Try.isAgg25 (Opd.tmp rfl))), ⟨rfl, trivial⟩, rfl, rfl⟩, ⟨.inr ⟨(OpJ.w (J_move rfl (Opd.tmp rfl))), ⟨rfl, trivial⟩, rfl, rfl⟩, ⟨.inr ⟨(OpJ.w (J_idx rfl Try.underlying25 sz2 (Opd.tmp rfl) (Opd.tmp rfl) hx16)), ⟨rfl, rfl, trivial⟩, rfl, rfl⟩, ⟨.inr ⟨(OpJ.w (J_load rfl Try.isAgg2 (Opd.tmp rfl))), ⟨rfl, trivial⟩, rfl, rfl⟩, ⟨.inr ⟨(OpJ.w (J_bin rfl (Opd.tmp rfl) (Opd.tmp rfl) B_lss)), ⟨rfl, rfl, trivial⟩, rfl, rfl⟩, trivial⟩⟩⟩⟩⟩⟩⟩⟩⟩⟩⟩⟩⟩⟩⟩⟩⟩⟩⟩ ?_
          refine RegL.nil ?_
          refine Ct.then_tr ?_
          refine Tr.weak (Γ' := [(1, (pSl 1 (cK .i64) list_1)), (2, (pPtr (cGProblem p_0))), (5, (pEq (.slice g11.1.1 g11.1.2.1 g11.1.2.2))), (6, (pEq (.int .i64 v4))), (7, (pEq (.int .i64 v9))), (9, (pEq (.int .i64 (list_1.length : Int)))), (10, (pEq (.int .i64 v4))), (39, (pEq (.bool (decide (x14 < x16)))))]) ⟨rfl, rfl, rfl, rfl, rfl, rfl, rfl, rfl, trivial⟩ ?_
          replace h := bind_some h; obtain ⟨x17, hx17, h⟩ := h
          refine Tr.cut (γ := (G3 × List G3)) (Γm := fun g => [(1, (pSl 1 (cK .i64) list_1)), (2, (pPtr (cGProblem p_0))), (5, (pEq (.slice g.1.1 g.1.2.1 g.1.2.2))), (6, (pEq (.int .i64 v4))), (7, (pEq (.int .i64 v9))), (9, (pEq (.int .i64 (list_1.length : Int)))), (10, (pEq (.int .i64 v4)))]) (Ωm := fun g => [oSS 25 2 1 (cK .i64) g.1.1 g.1.2.1 g.1.2.2 g.2 x17]) ?_ (fun g24 => ?_)
          · clear h
            have h := hx17
            clear hx17
            refine Tr.cond (Opd.tmp rfl) (fun hc => ?_) (fun hc => ?_)
            · replace h := bif_t hc h
              refine Tr.region ?_
              refine RegL.pure (p := (pEq (.slice g11.1.1 g11.1.2.1 g11.1.2.2))) rfl rfl rfl (J_move rfl (Opd.tmp rfl)) ?_
              refine RegL.pure (p := (pEq (.int .i64 v4))) rfl rfl rfl (J_move rfl (Opd.tmp rfl)) ?_
              refine RegL.pure (p := (pEq (.int .i64 v9))) rfl rfl rfl (J_move rfl (Opd.tmp rfl)) ?_
              refine RegL.step (γ := Option Addr) (p := fun a => pEq (.slice a 2 2)) (Ω' := fun a => [oSl 2 1 (cK .i64) a 2 2 ([v4, v9] : (List Int)), oSS 25 2 1 (cK .i64) g11.1.1 g11.1.2.1 g11.1.2.2 g11.2 v10]) rfl rfl rfl (M_buildSlice (qss := [(0, (cK .i64) v4), (1, (cK .i64) v9)]) rfl Try.underlying25 el2 rfl (Parts.cons (Part.one (Opd.tmp rfl) OneC.int) (Parts.cons (Part.one (Opd.tmp rfl) OneC.int) Parts.nil)) rfl rfl) fun o19 => ?_
              refine RegL.step (γ := Option Addr) (p := fun a => pEq (.slice a 1 1)) (Ω' := fun a => [oSl 25 1 cHdr a 1 1 [(o19, 2, 2)], oSl 2 1 (cK .i64) o19 2 2 ([v4, v9] : (List Int)), oSS 25 2 1 (cK .i64) g11.1.1 g11.1.2.1 g11.1.2.2 g11.2 v10]) rfl rfl rfl (M_buildSlice (qss := [(0, cHdr (o19, 2, 2))]) rfl Try.underlying22 elh25 rfl (Parts.cons (Part.one (Opd.tmp rfl) OneC.slice) Parts.nil) rfl rfl) fun o20 => ?_
              refine RegL.re (Ω2 := [oSS 25 2 1 (cK .i64) o20 1 1 [(o19, 2, 2)] [([v4, v9] : (List Int))], oSS 25 2 1 (cK .i64) g11.1.1 g11.1.2.1 g11.1.2.2 g11.2 v10]) (fun h => nest_one h) ?_
              replace h := bind_some h; obtain ⟨x22, hx22, h⟩ := h
              refine RegL.re (Ω2 := [oSS 25 2 1 (cK .i64) g11.1.1 g11.1.2.1 g11.1.2.2 g11.2 v10, oSS 25 2 1 (cK .i64) o20 1 1 [(o19, 2, 2)] [([v4, v9] : (List Int))]]) (fun h => SatO.pick 1 h) ?_
              refine RegL.step (γ := (Option Addr × Nat) × List G3) (p := fun g => pEq (.slice g.1.1 x22.length g.1.2)) (Ω' := fun g => [oSS 25 2 1 (cK .i64) g.1.1 x22.length g.1.2 g.2 x22]) rfl rfl rfl (M_nestAppend rfl Try.underlying22 elh25 (Opd.tmp rfl) (Opd.tmp rfl) hx22) fun g23 => ?_
              refine RegL.pure (p := (pEq (.slice g23.1.1 x22.length g23.1.2))) rfl rfl rfl (J_assign rfl (Opd.tmp rfl)) ?_
              refine RegL.nil ?_
              replace h := Option.some.inj h; subst h
              exact Ct.mid ((g23.1.1, x22.length, g23.1.2), g23.2) rfl ⟨rfl, rfl, rfl, rfl, rfl, rfl, rfl, trivial⟩
            · replace h := bif_f hc h
              refine Tr.skip ?_
              replace h := Option.some.inj h; subst h
              exact Ct.mid ((g11.1.1, g11.1.2.1, g11.1.2.2), g11.2) rfl ⟨rfl, rfl, rfl, rfl, rfl, rfl, rfl, trivial⟩
          · clear hx17
            refine Ct.blk_normal ?_
            refine Ct.then_tr ?_
            refine Tr.weak (Γ' := [(1, (pSl 1 (cK .i64) list_1)), (2, (pPtr (cGProblem p_0))), (5, (pEq (.slice g24.1.1 g24.1.2.1 g24.1.2.2))), (6, (pEq (.int .i64 v4))), (7, (pEq (.int .i64 v9))), (9, (pEq (.int .i64 (list_1.length : Int)))), (10, (pEq (.int .i64 v4)))]) ⟨rfl, rfl, rfl, rfl, rfl, rfl, rfl, trivial⟩ ?_
            refine Tr.region ?_
            refine RegL.pure (p := (pEq (.int .i64 v9))) rfl rfl rfl (J_move rfl (Opd.tmp rfl)) ?_
            refine RegL.pure (p := (pEq (.int .i64 (w64 (v9 + (1 : Int)))))) rfl rfl rfl (J_bin rfl (Opd.tmp rfl) Opd.con B_add) ?_
            refine RegL.pure (p := (pEq (.int .i64 (w64 (v9 + (1 : Int)))))) rfl rfl rfl (J_assign rfl (Opd.tmp rfl)) ?_
            refine RegL.nil ?_
            replace h := Option.some.inj h; subst h
            exact Ct.again ((g24.1.1, g24.1.2.1, g24.1.2.2), g24.2) rfl ⟨rfl, rfl, rfl, rfl, rfl, rfl, rfl, trivial⟩
        · replace h := bif_f hc h
          refine Tr.exit ?_
          refine Ct.then_exit ?_
          replace h := map_some h; obtain ⟨r1, h, rfl⟩ := h
          refine Ct.out_exit fun e => ?_
          subst e
          refine Ct.blk_exit ?_
          replace h := Option.some.inj h; subst h
          exact Ct.mid ((g11.1.1, g11.1.2.1, g11.1.2.2), g11.2) rfl ⟨rfl, rfl, rfl, rfl, rfl, trivial⟩
      · clear hx7
        refine Ct.blk_normal ?_
        refine Ct.then_tr ?_
        refine Tr.weak (Γ' := [(1, (pSl 1 (cK .i64) list_1)), (2, (pPtr (cGProblem p_0))), (5, (pEq (.slice g25.1.1 g25.1.2.1 g25.1.2.2))), (9, (pEq (.int .i64 (list_1.length : Int)))), (10, (pEq (.int .i64 v4)))]) ⟨rfl, rfl, rfl, rfl, rfl, trivial⟩ ?_
        refine Tr.region ?_
        refine RegL.pure (p := (pEq (.int .i64 (w64 (v4 + (1 : Int)))))) rfl rfl rfl (J_bin rfl (Opd.tmp rfl) Opd.con B_add) ?_
        refine RegL.pure (p := (pEq (.int .i64 (w64 (v4 + (1 : Int)))))) rfl rfl rfl (J_move rfl (Opd.tmp rfl)) ?_
        refine RegL.nil ?_
        replace h := Option.some.inj h; subst h
        exact Ct.again ((g25.1.1, g25.1.2.1, g25.1.2.2), g25.2) rfl ⟨rfl, rfl, rfl, rfl, rfl, trivial⟩
    · replace h := bif_f hc h
      refine Tr.exit ?_
      refine Ct.then_exit ?_
      replace h := map_some h; obtain ⟨r1, h, rfl⟩ := h
      refine Ct.out_exit fun e => ?_
      subst e
      refine Ct.blk_exit ?_
      replace h := Option.some.inj h; subst h
      exact Ct.mid ((g6.1.1, g6.1.2.1, g6.1.2.2), g6.2) rfl ⟨rfl, trivial⟩
  · clear hx2
    refine Ct.then_tr ?_
    refine Tr.weak (Γ' := [(5, (pEq (.slice g26.1.1 g26.1.2.1 g26.1.2.2)))]) ⟨rfl, trivial⟩ ?_
    refine Tr.seq ?_
    refine Tr.region ?_
    refine RegL.pure (p := (pEq (.slice g26.1.1 g26.1.2.1 g26.1.2.2))) rfl rfl rfl (J_move rfl (Opd.tmp rfl)) ?_
    refine RegL.pure (p := (pEq (.slice g26.1.1 g26.1.2.1 g26.1.2.2))) rfl rfl rfl (J_assign rfl (Opd.tmp rfl)) ?_
    refine RegL.nil ?_
    refine Ct.then_tr ?_
    refine Tr.weak (Γ' := [(4, (pEq (.slice g26.1.1 g26.1.2.1 g26.1.2.2)))]) ⟨rfl, trivial⟩ ?_
    refine Tr.ret ?_
    replace h := Option.some.inj h; subst h
    exact Ct.retH1 (Ωx := []) ((g26.1.1, g26.1.2.1, g26.1.2.2), g26.2) rfl (RvOk.tmp rfl) rfl

theorem c_impl_Problem_violations {p_0 : GProblem} {list_1 : (List Int)} {r : (List (List Int))} (h : m_impl_Problem_violations p_0 list_1 = some r) : CallJ Try.prog 66 [(pAgg (cGProblem p_0)), (pSl 1 (cK .i64) list_1)] (pSl 1 (cSl 1 (cK .i64)) r) :=
  CallH.frozen (o_impl_Problem_violations h) (fun g => (Conv.nest 0 (fun _ => rfl) rfl))

theorem o_impl_RepairGreedy {a_0 : GProblem} {a_1 : (List Int)} {a_2 : Int}  {r : ((List Int) × Int × Int)} (h : m_impl_RepairGreedy a_0 a_1 a_2 = some r) : CallH Try.prog 27 [(pAgg (cGProblem a_0)), (pSl 1 (cK .i64) a_1), (pEq (.int .i64 a_2))] [] (fun g : G3 => (pTup [(pEq (.slice g.1 g.2.1 g.2.2)), (pEq (.int .i64 r.2.1)), (pEq (.int .i64 r.2.2))])) (fun g : G3 => [oSl 2 1 (cK .i64) g.1 g.2.1 g.2.2 r.1]) := by
  unfold m_impl_RepairGreedy at h
  refine CallH.enter Try.func27 rfl Try.ntmps27 rfl fun W I0 H => ?_
  refine Tr.weak (Γ' := [(0, (pAgg (cGProblem a_0))), (1, (pSl 1 (cK .i64) a_1)), (2, (pEq (.int .i64 a_2)))]) ⟨rfl, rfl, rfl, trivial⟩ ?_
  refine Tr.seq ?_
  refine Tr.region ?_
  refine RegL.pure (p := (pPtr (cGProblem a_0))) rfl rfl rfl (J_boxA rfl (Opd.tmp rfl)) ?_
  refine RegL.pure (p := (pEq (.slice none 0 0))) rfl rfl rfl (J_assign rfl Opd.con) ?_
  refine RegL.pure (p := (pEq (.int .i64 (0 : Int)))) rfl rfl rfl (J_assign rfl Opd.con) ?_
  refine RegL.pure (p := (pEq (.int .i64 (0 : Int)))) rfl rfl rfl (J_assign rfl Opd.con) ?_
  refine RegL.nil ?_
  refine Ct.then_tr ?_
  refine Tr.weak (Γ' := [(1, (pSl 1 (cK .i64) a_1)), (2, (pEq (.int .i64 a_2))), (3, (pPtr (cGProblem a_0)))]) ⟨rfl, rfl, rfl, trivial⟩ ?_
  refine Tr.seq ?_
  refine Tr.region ?_
  refine RegL.pure (p := (pAgg (cGProblem a_0))) rfl rfl rfl (J_loadA rfl Try.isAgg29 sz29 (Opd.tmp rfl) rfl) ?_
  refine RegL.pure (p := (pSl 1 (cK .i64) a_1)) rfl rfl rfl (J_move rfl (Opd.tmp rfl)) ?_
  replace h := bind_some h; obtain ⟨x1, hx1, h⟩ := h
  refine RegL.pure (p := (pEq (.int .i64 x1))) rfl rfl rfl (J_call rfl Try.call42 (c_impl_stateCode hx1) (Opds.cons (Opd.tmp rfl) (Opds.cons (Opd.tmp rfl) (Opds.cons Opd.nilsl Opds.nil)))) ?_
  refine RegL.pure (p := (pEq (.int .i64 x1))) rfl rfl rfl (J_assign rfl (Opd.tmp rfl)) ?_
  refine RegL.nil ?_
  refine Ct.then_tr ?_
  refine Tr.weak (Γ' := [(1, (pSl 1 (cK .i64) a_1)), (2, (pEq (.int .i64 a_2))), (3, (pPtr (cGProblem a_0))), (9, (pEq (.int .i64 x1)))]) ⟨rfl, rfl, rfl, rfl, trivial⟩ ?_
  refine Tr.seq ?_
  refine Tr.block ?_
  refine Tr.seq ?_
  refine Tr.region ?_
  refine RegL.pure (p := (pEq (.int .i64 x1))) rfl rfl rfl (J_move rfl (Opd.tmp rfl)) ?_
  refine RegL.pure (p := (pEq (.bool (x1 == (1 : Int))))) rfl rfl rfl (J_bin rfl (Opd.tmp rfl) Opd.con B_eql) ?_
  refine RegL.pure (p := (pEq (.bool (x1 == (1 : Int))))) rfl rfl rfl (J_assign rfl (Opd.tmp rfl)) ?_
  refine RegL.nil ?_
  refine Ct.then_tr ?_
  refine Tr.weak (Γ' := [(1, (pSl 1 (cK .i64) a_1)), (2, (pEq (.int .i64 a_2))), (3, (pPtr (cGProblem a_0))), (9, (pEq (.int .i64 x1))), (19, (pEq (.bool (x1 == (1 : Int)))))]) ⟨rfl, rfl, rfl, rfl, rfl, trivial⟩ ?_
  refine Tr.cond (Opd.tmp rfl) (fun hc => ?_) (fun hc => ?_)
  · replace h := bif_t hc h
    refine Tr.seq ?_
    refine Tr.region ?_
    refine RegL.pure (p := (pEq (.int .i64 x1))) rfl rfl rfl (J_move rfl (Opd.tmp rfl)) ?_
    refine RegL.pure (p := (pEq (.slice none 0 0))) rfl rfl rfl (J_assign rfl Opd.con) ?_
    refine RegL.pure (p := (pEq (.int .i64 (0 : Int)))) rfl rfl rfl (J_assign rfl Opd.con) ?_
    refine RegL.pure (p := (pEq (.int .i64 x1))) rfl rfl rfl (J_assign rfl (Opd.tmp rfl)) ?_
    refine RegL.nil ?_
    refine Ct.then_tr ?_
    refine Tr.weak (Γ' := [(6, (pEq (.slice none 0 0))), (7, (pEq (.int .i64 (0 : Int)))), (8, (pEq (.int .i64 x1)))]) ⟨rfl, rfl, rfl, trivial⟩ ?_
    refine Tr.ret ?_
    refine Ct.blk_ret ?_
    refine Ct.then_ret ?_
    refine Ct.re (Ω2 := [oSl 2 1 (cK .i64) none 0 0 ([] : (List Int))]) (fun h => SatO.nilRow h) ?_
    replace h := Option.some.inj h; subst h
    exact Ct.retH3 (Ωx := []) (none, 0, 0) rfl (RvOk.tmp rfl) (RvOk.tmp rfl) (RvOk.tmp rfl) rfl rfl
  · replace h := bif_f hc h
    refine Tr.seq ?_
    refine Tr.region ?_
    refine RegL.pure (p := (pEq (.int .i64 a_2))) rfl rfl rfl (J_move rfl (Opd.tmp rfl)) ?_
    replace h := bind_some h; obtain ⟨x3, hx3, h⟩ := h
    refine RegL.pure (p := (pEq (.bool x3))) rfl rfl rfl (J_call rfl Try.call64 (c_impl_within hx3) (Opds.cons (Opd.tmp rfl) (Opds.cons Opd.con (Opds.cons Opd.con Opds.nil)))) ?_
    refine RegL.pure (p := (pEq (.bool (!x3)))) rfl rfl rfl (J_not rfl (Opd.tmp rfl)) ?_
    refine RegL.pure (p := (pEq (.bool (!x3)))) rfl rfl rfl (J_assign rfl (Opd.tmp rfl)) ?_
    refine RegL.nil ?_
    refine Ct.then_tr ?_
    refine Tr.weak (Γ' := [(1, (pSl 1 (cK .i64) a_1)), (2, (pEq (.int .i64 a_2))), (3, (pPtr (cGProblem a_0))), (9, (pEq (.int .i64 x1))), (23, (pEq (.bool (!x3))))]) ⟨rfl, rfl, rfl, rfl, rfl, trivial⟩ ?_
    refine Tr.cond (Opd.tmp rfl) (fun hc => ?_) (fun hc => ?_)
    · replace h := bif_t hc h
      refine Tr.seq ?_
      refine Tr.region ?_
      refine RegL.pure (p := (pEq (.slice none 0 0))) rfl rfl rfl (J_assign rfl Opd.con) ?_
      refine RegL.pure (p := (pEq (.int .i64 (0 : Int)))) rfl rfl rfl (J_assign rfl Opd.con) ?_
      refine RegL.pure (p := (pEq (.int .i64 (2 : Int)))) rfl rfl rfl (J_assign rfl Opd.con) ?_
      refine RegL.nil ?_
      refine Ct.then_tr ?_
      refine Tr.weak (Γ' := [(6, (pEq (.slice none 0 0))), (7, (pEq (.int .i64 (0 : Int)))), (8, (pEq (.int .i64 (2 : Int))))]) ⟨rfl, rfl, rfl, trivial⟩ ?_
      refine Tr.ret ?_
      refine Ct.blk_ret ?_
      refine Ct.then_ret ?_
      refine Ct.re (Ω2 := [oSl 2 1 (cK .i64) none 0 0 ([] : (List Int))]) (fun h => SatO.nilRow h) ?_
      replace h := Option.some.inj h; subst h
      exact Ct.retH3 (Ωx := []) (none, 0, 0) rfl (RvOk.tmp rfl) (RvOk.tmp rfl) (RvOk.tmp rfl) rfl rfl
    · replace h := bif_f hc h
      refine Tr.seq ?_
      refine Tr.region ?_
      refine RegL.pure (p := (pEq (.int .i64 x1))) rfl rfl rfl (J_move rfl (Opd.tmp rfl)) ?_
      refine RegL.pure (p := (pEq (.bool (x1 != (0 : Int))))) rfl rfl rfl (J_bin rfl (Opd.tmp rfl) Opd.con B_neq) ?_
      refine RegL.pure (p := (pEq (.bool (x1 != (0 : Int))))) rfl rfl rfl (J_assign rfl (Opd.tmp rfl)) ?_
      refine RegL.nil ?_
      refine Ct.then_tr ?_
      refine Tr.weak (Γ' := [(1, (pSl 1 (cK .i64) a_1)), (2, (pEq (.int .i64 a_2))), (3, (pPtr (cGProblem a_0))), (9, (pEq (.int .i64 x1))), (27, (pEq (.bool (x1 != (0 : Int)))))]) ⟨rfl, rfl, rfl, rfl, rfl, trivial⟩ ?_
      refine Tr.cond (Opd.tmp rfl) (fun hc => ?_) (fun hc => ?_)
      · replace h := bif_t hc h
        refine Tr.seq ?_
        refine Tr.region ?_
        refine RegL.pure (p := (pEq (.int .i64 x1))) rfl rfl rfl (J_move rfl (Opd.tmp rfl)) ?_
        refine RegL.pure (p := (pEq (.slice none 0 0))) rfl rfl rfl (J_assign rfl Opd.con) ?_
        refine RegL.pure (p := (pEq (.int .i64 (0 : Int)))) rfl rfl rfl (J_assign rfl Opd.con) ?_
        refine RegL.pure (p := (pEq (.int .i64 x1))) rfl rfl rfl (J_assign rfl (Opd.tmp rfl)) ?_
        refine RegL.nil ?_
        refine Ct.then_tr ?_
        refine Tr.weak (Γ' := [(6, (pEq (.slice none 0 0))), (7, (pEq (.int .i64 (0 : Int)))), (8, (pEq (.int .i64 x1)))]) ⟨rfl, rfl, rfl, trivial⟩ ?_
        refine Tr.ret ?_
        refine Ct.blk_ret ?_
        refine Ct.then_ret ?_
        refine Ct.re (Ω2 := [oSl 2 1 (cK .i64) none 0 0 ([] : (List Int))]) (fun h => SatO.nilRow h) ?_
        replace h := Option.some.inj h; subst h
        exact Ct.retH3 (Ωx := []) (none, 0, 0) rfl (RvOk.tmp rfl) (RvOk.tmp rfl) (RvOk.tmp rfl) rfl rfl
      · replace h := bif_f hc h
        refine Tr.skip ?_
        refine Ct.blk_normal ?_
        refine Ct.then_tr ?_
        refine Tr.weak (Γ' := [(1, (pSl 1 (cK .i64) a_1)), (2, (pEq (.int .i64 a_2))), (3, (pPtr (cGProblem a_0)))]) ⟨rfl, rfl, rfl, trivial⟩ ?_
        refine Tr.seq ?_
        refine Tr.region ?_
        refine RegL.pure (p := (pSl 1 (cK .i64) a_1)) rfl rfl rfl (J_move rfl (Opd.tmp rfl)) ?_
        replace h := bind_some h; obtain ⟨x6, hx6, h⟩ := h
        refine RegL.step (γ := G3) (p := fun g => (pEq (.slice g.1 g.2.1 g.2.2))) (Ω' := fun g => [oSl 2 1 (cK .i64) g.1 g.2.1 g.2.2 x6]) rfl rfl rfl (M_callH (Ωi := []) rfl Try.call52 (o_slices_Clone_int64_int64 hx6) (Opds.cons (Opd.tmp rfl) Opds.nil)) fun g7 => ?_
        refine RegL.pure (p := (pEq (.slice g7.1 g7.2.1 g7.2.2))) rfl rfl rfl (J_assign rfl (Opd.tmp rfl)) ?_
        refine RegL.nil ?_
        refine Ct.then_tr ?_
        refine Tr.weak (Γ' := [(2, (pEq (.int .i64 a_2))), (3, (pPtr (cGProblem a_0))), (10, (pEq (.slice g7.1 g7.2.1 g7.2.2)))]) ⟨rfl, rfl, rfl, trivial⟩ ?_
        refine Tr.seq ?_
        refine Tr.seq ?_
        refine Tr.region ?_
        refine RegL.pure (p := (pEq (.int .i64 a_2))) rfl rfl rfl (J_move rfl (Opd.tmp rfl)) ?_
        refine RegL.pure (p := (pEq (.int .i64 (0 : Int)))) rfl rfl rfl (J_move rfl Opd.con) ?_
        refine RegL.nil ?_
        refine Ct.then_tr ?_
        refine Tr.weak (Γ' := [(3, (pPtr (cGProblem a_0))), (10, (pEq (.slice g7.1 g7.2.1 g7.2.2))), (33, (pEq (.int .i64 a_2))), (34, (pEq (.int .i64 (0 : Int))))]) ⟨rfl, rfl, rfl, rfl, trivial⟩ ?_
        replace h := bind_some h; obtain ⟨x9, hx9, h⟩ := h
        refine Tr.cut (γ := G3) (Γm := fun g => [(3, (pPtr (cGProblem a_0))), (10, (pEq (.slice g.1 g.2.1 g.2.2)))]) (Ωm := fun g => [oSl 2 1 (cK .i64) g.1 g.2.1 g.2.2 x9]) ?_ (fun g45 => ?_)
        · clear h
          have h := hx9
          clear hx9
          refine Tr.block ?_
          refine Tr.weak (Γ' := [(3, (pPtr (cGProblem a_0))), (10, (pEq (.slice g7.1 g7.2.1 g7.2.2))), (33, (pEq (.int .i64 a_2))), (34, (pEq (.int .i64 (0 : Int))))]) ⟨rfl, rfl, rfl, rfl, trivial⟩ ?_
          refine Tr.loop (γ := G3) (σ := (Int × (List Int))) (Γσ := fun s g => [(3, (pPtr (cGProblem a_0))), (10, (pEq (.slice g.1 g.2.1 g.2.2))), (33, (pEq (.int .i64 a_2))), (34, (pEq (.int .i64 s.1)))]) (Ωσ := fun s g => [oSl 2 1 (cK .i64) g.1 g.2.1 g.2.2 s.2]) (g := (g7.1, g7.2.1, g7.2.2)) h ?_
          clear h
          rintro ⟨v11, v12⟩ g13 t h
          replace h : m_impl_RepairGreedy_B10 a_0 a_2 v11 v12 = some t := h
          unfold m_impl_RepairGreedy_B10 at h
          refine Tr.weakO (Γ' := [(3, (pPtr (cGProblem a_0))), (10, (pEq (.slice g13.1 g13.2.1 g13.2.2))), (33, (pEq (.int .i64 a_2))), (34, (pEq (.int .i64 v11)))]) (Ω' := [oSl 2 1 (cK .i64) g13.1 g13.2.1 g13.2.2 v12]) rfl ⟨rfl, rfl, rfl, rfl, trivial⟩ ?_
          refine Tr.seq ?_
          refine Tr.region ?_
          refine RegL.pure (p := (pEq (.bool (decide (v11 < a_2))))) rfl rfl rfl (J_bin rfl (Opd.tmp rfl) (Opd.tmp rfl) B_lss) ?_
          refine RegL.nil ?_
          refine Ct.then_tr ?_
          refine Tr.weak (Γ' := [(3, (pPtr (cGProblem a_0))), (10, (pEq (.slice g13.1 g13.2.1 g13.2.2))), (33, (pEq (.int .i64 a_2))), (34, (pEq (.int .i64 v11))), (35, (pEq (.bool (decide (v11 < a_2)))))]) ⟨rfl, rfl, rfl, rfl, rfl, trivial⟩ ?_
          refine Tr.seq ?_
          refine Tr.cond (Opd.tmp rfl) (fun hc => ?_) (fun hc => ?_)
          · replace h := bif_t hc h
            refine Tr.skip ?_
            refine Ct.then_tr ?_
            refine Tr.weak (Γ' := [(3, (pPtr (cGProblem a_0))), (10, (pEq (.slice g13.1 g13.2.1 g13.2.2))), (33, (pEq (.int .i64 a_2))), (34, (pEq (.int .i64 v11)))]) ⟨rfl, rfl, rfl, rfl, trivial⟩ ?_
            refine Tr.seq ?_
            refine Tr.block ?_
            refine Tr.seq ?_
            refine Tr.region ?_
            refine RegL.pure (p := (pEq (.int .i64 (0 : Int)))) rfl rfl rfl (J_assign rfl Opd.con) ?_
            refine RegL.nil ?_
            refine Ct.then_tr ?_
            refine Tr.weak (Γ' := [(3, (pPtr (cGProblem a_0))), (10, (pEq (.slice g13.1 g13.2.1 g13.2.2))), (11, (pEq (.int .i64 (0 : Int)))), (33, (pEq (.int .i64 a_2))), (34, (pEq (.int .i64 v11)))]) ⟨rfl, rfl, rfl, rfl, rfl, trivial⟩ ?_
            refine Tr.seq ?_
            refine Tr.seq ?_
            refine Tr.region ?_
            refine RegL.pure (p := (pEq (.slice g13.1 g13.2.1 g13.2.2))) rfl rfl rfl (J_move rfl (Opd.tmp rfl)) ?_
            refine RegL.pureW (p := (pEq (.int .i64 (v12.length : Int)))) rfl rfl rfl (W_rowLen (j := 0) rfl Try.underlying25 (Opd.tmp rfl) rfl) ?_
            refine RegL.pure (p := (pEq (.int .i64 (0 : Int)))) rfl rfl rfl (J_move rfl Opd.con) ?_
            refine RegL.nil ?_
            refine Ct.then_tr ?_
            refine Tr.weak (Γ' := [(3, (pPtr (cGProblem a_0))), (10, (pEq (.slice g13.1 g13.2.1 g13.2.2))), (11, (pEq (.int .i64 (0 : Int)))), (33, (pEq (.int .i64 a_2))), (34, (pEq (.int .i64 v11))), (37, (pEq (.int .i64 (v12.length : Int)))), (38, (pEq (.int .i64 (0 : Int))))]) ⟨rfl, rfl, rfl, rfl, rfl, rfl, rfl, trivial⟩ ?_
            replace h := bind_some h; obtain ⟨x14, hx14, h⟩ := h
            refine Tr.cut (γ := Unit) (Γm := fun g => [(3, (pPtr (cGProblem a_0))), (10, (pEq (.slice g13.1 g13.2.1 g13.2.2))), (11, (pEq (.int .i64 x14))), (33, (pEq (.int .i64 a_2))), (34, (pEq (.int .i64 v11)))]) (Ωm := fun g => [oSl 2 1 (cK .i64) g13.1 g13.2.1 g13.2.2 v12]) ?_ (fun g23 => ?_)
            · clear h
              have h := hx14
              clear hx14
              refine Tr.block ?_
              refine Tr.weak (Γ' := [(3, (pPtr (cGProblem a_0))), (10, (pEq (.slice g13.1 g13.2.1 g13.2.2))), (11, (pEq (.int .i64 (0 : Int)))), (33, (pEq (.int .i64 a_2))), (34, (pEq (.int .i64 v11))), (37, (pEq (.int .i64 (v12.length : Int)))), (38, (pEq (.int .i64 (0 : Int))))]) ⟨rfl, rfl, rfl, rfl, rfl, rfl, rfl, trivial⟩ ?_
              refine Tr.loop (γ := Unit) (σ := (Int × Int)) (Γσ := fun s g => [(3, (pPtr (cGProblem a_0))), (10, (pEq (.slice g13.1 g13.2.1 g13.2.2))), (11, (pEq (.int .i64 s.1))), (33, (pEq (.int .i64 a_2))), (34, (pEq (.int .i64 v11))), (37, (pEq (.int .i64 (v12.length : Int)))), (38, (pEq (.int .i64 s.2)))]) (Ωσ := fun s g => [oSl 2 1 (cK .i64) g13.1 g13.2.1 g13.2.2 v12]) (g := ()) h ?_
              clear h
              rintro ⟨v16, v17⟩ g18 t h
              replace h : m_impl_RepairGreedy_B15 a_0 v12 v16 v17 = some t := h
              unfold m_impl_RepairGreedy_B15 at h
              refine Tr.weakO (Γ' := [(3, (pPtr (cGProblem a_0))), (10, (pEq (.slice g13.1 g13.2.1 g13.2.2))), (11, (pEq (.int .i64 v16))), (33, (pEq (.int .i64 a_2))), (34, (pEq (.int .i64 v11))), (37, (pEq (.int .i64 (v12.length : Int)))), (38, (pEq (.int .i64 v17)))]) (Ω' := [oSl 2 1 (cK .i64) g13.1 g13.2.1 g13.2.2 v12]) rfl ⟨rfl, rfl, rfl, rfl, rfl, rfl, rfl, trivial⟩ ?_
              refine Tr.seq ?_
              refine Tr.region ?_
              refine RegL.pure (p := (pEq (.bool (decide (v17 < (v12.length : Int)))))) rfl rfl rfl (J_bin rfl (Opd.tmp rfl) (Opd.tmp rfl) B_lss) ?_
              refine RegL.nil ?_
              refine Ct.then_tr ?_
              refine Tr.weak (Γ' := [(3, (pPtr (cGProblem a_0))), (10, (pEq (.slice g13.1 g13.2.1 g13.2.2))), (11, (pEq (.int .i64 v16))), (33, (pEq (.int .i64 a_2))), (34, (pEq (.int .i64 v11))), (37, (pEq (.int .i64 (v12.length : Int)))), (38, (pEq (.int .i64 v17))), (39, (pEq (.bool (decide (v17 < (v12.length : Int))))))]) ⟨rfl, rfl, rfl, rfl, rfl, rfl, rfl, rfl, trivial⟩ ?_
              refine Tr.seq ?_
              refine Tr.cond (Opd.tmp rfl) (fun hc => ?_) (fun hc => ?_)
              · replace h := bif_t hc h
                refine Tr.skip ?_
                refine Ct.then_tr ?_
                refine Tr.weak (Γ' := [(3, (pPtr (cGProblem a_0))), (10, (pEq (.slice g13.1 g13.2.1 g13.2.2))), (11, (pEq (.int .i64 v16))), (33, (pEq (.int .i64 a_2))), (34, (pEq (.int .i64 v11))), (37, (pEq (.int .i64 (v12.length : Int)))), (38, (pEq (.int .i64 v17)))]) ⟨rfl, rfl, rfl, rfl, rfl, rfl, rfl, trivial⟩ ?_
                refine Tr.seq ?_
                refine Tr.block ?_
                refine Tr.seq ?_
                refine Tr.region ?_
                refine RegL.pure (p := (pEq (.int .i64 v17))) rfl rfl rfl (J_move rfl (Opd.tmp rfl)) ?_
                refine RegL.pure (p := (pEq (.int .i64 v17))) rfl rfl rfl (J_assign rfl (Opd.tmp rfl)) ?_
                refine RegL.nil ?_
                refine Ct.then_tr ?_
                refine Tr.weak (Γ' := [(3, (pPtr (cGProblem a_0))), (10, (pEq (.slice g13.1 g13.2.1 g13.2.2))), (11, (pEq (.int .i64 v16))), (12, (pEq (.int .i64 v17))), (33, (pEq (.int .i64 a_2))), (34, (pEq (.int .i64 v11))), (37, (pEq (.int .i64 (v12.length : Int)))), (38, (pEq (.int .i64 v17)))]) ⟨rfl, rfl, rfl, rfl, rfl, rfl, rfl, rfl, trivial⟩ ?_
                refine Tr.seq ?_
                replace h := bind_some h; obtain ⟨x19, hx19, h⟩ := h
                replace h := bind_some h; obtain ⟨x20, hx20, h⟩ := h
                refine Tr.drawD (n := 105) (m := 9) (es := [some (Ent.mk [(3, (pPtr (cGProblem a_0)))] (pAgg (cGProblem a_0)) true), some (Ent.mk [(10, (pEq (.slice g13.1 g13.2.1 g13.2.2)))] (pEq (.slice g13.1 g13.2.1 g13.2.2)) true), some (Ent.mk [(12, (pEq (.int .i64 v17)))] (pEq (.int .i64 v17)) true), some (Ent.mk [(41, (pAgg (cGProblem a_0))), (42, (pEq (.slice g13.1 g13.2.1 g13.2.2))), (43, (pEq (.int .i64 v17)))] (pEq (.int .i64 x19)) true), some (Ent.mk [(3, (pPtr (cGProblem a_0)))] (pAgg (cGProblem a_0)) true), some (Ent.mk [(10, (pEq (.slice g13.1 g13.2.1 g13.2.2)))] (pEq (.slice g13.1 g13.2.1 g13.2.2)) true), some (Ent.mk [(11, (pEq (.int .i64 v16)))] (pEq (.int .i64 v16)) true), some (Ent.mk [(45, (pAgg (cGProblem a_0))), (46, (pEq (.slice g13.1 g13.2.1 g13.2.2))), (47, (pEq (.int .i64 v16)))] (pEq (.int .i64 x20)) true), some (Ent.mk [(44, (pEq (.int .i64 x19))), (48, (pEq (.int .i64 x20)))] (pEq (.bool (decide (x20 < x19)))) true)]) (rd := [[3], [10], [12], [41, 42, 43], [3], [10], [11], [45, 46, 47], [44, 48]]) rfl hmix (by kernel_rfl) fun hD => ?_
                refine RD.fin (es := [Ent.mk [(3, (pPtr (cGProblem a_0)))] (pAgg (cGProblem a_0)) true, Ent.mk [(10, (pEq (.slice g13.1 g13.2.1 g13.2.2)))] (pEq (.slice g13.1 g13.2.1 g13.2.2)) true, Ent.mk [(12, (pEq (.int .i64 v17)))] (pEq (.int .i64 v17)) true, Ent.mk [(41, (pAgg (cGProblem a_0))), (42, (pEq (.slice g13.1 g13.2.1 g13.2.2))), (43, (pEq (.int .i64 v17)))] (pEq (.int .i64 x19)) true, Ent.mk [(3, (pPtr (cGProblem a_0)))] (pAgg (cGProblem a_0)) true, Ent.mk [(10, (pEq (.slice g13.1 g13.2.1 g13.2.2)))] (pEq (.slice g13.1 g13.2.1 g13.2.2)) true, Ent.mk [(11, (pEq (.int .i64 v16)))] (pEq (.int .i64 v16)) true, Ent.mk [(45, (pAgg (cGProblem a_0))), (46, (pEq (.slice g13.1 g13.2.1 g13.2.2))), (47, (pEq (.int .i64 v16)))] (pEq (.int .i64 x20)) true, Ent.mk [(44, (pEq (.int .i64 x19))), (48, (pEq (.int .i64 x20)))] (pEq (.bool (decide (x20 < x19)))) true]) (done := []) hD ⟨.inr ⟨(OpJ.w (J_loadA rfl Try.isAgg29 sz29 (Opd.tmp rfl) rfl)), ⟨rfl, trivial⟩, rfl, rfl⟩, ⟨.inr ⟨(OpJ.w (J_move rfl (Opd.tmp rfl))), ⟨rfl, trivial⟩, rfl, rfl⟩, ⟨.inr ⟨(OpJ.w (J_move rfl (Opd.tmp rfl))), ⟨rfl, trivial⟩, rfl, rfl⟩, ⟨.inr ⟨(W_call rfl Try.call46 (c_impl_Problem_badness hx19) (OpdsA.cons (OpdA.of (Opd.tmp rfl)) (OpdsA.cons (OpdA.conv rfl (Conv.row 0 (fun _ => rfl) rfl)) (OpdsA.cons (OpdA.of (Opd.tmp rfl)) OpdsA.nil))) FreeP.eq), ⟨rfl, rfl, rfl, trivial⟩, rfl, rfl⟩, ⟨.inr ⟨(OpJ.w (J_loadA rfl Try.isAgg29 sz29 (Opd.tmp rfl) rfl)), ⟨rfl, trivial⟩, rfl, rfl⟩, ⟨.inr ⟨(OpJ.w (J_move rfl (Opd.tmp rfl))), ⟨rfl, trivial⟩, rfl, rfl⟩, ⟨.inr ⟨(OpJ.w (J_move rfl (Opd.tmp rfl))), ⟨rfl, trivial⟩, rfl, rfl⟩, ⟨.inr ⟨(W_call rfl Try.call46 (c_impl_Problem_badness hx20) (OpdsA.cons (OpdA.of (Opd.tmp rfl)) (OpdsA.cons (OpdA.conv rfl (Conv.row 0 (fun _ => rfl) rfl)) (OpdsA.cons (OpdA.of (Opd.tmp rfl)) OpdsA.nil))) FreeP.eq), ⟨rfl, rfl, rfl, trivial⟩, rfl, rfl⟩, ⟨.inr ⟨(OpJ.w (J_bin rfl (Opd.tmp rfl) (Opd.tmp rfl) B_gtr)), ⟨rfl, rfl, trivial⟩, rfl, rfl⟩, trivial⟩⟩⟩⟩⟩⟩⟩⟩⟩ ?_
                refine RegL.nil ?_
                refine Ct.then_tr ?_
                refine Tr.weak (Γ' := [(3, (pPtr (cGProblem a_0))), (10, (pEq (.slice g13.1 g13.2.1 g13.2.2))), (11, (pEq (.int .i64 v16))), (12, (pEq (.int .i64 v17))), (33, (pEq (.int .i64 a_2))), (34, (pEq (.int .i64 v11))), (37, (pEq (.int .i64 (v12.length : Int)))), (38, (pEq (.int .i64 v17))), (49, (pEq (.bool (decide (x20 < x19)))))]) ⟨rfl, rfl, rfl, rfl, rfl, rfl, rfl, rfl, rfl, trivial⟩ ?_
                replace h := bind_some h; obtain ⟨x21, hx21, h⟩ := h
                refine Tr.cut (γ := Unit) (Γm := fun g => [(3, (pPtr (cGProblem a_0))), (10, (pEq (.slice g13.1 g13.2.1 g13.2.2))), (11, (pEq (.int .i64 x21))), (33, (pEq (.int .i64 a_2))), (34, (pEq (.int .i64 v11))), (37, (pEq (.int .i64 (v12.length : Int)))), (38, (pEq (.int .i64 v17)))]) (Ωm := fun g => [oSl 2 1 (cK .i64) g13.1 g13.2.1 g13.2.2 v12]) ?_ (fun g22 => ?_)
                · clear h
                  have h := hx21
                  clear hx21
                  refine Tr.cond (Opd.tmp rfl) (fun hc => ?_) (fun hc => ?_)
                  · replace h := bif_t hc h
                    refine Tr.region ?_
                    refine RegL.pure (p := (pEq (.int .i64 v17))) rfl rfl rfl (J_move rfl (Opd.tmp rfl)) ?_
                    refine RegL.pure (p := (pEq (.int .i64 v17))) rfl rfl rfl (J_assign rfl (Opd.tmp rfl)) ?_
                    refine RegL.nil ?_
                    replace h := Option.some.inj h; subst h
                    exact Ct.mid () rfl ⟨rfl, rfl, rfl, rfl, rfl, rfl, rfl, trivial⟩
                  · replace h := bif_f hc h
                    refine Tr.skip ?_
                    replace h := Option.some.inj h; subst h
                    exact Ct.mid () rfl ⟨rfl, rfl, rfl, rfl, rfl, rfl, rfl, trivial⟩
                · clear hx21
                  refine Ct.blk_normal ?_
                  refine Ct.then_tr ?_
                  refine Tr.weak (Γ' := [(3, (pPtr (cGProblem a_0))), (10, (pEq (.slice g13.1 g13.2.1 g13.2.2))), (11, (pEq (.int .i64 x21))), (33, (pEq (.int .i64 a_2))), (34, (pEq (.int .i64 v11))), (37, (pEq (.int .i64 (v12.length : Int)))), (38, (pEq (.int .i64 v17)))]) ⟨rfl, rfl, rfl, rfl, rfl, rfl, rfl, trivial⟩ ?_
                  refine Tr.region ?_
                  refine RegL.pure (p := (pEq (.int .i64 (w64 (v17 + (1 : Int)))))) rfl rfl rfl (J_bin rfl (Opd.tmp rfl) Opd.con B_add) ?_
                  refine RegL.pure (p := (pEq (.int .i64 (w64 (v17 + (1 : Int)))))) rfl rfl rfl (J_move rfl (Opd.tmp rfl)) ?_
                  refine RegL.nil ?_
                  replace h := Option.some.inj h; subst h
                  exact Ct.again () rfl ⟨rfl, rfl, rfl, rfl, rfl, rfl, rfl, trivial⟩
              · replace h := bif_f hc h
                refine Tr.exit ?_
                refine Ct.then_exit ?_
                replace h := map_some h; obtain ⟨r1, h, rfl⟩ := h
                refine Ct.out_exit fun e => ?_
                subst e
                refine Ct.blk_exit ?_
                replace h := Option.some.inj h; subst h
                exact Ct.mid () rfl ⟨rfl, rfl, rfl, rfl, rfl, trivial⟩
            · clear hx14
              refine Ct.then_tr ?_
              refine Tr.weak (Γ' := [(3, (pPtr (cGProblem a_0))), (10, (pEq (.slice g13.1 g13.2.1 g13.2.2))), (11, (pEq (.int .i64 x14))), (33, (pEq (.int .i64 a_2))), (34, (pEq (.int .i64 v11)))]) ⟨rfl, rfl, rfl, rfl, rfl, trivial⟩ ?_
              refine Tr.seq ?_
              refine Tr.region ?_
              refine RegL.pure (p := (pPtr ((cSl 1 (cSl 1 (cK .i64))) a_0.Domains))) rfl rfl rfl (J_fieldAddr rfl Try.underlying29 rfl sz22 (by decide) (Opd.tmp rfl) rfl) ?_
              refine RegL.pure (p := (pSl 1 (cSl 1 (cK .i64)) a_0.Domains)) rfl rfl rfl (J_load rfl Try.isAgg22 (Opd.tmp rfl)) ?_
              refine RegL.pure (p := (pEq (.int .i64 x14))) rfl rfl rfl (J_move rfl (Opd.tmp rfl)) ?_
              replace h := bind_some h; obtain ⟨x24, hx24, h⟩ := h
              refine RegL.pure (p := (pPtr ((cSl 1 (cK .i64)) x24))) rfl rfl rfl (J_idx rfl Try.underlying22 sz25 (Opd.tmp rfl) (Opd.tmp rfl) hx24) ?_
              refine RegL.pure (p := (pSl 1 (cK .i64) x24)) rfl rfl rfl (J_load rfl Try.isAgg25 (Opd.tmp rfl)) ?_
              replace h := bind_some h; obtain ⟨x25, hx25, h⟩ := h
              refine RegL.pure (p := (pPtr ((cK .i64) x25))) rfl rfl rfl (J_idx rfl Try.underlying25 sz2 (Opd.tmp rfl) Opd.con hx25) ?_
              refine RegL.pure (p := (pEq (.int .i64 x25))) rfl rfl rfl (J_load rfl Try.isAgg2 (Opd.tmp rfl)) ?_
              refine RegL.pure (p := (pEq (.int .i64 x25))) rfl rfl rfl (J_assign rfl (Opd.tmp rfl)) ?_
              refine RegL.nil ?_
              refine Ct.then_tr ?_
              refine Tr.weak (Γ' := [(3, (pPtr (cGProblem a_0))), (10, (pEq (.slice g13.1 g13.2.1 g13.2.2))), (11, (pEq (.int .i64 x14))), (13, (pEq (.int .i64 x25))), (33, (pEq (.int .i64 a_2))), (34, (pEq (.int .i64 v11)))]) ⟨rfl, rfl, rfl, rfl, rfl, rfl, trivial⟩ ?_
              refine Tr.seq ?_
              refine Tr.seq ?_
              refine Tr.region ?_
              refine RegL.pure (p := (pPtr ((cSl 1 (cSl 1 (cK .i64))) a_0.Domains))) rfl rfl rfl (J_fieldAddr rfl Try.underlying29 rfl sz22 (by decide) (Opd.tmp rfl) rfl) ?_
              refine RegL.pure (p := (pSl 1 (cSl 1 (cK .i64)) a_0.Domains)) rfl rfl rfl (J_load rfl Try.isAgg22 (Opd.tmp rfl)) ?_
              refine RegL.pure (p := (pEq (.int .i64 x14))) rfl rfl rfl (J_move rfl (Opd.tmp rfl)) ?_
              replace h := bind_some h; obtain ⟨x26, hx26, h⟩ := h
              refine RegL.pure (p := (pPtr ((cSl 1 (cK .i64)) x26))) rfl rfl rfl (J_idx rfl Try.underlying22 sz25 (Opd.tmp rfl) (Opd.tmp rfl) hx26) ?_
              refine RegL.pure (p := (pSl 1 (cK .i64) x26)) rfl rfl rfl (J_load rfl Try.isAgg25 (Opd.tmp rfl)) ?_
              refine RegL.pure (p := (pEq (.int .i64 (x26.length : Int)))) rfl rfl rfl (J_len rfl Try.underlying25 (Opd.tmp rfl) rfl) ?_
              refine RegL.pure (p := (pEq (.int .i64 (0 : Int)))) rfl rfl rfl (J_move rfl Opd.con) ?_
              refine RegL.nil ?_
              refine Ct.then_tr ?_
              refine Tr.weak (Γ' := [(3, (pPtr (cGProblem a_0))), (10, (pEq (.slice g13.1 g13.2.1 g13.2.2))), (11, (pEq (.int .i64 x14))), (13, (pEq (.int .i64 x25))), (33, (pEq (.int .i64 a_2))), (34, (pEq (.int .i64 v11))), (63, (pSl 1 (cK .i64) x26)), (64, (pEq (.int .i64 (x26.length : Int)))), (65, (pEq (.int .i64 (0 : Int))))]) ⟨rfl, rfl, rfl, rfl, rfl, rfl, rfl, rfl, rfl, trivial⟩ ?_
              replace h := bind_some h; obtain ⟨x27, hx27, h⟩ := h
              refine Tr.cut (γ := Unit) (Γm := fun g => [(3, (pPtr (cGProblem a_0))), (10, (pEq (.slice g13.1 g13.2.1 g13.2.2))), (11, (pEq (.int .i64 x14))), (13, (pEq (.int .i64 x27))), (33, (pEq (.int .i64 a_2))), (34, (pEq (.int .i64 v11)))]) (Ωm := fun g => [oSl 2 1 (cK .i64) g13.1 g13.2.1 g13.2.2 v12]) ?_ (fun g37 => ?_)
              · clear h
                have h := hx27
                clear hx27
                refine Tr.block ?_
                refine Tr.weak (Γ' := [(3, (pPtr (cGProblem a_0))), (10, (pEq (.slice g13.1 g13.2.1 g13.2.2))), (11, (pEq (.int .i64 x14))), (13, (pEq (.int .i64 x25))), (33, (pEq (.int .i64 a_2))), (34, (pEq (.int .i64 v11))), (63, (pSl 1 (cK .i64) x26)), (64, (pEq (.int .i64 (x26.length : Int)))), (65, (pEq (.int .i64 (0 : Int))))]) ⟨rfl, rfl, rfl, rfl, rfl, rfl, rfl, rfl, rfl, trivial⟩ ?_
                refine Tr.loop (γ := Unit) (σ := (Int × Int)) (Γσ := fun s g => [(3, (pPtr (cGProblem a_0))), (10, (pEq (.slice g13.1 g13.2.1 g13.2.2))), (11, (pEq (.int .i64 x14))), (13, (pEq (.int .i64 s.1))), (33, (pEq (.int .i64 a_2))), (34, (pEq (.int .i64 v11))), (63, (pSl 1 (cK .i64) x26)), (64, (pEq (.int .i64 (x26.length : Int)))), (65, (pEq (.int .i64 s.2)))]) (Ωσ := fun s g => [oSl 2 1 (cK .i64) g13.1 g13.2.1 g13.2.2 v12]) (g := ()) h ?_
                clear h
                rintro ⟨v29, v30⟩ g31 t h
                replace h : m_impl_RepairGreedy_B28 a_0 v12 x14 x26 v29 v30 = some t := h
                unfold m_impl_RepairGreedy_B28 at h
                refine Tr.weakO (Γ' := [(3, (pPtr (cGProblem a_0))), (10, (pEq (.slice g13.1 g13.2.1 g13.2.2))), (11, (pEq (.int .i64 x14))), (13, (pEq (.int .i64 v29))), (33, (pEq (.int .i64 a_2))), (34, (pEq (.int .i64 v11))), (63, (pSl 1 (cK .i64) x26)), (64, (pEq (.int .i64 (x26.length : Int)))), (65, (pEq (.int .i64 v30)))]) (Ω' := [oSl 2 1 (cK .i64) g13.1 g13.2.1 g13.2.2 v12]) rfl ⟨rfl, rfl, rfl, rfl, rfl, rfl, rfl, rfl, rfl, trivial⟩ ?_
                refine Tr.seq ?_
                refine Tr.region ?_
                refine RegL.pure (p := (pEq (.bool (decide (v30 < (x26.length : Int)))))) rfl rfl rfl (J_bin rfl (Opd.tmp rfl) (Opd.tmp rfl) B_lss) ?_
                refine RegL.nil ?_
                refine Ct.then_tr ?_
                refine Tr.weak (Γ' := [(3, (pPtr (cGProblem a_0))), (10, (pEq (.slice g13.1 g13.2.1 g13.2.2))), (11, (pEq (.int .i64 x14))), (13, (pEq (.int .i64 v29))), (33, (pEq (.int .i64 a_2))), (34, (pEq (.int .i64 v11))), (63, (pSl 1 (cK .i64) x26)), (64, (pEq (.int .i64 (x26.length : Int)))), (65, (pEq (.int .i64 v30))), (66, (pEq (.bool (decide (v30 < (x26.length : Int))))))]) ⟨rfl, rfl, rfl, rfl, rfl, rfl, rfl, rfl, rfl, rfl, trivial⟩ ?_
                refine Tr.seq ?_
                refine Tr.cond (Opd.tmp rfl) (fun hc => ?_) (fun hc => ?_)
                · replace h := bif_t hc h
                  refine Tr.skip ?_
                  refine Ct.then_tr ?_
                  refine Tr.weak (Γ' := [(3, (pPtr (cGProblem a_0))), (10, (pEq (.slice g13.1 g13.2.1 g13.2.2))), (11, (pEq (.int .i64 x14))), (13, (pEq (.int .i64 v29))), (33, (pEq (.int .i64 a_2))), (34, (pEq (.int .i64 v11))), (63, (pSl 1 (cK .i64) x26)), (64, (pEq (.int .i64 (x26.length : Int)))), (65, (pEq (.int .i64 v30)))]) ⟨rfl, rfl, rfl, rfl, rfl, rfl, rfl, rfl, rfl, trivial⟩ ?_
                  refine Tr.seq ?_
                  refine Tr.block ?_
                  refine Tr.seq ?_
                  refine Tr.region ?_
                  replace h := bind_some h; obtain ⟨x32, hx32, h⟩ := h
                  refine RegL.pure (p := (pPtr ((cK .i64) x32))) rfl rfl rfl (J_idx rfl Try.underlying25 sz2 (Opd.tmp rfl) (Opd.tmp rfl) hx32) ?_
                  refine RegL.pure (p := (pEq (.int .i64 x32))) rfl rfl rfl (J_load rfl Try.isAgg2 (Opd.tmp rfl)) ?_
                  refine RegL.pure (p := (pEq (.int .i64 x32))) rfl rfl rfl (J_assign rfl (Opd.tmp rfl)) ?_
                  refine RegL.nil ?_
                  refine Ct.then_tr ?_
                  refine Tr.weak (Γ' := [(3, (pPtr (cGProblem a_0))), (10, (pEq (.slice g13.1 g13.2.1 g13.2.2))), (11, (pEq (.int .i64 x14))), (13, (pEq (.int .i64 v29))), (15, (pEq (.int .i64 x32))), (33, (pEq (.int .i64 a_2))), (34, (pEq (.int .i64 v11))), (63, (pSl 1 (cK .i64) x26)), (64, (pEq (.int .i64 (x26.length : Int)))), (65, (pEq (.int .i64 v30)))]) ⟨rfl, rfl, rfl, rfl, rfl, rfl, rfl, rfl, rfl, rfl, trivial⟩ ?_
                  refine Tr.seq ?_
                  replace h := bind_some h; obtain ⟨x33, hx33, h⟩ := h
                  replace h := bind_some h; obtain ⟨x34, hx34, h⟩ := h
                  refine Tr.drawD (n := 105) (m := 11) (es := [some (Ent.mk [(3, (pPtr (cGProblem a_0)))] (pAgg (cGProblem a_0)) true), some (Ent.mk [(10, (pEq (.slice g13.1 g13.2.1 g13.2.2)))] (pEq (.slice g13.1 g13.2.1 g13.2.2)) true), some (Ent.mk [(11, (pEq (.int .i64 x14)))] (pEq (.int .i64 x14)) true), some (Ent.mk [(15, (pEq (.int .i64 x32)))] (pEq (.int .i64 x32)) true), some (Ent.mk [(69, (pAgg (cGProblem a_0))), (70, (pEq (.slice g13.1 g13.2.1 g13.2.2))), (71, (pEq (.int .i64 x14))), (72, (pEq (.int .i64 x32)))] (pEq (.int .i64 x33)) true), some (Ent.mk [(3, (pPtr (cGProblem a_0)))] (pAgg (cGProblem a_0)) true), some (Ent.mk [(10, (pEq (.slice g13.1 g13.2.1 g13.2.2)))] (pEq (.slice g13.1 g13.2.1 g13.2.2)) true), some (Ent.mk [(11, (pEq (.int .i64 x14)))] (pEq (.int .i64 x14)) true), some (Ent.mk [(13, (pEq (.int .i64 v29)))] (pEq (.int .i64 v29)) true), some (Ent.mk [(74, (pAgg (cGProblem a_0))), (75, (pEq (.slice g13.1 g13.2.1 g13.2.2))), (76, (pEq (.int .i64 x14))), (77, (pEq (.int .i64 v29)))] (pEq (.int .i64 x34)) true), some (Ent.mk [(73, (pEq (.int .i64 x33))), (78, (pEq (.int .i64 x34)))] (pEq (.bool (decide (x33 < x34)))) true)]) (rd := [[3], [10], [11], [15], [69, 70, 71, 72], [3], [10], [11], [13], [74, 75, 76, 77], [73, 78]]) rfl hmix (by kernel_rfl) fun hD => ?_
                  refine RD.fin (es := [Ent.mk [(3, (pPtr (cGProblem a_0)))] (pAgg (cGProblem a_0)) true, Ent.mk [(10, (pEq (.slice g13.1 g13.2.1 g13.2.2)))] (pEq (.slice g13.1 g13.2.1 g13.2.2)) true, Ent.mk [(11, (pEq (.int .i64 x14)))] (pEq (.int .i64 x14)) true, Ent.mk [(15, (pEq (.int .i64 x32)))] (pEq (.int .i64 x32)) true, Ent.mk [(69, (pAgg (cGProblem a_0))), (70, (pEq (.slice g13.1 g13.2.1 g13.2.2))), (71, (pEq (.int .i64 x14))), (72, (pEq (.int .i64 x32)))] (pEq (.int .i64 x33)) true, Ent.mk [(3, (pPtr (cGProblem a_0)))] (pAgg (cGProblem a_0)) true, Ent.mk [(10, (pEq (.slice g13.1 g13.2.1 g13.2.2)))] (pEq (.slice g13.1 g13.2.1 g13.2.2)) true, Ent.mk [(11, (pEq (.int .i64 x14)))] (pEq (.int .i64 x14)) true, Ent.mk [(13, (pEq (.int .i64 v29)))] (pEq (.int .i64 v29)) true, Ent.mk [(74, (pAgg (cGProblem a_0))), (75, (pEq (.slice g13.1 g13.2.1 g13.2.2))), (76, (pEq (.int .i64 x14))), (77, (pEq (.int .i64 v29)))] (pEq (.int .i64 x34)) true, Ent.mk [(73, (pEq (.int .i64 x33))), (78, (pEq (.int .i64 x34)))] (pEq (.bool (decide (x33 < x34)))) true]) (done := []) hD ⟨.inr ⟨(OpJ.w (J_loadA rfl Try.isAgg29 sz29 (Opd.tmp rfl) rfl)), ⟨rfl, trivial⟩, rfl, rfl⟩, ⟨.inr ⟨(OpJ.w (J_move rfl (Opd.tmp rfl))), ⟨rfl, trivial⟩, rfl, rfl⟩, ⟨.inr ⟨(OpJ.w (J_move rfl (Opd.tmp rfl))), ⟨rfl, trivial⟩, rfl, rfl⟩, ⟨.inr ⟨(OpJ.w (J_move rfl (Opd.tmp rfl))), ⟨rfl, trivial⟩, rfl, rfl⟩, ⟨.inr ⟨(W_call rfl Try.call65 (c_impl_Problem_conflicts hx33) (OpdsA.cons (OpdA.of (Opd.tmp rfl)) (OpdsA.cons (OpdA.conv rfl (Conv.row 0 (fun _ => rfl) rfl)) (OpdsA.cons (OpdA.of (Opd.tmp rfl)) (OpdsA.cons (OpdA.of (Opd.tmp rfl)) OpdsA.nil)))) FreeP.eq), ⟨rfl, rfl, rfl, rfl, trivial⟩, rfl, rfl⟩, ⟨.inr ⟨(OpJ.w (J_loadA rfl Try.isAgg29 sz29 (Opd.tmp rfl) rfl)), ⟨rfl, trivial⟩, rfl, rfl⟩, ⟨.inr ⟨(OpJ.w (J_move rfl (Opd.tmp rfl))), ⟨rfl, trivial⟩, rfl, rfl⟩, ⟨.inr ⟨(OpJ.w (J_move rfl (Opd.tmp rfl))), ⟨rfl, trivial⟩, rfl, rfl⟩, ⟨.inr ⟨(OpJ.w (J_move rfl (Opd.tmp rfl))), ⟨rfl, trivial⟩, rfl, rfl⟩, ⟨.inr ⟨(W_call rfl Try.call65 (c_impl_Problem_conflicts hx34) (OpdsA.cons (OpdA.of (Opd.tmp rfl)) (OpdsA.cons (OpdA.conv rfl (Conv.row 0 (fun _ => rfl) rfl)) (OpdsA.cons (OpdA.of (Opd.tmp rfl)) (OpdsA.cons (OpdA.of (Opd.tmp rfl)) OpdsA.nil)))) FreeP.eq), ⟨rfl, rfl, rfl, rfl, trivial⟩, rfl, rfl⟩, ⟨.inr ⟨(OpJ.w (J_bin rfl (Opd.tmp rfl) (Opd.tmp rfl) B_lss)), ⟨rfl, rfl, trivial⟩, rfl, rfl⟩, trivial⟩⟩⟩⟩⟩⟩⟩⟩⟩⟩⟩ ?_
                  refine RegL.nil ?_
                  refine Ct.then_tr ?_
                  refine Tr.weak (Γ' := [(3, (pPtr (cGProblem a_0))), (10, (pEq (.slice g13.1 g13.2.1 g13.2.2))), (11, (pEq (.int .i64 x14))), (13, (pEq (.int .i64 v29))), (15, (pEq (.int .i64 x32))), (33, (pEq (.int .i64 a_2))), (34, (pEq (.int .i64 v11))), (63, (pSl 1 (cK .i64) x26)), (64, (pEq (.int .i64 (x26.length : Int)))), (65, (pEq (.int .i64 v30))), (79, (pEq (.bool (decide (x33 < x34)))))]) ⟨rfl, rfl, rfl, rfl, rfl, rfl, rfl, rfl, rfl, rfl, rfl, trivial⟩ ?_
                  replace h := bind_some h; obtain ⟨x35, hx35, h⟩ := h
                  refine Tr.cut (γ := Unit) (Γm := fun g => [(3, (pPtr (cGProblem a_0))), (10, (pEq (.slice g13.1 g13.2.1 g13.2.2))), (11, (pEq (.int .i64 x14))), (13, (pEq (.int .i64 x35))), (33, (pEq (.int .i64 a_2))), (34, (pEq (.int .i64 v11))), (63, (pSl 1 (cK .i64) x26)), (64, (pEq (.int .i64 (x26.length : Int)))), (65, (pEq (.int .i64 v30)))]) (Ωm := fun g => [oSl 2 1 (cK .i64) g13.1 g13.2.1 g13.2.2 v12]) ?_ (fun g36 => ?_)
                  · clear h
                    have h := hx35
                    clear hx35
                    refine Tr.cond (Opd.tmp rfl) (fun hc => ?_) (fun hc => ?_)
                    · replace h := bif_t hc h
                      refine Tr.region ?_
                      refine RegL.pure (p := (pEq (.int .i64 x32))) rfl rfl rfl (J_move rfl (Opd.tmp rfl)) ?_
                      refine RegL.pure (p := (pEq (.int .i64 x32))) rfl rfl rfl (J_assign rfl (Opd.tmp rfl)) ?_
                      refine RegL.nil ?_
                      replace h := Option.some.inj h; subst h
                      exact Ct.mid () rfl ⟨rfl, rfl, rfl, rfl, rfl, rfl, rfl, rfl, rfl, trivial⟩
                    · replace h := bif_f hc h
                      refine Tr.skip ?_
                      replace h := Option.some.inj h; subst h
                      exact Ct.mid () rfl ⟨rfl, rfl, rfl, rfl, rfl, rfl, rfl, rfl, rfl, trivial⟩
                  · clear hx35
                    refine Ct.blk_normal ?_
                    refine Ct.then_tr ?_
                    refine Tr.weak (Γ' := [(3, (pPtr (cGProblem a_0))), (10, (pEq (.slice g13.1 g13.2.1 g13.2.2))), (11, (pEq (.int .i64 x14))), (13, (pEq (.int .i64 x35))), (33, (pEq (.int .i64 a_2))), (34, (pEq (.int .i64 v11))), (63, (pSl 1 (cK .i64) x26)), (64, (pEq (.int .i64 (x26.length : Int)))), (65, (pEq (.int .i64 v30)))]) ⟨rfl, rfl, rfl, rfl, rfl, rfl, rfl, rfl, rfl, trivial⟩ ?_
                    refine Tr.region ?_
                    refine RegL.pure (p := (pEq (.int .i64 (w64 (v30 + (1 : Int)))))) rfl rfl rfl (J_bin rfl (Opd.tmp rfl) Opd.con B_add) ?_
                    refine RegL.pure (p := (pEq (.int .i64 (w64 (v30 + (1 : Int)))))) rfl rfl rfl (J_move rfl (Opd.tmp rfl)) ?_
                    refine RegL.nil ?_
                    replace h := Option.some.inj h; subst h
                    exact Ct.again () rfl ⟨rfl, rfl, rfl, rfl, rfl, rfl, rfl, rfl, rfl, trivial⟩
                · replace h := bif_f hc h
                  refine Tr.exit ?_
                  refine Ct.then_exit ?_
                  replace h := map_some h; obtain ⟨r1, h, rfl⟩ := h
                  refine Ct.out_exit fun e => ?_
                  subst e
                  refine Ct.blk_exit ?_
                  replace h := Option.some.inj h; subst h
                  exact Ct.mid () rfl ⟨rfl, rfl, rfl, rfl, rfl, rfl, trivial⟩
              · clear hx27
                refine Ct.then_tr ?_
                refine Tr.weak (Γ' := [(3, (pPtr (cGProblem a_0))), (10, (pEq (.slice g13.1 g13.2.1 g13.2.2))), (11, (pEq (.int .i64 x14))), (13, (pEq (.int .i64 x27))), (33, (pEq (.int .i64 a_2))), (34, (pEq (.int .i64 v11)))]) ⟨rfl, rfl, rfl, rfl, rfl, rfl, trivial⟩ ?_
                refine Tr.seq ?_
                refine Tr.seq ?_
                replace h := bind_some h; obtain ⟨x38, hx38, h⟩ := h
                refine Tr.cut (γ := Unit) (Γm := fun g => [(3, (pPtr (cGProblem a_0))), (10, (pEq (.slice g13.1 g13.2.1 g13.2.2))), (11, (pEq (.int .i64 x14))), (13, (pEq (.int .i64 x27))), (33, (pEq (.int .i64 a_2))), (34, (pEq (.int .i64 v11))), (94, (pEq (.bool x38)))]) (Ωm := fun g => [oSl 2 1 (cK .i64) g13.1 g13.2.1 g13.2.2 v12]) ?_ (fun g42 => ?_)
                · clear h
                  have h := hx38
                  clear hx38
                  refine Tr.region ?_
                  refine RegL.pure (p := (pAgg (cGProblem a_0))) rfl rfl rfl (J_loadA rfl Try.isAgg29 sz29 (Opd.tmp rfl) rfl) ?_
                  refine RegL.pure (p := (pEq (.slice g13.1 g13.2.1 g13.2.2))) rfl rfl rfl (J_move rfl (Opd.tmp rfl)) ?_
                  refine RegL.pure (p := (pEq (.int .i64 x14))) rfl rfl rfl (J_move rfl (Opd.tmp rfl)) ?_
                  replace h := bind_some h; obtain ⟨x39, hx39, h⟩ := h
                  refine RegL.pureW (p := (pEq (.int .i64 x39))) rfl rfl rfl (W_call rfl Try.call46 (c_impl_Problem_badness hx39) (OpdsA.cons (OpdA.of (Opd.tmp rfl)) (OpdsA.cons (OpdA.conv rfl (Conv.row 0 (fun _ => rfl) rfl)) (OpdsA.cons (OpdA.of (Opd.tmp rfl)) OpdsA.nil))) FreeP.eq) ?_
                  refine RegL.pure (p := (pEq (.bool (x39 == (0 : Int))))) rfl rfl rfl (J_bin rfl (Opd.tmp rfl) Opd.con B_eql) ?_
                  refine RegL.pure (p := (pEq (.bool (x39 == (0 : Int))))) rfl rfl rfl (J_move rfl (Opd.tmp rfl)) ?_
                  rcases Bool.eq_false_or_eq_true (x39 == (0 : Int)) with hc40 | hc40
                  · replace h := bif_t hc40 h
                    refine RegL.skipG rfl rfl rfl hc40 rfl rfl ?_
                    refine RegL.skipG rfl rfl rfl hc40 rfl rfl ?_
                    refine RegL.skipG rfl rfl rfl hc40 rfl rfl ?_
                    refine RegL.skipG rfl rfl rfl hc40 rfl rfl ?_
                    refine RegL.skipG rfl rfl rfl hc40 rfl rfl ?_
                    refine RegL.skipG rfl rfl rfl hc40 rfl rfl ?_
                    refine RegL.pure (p := (pEq (.bool true))) rfl rfl rfl (J_pick rfl (Opd.tmp rfl) (fun _ => Opd.con) (fun hf => absurd (hc40.symm.trans hf) (by decide))) ?_
                    refine RegL.nil ?_
                    replace h := Option.some.inj h; subst h
                    exact Ct.mid () rfl ⟨rfl, rfl, rfl, rfl, rfl, rfl, rfl, trivial⟩
                  · replace h := bif_f hc40 h
                    refine RegL.pureG (p := (pEq (.int .i64 x27))) rfl rfl rfl hc40 rfl rfl (J_move rfl (Opd.tmp rfl)) ?_
                    refine RegL.pureG (p := (pEq (.slice g13.1 g13.2.1 g13.2.2))) rfl rfl rfl hc40 rfl rfl (J_move rfl (Opd.tmp rfl)) ?_
                    refine RegL.pureG (p := (pEq (.int .i64 x14))) rfl rfl rfl hc40 rfl rfl (J_move rfl (Opd.tmp rfl)) ?_
                    replace h := bind_some h; obtain ⟨x41, hx41, h⟩ := h
                    refine RegL.pureGW (p := (pEq (.pointer (some ⟨blk g13.1, (x14).toNat * 1, none⟩)))) rfl rfl rfl hc40 rfl rfl (W_rowIdx (j := 0) rfl Try.underlying25 sz2 (Opd.tmp rfl) (Opd.tmp rfl) rfl (idx_lt hx41)) ?_
                    refine RegL.pureGW (p := (pEq (.int .i64 x41))) rfl rfl rfl hc40 rfl rfl (W_rowLoad (j := 0) (f := (cK .i64)) rfl Try.isAgg2 (fun _ => rfl) (Opd.tmp rfl) rfl hx41 rfl) ?_
                    refine RegL.pureG (p := (pEq (.bool (x27 == x41)))) rfl rfl rfl hc40 rfl rfl (J_bin rfl (Opd.tmp rfl) (Opd.tmp rfl) B_eql) ?_
                    refine RegL.pure (p := (pEq (.bool (x27 == x41)))) rfl rfl rfl (J_pick rfl (Opd.tmp rfl) (fun hf => absurd (hc40.symm.trans hf) (by decide)) (fun _ => (Opd.tmp rfl))) ?_
                    refine RegL.nil ?_
                    replace h := Option.some.inj h; subst h
                    exact Ct.mid () rfl ⟨rfl, rfl, rfl, rfl, rfl, rfl, rfl, trivial⟩
                · clear hx38
                  refine Ct.then_tr ?_
                  refine Tr.weak (Γ' := [(3, (pPtr (cGProblem a_0))), (10, (pEq (.slice g13.1 g13.2.1 g13.2.2))), (11, (pEq (.int .i64 x14))), (13, (pEq (.int .i64 x27))), (33, (pEq (.int .i64 a_2))), (34, (pEq (.int .i64 v11))), (94, (pEq (.bool x38)))]) ⟨rfl, rfl, rfl, rfl, rfl, rfl, rfl, trivial⟩ ?_
                  refine Tr.cond (Opd.tmp rfl) (fun hc => ?_) (fun hc => ?_)
                  · replace h := bif_t hc h
                    refine Tr.exit ?_
                    refine Ct.then_exit ?_
                    refine Ct.blk_exit_ne rfl ?_
                    refine Ct.then_exit ?_
                    replace h := map_some h; obtain ⟨r1, h, rfl⟩ := h
                    refine Ct.out_exit fun e => ?_
                    subst e
                    refine Ct.blk_exit ?_
                    replace h := Option.some.inj h; subst h
                    exact Ct.mid (g13.1, g13.2.1, g13.2.2) rfl ⟨rfl, rfl, trivial⟩
                  · replace h := bif_f hc h
                    refine Tr.skip ?_
                    refine Ct.then_tr ?_
                    refine Tr.weak (Γ' := [(3, (pPtr (cGProblem a_0))), (10, (pEq (.slice g13.1 g13.2.1 g13.2.2))), (11, (pEq (.int .i64 x14))), (13, (pEq (.int .i64 x27))), (33, (pEq (.int .i64 a_2))), (34, (pEq (.int .i64 v11)))]) ⟨rfl, rfl, rfl, rfl, rfl, rfl, trivial⟩ ?_
                    refine Tr.region ?_
                    refine RegL.pure (p := (pEq (.slice g13.1 g13.2.1 g13.2.2))) rfl rfl rfl (J_move rfl (Opd.tmp rfl)) ?_
                    refine RegL.pure (p := (pEq (.int .i64 x14))) rfl rfl rfl (J_move rfl (Opd.tmp rfl)) ?_
                    refine RegL.pure (p := (pEq (.int .i64 x27))) rfl rfl rfl (J_move rfl (Opd.tmp rfl)) ?_
                    replace h := bind_some h; obtain ⟨u43, hu43, h⟩ := h
                    refine RegL.pureW (p := (pEq (.pointer (some ⟨blk g13.1, (x14).toNat * 1, none⟩)))) rfl rfl rfl (W_rowIdx (j := 0) rfl Try.underlying25 sz2 (Opd.tmp rfl) (Opd.tmp rfl) rfl (inB_some hu43)) ?_
                    refine RegL.stepN (γ := Unit) (p := fun _ => pAny) (Ω' := fun _ => [oSl 2 1 (cK .i64) g13.1 g13.2.1 g13.2.2 (v12.set (x14).toNat x27)]) rfl rfl (M_rowStore rfl sz2 (fun _ => rfl) (Opd.tmp rfl) (Opd.tmp rfl) rfl OneC.int (setL_of (inB_some hu43))) fun g44 => ?_
                    refine RegL.nil ?_
                    refine Ct.blk_normal ?_
                    refine Ct.then_tr ?_
                    refine Tr.weak (Γ' := [(3, (pPtr (cGProblem a_0))), (10, (pEq (.slice g13.1 g13.2.1 g13.2.2))), (33, (pEq (.int .i64 a_2))), (34, (pEq (.int .i64 v11)))]) ⟨rfl, rfl, rfl, rfl, trivial⟩ ?_
                    refine Tr.region ?_
                    refine RegL.pure (p := (pEq (.int .i64 (w64 (v11 + (1 : Int)))))) rfl rfl rfl (J_bin rfl (Opd.tmp rfl) Opd.con B_add) ?_
                    refine RegL.pure (p := (pEq (.int .i64 (w64 (v11 + (1 : Int)))))) rfl rfl rfl (J_move rfl (Opd.tmp rfl)) ?_
                    refine RegL.nil ?_
                    replace h := Option.some.inj h; subst h
                    exact Ct.again (g13.1, g13.2.1, g13.2.2) rfl ⟨rfl, rfl, rfl, rfl, trivial⟩
          · replace h := bif_f hc h
            refine Tr.exit ?_
            refine Ct.then_exit ?_
            replace h := map_some h; obtain ⟨r1, h, rfl⟩ := h
            refine Ct.out_exit fun e => ?_
            subst e
            refine Ct.blk_exit ?_
            replace h := Option.some.inj h; subst h
            exact Ct.mid (g13.1, g13.2.1, g13.2.2) rfl ⟨rfl, rfl, trivial⟩
        · clear hx9
          refine Ct.then_tr ?_
          refine Tr.weak (Γ' := [(3, (pPtr (cGProblem a_0))), (10, (pEq (.slice g45.1 g45.2.1 g45.2.2)))]) ⟨rfl, rfl, trivial⟩ ?_
          refine Tr.seq ?_
          refine Tr.region ?_
          refine RegL.pure (p := (pEq (.slice g45.1 g45.2.1 g45.2.2))) rfl rfl rfl (J_move rfl (Opd.tmp rfl)) ?_
          refine RegL.pure (p := (pAgg (cGProblem a_0))) rfl rfl rfl (J_loadA rfl Try.isAgg29 sz29 (Opd.tmp rfl) rfl) ?_
          refine RegL.pure (p := (pEq (.slice g45.1 g45.2.1 g45.2.2))) rfl rfl rfl (J_move rfl (Opd.tmp rfl)) ?_
          replace h := bind_some h; obtain ⟨x46, hx46, h⟩ := h
          refine RegL.step (γ := (G3 × List G3)) (p := fun g => (pEq (.slice g.1.1 g.1.2.1 g.1.2.2))) (Ω' := fun g => [oSS 25 2 1 (cK .i64) g.1.1 g.1.2.1 g.1.2.2 g.2 x46, oSl 2 1 (cK .i64) g45.1 g45.2.1 g45.2.2 x9]) rfl rfl rfl (M_callHB (Ωi := []) rfl Try.call66 (o_impl_Problem_violations hx46) (OpdsA.cons (OpdA.of (Opd.tmp rfl)) (OpdsA.cons (OpdA.conv rfl (Conv.row 0 (fun _ => rfl) rfl)) OpdsA.nil)) (fun _ => FreeP.eq) (fun _ => ⟨(FreeO.nest (fun _ => ⟨FreeP.eq, trivial⟩)), trivial⟩)) fun g47 => ?_
          refine RegL.pureW (p := (pEq (.int .i64 (x46.length : Int)))) rfl rfl rfl (W_nestLen (j := 0) rfl Try.underlying22 (Opd.tmp rfl) rfl) ?_
          refine RegL.pure (p := (pEq (.slice g45.1 g45.2.1 g45.2.2))) rfl rfl rfl (J_assign rfl (Opd.tmp rfl)) ?_
          refine RegL.pure (p := (pEq (.int .i64 (x46.length : Int)))) rfl rfl rfl (J_assign rfl (Opd.tmp rfl)) ?_
          refine RegL.pure (p := (pEq (.int .i64 (0 : Int)))) rfl rfl rfl (J_assign rfl Opd.con) ?_
          refine RegL.nil ?_
          refine Ct.then_tr ?_
          refine Tr.weak (Γ' := [(6, (pEq (.slice g45.1 g45.2.1 g45.2.2))), (7, (pEq (.int .i64 (x46.length : Int)))), (8, (pEq (.int .i64 (0 : Int))))]) ⟨rfl, rfl, rfl, trivial⟩ ?_
          refine Tr.ret ?_
          replace h := Option.some.inj h; subst h
          exact Ct.retH3 (Ωx := [oSS 25 2 1 (cK .i64) g47.1.1 g47.1.2.1 g47.1.2.2 g47.2 x46]) (g45.1, g45.2.1, g45.2.2) rfl (RvOk.tmp rfl) (RvOk.tmp rfl) (RvOk.tmp rfl) rfl rfl

theorem c_impl_RepairGreedy {a_0 : GProblem} {a_1 : (List Int)} {a_2 : Int} {r : ((List Int) × Int × Int)} (h : m_impl_RepairGreedy a_0 a_1 a_2 = some r) : CallJ Try.prog 27 [(pAgg (cGProblem a_0)), (pSl 1 (cK .i64) a_1), (pEq (.int .i64 a_2))] (pTup [(pSl 1 (cK .i64) r.1), (pEq (.int .i64 r.2.1)), (pEq (.int .i64 r.2.2))]) :=
  CallH.frozen (o_impl_RepairGreedy h) (fun g => (Conv.tup (Convs.cons (Conv.row 0 (fun _ => rfl) rfl) (Convs.cons Conv.refl (Convs.cons Conv.refl Convs.nil)))))

theorem c_laws_eqInt64S {a_0 : (List Int)} {b_1 : (List Int)} {r : Bool} (h : m_laws_eqInt64S a_0 b_1 = some r) : CallJ Try.prog 17 [(pSl 1 (cK .i64) a_0), (pSl 1 (cK .i64) b_1)] (pEq (.bool r)) := by
  unfold m_laws_eqInt64S at h
  refine CallJ.enterH Try.func17 rfl Try.ntmps17 rfl fun W I0 H => ?_
  refine Tr.weak (Γ' := [(0, (pSl 1 (cK .i64) a_0)), (1, (pSl 1 (cK .i64) b_1))]) ⟨rfl, rfl, trivial⟩ ?_
  refine Tr.seq ?_
  refine Tr.region ?_
  refine RegL.pure (p := (pEq (.bool false))) rfl rfl rfl (J_assign rfl Opd.con) ?_
  refine RegL.nil ?_
  refine Ct.then_tr ?_
  refine Tr.weak (Γ' := [(0, (pSl 1 (cK .i64) a_0)), (1, (pSl 1 (cK .i64) b_1))]) ⟨rfl, rfl, trivial⟩ ?_
  refine Tr.seq ?_
  refine Tr.seq ?_
  refine Tr.region ?_
  refine RegL.pure (p := (pSl 1 (cK .i64) a_0)) rfl rfl rfl (J_move rfl (Opd.tmp rfl)) ?_
  refine RegL.pure (p := (pEq (.int .i64 (a_0.length : Int)))) rfl rfl rfl (J_len rfl Try.underlying25 (Opd.tmp rfl) rfl) ?_
  refine RegL.pure (p := (pSl 1 (cK .i64) b_1)) rfl rfl rfl (J_move rfl (Opd.tmp rfl)) ?_
  refine RegL.pure (p := (pEq (.int .i64 (b_1.length : Int)))) rfl rfl rfl (J_len rfl Try.underlying25 (Opd.tmp rfl) rfl) ?_
  refine RegL.pure (p := (pEq (.bool ((a_0.length : Int) != (b_1.length : Int))))) rfl rfl rfl (J_bin rfl (Opd.tmp rfl) (Opd.tmp rfl) B_neq) ?_
  refine RegL.nil ?_
  refine Ct.then_tr ?_
  refine Tr.weak (Γ' := [(0, (pSl 1 (cK .i64) a_0)), (1, (pSl 1 (cK .i64) b_1)), (10, (pEq (.bool ((a_0.length : Int) != (b_1.length : Int)))))]) ⟨rfl, rfl, rfl, trivial⟩ ?_
  refine Tr.cond (Opd.tmp rfl) (fun hc => ?_) (fun hc => ?_)
  · replace h := bif_t hc h
    refine Tr.seq ?_
    refine Tr.region ?_
    refine RegL.pure (p := (pEq (.bool false))) rfl rfl rfl (J_assign rfl Opd.con) ?_
    refine RegL.nil ?_
    refine Ct.then_tr ?_
    refine Tr.weak (Γ' := [(4, (pEq (.bool false)))]) ⟨rfl, trivial⟩ ?_
    refine Tr.ret ?_
    refine Ct.then_ret ?_
    replace h := Option.some.inj h; subst h
    exact Ct.retH1 (Ωx := []) () rfl (RvOk.tmp rfl) rfl
  · replace h := bif_f hc h
    refine Tr.skip ?_
    refine Ct.then_tr ?_
    refine Tr.weak (Γ' := [(0, (pSl 1 (cK .i64) a_0)), (1, (pSl 1 (cK .i64) b_1))]) ⟨rfl, rfl, trivial⟩ ?_
    refine Tr.seq ?_
    refine Tr.seq ?_
    refine Tr.region ?_
    refine RegL.pure (p := (pEq (.int .i64 (0 : Int)))) rfl rfl rfl (J_assign rfl Opd.con) ?_
    refine RegL.nil ?_
    refine Ct.then_tr ?_
    refine Tr.weak (Γ' := [(0, (pSl 1 (cK .i64) a_0)), (1, (pSl 1 (cK .i64) b_1)), (5, (pEq (.int .i64 (0 : Int))))]) ⟨rfl, rfl, rfl, trivial⟩ ?_
    refine Tr.block ?_
    refine Tr.weak (Γ' := [(0, (pSl 1 (cK .i64) a_0)), (1, (pSl 1 (cK .i64) b_1)), (5, (pEq (.int .i64 (0 : Int))))]) ⟨rfl, rfl, rfl, trivial⟩ ?_
    refine Tr.loop (γ := Unit) (σ := Int) (Γσ := fun s g => [(0, (pSl 1 (cK .i64) a_0)), (1, (pSl 1 (cK .i64) b_1)), (5, (pEq (.int .i64 s)))]) (Ωσ := fun s g => []) (g := ()) h ?_
    clear h
    rintro v2 g3 t h
    replace h : m_laws_eqInt64S_B1 a_0 b_1 v2 = some t := h
    unfold m_laws_eqInt64S_B1 at h
    refine Tr.weakO (Γ' := [(0, (pSl 1 (cK .i64) a_0)), (1, (pSl 1 (cK .i64) b_1)), (5, (pEq (.int .i64 v2)))]) (Ω' := []) rfl ⟨rfl, rfl, rfl, trivial⟩ ?_
    refine Tr.seq ?_
    refine Tr.seq ?_
    refine Tr.region ?_
    refine RegL.pure (p := (pEq (.int .i64 v2))) rfl rfl rfl (J_move rfl (Opd.tmp rfl)) ?_
    refine RegL.pure (p := (pSl 1 (cK .i64) a_0)) rfl rfl rfl (J_move rfl (Opd.tmp rfl)) ?_
    refine RegL.pure (p := (pEq (.int .i64 (a_0.length : Int)))) rfl rfl rfl (J_len rfl Try.underlying25 (Opd.tmp rfl) rfl) ?_
    refine RegL.pure (p := (pEq (.bool (decide (v2 < (a_0.length : Int)))))) rfl rfl rfl (J_bin rfl (Opd.tmp rfl) (Opd.tmp rfl) B_lss) ?_
    refine RegL.nil ?_
    refine Ct.then_tr ?_
    refine Tr.weak (Γ' := [(0, (pSl 1 (cK .i64) a_0)), (1, (pSl 1 (cK .i64) b_1)), (5, (pEq (.int .i64 v2))), (14, (pEq (.bool (decide (v2 < (a_0.length : Int))))))]) ⟨rfl, rfl, rfl, rfl, trivial⟩ ?_
    refine Tr.cond (Opd.tmp rfl) (fun hc => ?_) (fun hc => ?_)
    · replace h := bif_t hc h
      refine Tr.skip ?_
      refine Ct.then_tr ?_
      refine Tr.weak (Γ' := [(0, (pSl 1 (cK .i64) a_0)), (1, (pSl 1 (cK .i64) b_1)), (5, (pEq (.int .i64 v2)))]) ⟨rfl, rfl, rfl, trivial⟩ ?_
      refine Tr.seq ?_
      refine Tr.block ?_
      refine Tr.seq ?_
      replace h := bind_some h; obtain ⟨x4, hx4, h⟩ := h
      replace h := bind_some h; obtain ⟨x5, hx5, h⟩ := h
      refine Tr.drawD (n := 26) (m := 9) (es := [some (Ent.mk [(0, (pSl 1 (cK .i64) a_0))] (pSl 1 (cK .i64) a_0) true), some (Ent.mk [(5, (pEq (.int .i64 v2)))] (pEq (.int .i64 v2)) true), some (Ent.mk [(17, (pSl 1 (cK .i64) a_0)), (18, (pEq (.int .i64 v2)))] (pPtr ((cK .i64) x4)) true), some (Ent.mk [(19, (pPtr ((cK .i64) x4)))] (pEq (.int .i64 x4)) true), some (Ent.mk [(1, (pSl 1 (cK .i64) b_1))] (pSl 1 (cK .i64) b_1) true), some (Ent.mk [(5, (pEq (.int .i64 v2)))] (pEq (.int .i64 v2)) true), some (Ent.mk [(21, (pSl 1 (cK .i64) b_1)), (22, (pEq (.int .i64 v2)))] (pPtr ((cK .i64) x5)) true), some (Ent.mk [(23, (pPtr ((cK .i64) x5)))] (pEq (.int .i64 x5)) true), some (Ent.mk [(20, (pEq (.int .i64 x4))), (24, (pEq (.int .i64 x5)))] (pEq (.bool (x4 != x5))) true)]) (rd := [[0], [5], [17, 18], [19], [1], [5], [21, 22], [23], [20, 24]]) rfl hmix (by kernel_rfl) fun hD => ?_
      refine RD.fin (es := [Ent.mk [(0, (pSl 1 (cK .i64) a_0))] (pSl 1 (cK .i64) a_0) true, Ent.mk [(5, (pEq (.int .i64 v2)))] (pEq (.int .i64 v2)) true, Ent.mk [(17, (pSl 1 (cK .i64) a_0)), (18, (pEq (.int .i64 v2)))] (pPtr ((cK .i64) x4)) true, Ent.mk [(19, (pPtr ((cK .i64) x4)))] (pEq (.int .i64 x4)) true, Ent.mk [(1, (pSl 1 (cK .i64) b_1))] (pSl 1 (cK .i64) b_1) true, Ent.mk [(5, (pEq (.int .i64 v2)))] (pEq (.int .i64 v2)) true, Ent.mk [(21, (pSl 1 (cK .i64) b_1)), (22, (pEq (.int .i64 v2)))] (pPtr ((cK .i64) x5)) true, Ent.mk [(23, (pPtr ((cK .i64) x5)))] (pEq (.int .i64 x5)) true, Ent.mk [(20, (pEq (.int .i64 x4))), (24, (pEq (.int .i64 x5)))] (pEq (.bool (x4 != x5))) true]) (done := []) hD ⟨.inr ⟨(OpJ.w (J_move rfl (Opd.tmp rfl))), ⟨rfl, trivial⟩, rfl, rfl⟩, ⟨.inr ⟨(OpJ.w (J_move rfl (Opd.tmp rfl))), ⟨rfl, trivial⟩, rfl, rfl⟩, ⟨.inr ⟨(OpJ.w (J_idx rfl Try.underlying25 sz2 (Opd.tmp rfl) (Opd.tmp rfl) hx4)), ⟨rfl, rfl, trivial⟩, rfl, rfl⟩, ⟨.inr ⟨(OpJ.w (J_load rfl Try.isAgg2 (Opd.tmp rfl))), ⟨rfl, trivial⟩, rfl, rfl⟩, ⟨.inr ⟨(OpJ.w (J_move rfl (Opd.tmp rfl))), ⟨rfl, trivial⟩, rfl, rfl⟩, ⟨.inr ⟨(OpJ.w (J_move rfl (Opd.tmp rfl))), ⟨rfl, trivial⟩, rfl, rfl⟩, ⟨.inr ⟨(OpJ.w (J_idx rfl Try.underlying25 sz2 (Opd.tmp rfl) (Opd.tmp rfl) hx5)), ⟨rfl, rfl, trivial⟩, rfl, rfl⟩, ⟨.inr ⟨(OpJ.w (J_load rfl Try.isAgg2 (Opd.tmp rfl))), ⟨rfl, trivial⟩, rfl, rfl⟩, ⟨.inr ⟨(OpJ.w (J_bin rfl (Opd.tmp rfl) (Opd.tmp rfl) B_neq)), ⟨rfl, rfl, trivial⟩, rfl, rfl⟩, trivial⟩⟩⟩⟩⟩⟩⟩⟩⟩ ?_
      refine RegL.nil ?_
      refine Ct.then_tr ?_
      refine Tr.weak (Γ' := [(0, (pSl 1 (cK .i64) a_0)), (1, (pSl 1 (cK .i64) b_1)), (5, (pEq (.int .i64 v2))), (25, (pEq (.bool (x4 != x5))))]) ⟨rfl, rfl, rfl, rfl, trivial⟩ ?_
      refine Tr.cond (Opd.tmp rfl) (fun hc => ?_) (fun hc => ?_)
      · replace h := bif_t hc h
        refine Tr.seq ?_
        refine Tr.region ?_
        refine RegL.pure (p := (pEq (.bool false))) rfl rfl rfl (J_assign rfl Opd.con) ?_
        refine RegL.nil ?_
        refine Ct.then_tr ?_
        refine Tr.weak (Γ' := [(4, (pEq (.bool false)))]) ⟨rfl, trivial⟩ ?_
        refine Tr.ret ?_
        refine Ct.blk_ret ?_
        refine Ct.then_ret ?_
        replace h := map_some h; obtain ⟨r1, h, rfl⟩ := h
        refine Ct.out_ret fun e => ?_
        subst e
        refine Ct.blk_ret ?_
        refine Ct.then_ret ?_
        replace h := Option.some.inj h; subst h
        exact Ct.retH1 (Ωx := []) () rfl (RvOk.tmp rfl) rfl
      · replace h := bif_f hc h
        refine Tr.skip ?_
        refine Ct.blk_normal ?_
        refine Ct.then_tr ?_
        refine Tr.weak (Γ' := [(0, (pSl 1 (cK .i64) a_0)), (1, (pSl 1 (cK .i64) b_1)), (5, (pEq (.int .i64 v2)))]) ⟨rfl, rfl, rfl, trivial⟩ ?_
        refine Tr.region ?_
        refine RegL.pure (p := (pEq (.int .i64 v2))) rfl rfl rfl (J_move rfl (Opd.tmp rfl)) ?_
        refine RegL.pure (p := (pEq (.int .i64 (w64 (v2 + (1 : Int)))))) rfl rfl rfl (J_bin rfl (Opd.tmp rfl) Opd.con B_add) ?_
        refine RegL.pure (p := (pEq (.int .i64 (w64 (v2 + (1 : Int)))))) rfl rfl rfl (J_assign rfl (Opd.tmp rfl)) ?_
        refine RegL.nil ?_
        replace h := Option.some.inj h; subst h
        exact Ct.again () rfl ⟨rfl, rfl, rfl, trivial⟩
    · replace h := bif_f hc h
      refine Tr.exit ?_
      refine Ct.then_exit ?_
      replace h := map_some h; obtain ⟨r1, h, rfl⟩ := h
      refine Ct.out_exit fun e => ?_
      subst e
      refine Ct.blk_exit ?_
      refine Ct.then_tr ?_
      refine Tr.weak (Γ' := []) trivial ?_
      refine Tr.seq ?_
      refine Tr.region ?_
      refine RegL.pure (p := (pEq (.bool true))) rfl rfl rfl (J_assign rfl Opd.con) ?_
      refine RegL.nil ?_
      refine Ct.then_tr ?_
      refine Tr.weak (Γ' := [(4, (pEq (.bool true)))]) ⟨rfl, trivial⟩ ?_
      refine Tr.ret ?_
      replace h := Option.some.inj h; subst h
      exact Ct.retH1 (Ωx := []) () rfl (RvOk.tmp rfl) rfl

theorem c_laws_eqInt64SS {a_0 : (List (List Int))} {b_1 : (List (List Int))} {r : Bool} (h : m_laws_eqInt64SS a_0 b_1 = some r) : CallJ Try.prog 47 [(pSl 1 (cSl 1 (cK .i64)) a_0), (pSl 1 (cSl 1 (cK .i64)) b_1)] (pEq (.bool r)) := by
  unfold m_laws_eqInt64SS at h
  refine CallJ.enterH Try.func47 rfl Try.ntmps47 rfl fun W I0 H => ?_
  refine Tr.weak (Γ' := [(0, (pSl 1 (cSl 1 (cK .i64)) a_0)), (1, (pSl 1 (cSl 1 (cK .i64)) b_1))]) ⟨rfl, rfl, trivial⟩ ?_
  refine Tr.seq ?_
  refine Tr.region ?_
  refine RegL.pure (p := (pEq (.bool false))) rfl rfl rfl (J_assign rfl Opd.con) ?_
  refine RegL.nil ?_
  refine Ct.then_tr ?_
  refine Tr.weak (Γ' := [(0, (pSl 1 (cSl 1 (cK .i64)) a_0)), (1, (pSl 1 (cSl 1 (cK .i64)) b_1))]) ⟨rfl, rfl, trivial⟩ ?_
  refine Tr.seq ?_
  refine Tr.seq ?_
  refine Tr.region ?_
  refine RegL.pure (p := (pSl 1 (cSl 1 (cK .i64)) a_0)) rfl rfl rfl (J_move rfl (Opd.tmp rfl)) ?_
  refine RegL.pure (p := (pEq (.int .i64 (a_0.length : Int)))) rfl rfl rfl (J_len rfl Try.underlying22 (Opd.tmp rfl) rfl) ?_
  refine RegL.pure (p := (pSl 1 (cSl 1 (cK .i64)) b_1)) rfl rfl rfl (J_move rfl (Opd.tmp rfl)) ?_
  refine RegL.pure (p := (pEq (.int .i64 (b_1.length : Int)))) rfl rfl rfl (J_len rfl Try.underlying22 (Opd.tmp rfl) rfl) ?_
  refine RegL.pure (p := (pEq (.bool ((a_0.length : Int) != (b_1.length : Int))))) rfl rfl rfl (J_bin rfl (Opd.tmp rfl) (Opd.tmp rfl) B_neq) ?_
  refine RegL.nil ?_
  refine Ct.then_tr ?_
  refine Tr.weak (Γ' := [(0, (pSl 1 (cSl 1 (cK .i64)) a_0)), (1, (pSl 1 (cSl 1 (cK .i64)) b_1)), (10, (pEq (.bool ((a_0.length : Int) != (b_1.length : Int)))))]) ⟨rfl, rfl, rfl, trivial⟩ ?_
  refine Tr.cond (Opd.tmp rfl) (fun hc => ?_) (fun hc => ?_)
  · replace h := bif_t hc h
    refine Tr.seq ?_
    refine Tr.region ?_
    refine RegL.pure (p := (pEq (.bool false))) rfl rfl rfl (J_assign rfl Opd.con) ?_
    refine RegL.nil ?_
    refine Ct.then_tr ?_
    refine Tr.weak (Γ' := [(4, (pEq (.bool false)))]) ⟨rfl, trivial⟩ ?_
    refine Tr.ret ?_
    refine Ct.then_ret ?_
    replace h := Option.some.inj h; subst h
    exact Ct.retH1 (Ωx := []) () rfl (RvOk.tmp rfl) rfl
  · replace h := bif_f hc h
    refine Tr.skip ?_
    refine Ct.then_tr ?_
    refine Tr.weak (Γ' := [(0, (pSl 1 (cSl 1 (cK .i64)) a_0)), (1, (pSl 1 (cSl 1 (cK .i64)) b_1))]) ⟨rfl, rfl, trivial⟩ ?_
    refine Tr.seq ?_
    refine Tr.seq ?_
    refine Tr.region ?_
    refine RegL.pure (p := (pEq (.int .i64 (0 : Int)))) rfl rfl rfl (J_assign rfl Opd.con) ?_
    refine RegL.nil ?_
    refine Ct.then_tr ?_
    refine Tr.weak (Γ' := [(0, (pSl 1 (cSl 1 (cK .i64)) a_0)), (1, (pSl 1 (cSl 1 (cK .i64)) b_1)), (5, (pEq (.int .i64 (0 : Int))))]) ⟨rfl, rfl, rfl, trivial⟩ ?_
    refine Tr.block ?_
    refine Tr.weak (Γ' := [(0, (pSl 1 (cSl 1 (cK .i64)) a_0)), (1, (pSl 1 (cSl 1 (cK .i64)) b_1)), (5, (pEq (.int .i64 (0 : Int))))]) ⟨rfl, rfl, rfl, trivial⟩ ?_
    refine Tr.loop (γ := Unit) (σ := Int) (Γσ := fun s g => [(0, (pSl 1 (cSl 1 (cK .i64)) a_0)), (1, (pSl 1 (cSl 1 (cK .i64)) b_1)), (5, (pEq (.int .i64 s)))]) (Ωσ := fun s g => []) (g := ()) h ?_
    clear h
    rintro v2 g3 t h
    replace h : m_laws_eqInt64SS_B1 a_0 b_1 v2 = some t := h
    unfold m_laws_eqInt64SS_B1 at h
    refine Tr.weakO (Γ' := [(0, (pSl 1 (cSl 1 (cK .i64)) a_0)), (1, (pSl 1 (cSl 1 (cK .i64)) b_1)), (5, (pEq (.int .i64 v2)))]) (Ω' := []) rfl ⟨rfl, rfl, rfl, trivial⟩ ?_
    refine Tr.seq ?_
    refine Tr.seq ?_
    refine Tr.region ?_
    refine RegL.pure (p := (pEq (.int .i64 v2))) rfl rfl rfl (J_move rfl (Opd.tmp rfl)) ?_
    refine RegL.pure (p := (pSl 1 (cSl 1 (cK .i64)) a_0)) rfl rfl rfl (J_move rfl (Opd.tmp rfl)) ?_
    refine RegL.pure (p := (pEq (.int .i64 (a_0.length : Int)))) rfl rfl rfl (J_len rfl Try.underlying22 (Opd.tmp rfl) rfl) ?_
    refine RegL.pure (p := (pEq (.bool (decide (v2 < (a_0.length : Int)))))) rfl rfl rfl (J_bin rfl (Opd.tmp rfl) (Opd.tmp rfl) B_lss) ?_
    refine RegL.nil ?_
    refine Ct.then_tr ?_
    refine Tr.weak (Γ' := [(0, (pSl 1 (cSl 1 (cK .i64)) a_0)), (1, (pSl 1 (cSl 1 (cK .i64)) b_1)), (5, (pEq (.int .i64 v2))), (14, (pEq (.bool (decide (v2 < (a_0.length : Int))))))]) ⟨rfl, rfl, rfl, rfl, trivial⟩ ?_
    refine Tr.cond (Opd.tmp rfl) (fun hc => ?_) (fun hc => ?_)
    · replace h := bif_t hc h
      refine Tr.skip ?_
      refine Ct.then_tr ?_
      refine Tr.weak (Γ' := [(0, (pSl 1 (cSl 1 (cK .i64)) a_0)), (1, (pSl 1 (cSl 1 (cK .i64)) b_1)), (5, (pEq (.int .i64 v2)))]) ⟨rfl, rfl, rfl, trivial⟩ ?_
      refine Tr.seq ?_
      refine Tr.block ?_
      refine Tr.seq ?_
      replace h := bind_some h; obtain ⟨x4, hx4, h⟩ := h
      replace h := bind_some h; obtain ⟨x5, hx5, h⟩ := h
      replace h := bind_some h; obtain ⟨x6, hx6, h⟩ := h
      refine Tr.drawD (n := 27) (m := 10) (es := [some (Ent.mk [(0, (pSl 1 (cSl 1 (cK .i64)) a_0))] (pSl 1 (cSl 1 (cK .i64)) a_0) true), some (Ent.mk [(5, (pEq (.int .i64 v2)))] (pEq (.int .i64 v2)) true), some (Ent.mk [(17, (pSl 1 (cSl 1 (cK .i64)) a_0)), (18, (pEq (.int .i64 v2)))] (pPtr ((cSl 1 (cK .i64)) x4)) true), some (Ent.mk [(19, (pPtr ((cSl 1 (cK .i64)) x4)))] (pSl 1 (cK .i64) x4) true), some (Ent.mk [(1, (pSl 1 (cSl 1 (cK .i64)) b_1))] (pSl 1 (cSl 1 (cK .i64)) b_1) true), some (Ent.mk [(5, (pEq (.int .i64 v2)))] (pEq (.int .i64 v2)) true), some (Ent.mk [(21, (pSl 1 (cSl 1 (cK .i64)) b_1)), (22, (pEq (.int .i64 v2)))] (pPtr ((cSl 1 (cK .i64)) x5)) true), some (Ent.mk [(23, (pPtr ((cSl 1 (cK .i64)) x5)))] (pSl 1 (cK .i64) x5) true), some (Ent.mk [(20, (pSl 1 (cK .i64) x4)), (24, (pSl 1 (cK .i64) x5))] (pEq (.bool x6)) true), some (Ent.mk [(25, (pEq (.bool x6)))] (pEq (.bool (!x6))) true)]) (rd := [[0], [5], [17, 18], [19], [1], [5], [21, 22], [23], [20, 24], [25]]) rfl hmix (by kernel_rfl) fun hD => ?_
      refine RD.fin (es := [Ent.mk [(0, (pSl 1 (cSl 1 (cK .i64)) a_0))] (pSl 1 (cSl 1 (cK .i64)) a_0) true, Ent.mk [(5, (pEq (.int .i64 v2)))] (pEq (.int .i64 v2)) true, Ent.mk [(17, (pSl 1 (cSl 1 (cK .i64)) a_0)), (18, (pEq (.int .i64 v2)))] (pPtr ((cSl 1 (cK .i64)) x4)) true, Ent.mk [(19, (pPtr ((cSl 1 (cK .i64)) x4)))] (pSl 1 (cK .i64) x4) true, Ent.mk [(1, (pSl 1 (cSl 1 (cK .i64)) b_1))] (pSl 1 (cSl 1 (cK .i64)) b_1) true, Ent.mk [(5, (pEq (.int .i64 v2)))] (pEq (.int .i64 v2)) true, Ent.mk [(21, (pSl 1 (cSl 1 (cK .i64)) b_1)), (22, (pEq (.int .i64 v2)))] (pPtr ((cSl 1 (cK .i64)) x5)) true, Ent.mk [(23, (pPtr ((cSl 1 (cK .i64)) x5)))] (pSl 1 (cK .i64) x5) true, Ent.mk [(20, (pSl 1 (cK .i64) x4)), (24, (pSl 1 (cK .i64) x5))] (pEq (.bool x6)) true, Ent.mk [(25, (pEq (.bool x6)))] (pEq (.bool (!x6))) true]) (done := []) hD ⟨.inr ⟨(OpJ.w (J_move rfl (Opd.tmp rfl))), ⟨rfl, trivial⟩, rfl, rfl⟩, ⟨.inr ⟨(OpJ.w (J_move rfl (Opd.tmp rfl))), ⟨rfl, trivial⟩, rfl, rfl⟩, ⟨.inr ⟨(OpJ.w (J_idx rfl Try.underlying22 sz25 (Opd.tmp rfl) (Opd.tmp rfl) hx4)), ⟨rfl, rfl, trivial⟩, rfl, rfl⟩, ⟨.inr ⟨(OpJ.w (J_load rfl Try.isAgg25 (Opd.tmp rfl))), ⟨rfl, trivial⟩, rfl, rfl⟩, ⟨.inr ⟨(OpJ.w (J_move rfl (Opd.tmp rfl))), ⟨rfl, trivial⟩, rfl, rfl⟩, ⟨.inr ⟨(OpJ.w (J_move rfl (Opd.tmp rfl))), ⟨rfl, trivial⟩, rfl, rfl⟩, ⟨.inr ⟨(OpJ.w (J_idx rfl Try.underlying22 sz25 (Opd.tmp rfl) (Opd.tmp rfl) hx5)), ⟨rfl, rfl, trivial⟩, rfl, rfl⟩, ⟨.inr ⟨(OpJ.w (J_load rfl Try.isAgg25 (Opd.tmp rfl))), ⟨rfl, trivial⟩, rfl, rfl⟩, ⟨.inr ⟨(OpJ.w (J_call rfl Try.call17 (c_laws_eqInt64S hx6) (Opds.cons (Opd.tmp rfl) (Opds.cons (Opd.tmp rfl) Opds.nil)))), ⟨rfl, rfl, trivial⟩, rfl, rfl⟩, ⟨.inr ⟨(OpJ.w (J_not rfl (Opd.tmp rfl))), ⟨rfl, trivial⟩, rfl, rfl⟩, trivial⟩⟩⟩⟩⟩⟩⟩⟩⟩⟩ ?_
      refine RegL.nil ?_
      refine Ct.then_tr ?_
      refine Tr.weak (Γ' := [(0, (pSl 1 (cSl 1 (cK .i64)) a_0)), (1, (pSl 1 (cSl 1 (cK .i64)) b_1)), (5, (pEq (.int .i64 v2))), (26, (pEq (.bool (!x6))))]) ⟨rfl, rfl, rfl, rfl, trivial⟩ ?_
      refine Tr.cond (Opd.tmp rfl) (fun hc => ?_) (fun hc => ?_)
      · replace h := bif_t hc h
        refine Tr.seq ?_
        refine Tr.region ?_
        refine RegL.pure (p := (pEq (.bool false))) rfl rfl rfl (J_assign rfl Opd.con) ?_
        refine RegL.nil ?_
        refine Ct.then_tr ?_
        refine Tr.weak (Γ' := [(4, (pEq (.bool false)))]) ⟨rfl, trivial⟩ ?_
        refine Tr.ret ?_
        refine Ct.blk_ret ?_
        refine Ct.then_ret ?_
        replace h := map_some h; obtain ⟨r1, h, rfl⟩ := h
        refine Ct.out_ret fun e => ?_
        subst e
        refine Ct.blk_ret ?_
        refine Ct.then_ret ?_
        replace h := Option.some.inj h; subst h
        exact Ct.retH1 (Ωx := []) () rfl (RvOk.tmp rfl) rfl
      · replace h := bif_f hc h
        refine Tr.skip ?_
        refine Ct.blk_normal ?_
        refine Ct.then_tr ?_
        refine Tr.weak (Γ' := [(0, (pSl 1 (cSl 1 (cK .i64)) a_0)), (1, (pSl 1 (cSl 1 (cK .i64)) b_1)), (5, (pEq (.int .i64 v2)))]) ⟨rfl, rfl, rfl, trivial⟩ ?_
        refine Tr.region ?_
        refine RegL.pure (p := (pEq (.int .i64 v2))) rfl rfl rfl (J_move rfl (Opd.tmp rfl)) ?_
        refine RegL.pure (p := (pEq (.int .i64 (w64 (v2 + (1 : Int)))))) rfl rfl rfl (J_bin rfl (Opd.tmp rfl) Opd.con B_add) ?_
        refine RegL.pure (p := (pEq (.int .i64 (w64 (v2 + (1 : Int)))))) rfl rfl rfl (J_assign rfl (Opd.tmp rfl)) ?_
        refine RegL.nil ?_
        replace h := Option.some.inj h; subst h
        exact Ct.again () rfl ⟨rfl, rfl, rfl, trivial⟩
    · replace h := bif_f hc h
      refine Tr.exit ?_
      refine Ct.then_exit ?_
      replace h := map_some h; obtain ⟨r1, h, rfl⟩ := h
      refine Ct.out_exit fun e => ?_
      subst e
      refine Ct.blk_exit ?_
      refine Ct.then_tr ?_
      refine Tr.weak (Γ' := []) trivial ?_
      refine Tr.seq ?_
      refine Tr.region ?_
      refine RegL.pure (p := (pEq (.bool true))) rfl rfl rfl (J_assign rfl Opd.con) ?_
      refine RegL.nil ?_
      refine Ct.then_tr ?_
      refine Tr.weak (Γ' := [(4, (pEq (.bool true)))]) ⟨rfl, trivial⟩ ?_
      refine Tr.ret ?_
      replace h := Option.some.inj h; subst h
      exact Ct.retH1 (Ωx := []) () rfl (RvOk.tmp rfl) rfl

theorem c_laws_eqProblem {a_0 : GProblem} {b_1 : GProblem} {r : Bool} (h : m_laws_eqProblem a_0 b_1 = some r) : CallJ Try.prog 18 [(pAgg (cGProblem a_0)), (pAgg (cGProblem b_1))] (pEq (.bool r)) := by
  unfold m_laws_eqProblem at h
  refine CallJ.enterH Try.func18 rfl Try.ntmps18 rfl fun W I0 H => ?_
  refine Tr.weak (Γ' := [(0, (pAgg (cGProblem a_0))), (1, (pAgg (cGProblem b_1)))]) ⟨rfl, rfl, trivial⟩ ?_
  refine Tr.seq ?_
  refine Tr.region ?_
  refine RegL.pure (p := (pPtr (cGProblem a_0))) rfl rfl rfl (J_boxA rfl (Opd.tmp rfl)) ?_
  refine RegL.pure (p := (pPtr (cGProblem b_1))) rfl rfl rfl (J_boxA rfl (Opd.tmp rfl)) ?_
  refine RegL.pure (p := (pEq (.bool false))) rfl rfl rfl (J_assign rfl Opd.con) ?_
  refine RegL.nil ?_
  refine Ct.then_tr ?_
  refine Tr.weak (Γ' := [(2, (pPtr (cGProblem a_0))), (3, (pPtr (cGProblem b_1)))]) ⟨rfl, rfl, trivial⟩ ?_
  refine Tr.seq ?_
  refine Tr.seq ?_
  refine Tr.region ?_
  refine RegL.pure (p := (pPtr ((cSl 1 (cSl 1 (cK .i64))) a_0.Domains))) rfl rfl rfl (J_fieldAddr rfl Try.underlying29 rfl sz22 (by decide) (Opd.tmp rfl) rfl) ?_
  refine RegL.pure (p := (pSl 1 (cSl 1 (cK .i64)) a_0.Domains)) rfl rfl rfl (J_load rfl Try.isAgg22 (Opd.tmp rfl)) ?_
  refine RegL.pure (p := (pPtr ((cSl 1 (cSl 1 (cK .i64))) b_1.Domains))) rfl rfl rfl (J_fieldAddr rfl Try.underlying29 rfl sz22 (by decide) (Opd.tmp rfl) rfl) ?_
  refine RegL.pure (p := (pSl 1 (cSl 1 (cK .i64)) b_1.Domains)) rfl rfl rfl (J_load rfl Try.isAgg22 (Opd.tmp rfl)) ?_
  replace h := bind_some h; obtain ⟨x1, hx1, h⟩ := h
  refine RegL.pure (p := (pEq (.bool x1))) rfl rfl rfl (J_call rfl Try.call47 (c_laws_eqInt64SS hx1) (Opds.cons (Opd.tmp rfl) (Opds.cons (Opd.tmp rfl) Opds.nil))) ?_
  refine RegL.pure (p := (pEq (.bool (!x1)))) rfl rfl rfl (J_not rfl (Opd.tmp rfl)) ?_
  refine RegL.nil ?_
  refine Ct.then_tr ?_
  refine Tr.weak (Γ' := [(2, (pPtr (cGProblem a_0))), (3, (pPtr (cGProblem b_1))), (10, (pEq (.bool (!x1))))]) ⟨rfl, rfl, rfl, trivial⟩ ?_
  refine Tr.cond (Opd.tmp rfl) (fun hc => ?_) (fun hc => ?_)
  · replace h := bif_t hc h
    refine Tr.seq ?_
    refine Tr.region ?_
    refine RegL.pure (p := (pEq (.bool false))) rfl rfl rfl (J_assign rfl Opd.con) ?_
    refine RegL.nil ?_
    refine Ct.then_tr ?_
    refine Tr.weak (Γ' := [(4, (pEq (.bool false)))]) ⟨rfl, trivial⟩ ?_
    refine Tr.ret ?_
    refine Ct.then_ret ?_
    replace h := Option.some.inj h; subst h
    exact Ct.retH1 (Ωx := []) () rfl (RvOk.tmp rfl) rfl
  · replace h := bif_f hc h
    refine Tr.skip ?_
    refine Ct.then_tr ?_
    refine Tr.weak (Γ' := [(2, (pPtr (cGProblem a_0))), (3, (pPtr (cGProblem b_1)))]) ⟨rfl, rfl, trivial⟩ ?_
    refine Tr.seq ?_
    refine Tr.seq ?_
    refine Tr.region ?_
    refine RegL.pure (p := (pPtr ((cSl 1 (cSl 1 (cK .i64))) a_0.Apart))) rfl rfl rfl (J_fieldAddr rfl Try.underlying29 rfl sz22 (by decide) (Opd.tmp rfl) rfl) ?_
    refine RegL.pure (p := (pSl 1 (cSl 1 (cK .i64)) a_0.Apart)) rfl rfl rfl (J_load rfl Try.isAgg22 (Opd.tmp rfl)) ?_
    refine RegL.pure (p := (pPtr ((cSl 1 (cSl 1 (cK .i64))) b_1.Apart))) rfl rfl rfl (J_fieldAddr rfl Try.underlying29 rfl sz22 (by decide) (Opd.tmp rfl) rfl) ?_
    refine RegL.pure (p := (pSl 1 (cSl 1 (cK .i64)) b_1.Apart)) rfl rfl rfl (J_load rfl Try.isAgg22 (Opd.tmp rfl)) ?_
    replace h := bind_some h; obtain ⟨x2, hx2, h⟩ := h
    refine RegL.pure (p := (pEq (.bool x2))) rfl rfl rfl (J_call rfl Try.call47 (c_laws_eqInt64SS hx2) (Opds.cons (Opd.tmp rfl) (Opds.cons (Opd.tmp rfl) Opds.nil))) ?_
    refine RegL.pure (p := (pEq (.bool (!x2)))) rfl rfl rfl (J_not rfl (Opd.tmp rfl)) ?_
    refine RegL.nil ?_
    refine Ct.then_tr ?_
    refine Tr.weak (Γ' := [(16, (pEq (.bool (!x2))))]) ⟨rfl, trivial⟩ ?_
    refine Tr.cond (Opd.tmp rfl) (fun hc => ?_) (fun hc => ?_)
    · replace h := bif_t hc h
      refine Tr.seq ?_
      refine Tr.region ?_
      refine RegL.pure (p := (pEq (.bool false))) rfl rfl rfl (J_assign rfl Opd.con) ?_
      refine RegL.nil ?_
      refine Ct.then_tr ?_
      refine Tr.weak (Γ' := [(4, (pEq (.bool false)))]) ⟨rfl, trivial⟩ ?_
      refine Tr.ret ?_
      refine Ct.then_ret ?_
      replace h := Option.some.inj h; subst h
      exact Ct.retH1 (Ωx := []) () rfl (RvOk.tmp rfl) rfl
    · replace h := bif_f hc h
      refine Tr.skip ?_
      refine Ct.then_tr ?_
      refine Tr.weak (Γ' := []) trivial ?_
      refine Tr.seq ?_
      refine Tr.region ?_
      refine RegL.pure (p := (pEq (.bool true))) rfl rfl rfl (J_assign rfl Opd.con) ?_
      refine RegL.nil ?_
      refine Ct.then_tr ?_
      refine Tr.weak (Γ' := [(4, (pEq (.bool true)))]) ⟨rfl, trivial⟩ ?_
      refine Tr.ret ?_
      replace h := Option.some.inj h; subst h
      exact Ct.retH1 (Ωx := []) () rfl (RvOk.tmp rfl) rfl

theorem o_laws_markInt64S {a_0 : (List Int)} {k_1 : Int} {ho0 : Option Addr} {hn0 hc0 : Nat} {r : (Int × (List Int))} (h : m_laws_markInt64S a_0 k_1 = some r) : CallH Try.prog 20 [(pEq (.slice ho0 hn0 hc0)), (pEq (.int .i64 k_1))] [oSl 2 1 (cK .i64) ho0 hn0 hc0 a_0] (fun g : Unit => (pEq (.int .i64 r.1))) (fun g : Unit => [oSl 2 1 (cK .i64) ho0 hn0 hc0 r.2]) := by
  unfold m_laws_markInt64S at h
  refine CallH.enter Try.func20 rfl Try.ntmps20 rfl fun W I0 H => ?_
  refine Tr.weak (Γ' := [(0, (pEq (.slice ho0 hn0 hc0))), (1, (pEq (.int .i64 k_1)))]) ⟨rfl, rfl, trivial⟩ ?_
  refine Tr.seq ?_
  refine Tr.region ?_
  refine RegL.pure (p := (pEq (.int .i64 (0 : Int)))) rfl rfl rfl (J_assign rfl Opd.con) ?_
  refine RegL.nil ?_
  refine Ct.then_tr ?_
  refine Tr.weak (Γ' := [(0, (pEq (.slice ho0 hn0 hc0))), (1, (pEq (.int .i64 k_1)))]) ⟨rfl, rfl, trivial⟩ ?_
  refine Tr.seq ?_
  refine Tr.seq ?_
  refine Tr.region ?_
  refine RegL.pure (p := (pEq (.int .i64 (0 : Int)))) rfl rfl rfl (J_assign rfl Opd.con) ?_
  refine RegL.nil ?_
  refine Ct.then_tr ?_
  refine Tr.weak (Γ' := [(0, (pEq (.slice ho0 hn0 hc0))), (1, (pEq (.int .i64 k_1))), (5, (pEq (.int .i64 (0 : Int))))]) ⟨rfl, rfl, rfl, trivial⟩ ?_
  replace h := bind_some h; obtain ⟨x2, hx2, h⟩ := h
  refine Tr.cut (γ := Unit) (Γm := fun g => [(1, (pEq (.int .i64 x2.1)))]) (Ωm := fun g => [oSl 2 1 (cK .i64) ho0 hn0 hc0 x2.2]) ?_ (fun g10 => ?_)
  · clear h
    have h := hx2
    clear hx2
    refine Tr.block ?_
    refine Tr.weak (Γ' := [(0, (pEq (.slice ho0 hn0 hc0))), (1, (pEq (.int .i64 k_1))), (5, (pEq (.int .i64 (0 : Int))))]) ⟨rfl, rfl, rfl, trivial⟩ ?_
    refine Tr.loop (γ := Unit) (σ := (Int × Int × (List Int))) (Γσ := fun s g => [(0, (pEq (.slice ho0 hn0 hc0))), (1, (pEq (.int .i64 s.1))), (5, (pEq (.int .i64 s.2.1)))]) (Ωσ := fun s g => [oSl 2 1 (cK .i64) ho0 hn0 hc0 s.2.2]) (g := ()) h ?_
    clear h
    rintro ⟨v4, v5, v6⟩ g7 t h
    replace h : m_laws_markInt64S_B3  v4 v5 v6 = some t := h
    unfold m_laws_markInt64S_B3 at h
    refine Tr.weakO (Γ' := [(0, (pEq (.slice ho0 hn0 hc0))), (1, (pEq (.int .i64 v4))), (5, (pEq (.int .i64 v5)))]) (Ω' := [oSl 2 1 (cK .i64) ho0 hn0 hc0 v6]) rfl ⟨rfl, rfl, rfl, trivial⟩ ?_
    refine Tr.seq ?_
    refine Tr.seq ?_
    refine Tr.region ?_
    refine RegL.pure (p := (pEq (.int .i64 v5))) rfl rfl rfl (J_move rfl (Opd.tmp rfl)) ?_
    refine RegL.pure (p := (pEq (.slice ho0 hn0 hc0))) rfl rfl rfl (J_move rfl (Opd.tmp rfl)) ?_
    refine RegL.pureW (p := (pEq (.int .i64 (v6.length : Int)))) rfl rfl rfl (W_rowLen (j := 0) rfl Try.underlying25 (Opd.tmp rfl) rfl) ?_
    refine RegL.pure (p := (pEq (.bool (decide (v5 < (v6.length : Int)))))) rfl rfl rfl (J_bin rfl (Opd.tmp rfl) (Opd.tmp rfl) B_lss) ?_
    refine RegL.nil ?_
    refine Ct.then_tr ?_
    refine Tr.weak (Γ' := [(0, (pEq (.slice ho0 hn0 hc0))), (1, (pEq (.int .i64 v4))), (5, (pEq (.int .i64 v5))), (9, (pEq (.bool (decide (v5 < (v6.length : Int))))))]) ⟨rfl, rfl, rfl, rfl, trivial⟩ ?_
    refine Tr.cond (Opd.tmp rfl) (fun hc => ?_) (fun hc => ?_)
    · replace h := bif_t hc h
      refine Tr.skip ?_
      refine Ct.then_tr ?_
      refine Tr.weak (Γ' := [(0, (pEq (.slice ho0 hn0 hc0))), (1, (pEq (.int .i64 v4))), (5, (pEq (.int .i64 v5)))]) ⟨rfl, rfl, rfl, trivial⟩ ?_
      refine Tr.seq ?_
      refine Tr.block ?_
      refine Tr.seq ?_
      refine Tr.region ?_
      refine RegL.pure (p := (pEq (.slice ho0 hn0 hc0))) rfl rfl rfl (J_move rfl (Opd.tmp rfl)) ?_
      refine RegL.pure (p := (pEq (.int .i64 v5))) rfl rfl rfl (J_move rfl (Opd.tmp rfl)) ?_
      refine RegL.pure (p := (pEq (.int .i64 v4))) rfl rfl rfl (J_move rfl (Opd.tmp rfl)) ?_
      replace h := bind_some h; obtain ⟨u8, hu8, h⟩ := h
      refine RegL.pureW (p := (pEq (.pointer (some ⟨blk ho0, (v5).toNat * 1, none⟩)))) rfl rfl rfl (W_rowIdx (j := 0) rfl Try.underlying25 sz2 (Opd.tmp rfl) (Opd.tmp rfl) rfl (inB_some hu8)) ?_
      refine RegL.stepN (γ := Unit) (p := fun _ => pAny) (Ω' := fun _ => [oSl 2 1 (cK .i64) ho0 hn0 hc0 (v6.set (v5).toNat v4)]) rfl rfl (M_rowStore rfl sz2 (fun _ => rfl) (Opd.tmp rfl) (Opd.tmp rfl) rfl OneC.int (setL_of (inB_some hu8))) fun g9 => ?_
      refine RegL.nil ?_
      refine Ct.then_tr ?_
      refine Tr.weak (Γ' := [(0, (pEq (.slice ho0 hn0 hc0))), (1, (pEq (.int .i64 v4))), (5, (pEq (.int .i64 v5)))]) ⟨rfl, rfl, rfl, trivial⟩ ?_
      refine Tr.region ?_
      refine RegL.pure (p := (pEq (.int .i64 v4))) rfl rfl rfl (J_move rfl (Opd.tmp rfl)) ?_
      refine RegL.pure (p := (pEq (.int .i64 (w64 (v4 + (1 : Int)))))) rfl rfl rfl (J_bin rfl (Opd.tmp rfl) Opd.con B_add) ?_
      refine RegL.pure (p := (pEq (.int .i64 (w64 (v4 + (1 : Int)))))) rfl rfl rfl (J_assign rfl (Opd.tmp rfl)) ?_
      refine RegL.nil ?_
      refine Ct.blk_normal ?_
      refine Ct.then_tr ?_
      refine Tr.weak (Γ' := [(0, (pEq (.slice ho0 hn0 hc0))), (1, (pEq (.int .i64 (w64 (v4 + (1 : Int)))))), (5, (pEq (.int .i64 v5)))]) ⟨rfl, rfl, rfl, trivial⟩ ?_
      refine Tr.region ?_
      refine RegL.pure (p := (pEq (.int .i64 v5))) rfl rfl rfl (J_move rfl (Opd.tmp rfl)) ?_
      refine RegL.pure (p := (pEq (.int .i64 (w64 (v5 + (1 : Int)))))) rfl rfl rfl (J_bin rfl (Opd.tmp rfl) Opd.con B_add) ?_
      refine RegL.pure (p := (pEq (.int .i64 (w64 (v5 + (1 : Int)))))) rfl rfl rfl (J_assign rfl (Opd.tmp rfl)) ?_
      refine RegL.nil ?_
      replace h := Option.some.inj h; subst h
      exact Ct.again () rfl ⟨rfl, rfl, rfl, trivial⟩
    · replace h := bif_f hc h
      refine Tr.exit ?_
      refine Ct.then_exit ?_
      replace h := map_some h; obtain ⟨r1, h, rfl⟩ := h
      refine Ct.out_exit fun e => ?_
      subst e
      refine Ct.blk_exit ?_
      replace h := Option.some.inj h; subst h
      exact Ct.mid () rfl ⟨rfl, trivial⟩
  · clear hx2
    refine Ct.then_tr ?_
    refine Tr.weak (Γ' := [(1, (pEq (.int .i64 x2.1)))]) ⟨rfl, trivial⟩ ?_
    refine Tr.seq ?_
    refine Tr.region ?_
    refine RegL.pure (p := (pEq (.int .i64 x2.1))) rfl rfl rfl (J_move rfl (Opd.tmp rfl)) ?_
    refine RegL.pure (p := (pEq (.int .i64 x2.1))) rfl rfl rfl (J_assign rfl (Opd.tmp rfl)) ?_
    refine RegL.nil ?_
    refine Ct.then_tr ?_
    refine Tr.weak (Γ' := [(4, (pEq (.int .i64 x2.1)))]) ⟨rfl, trivial⟩ ?_
    refine Tr.ret ?_
    replace h := Option.some.inj h; subst h
    exact Ct.retH1 (Ωx := []) () rfl (RvOk.tmp rfl) rfl

theorem o_laws_markInt64SS {a_0 : (List (List Int))} {k_1 : Int} {ho0 : Option Addr} {hn0 hc0 : Nat} {hh0 : List G3} {r : (Int × (List (List Int)))} (h : m_laws_markInt64SS a_0 k_1 = some r) : CallH Try.prog 48 [(pEq (.slice ho0 hn0 hc0)), (pEq (.int .i64 k_1))] [oSS 25 2 1 (cK .i64) ho0 hn0 hc0 hh0 a_0] (fun g : Unit => (pEq (.int .i64 r.1))) (fun g : Unit => [oSS 25 2 1 (cK .i64) ho0 hn0 hc0 hh0 r.2]) := by
  unfold m_laws_markInt64SS at h
  refine CallH.enter Try.func48 rfl Try.ntmps48 rfl fun W I0 H => ?_
  refine Tr.weak (Γ' := [(0, (pEq (.slice ho0 hn0 hc0))), (1, (pEq (.int .i64 k_1)))]) ⟨rfl, rfl, trivial⟩ ?_
  refine Tr.seq ?_
  refine Tr.region ?_
  refine RegL.pure (p := (pEq (.int .i64 (0 : Int)))) rfl rfl rfl (J_assign rfl Opd.con) ?_
  refine RegL.nil ?_
  refine Ct.then_tr ?_
  refine Tr.weak (Γ' := [(0, (pEq (.slice ho0 hn0 hc0))), (1, (pEq (.int .i64 k_1)))]) ⟨rfl, rfl, trivial⟩ ?_
  refine Tr.seq ?_
  refine Tr.seq ?_
  refine Tr.region ?_
  refine RegL.pure (p := (pEq (.int .i64 (0 : Int)))) rfl rfl rfl (J_assign rfl Opd.con) ?_
  refine RegL.nil ?_
  refine Ct.then_tr ?_
  refine Tr.weak (Γ' := [(0, (pEq (.slice ho0 hn0 hc0))), (1, (pEq (.int .i64 k_1))), (5, (pEq (.int .i64 (0 : Int))))]) ⟨rfl, rfl, rfl, trivial⟩ ?_
  replace h := bind_some h; obtain ⟨x2, hx2, h⟩ := h
  refine Tr.cut (γ := Unit) (Γm := fun g => [(1, (pEq (.int .i64 x2.1)))]) (Ωm := fun g => [oSS 25 2 1 (cK .i64) ho0 hn0 hc0 hh0 x2.2]) ?_ (fun g12 => ?_)
  · clear h
    have h := hx2
    clear hx2
    refine Tr.block ?_
    refine Tr.weak (Γ' := [(0, (pEq (.slice ho0 hn0 hc0))), (1, (pEq (.int .i64 k_1))), (5, (pEq (.int .i64 (0 : Int))))]) ⟨rfl, rfl, rfl, trivial⟩ ?_
    refine Tr.loop (γ := Unit) (σ := (Int × Int × (List (List Int)))) (Γσ := fun s g => [(0, (pEq (.slice ho0 hn0 hc0))), (1, (pEq (.int .i64 s.1))), (5, (pEq (.int .i64 s.2.1)))]) (Ωσ := fun s g => [oSS 25 2 1 (cK .i64) ho0 hn0 hc0 hh0 s.2.2]) (g := ()) h ?_
    clear h
    rintro ⟨v4, v5, v6⟩ g7 t h
    replace h : m_laws_markInt64SS_B3  v4 v5 v6 = some t := h
    unfold m_laws_markInt64SS_B3 at h
    refine Tr.weakO (Γ' := [(0, (pEq (.slice ho0 hn0 hc0))), (1, (pEq (.int .i64 v4))), (5, (pEq (.int .i64 v5)))]) (Ω' := [oSS 25 2 1 (cK .i64) ho0 hn0 hc0 hh0 v6]) rfl ⟨rfl, rfl, rfl, trivial⟩ ?_
    refine Tr.seq ?_
    refine Tr.seq ?_
    refine Tr.region ?_
    refine RegL.pure (p := (pEq (.int .i64 v5))) rfl rfl rfl (J_move rfl (Opd.tmp rfl)) ?_
    refine RegL.pure (p := (pEq (.slice ho0 hn0 hc0))) rfl rfl rfl (J_move rfl (Opd.tmp rfl)) ?_
    refine RegL.pureW (p := (pEq (.int .i64 (v6.length : Int)))) rfl rfl rfl (W_nestLen (j := 0) rfl Try.underlying22 (Opd.tmp rfl) rfl) ?_
    refine RegL.pure (p := (pEq (.bool (decide (v5 < (v6.length : Int)))))) rfl rfl rfl (J_bin rfl (Opd.tmp rfl) (Opd.tmp rfl) B_lss) ?_
    refine RegL.nil ?_
    refine Ct.then_tr ?_
    refine Tr.weak (Γ' := [(0, (pEq (.slice ho0 hn0 hc0))), (1, (pEq (.int .i64 v4))), (5, (pEq (.int .i64 v5))), (9, (pEq (.bool (decide (v5 < (v6.length : Int))))))]) ⟨rfl, rfl, rfl, rfl, trivial⟩ ?_
    refine Tr.cond (Opd.tmp rfl) (fun hc => ?_) (fun hc => ?_)
    · replace h := bif_t hc h
      refine Tr.skip ?_
      refine Ct.then_tr ?_
      refine Tr.weak (Γ' := [(0, (pEq (.slice ho0 hn0 hc0))), (1, (pEq (.int .i64 v4))), (5, (pEq (.int .i64 v5)))]) ⟨rfl, rfl, rfl, trivial⟩ ?_
      refine Tr.seq ?_
      refine Tr.block ?_
      refine Tr.region ?_
      refine RegL.pure (p := (pEq (.slice ho0 hn0 hc0))) rfl rfl rfl (J_move rfl (Opd.tmp rfl)) ?_
      refine RegL.pure (p := (pEq (.int .i64 v5))) rfl rfl rfl (J_move rfl (Opd.tmp rfl)) ?_
      replace h := bind_some h; obtain ⟨x8, hx8, h⟩ := h
      refine RegL.pureW (p := (pEq (.pointer (some ⟨blk ho0, (v5).toNat * 1, none⟩)))) rfl rfl rfl (W_nestIdx (j := 0) rfl Try.underlying22 sz25 (Opd.tmp rfl) (Opd.tmp rfl) rfl (idx_lt hx8)) ?_
      refine RegL.pureW (p := (pEq (hdrV (gd hh0 v5)))) rfl rfl rfl (W_nestLoad (j := 0) rfl Try.isAgg25 (Opd.tmp rfl) rfl hx8) ?_
      refine RegL.pure (p := (pEq (.int .i64 v4))) rfl rfl rfl (J_move rfl (Opd.tmp rfl)) ?_
      replace h := bind_some h; obtain ⟨x10, hx10, h⟩ := h
      refine RegL.re (Ω2 := [oSl 2 1 (cK .i64) (gd hh0 v5).1 (gd hh0 v5).2.1 (gd hh0 v5).2.2 x8, oHole 25 2 1 (cK .i64) ho0 hn0 hc0 hh0 v6 v5]) (fun h => nest_focus hx8 h) ?_
      refine RegL.step (γ := Unit) (p := fun g => (pEq (.int .i64 x10.1))) (Ω' := fun g => [oSl 2 1 (cK .i64) (gd hh0 v5).1 (gd hh0 v5).2.1 (gd hh0 v5).2.2 x10.2, oHole 25 2 1 (cK .i64) ho0 hn0 hc0 hh0 v6 v5]) rfl rfl rfl (M_callH (Ωi := [oSl 2 1 (cK .i64) (gd hh0 v5).1 (gd hh0 v5).2.1 (gd hh0 v5).2.2 x8]) rfl Try.call20 (o_laws_markInt64S hx10) (Opds.cons (Opd.tmp rfl) (Opds.cons (Opd.tmp rfl) Opds.nil))) fun g11 => ?_
      refine RegL.re (Ω2 := [oSS 25 2 1 (cK .i64) ho0 hn0 hc0 hh0 (v6.set (v5).toNat x10.2)]) (fun h => nest_unfocus hx8 h) ?_
      refine RegL.pure (p := (pEq (.int .i64 x10.1))) rfl rfl rfl (J_assign rfl (Opd.tmp rfl)) ?_
      refine RegL.nil ?_
      refine Ct.blk_normal ?_
      refine Ct.then_tr ?_
      refine Tr.weak (Γ' := [(0, (pEq (.slice ho0 hn0 hc0))), (1, (pEq (.int .i64 x10.1))), (5, (pEq (.int .i64 v5)))]) ⟨rfl, rfl, rfl, trivial⟩ ?_
      refine Tr.region ?_
      refine RegL.pure (p := (pEq (.int .i64 v5))) rfl rfl rfl (J_move rfl (Opd.tmp rfl)) ?_
      refine RegL.pure (p := (pEq (.int .i64 (w64 (v5 + (1 : Int)))))) rfl rfl rfl (J_bin rfl (Opd.tmp rfl) Opd.con B_add) ?_
      refine RegL.pure (p := (pEq (.int .i64 (w64 (v5 + (1 : Int)))))) rfl rfl rfl (J_assign rfl (Opd.tmp rfl)) ?_
      refine RegL.nil ?_
      replace h := Option.some.inj h; subst h
      exact Ct.again () rfl ⟨rfl, rfl, rfl, trivial⟩
    · replace h := bif_f hc h
      refine Tr.exit ?_
      refine Ct.then_exit ?_
      replace h := map_some h; obtain ⟨r1, h, rfl⟩ := h
      refine Ct.out_exit fun e => ?_
      subst e
      refine Ct.blk_exit ?_
      replace h := Option.some.inj h; subst h
      exact Ct.mid () rfl ⟨rfl, trivial⟩
  · clear hx2
    refine Ct.then_tr ?_
    refine Tr.weak (Γ' := [(1, (pEq (.int .i64 x2.1)))]) ⟨rfl, trivial⟩ ?_
    refine Tr.seq ?_
    refine Tr.region ?_
    refine RegL.pure (p := (pEq (.int .i64 x2.1))) rfl rfl rfl (J_move rfl (Opd.tmp rfl)) ?_
    refine RegL.pure (p := (pEq (.int .i64 x2.1))) rfl rfl rfl (J_assign rfl (Opd.tmp rfl)) ?_
    refine RegL.nil ?_
    refine Ct.then_tr ?_
    refine Tr.weak (Γ' := [(4, (pEq (.int .i64 x2.1)))]) ⟨rfl, trivial⟩ ?_
    refine Tr.ret ?_
    replace h := Option.some.inj h; subst h
    exact Ct.retH1 (Ωx := []) () rfl (RvOk.tmp rfl) rfl

theorem o_laws_markProblem {a_0 : GProblem} {k_1 : Int} {ho0_0 : Option Addr} {hn0_0 hc0_0 : Nat} {hh0_0 : List G3} {ho0_1 : Option Addr} {hn0_1 hc0_1 : Nat} {hh0_1 : List G3} {r : (Int × (List (List Int)) × (List (List Int)))} (h : m_laws_markProblem a_0 k_1 = some r) : CallH Try.prog 19 [(pAgg [(pEq (.slice ho0_0 hn0_0 hc0_0)), (pEq (.slice ho0_1 hn0_1 hc0_1))]), (pEq (.int .i64 k_1))] [oSS 25 2 1 (cK .i64) ho0_0 hn0_0 hc0_0 hh0_0 a_0.Domains, oSS 25 2 1 (cK .i64) ho0_1 hn0_1 hc0_1 hh0_1 a_0.Apart] (fun g : Unit => (pEq (.int .i64 r.1))) (fun g : Unit => [oSS 25 2 1 (cK .i64) ho0_0 hn0_0 hc0_0 hh0_0 r.2.1, oSS 25 2 1 (cK .i64) ho0_1 hn0_1 hc0_1 hh0_1 r.2.2]) := by
  unfold m_laws_markProblem at h
  refine CallH.enter Try.func19 rfl Try.ntmps19 rfl fun W I0 H => ?_
  refine Tr.weak (Γ' := [(0, (pAgg [(pEq (.slice ho0_0 hn0_0 hc0_0)), (pEq (.slice ho0_1 hn0_1 hc0_1))])), (1, (pEq (.int .i64 k_1)))]) ⟨rfl, rfl, trivial⟩ ?_
  refine Tr.seq ?_
  refine Tr.region ?_
  refine RegL.step (γ := Nat) (p := fun b => pEq (.pointer (some ⟨b, 0, none⟩))) (Ω' := fun b => [oBlk b [(pEq (.slice ho0_0 hn0_0 hc0_0)), (pEq (.slice ho0_1 hn0_1 hc0_1))], oSS 25 2 1 (cK .i64) ho0_0 hn0_0 hc0_0 hh0_0 a_0.Domains, oSS 25 2 1 (cK .i64) ho0_1 hn0_1 hc0_1 hh0_1 a_0.Apart]) rfl rfl rfl (M_boxA rfl (Opd.tmp rfl)) fun b3 => ?_
  refine RegL.pure (p := (pEq (.int .i64 (0 : Int)))) rfl rfl rfl (J_assign rfl Opd.con) ?_
  refine RegL.nil ?_
  refine Ct.then_tr ?_
  refine Tr.weak (Γ' := [(1, (pEq (.int .i64 k_1))), (2, (pEq (.pointer (some ⟨b3, 0, none⟩))))]) ⟨rfl, rfl, trivial⟩ ?_
  refine Tr.seq ?_
  refine Tr.region ?_
  refine RegL.pure (p := (pEq (.pointer (some ⟨b3, 0, none⟩)))) rfl rfl rfl (J_fieldAddrE rfl Try.underlying29 rfl sz22 (by decide) (Opd.tmp rfl) rfl) ?_
  refine RegL.pureW (p := (pEq (.slice ho0_0 hn0_0 hc0_0))) rfl rfl rfl (W_load (i := 0) rfl Try.isAgg22 (Opd.tmp rfl) rfl rfl) ?_
  refine RegL.pure (p := (pEq (.int .i64 k_1))) rfl rfl rfl (J_move rfl (Opd.tmp rfl)) ?_
  replace h := bind_some h; obtain ⟨x4, hx4, h⟩ := h
  refine RegL.re (Ω2 := [oSS 25 2 1 (cK .i64) ho0_0 hn0_0 hc0_0 hh0_0 a_0.Domains, oBlk b3 [(pEq (.slice ho0_0 hn0_0 hc0_0)), (pEq (.slice ho0_1 hn0_1 hc0_1))], oSS 25 2 1 (cK .i64) ho0_1 hn0_1 hc0_1 hh0_1 a_0.Apart]) (fun h => SatO.pick 1 h) ?_
  refine RegL.step (γ := Unit) (p := fun g => (pEq (.int .i64 x4.1))) (Ω' := fun g => [oSS 25 2 1 (cK .i64) ho0_0 hn0_0 hc0_0 hh0_0 x4.2, oBlk b3 [(pEq (.slice ho0_0 hn0_0 hc0_0)), (pEq (.slice ho0_1 hn0_1 hc0_1))], oSS 25 2 1 (cK .i64) ho0_1 hn0_1 hc0_1 hh0_1 a_0.Apart]) rfl rfl rfl (M_callH (Ωi := [oSS 25 2 1 (cK .i64) ho0_0 hn0_0 hc0_0 hh0_0 a_0.Domains]) rfl Try.call48 (o_laws_markInt64SS hx4) (Opds.cons (Opd.tmp rfl) (Opds.cons (Opd.tmp rfl) Opds.nil))) fun g5 => ?_
  refine RegL.pure (p := (pEq (.int .i64 x4.1))) rfl rfl rfl (J_assign rfl (Opd.tmp rfl)) ?_
  refine RegL.nil ?_
  refine Ct.then_tr ?_
  refine Tr.weak (Γ' := [(1, (pEq (.int .i64 x4.1))), (2, (pEq (.pointer (some ⟨b3, 0, none⟩))))]) ⟨rfl, rfl, trivial⟩ ?_
  refine Tr.seq ?_
  refine Tr.region ?_
  refine RegL.pure (p := (pEq (.pointer (some ⟨b3, 1, none⟩)))) rfl rfl rfl (J_fieldAddrE rfl Try.underlying29 rfl sz22 (by decide) (Opd.tmp rfl) rfl) ?_
  refine RegL.pureW (p := (pEq (.slice ho0_1 hn0_1 hc0_1))) rfl rfl rfl (W_load (i := 1) rfl Try.isAgg22 (Opd.tmp rfl) rfl rfl) ?_
  refine RegL.pure (p := (pEq (.int .i64 x4.1))) rfl rfl rfl (J_move rfl (Opd.tmp rfl)) ?_
  replace h := bind_some h; obtain ⟨x6, hx6, h⟩ := h
  refine RegL.re (Ω2 := [oSS 25 2 1 (cK .i64) ho0_1 hn0_1 hc0_1 hh0_1 a_0.Apart, oSS 25 2 1 (cK .i64) ho0_0 hn0_0 hc0_0 hh0_0 x4.2, oBlk b3 [(pEq (.slice ho0_0 hn0_0 hc0_0)), (pEq (.slice ho0_1 hn0_1 hc0_1))]]) (fun h => SatO.pick 2 h) ?_
  refine RegL.step (γ := Unit) (p := fun g => (pEq (.int .i64 x6.1))) (Ω' := fun g => [oSS 25 2 1 (cK .i64) ho0_1 hn0_1 hc0_1 hh0_1 x6.2, oSS 25 2 1 (cK .i64) ho0_0 hn0_0 hc0_0 hh0_0 x4.2, oBlk b3 [(pEq (.slice ho0_0 hn0_0 hc0_0)), (pEq (.slice ho0_1 hn0_1 hc0_1))]]) rfl rfl rfl (M_callH (Ωi := [oSS 25 2 1 (cK .i64) ho0_1 hn0_1 hc0_1 hh0_1 a_0.Apart]) rfl Try.call48 (o_laws_markInt64SS hx6) (Opds.cons (Opd.tmp rfl) (Opds.cons (Opd.tmp rfl) Opds.nil))) fun g7 => ?_
  refine RegL.pure (p := (pEq (.int .i64 x6.1))) rfl rfl rfl (J_assign rfl (Opd.tmp rfl)) ?_
  refine RegL.nil ?_
  refine Ct.then_tr ?_
  refine Tr.weak (Γ' := [(1, (pEq (.int .i64 x6.1)))]) ⟨rfl, trivial⟩ ?_
  refine Tr.seq ?_
  refine Tr.region ?_
  refine RegL.pure (p := (pEq (.int .i64 x6.1))) rfl rfl rfl (J_move rfl (Opd.tmp rfl)) ?_
  refine RegL.pure (p := (pEq (.int .i64 x6.1))) rfl rfl rfl (J_assign rfl (Opd.tmp rfl)) ?_
  refine RegL.nil ?_
  refine Ct.then_tr ?_
  refine Tr.weak (Γ' := [(4, (pEq (.int .i64 x6.1)))]) ⟨rfl, trivial⟩ ?_
  refine Tr.ret ?_
  refine Ct.re (Ω2 := [oSS 25 2 1 (cK .i64) ho0_0 hn0_0 hc0_0 hh0_0 x4.2, oSS 25 2 1 (cK .i64) ho0_1 hn0_1 hc0_1 hh0_1 x6.2, oBlk b3 [(pEq (.slice ho0_0 hn0_0 hc0_0)), (pEq (.slice ho0_1 hn0_1 hc0_1))]]) (fun h => SatO.pick 1 h) ?_
  refine Ct.re (Ω2 := [oBlk b3 [(pEq (.slice ho0_0 hn0_0 hc0_0)), (pEq (.slice ho0_1 hn0_1 hc0_1))], oSS 25 2 1 (cK .i64) ho0_0 hn0_0 hc0_0 hh0_0 x4.2, oSS 25 2 1 (cK .i64) ho0_1 hn0_1 hc0_1 hh0_1 x6.2]) (fun h => SatO.pick 2 h) ?_
  replace h := Option.some.inj h; subst h
  exact Ct.retH1 (Ωx := [oBlk b3 [(pEq (.slice ho0_0 hn0_0 hc0_0)), (pEq (.slice ho0_1 hn0_1 hc0_1))]]) () rfl (RvOk.tmp rfl) rfl

theorem c_laws_heldInt64S {a_0 : (List Int)} {k_1 : Int} {r : Int} (h : m_laws_heldInt64S a_0 k_1 = some r) : CallJ Try.prog 21 [(pSl 1 (cK .i64) a_0), (pEq (.int .i64 k_1))] (pEq (.int .i64 r)) := by
  unfold m_laws_heldInt64S at h
  refine CallJ.enterH Try.func21 rfl Try.ntmps21 rfl fun W I0 H => ?_
  refine Tr.weak (Γ' := [(0, (pSl 1 (cK .i64) a_0)), (1, (pEq (.int .i64 k_1)))]) ⟨rfl, rfl, trivial⟩ ?_
  refine Tr.seq ?_
  refine Tr.region ?_
  refine RegL.pure (p := (pEq (.int .i64 (0 : Int)))) rfl rfl rfl (J_assign rfl Opd.con) ?_
  refine RegL.nil ?_
  refine Ct.then_tr ?_
  refine Tr.weak (Γ' := [(0, (pSl 1 (cK .i64) a_0)), (1, (pEq (.int .i64 k_1)))]) ⟨rfl, rfl, trivial⟩ ?_
  refine Tr.seq ?_
  refine Tr.seq ?_
  refine Tr.region ?_
  refine RegL.pure (p := (pEq (.int .i64 (0 : Int)))) rfl rfl rfl (J_assign rfl Opd.con) ?_
  refine RegL.nil ?_
  refine Ct.then_tr ?_
  refine Tr.weak (Γ' := [(0, (pSl 1 (cK .i64) a_0)), (1, (pEq (.int .i64 k_1))), (5, (pEq (.int .i64 (0 : Int))))]) ⟨rfl, rfl, rfl, trivial⟩ ?_
  refine Tr.block ?_
  refine Tr.weak (Γ' := [(0, (pSl 1 (cK .i64) a_0)), (1, (pEq (.int .i64 k_1))), (5, (pEq (.int .i64 (0 : Int))))]) ⟨rfl, rfl, rfl, trivial⟩ ?_
  refine Tr.loop (γ := Unit) (σ := (Int × Int)) (Γσ := fun s g => [(0, (pSl 1 (cK .i64) a_0)), (1, (pEq (.int .i64 s.1))), (5, (pEq (.int .i64 s.2)))]) (Ωσ := fun s g => []) (g := ()) h ?_
  clear h
  rintro ⟨v2, v3⟩ g4 t h
  replace h : m_laws_heldInt64S_B1 a_0 v2 v3 = some t := h
  unfold m_laws_heldInt64S_B1 at h
  refine Tr.weakO (Γ' := [(0, (pSl 1 (cK .i64) a_0)), (1, (pEq (.int .i64 v2))), (5, (pEq (.int .i64 v3)))]) (Ω' := []) rfl ⟨rfl, rfl, rfl, trivial⟩ ?_
  refine Tr.seq ?_
  refine Tr.seq ?_
  refine Tr.region ?_
  refine RegL.pure (p := (pEq (.int .i64 v3))) rfl rfl rfl (J_move rfl (Opd.tmp rfl)) ?_
  refine RegL.pure (p := (pSl 1 (cK .i64) a_0)) rfl rfl rfl (J_move rfl (Opd.tmp rfl)) ?_
  refine RegL.pure (p := (pEq (.int .i64 (a_0.length : Int)))) rfl rfl rfl (J_len rfl Try.underlying25 (Opd.tmp rfl) rfl) ?_
  refine RegL.pure (p := (pEq (.bool (decide (v3 < (a_0.length : Int)))))) rfl rfl rfl (J_bin rfl (Opd.tmp rfl) (Opd.tmp rfl) B_lss) ?_
  refine RegL.nil ?_
  refine Ct.then_tr ?_
  refine Tr.weak (Γ' := [(0, (pSl 1 (cK .i64) a_0)), (1, (pEq (.int .i64 v2))), (5, (pEq (.int .i64 v3))), (9, (pEq (.bool (decide (v3 < (a_0.length : Int))))))]) ⟨rfl, rfl, rfl, rfl, trivial⟩ ?_
  refine Tr.cond (Opd.tmp rfl) (fun hc => ?_) (fun hc => ?_)
  · replace h := bif_t hc h
    refine Tr.skip ?_
    refine Ct.then_tr ?_
    refine Tr.weak (Γ' := [(0, (pSl 1 (cK .i64) a_0)), (1, (pEq (.int .i64 v2))), (5, (pEq (.int .i64 v3)))]) ⟨rfl, rfl, rfl, trivial⟩ ?_
    refine Tr.seq ?_
    refine Tr.block ?_
    refine Tr.seq ?_
    refine Tr.seq ?_
    refine Tr.region ?_
    refine RegL.pure (p := (pSl 1 (cK .i64) a_0)) rfl rfl rfl (J_move rfl (Opd.tmp rfl)) ?_
    refine RegL.pure (p := (pEq (.int .i64 v3))) rfl rfl rfl (J_move rfl (Opd.tmp rfl)) ?_
    replace h := bind_some h; obtain ⟨x5, hx5, h⟩ := h
    refine RegL.pure (p := (pPtr ((cK .i64) x5))) rfl rfl rfl (J_idx rfl Try.underlying25 sz2 (Opd.tmp rfl) (Opd.tmp rfl) hx5) ?_
    refine RegL.pure (p := (pEq (.int .i64 x5))) rfl rfl rfl (J_load rfl Try.isAgg2 (Opd.tmp rfl)) ?_
    refine RegL.pure (p := (pEq (.int .i64 v2))) rfl rfl rfl (J_move rfl (Opd.tmp rfl)) ?_
    refine RegL.pure (p := (pEq (.bool (x5 != v2)))) rfl rfl rfl (J_bin rfl (Opd.tmp rfl) (Opd.tmp rfl) B_neq) ?_
    refine RegL.nil ?_
    refine Ct.then_tr ?_
    refine Tr.weak (Γ' := [(0, (pSl 1 (cK .i64) a_0)), (1, (pEq (.int .i64 v2))), (5, (pEq (.int .i64 v3))), (17, (pEq (.bool (x5 != v2))))]) ⟨rfl, rfl, rfl, rfl, trivial⟩ ?_
    refine Tr.cond (Opd.tmp rfl) (fun hc => ?_) (fun hc => ?_)
    · replace h := bif_t hc h
      refine Tr.seq ?_
      refine Tr.region ?_
      refine RegL.pure (p := (pEq (.int .i64 (-1 : Int)))) rfl rfl rfl (J_assign rfl Opd.con) ?_
      refine RegL.nil ?_
      refine Ct.then_tr ?_
      refine Tr.weak (Γ' := [(4, (pEq (.int .i64 (-1 : Int))))]) ⟨rfl, trivial⟩ ?_
      refine Tr.ret ?_
      refine Ct.then_ret ?_
      refine Ct.blk_ret ?_
      refine Ct.then_ret ?_
      replace h := map_some h; obtain ⟨r1, h, rfl⟩ := h
      refine Ct.out_ret fun e => ?_
      subst e
      refine Ct.blk_ret ?_
      refine Ct.then_ret ?_
      replace h := Option.some.inj h; subst h
      exact Ct.retH1 (Ωx := []) () rfl (RvOk.tmp rfl) rfl
    · replace h := bif_f hc h
      refine Tr.skip ?_
      refine Ct.then_tr ?_
      refine Tr.weak (Γ' := [(0, (pSl 1 (cK .i64) a_0)), (1, (pEq (.int .i64 v2))), (5, (pEq (.int .i64 v3)))]) ⟨rfl, rfl, rfl, trivial⟩ ?_
      refine Tr.region ?_
      refine RegL.pure (p := (pEq (.int .i64 v2))) rfl rfl rfl (J_move rfl (Opd.tmp rfl)) ?_
      refine RegL.pure (p := (pEq (.int .i64 (w64 (v2 + (1 : Int)))))) rfl rfl rfl (J_bin rfl (Opd.tmp rfl) Opd.con B_add) ?_
      refine RegL.pure (p := (pEq (.int .i64 (w64 (v2 + (1 : Int)))))) rfl rfl rfl (J_assign rfl (Opd.tmp rfl)) ?_
      refine RegL.nil ?_
      refine Ct.blk_normal ?_
      refine Ct.then_tr ?_
      refine Tr.weak (Γ' := [(0, (pSl 1 (cK .i64) a_0)), (1, (pEq (.int .i64 (w64 (v2 + (1 : Int)))))), (5, (pEq (.int .i64 v3)))]) ⟨rfl, rfl, rfl, trivial⟩ ?_
      refine Tr.region ?_
      refine RegL.pure (p := (pEq (.int .i64 v3))) rfl rfl rfl (J_move rfl (Opd.tmp rfl)) ?_
      refine RegL.pure (p := (pEq (.int .i64 (w64 (v3 + (1 : Int)))))) rfl rfl rfl (J_bin rfl (Opd.tmp rfl) Opd.con B_add) ?_
      refine RegL.pure (p := (pEq (.int .i64 (w64 (v3 + (1 : Int)))))) rfl rfl rfl (J_assign rfl (Opd.tmp rfl)) ?_
      refine RegL.nil ?_
      replace h := Option.some.inj h; subst h
      exact Ct.again () rfl ⟨rfl, rfl, rfl, trivial⟩
  · replace h := bif_f hc h
    refine Tr.exit ?_
    refine Ct.then_exit ?_
    replace h := map_some h; obtain ⟨r1, h, rfl⟩ := h
    refine Ct.out_exit fun e => ?_
    subst e
    refine Ct.blk_exit ?_
    refine Ct.then_tr ?_
    refine Tr.weak (Γ' := [(1, (pEq (.int .i64 v2)))]) ⟨rfl, trivial⟩ ?_
    refine Tr.seq ?_
    refine Tr.region ?_
    refine RegL.pure (p := (pEq (.int .i64 v2))) rfl rfl rfl (J_move rfl (Opd.tmp rfl)) ?_
    refine RegL.pure (p := (pEq (.int .i64 v2))) rfl rfl rfl (J_assign rfl (Opd.tmp rfl)) ?_
    refine RegL.nil ?_
    refine Ct.then_tr ?_
    refine Tr.weak (Γ' := [(4, (pEq (.int .i64 v2)))]) ⟨rfl, trivial⟩ ?_
    refine Tr.ret ?_
    replace h := Option.some.inj h; subst h
    exact Ct.retH1 (Ωx := []) () rfl (RvOk.tmp rfl) rfl


end Go.Proofs.Ytcofngddgljhdaa.fnExactRepairGreedyW
