/-
  The walks that the law FnExactDegreeOrder reaches: each function computes its model. Printed by our own program.
-/
import Derived.Test.YtfadnbelnfofbaaProg
import Derived.Test.YtfadnbelnfofbaaMod
import Derived.Test.YtfadnbelnfofbaaZero
import Derived.KernelRfl
import Derived.Test.YtfadnbelnfofbaaWkDegreeOrdera
namespace Go.Proofs.Ytfadnbelnfofbaa.fnExactDegreeOrderW
open Go Go.RowKit Go.Wk
set_option linter.unusedVariables false
set_option maxRecDepth 100000


theorem o_slices_insertionSortCmpFunc_int64 {data_0 : (List Int)} {a_1 : Int} {b_2 : Int} {cmp_3 : ((Int × Int) → Option Int)} {ho0 : Option Addr} {hn0 hc0 : Nat} {r : (List Int)} (h : m_slices_insertionSortCmpFunc_int64 data_0 a_1 b_2 cmp_3 = some r) : CallH Try.prog 95 [(pEq (.slice ho0 hn0 hc0)), (pEq (.int .i64 a_1)), (pEq (.int .i64 b_2)), (pFn Try.prog (fun x : (Int × Int) => [(pEq (.int .i64 x.1)), (pEq (.int .i64 x.2))]) cmp_3 (fun y => (pEq (.int .i64 y))))] [oSl 2 1 (cK .i64) ho0 hn0 hc0 data_0] (fun g : Unit => (pTup [])) (fun g : Unit => [oSl 2 1 (cK .i64) ho0 hn0 hc0 r]) := by
  unfold m_slices_insertionSortCmpFunc_int64 at h
  refine CallH.enter Try.func95 rfl Try.ntmps95 rfl fun W I0 H => ?_
  refine Tr.weak (Γ' := [(0, (pEq (.slice ho0 hn0 hc0))), (1, (pEq (.int .i64 a_1))), (2, (pEq (.int .i64 b_2))), (3, (pFn Try.prog (fun x : (Int × Int) => [(pEq (.int .i64 x.1)), (pEq (.int .i64 x.2))]) cmp_3 (fun y => (pEq (.int .i64 y)))))]) ⟨rfl, rfl, rfl, rfl, trivial⟩ ?_
  refine Tr.seq ?_
  refine Tr.region ?_
  refine RegL.pure (p := (pEq (.int .i64 a_1))) rfl rfl rfl (J_move rfl (Opd.tmp rfl)) ?_
  refine RegL.pure (p := (pEq (.int .i64 (w64 (a_1 + (1 : Int)))))) rfl rfl rfl (J_bin rfl (Opd.tmp rfl) Opd.con B_add) ?_
  refine RegL.pure (p := (pEq (.int .i64 (w64 (a_1 + (1 : Int)))))) rfl rfl rfl (J_assign rfl (Opd.tmp rfl)) ?_
  refine RegL.nil ?_
  refine Ct.then_tr ?_
  refine Tr.weak (Γ' := [(0, (pEq (.slice ho0 hn0 hc0))), (1, (pEq (.int .i64 a_1))), (2, (pEq (.int .i64 b_2))), (3, (pFn Try.prog (fun x : (Int × Int) => [(pEq (.int .i64 x.1)), (pEq (.int .i64 x.2))]) cmp_3 (fun y => (pEq (.int .i64 y))))), (8, (pEq (.int .i64 (w64 (a_1 + (1 : Int))))))]) ⟨rfl, rfl, rfl, rfl, rfl, trivial⟩ ?_
  replace h := bind_some h; obtain ⟨x2, hx2, h⟩ := h
  refine Tr.cut (γ := Unit) (Γm := fun g => []) (Ωm := fun g => [oSl 2 1 (cK .i64) ho0 hn0 hc0 x2]) ?_ (fun g25 => ?_)
  · clear h
    have h := hx2
    clear hx2
    refine Tr.block ?_
    refine Tr.weak (Γ' := [(0, (pEq (.slice ho0 hn0 hc0))), (1, (pEq (.int .i64 a_1))), (2, (pEq (.int .i64 b_2))), (3, (pFn Try.prog (fun x : (Int × Int) => [(pEq (.int .i64 x.1)), (pEq (.int .i64 x.2))]) cmp_3 (fun y => (pEq (.int .i64 y))))), (8, (pEq (.int .i64 (w64 (a_1 + (1 : Int))))))]) ⟨rfl, rfl, rfl, rfl, rfl, trivial⟩ ?_
    refine Tr.loop (γ := Unit) (σ := (Int × (List Int))) (Γσ := fun s g => [(0, (pEq (.slice ho0 hn0 hc0))), (1, (pEq (.int .i64 a_1))), (2, (pEq (.int .i64 b_2))), (3, (pFn Try.prog (fun x : (Int × Int) => [(pEq (.int .i64 x.1)), (pEq (.int .i64 x.2))]) cmp_3 (fun y => (pEq (.int .i64 y))))), (8, (pEq (.int .i64 s.1)))]) (Ωσ := fun s g => [oSl 2 1 (cK .i64) ho0 hn0 hc0 s.2]) (g := ()) h ?_
    clear h
    rintro ⟨v4, v5⟩ g6 t h
    replace h : m_slices_insertionSortCmpFunc_int64_B3 a_1 b_2 cmp_3 v4 v5 = some t := h
    unfold m_slices_insertionSortCmpFunc_int64_B3 at h
    refine Tr.weakO (Γ' := [(0, (pEq (.slice ho0 hn0 hc0))), (1, (pEq (.int .i64 a_1))), (2, (pEq (.int .i64 b_2))), (3, (pFn Try.prog (fun x : (Int × Int) => [(pEq (.int .i64 x.1)), (pEq (.int .i64 x.2))]) cmp_3 (fun y => (pEq (.int .i64 y))))), (8, (pEq (.int .i64 v4)))]) (Ω' := [oSl 2 1 (cK .i64) ho0 hn0 hc0 v5]) rfl ⟨rfl, rfl, rfl, rfl, rfl, trivial⟩ ?_
    refine Tr.seq ?_
    refine Tr.seq ?_
    refine Tr.region ?_
    refine RegL.pure (p := (pEq (.int .i64 v4))) rfl rfl rfl (J_move rfl (Opd.tmp rfl)) ?_
    refine RegL.pure (p := (pEq (.int .i64 b_2))) rfl rfl rfl (J_move rfl (Opd.tmp rfl)) ?_
    refine RegL.pure (p := (pEq (.bool (decide (v4 < b_2))))) rfl rfl rfl (J_bin rfl (Opd.tmp rfl) (Opd.tmp rfl) B_lss) ?_
    refine RegL.nil ?_
    refine Ct.then_tr ?_
    refine Tr.weak (Γ' := [(0, (pEq (.slice ho0 hn0 hc0))), (1, (pEq (.int .i64 a_1))), (2, (pEq (.int .i64 b_2))), (3, (pFn Try.prog (fun x : (Int × Int) => [(pEq (.int .i64 x.1)), (pEq (.int .i64 x.2))]) cmp_3 (fun y => (pEq (.int .i64 y))))), (8, (pEq (.int .i64 v4))), (14, (pEq (.bool (decide (v4 < b_2)))))]) ⟨rfl, rfl, rfl, rfl, rfl, rfl, trivial⟩ ?_
    refine Tr.cond (Opd.tmp rfl) (fun hc => ?_) (fun hc => ?_)
    · replace h := bif_t hc h
      refine Tr.skip ?_
      refine Ct.then_tr ?_
      refine Tr.weak (Γ' := [(0, (pEq (.slice ho0 hn0 hc0))), (1, (pEq (.int .i64 a_1))), (2, (pEq (.int .i64 b_2))), (3, (pFn Try.prog (fun x : (Int × Int) => [(pEq (.int .i64 x.1)), (pEq (.int .i64 x.2))]) cmp_3 (fun y => (pEq (.int .i64 y))))), (8, (pEq (.int .i64 v4)))]) ⟨rfl, rfl, rfl, rfl, rfl, trivial⟩ ?_
      refine Tr.seq ?_
      refine Tr.block ?_
      refine Tr.seq ?_
      refine Tr.region ?_
      refine RegL.pure (p := (pEq (.int .i64 v4))) rfl rfl rfl (J_move rfl (Opd.tmp rfl)) ?_
      refine RegL.pure (p := (pEq (.int .i64 v4))) rfl rfl rfl (J_assign rfl (Opd.tmp rfl)) ?_
      refine RegL.nil ?_
      refine Ct.then_tr ?_
      refine Tr.weak (Γ' := [(0, (pEq (.slice ho0 hn0 hc0))), (1, (pEq (.int .i64 a_1))), (2, (pEq (.int .i64 b_2))), (3, (pFn Try.prog (fun x : (Int × Int) => [(pEq (.int .i64 x.1)), (pEq (.int .i64 x.2))]) cmp_3 (fun y => (pEq (.int .i64 y))))), (8, (pEq (.int .i64 v4))), (9, (pEq (.int .i64 v4)))]) ⟨rfl, rfl, rfl, rfl, rfl, rfl, trivial⟩ ?_
      replace h := bind_some h; obtain ⟨x7, hx7, h⟩ := h
      refine Tr.cut (γ := Unit) (Γm := fun g => [(0, (pEq (.slice ho0 hn0 hc0))), (1, (pEq (.int .i64 a_1))), (2, (pEq (.int .i64 b_2))), (3, (pFn Try.prog (fun x : (Int × Int) => [(pEq (.int .i64 x.1)), (pEq (.int .i64 x.2))]) cmp_3 (fun y => (pEq (.int .i64 y))))), (8, (pEq (.int .i64 v4)))]) (Ωm := fun g => [oSl 2 1 (cK .i64) ho0 hn0 hc0 x7]) ?_ (fun g24 => ?_)
      · clear h
        have h := hx7
        clear hx7
        refine Tr.block ?_
        refine Tr.weak (Γ' := [(0, (pEq (.slice ho0 hn0 hc0))), (1, (pEq (.int .i64 a_1))), (2, (pEq (.int .i64 b_2))), (3, (pFn Try.prog (fun x : (Int × Int) => [(pEq (.int .i64 x.1)), (pEq (.int .i64 x.2))]) cmp_3 (fun y => (pEq (.int .i64 y))))), (8, (pEq (.int .i64 v4))), (9, (pEq (.int .i64 v4)))]) ⟨rfl, rfl, rfl, rfl, rfl, rfl, trivial⟩ ?_
        refine Tr.loop (γ := Unit) (σ := (Int × (List Int))) (Γσ := fun s g => [(0, (pEq (.slice ho0 hn0 hc0))), (1, (pEq (.int .i64 a_1))), (2, (pEq (.int .i64 b_2))), (3, (pFn Try.prog (fun x : (Int × Int) => [(pEq (.int .i64 x.1)), (pEq (.int .i64 x.2))]) cmp_3 (fun y => (pEq (.int .i64 y))))), (8, (pEq (.int .i64 v4))), (9, (pEq (.int .i64 s.1)))]) (Ωσ := fun s g => [oSl 2 1 (cK .i64) ho0 hn0 hc0 s.2]) (g := ()) h ?_
        clear h
        rintro ⟨v9, v10⟩ g11 t h
        replace h : m_slices_insertionSortCmpFunc_int64_B8 a_1 cmp_3 v9 v10 = some t := h
        unfold m_slices_insertionSortCmpFunc_int64_B8 at h
        refine Tr.weakO (Γ' := [(0, (pEq (.slice ho0 hn0 hc0))), (1, (pEq (.int .i64 a_1))), (2, (pEq (.int .i64 b_2))), (3, (pFn Try.prog (fun x : (Int × Int) => [(pEq (.int .i64 x.1)), (pEq (.int .i64 x.2))]) cmp_3 (fun y => (pEq (.int .i64 y))))), (8, (pEq (.int .i64 v4))), (9, (pEq (.int .i64 v9)))]) (Ω' := [oSl 2 1 (cK .i64) ho0 hn0 hc0 v10]) rfl ⟨rfl, rfl, rfl, rfl, rfl, rfl, trivial⟩ ?_
        refine Tr.seq ?_
        refine Tr.seq ?_
        replace h := bind_some h; obtain ⟨x12, hx12, h⟩ := h
        refine Tr.cut (γ := Unit) (Γm := fun g => [(0, (pEq (.slice ho0 hn0 hc0))), (1, (pEq (.int .i64 a_1))), (2, (pEq (.int .i64 b_2))), (3, (pFn Try.prog (fun x : (Int × Int) => [(pEq (.int .i64 x.1)), (pEq (.int .i64 x.2))]) cmp_3 (fun y => (pEq (.int .i64 y))))), (8, (pEq (.int .i64 v4))), (9, (pEq (.int .i64 v9))), (34, (pEq (.bool x12)))]) (Ωm := fun g => [oSl 2 1 (cK .i64) ho0 hn0 hc0 v10]) ?_ (fun g17 => ?_)
        · clear h
          have h := hx12
          clear hx12
          rcases Bool.eq_false_or_eq_true (decide (a_1 < v9)) with hc13 | hc13
          · replace h := bif_t hc13 h
            replace h := bind_some h; obtain ⟨x14, hx14, h⟩ := h
            replace h := bind_some h; obtain ⟨x15, hx15, h⟩ := h
            replace h := bind_some h; obtain ⟨x16, hx16, h⟩ := h
            refine Tr.drawD (n := 53) (m := 17) (es := [some (Ent.mk [(9, (pEq (.int .i64 v9)))] (pEq (.int .i64 v9)) true), some (Ent.mk [(1, (pEq (.int .i64 a_1)))] (pEq (.int .i64 a_1)) true), some (Ent.mk [(18, (pEq (.int .i64 v9))), (19, (pEq (.int .i64 a_1)))] (pEq (.bool (decide (a_1 < v9)))) true), some (Ent.mk [(20, (pEq (.bool (decide (a_1 < v9)))))] (pEq (.bool (decide (a_1 < v9)))) true), some (Ent.mk [(3, (pFn Try.prog (fun x : (Int × Int) => [(pEq (.int .i64 x.1)), (pEq (.int .i64 x.2))]) cmp_3 (fun y => (pEq (.int .i64 y)))))] (pFn Try.prog (fun x : (Int × Int) => [(pEq (.int .i64 x.1)), (pEq (.int .i64 x.2))]) cmp_3 (fun y => (pEq (.int .i64 y)))) true), some (Ent.mk [(0, (pEq (.slice ho0 hn0 hc0)))] (pEq (.slice ho0 hn0 hc0)) true), some (Ent.mk [(9, (pEq (.int .i64 v9)))] (pEq (.int .i64 v9)) true), some (Ent.mk [(23, (pEq (.slice ho0 hn0 hc0))), (24, (pEq (.int .i64 v9)))] (pEq (.pointer (some ⟨blk ho0, (v9).toNat * 1, none⟩))) true), some (Ent.mk [(25, (pEq (.pointer (some ⟨blk ho0, (v9).toNat * 1, none⟩))))] (pEq (.int .i64 x14)) true), some (Ent.mk [(0, (pEq (.slice ho0 hn0 hc0)))] (pEq (.slice ho0 hn0 hc0)) true), some (Ent.mk [(9, (pEq (.int .i64 v9)))] (pEq (.int .i64 v9)) true), some (Ent.mk [(28, (pEq (.int .i64 v9)))] (pEq (.int .i64 (w64 (v9 - (1 : Int))))) true), some (Ent.mk [(27, (pEq (.slice ho0 hn0 hc0))), (29, (pEq (.int .i64 (w64 (v9 - (1 : Int))))))] (pEq (.pointer (some ⟨blk ho0, ((w64 (v9 - (1 : Int)))).toNat * 1, none⟩))) true), some (Ent.mk [(30, (pEq (.pointer (some ⟨blk ho0, ((w64 (v9 - (1 : Int)))).toNat * 1, none⟩))))] (pEq (.int .i64 x15)) true), some (Ent.mk [(22, (pFn Try.prog (fun x : (Int × Int) => [(pEq (.int .i64 x.1)), (pEq (.int .i64 x.2))]) cmp_3 (fun y => (pEq (.int .i64 y))))), (26, (pEq (.int .i64 x14))), (31, (pEq (.int .i64 x15)))] (pEq (.int .i64 x16)) true), some (Ent.mk [(32, (pEq (.int .i64 x16)))] (pEq (.bool (decide (x16 < (0 : Int))))) true), some (Ent.mk [(21, (pEq (.bool (decide (a_1 < v9))))), (33, (pEq (.bool (decide (x16 < (0 : Int))))))] (pEq (.bool (decide (x16 < (0 : Int))))) true)]) (rd := [[9], [1], [18, 19], [20], [3], [0], [9], [23, 24], [25], [0], [9], [28], [27, 29], [30], [22, 26, 31], [32], [21, 33]]) rfl hmix (by kernel_rfl) fun hD => ?_
            refine RD.fin (es := [Ent.mk [(9, (pEq (.int .i64 v9)))] (pEq (.int .i64 v9)) true, Ent.mk [(1, (pEq (.int .i64 a_1)))] (pEq (.int .i64 a_1)) true, Ent.mk [(18, (pEq (.int .i64 v9))), (19, (pEq (.int .i64 a_1)))] (pEq (.bool (decide (a_1 < v9)))) true, Ent.mk [(20, (pEq (.bool (decide (a_1 < v9)))))] (pEq (.bool (decide (a_1 < v9)))) true, Ent.mk [(3, (pFn Try.prog (fun x : (Int × Int) => [(pEq (.int .i64 x.1)), (pEq (.int .i64 x.2))]) cmp_3 (fun y => (pEq (.int .i64 y)))))] (pFn Try.prog (fun x : (Int × Int) => [(pEq (.int .i64 x.1)), (pEq (.int .i64 x.2))]) cmp_3 (fun y => (pEq (.int .i64 y)))) true, Ent.mk [(0, (pEq (.slice ho0 hn0 hc0)))] (pEq (.slice ho0 hn0 hc0)) true, Ent.mk [(9, (pEq (.int .i64 v9)))] (pEq (.int .i64 v9)) true, Ent.mk [(23, (pEq (.slice ho0 hn0 hc0))), (24, (pEq (.int .i64 v9)))] (pEq (.pointer (some ⟨blk ho0, (v9).toNat * 1, none⟩))) true, Ent.mk [(25, (pEq (.pointer (some ⟨blk ho0, (v9).toNat * 1, none⟩))))] (pEq (.int .i64 x14)) true, Ent.mk [(0, (pEq (.slice ho0 hn0 hc0)))] (pEq (.slice ho0 hn0 hc0)) true, Ent.mk [(9, (pEq (.int .i64 v9)))] (pEq (.int .i64 v9)) true, Ent.mk [(28, (pEq (.int .i64 v9)))] (pEq (.int .i64 (w64 (v9 - (1 : Int))))) true, Ent.mk [(27, (pEq (.slice ho0 hn0 hc0))), (29, (pEq (.int .i64 (w64 (v9 - (1 : Int))))))] (pEq (.pointer (some ⟨blk ho0, ((w64 (v9 - (1 : Int)))).toNat * 1, none⟩))) true, Ent.mk [(30, (pEq (.pointer (some ⟨blk ho0, ((w64 (v9 - (1 : Int)))).toNat * 1, none⟩))))] (pEq (.int .i64 x15)) true, Ent.mk [(22, (pFn Try.prog (fun x : (Int × Int) => [(pEq (.int .i64 x.1)), (pEq (.int .i64 x.2))]) cmp_3 (fun y => (pEq (.int .i64 y))))), (26, (pEq (.int .i64 x14))), (31, (pEq (.int .i64 x15)))] (pEq (.int .i64 x16)) true, Ent.mk [(32, (pEq (.int .i64 x16)))] (pEq (.bool (decide (x16 < (0 : Int))))) true, Ent.mk [(21, (pEq (.bool (decide (a_1 < v9))))), (33, (pEq (.bool (decide (x16 < (0 : Int))))))] (pEq (.bool (decide (x16 < (0 : Int))))) true]) (done := []) hD ⟨.inr ⟨(OpJ.w (J_move rfl (Opd.tmp rfl))), ⟨rfl, trivial⟩, rfl, rfl⟩, ⟨.inr ⟨(OpJ.w (J_move rfl (Opd.tmp rfl))), ⟨rfl, trivial⟩, rfl, rfl⟩, ⟨.inr ⟨(OpJ.w (J_bin rfl (Opd.tmp rfl) (Opd.tmp rfl) B_gtr)), ⟨rfl, rfl, trivial⟩, rfl, rfl⟩, ⟨.inr ⟨(OpJ.w (J_move rfl (Opd.tmp rfl))), ⟨rfl, trivial⟩, rfl, rfl⟩, ⟨.inr ⟨(OpJ.w (J_move rfl (Opd.tmp rfl))), ⟨rfl, trivial⟩, (.inl ⟨_, rfl, by simp [hc13]⟩), rfl⟩, ⟨.inr ⟨(OpJ.w (J_move rfl (Opd.tmp rfl))), ⟨rfl, trivial⟩, (.inl ⟨_, rfl, by simp [hc13]⟩), rfl⟩, ⟨.inr ⟨(OpJ.w (J_move rfl (Opd.tmp rfl))), ⟨rfl, trivial⟩, (.inl ⟨_, rfl, by simp [hc13]⟩), rfl⟩, ⟨.inr ⟨(W_rowIdx (j := 0) rfl Try.underlying26 sz2 (Opd.tmp rfl) (Opd.tmp rfl) rfl (idx_lt hx14)), ⟨rfl, rfl, trivial⟩, (.inl ⟨_, rfl, by simp [hc13]⟩), rfl⟩, ⟨.inr ⟨(W_rowLoad (j := 0) (f := (cK .i64)) rfl Try.isAgg2 (fun _ => rfl) (Opd.tmp rfl) rfl hx14 rfl), ⟨rfl, trivial⟩, (.inl ⟨_, rfl, by simp [hc13]⟩), rfl⟩, ⟨.inr ⟨(OpJ.w (J_move rfl (Opd.tmp rfl))), ⟨rfl, trivial⟩, (.inl ⟨_, rfl, by simp [hc13]⟩), rfl⟩, ⟨.inr ⟨(OpJ.w (J_move rfl (Opd.tmp rfl))), ⟨rfl, trivial⟩, (.inl ⟨_, rfl, by simp [hc13]⟩), rfl⟩, ⟨.inr ⟨(OpJ.w (J_bin rfl (Opd.tmp rfl) Opd.con B_sub)), ⟨rfl, trivial⟩, (.inl ⟨_, rfl, by simp [hc13]⟩), rfl⟩, ⟨.inr ⟨(W_rowIdx (j := 0) rfl Try.underlying26 sz2 (Opd.tmp rfl) (Opd.tmp rfl) rfl (idx_lt hx15)), ⟨rfl, rfl, trivial⟩, (.inl ⟨_, rfl, by simp [hc13]⟩), rfl⟩, ⟨.inr ⟨(W_rowLoad (j := 0) (f := (cK .i64)) rfl Try.isAgg2 (fun _ => rfl) (Opd.tmp rfl) rfl hx15 rfl), ⟨rfl, trivial⟩, (.inl ⟨_, rfl, by simp [hc13]⟩), rfl⟩, ⟨.inr ⟨(OpJ.w (J_callv (x := (x14, x15)) rfl (Opd.tmp rfl) rfl (Opds.cons (Opd.tmp rfl) (Opds.cons (Opd.tmp rfl) Opds.nil)) hx16 rfl)), ⟨rfl, rfl, rfl, trivial⟩, (.inl ⟨_, rfl, by simp [hc13]⟩), rfl⟩, ⟨.inr ⟨(OpJ.w (J_bin rfl (Opd.tmp rfl) Opd.con B_lss)), ⟨rfl, trivial⟩, (.inl ⟨_, rfl, by simp [hc13]⟩), rfl⟩, ⟨.inr ⟨(OpJ.w (J_pick rfl (Opd.tmp rfl) (fun _ => (Opd.tmp rfl)) (fun hf => absurd (hc13.symm.trans hf) (by decide)))), ⟨rfl, rfl, trivial⟩, rfl, rfl⟩, trivial⟩⟩⟩⟩⟩⟩⟩⟩⟩⟩⟩⟩⟩⟩⟩⟩⟩ ?_
            refine RegL.nil ?_
            replace h := Option.some.inj h; subst h
            exact Ct.mid () rfl ⟨rfl, rfl, rfl, rfl, rfl, rfl, rfl, trivial⟩
          · replace h := bif_f hc13 h
            refine Tr.drawD (n := 53) (m := 17) (es := [some (Ent.mk [(9, (pEq (.int .i64 v9)))] (pEq (.int .i64 v9)) true), some (Ent.mk [(1, (pEq (.int .i64 a_1)))] (pEq (.int .i64 a_1)) true), some (Ent.mk [(18, (pEq (.int .i64 v9))), (19, (pEq (.int .i64 a_1)))] (pEq (.bool (decide (a_1 < v9)))) true), some (Ent.mk [(20, (pEq (.bool (decide (a_1 < v9)))))] (pEq (.bool (decide (a_1 < v9)))) true), some (Ent.mk [(3, (pFn Try.prog (fun x : (Int × Int) => [(pEq (.int .i64 x.1)), (pEq (.int .i64 x.2))]) cmp_3 (fun y => (pEq (.int .i64 y)))))] (pEq undef) false), some (Ent.mk [(0, (pEq (.slice ho0 hn0 hc0)))] (pEq undef) false), some (Ent.mk [(9, (pEq (.int .i64 v9)))] (pEq undef) false), some (Ent.mk [(23, (pEq undef)), (24, (pEq undef))] (pEq undef) false), some (Ent.mk [(25, (pEq undef))] (pEq undef) false), some (Ent.mk [(0, (pEq (.slice ho0 hn0 hc0)))] (pEq undef) false), some (Ent.mk [(9, (pEq (.int .i64 v9)))] (pEq undef) false), some (Ent.mk [(28, (pEq undef))] (pEq undef) false), some (Ent.mk [(27, (pEq undef)), (29, (pEq undef))] (pEq undef) false), some (Ent.mk [(30, (pEq undef))] (pEq undef) false), some (Ent.mk [(22, (pEq undef)), (26, (pEq undef)), (31, (pEq undef))] (pEq undef) false), some (Ent.mk [(32, (pEq undef))] (pEq undef) false), some (Ent.mk [(21, (pEq (.bool (decide (a_1 < v9))))), (33, (pEq undef))] (pEq (.bool false)) true)]) (rd := [[9], [1], [18, 19], [20], [3], [0], [9], [23, 24], [25], [0], [9], [28], [27, 29], [30], [22, 26, 31], [32], [21, 33]]) rfl hmix (by kernel_rfl) fun hD => ?_
            refine RD.fin (es := [Ent.mk [(9, (pEq (.int .i64 v9)))] (pEq (.int .i64 v9)) true, Ent.mk [(1, (pEq (.int .i64 a_1)))] (pEq (.int .i64 a_1)) true, Ent.mk [(18, (pEq (.int .i64 v9))), (19, (pEq (.int .i64 a_1)))] (pEq (.bool (decide (a_1 < v9)))) true, Ent.mk [(20, (pEq (.bool (decide (a_1 < v9)))))] (pEq (.bool (decide (a_1 < v9)))) true, Ent.mk [(3, (pFn Try.prog (fun x : (Int × Int) => [(pEq (.int .i64 x.1)), (pEq (.int .i64 x.2))]) cmp_3 (fun y => (pEq (.int .i64 y)))))] (pEq undef) false, Ent.mk [(0, (pEq (.slice ho0 hn0 hc0)))] (pEq undef) false, Ent.mk [(9, (pEq (.int .i64 v9)))] (pEq undef) false, Ent.mk [(23, (pEq undef)), (24, (pEq undef))] (pEq undef) false, Ent.mk [(25, (pEq undef))] (pEq undef) false, Ent.mk [(0, (pEq (.slice ho0 hn0 hc0)))] (pEq undef) false, Ent.mk [(9, (pEq (.int .i64 v9)))] (pEq undef) false, Ent.mk [(28, (pEq undef))] (pEq undef) false, Ent.mk [(27, (pEq undef)), (29, (pEq undef))] (pEq undef) false, Ent.mk [(30, (pEq undef))] (pEq undef) false, Ent.mk [(22, (pEq undef)), (26, (pEq undef)), (31, (pEq undef))] (pEq undef) false, Ent.mk [(32, (pEq undef))] (pEq undef) false, Ent.mk [(21, (pEq (.bool (decide (a_1 < v9))))), (33, (pEq undef))] (pEq (.bool false)) true]) (done := []) hD ⟨.inr ⟨(OpJ.w (J_move rfl (Opd.tmp rfl))), ⟨rfl, trivial⟩, rfl, rfl⟩, ⟨.inr ⟨(OpJ.w (J_move rfl (Opd.tmp rfl))), ⟨rfl, trivial⟩, rfl, rfl⟩, ⟨.inr ⟨(OpJ.w (J_bin rfl (Opd.tmp rfl) (Opd.tmp rfl) B_gtr)), ⟨rfl, rfl, trivial⟩, rfl, rfl⟩, ⟨.inr ⟨(OpJ.w (J_move rfl (Opd.tmp rfl))), ⟨rfl, trivial⟩, rfl, rfl⟩, ⟨.inr ⟨rfl, ⟨rfl, trivial⟩, (.inl ⟨_, rfl, by simp [hc13]⟩), rfl⟩, ⟨.inr ⟨rfl, ⟨rfl, trivial⟩, (.inl ⟨_, rfl, by simp [hc13]⟩), rfl⟩, ⟨.inr ⟨rfl, ⟨rfl, trivial⟩, (.inl ⟨_, rfl, by simp [hc13]⟩), rfl⟩, ⟨.inr ⟨rfl, ⟨rfl, rfl, trivial⟩, (.inl ⟨_, rfl, by simp [hc13]⟩), rfl⟩, ⟨.inr ⟨rfl, ⟨rfl, trivial⟩, (.inl ⟨_, rfl, by simp [hc13]⟩), rfl⟩, ⟨.inr ⟨rfl, ⟨rfl, trivial⟩, (.inl ⟨_, rfl, by simp [hc13]⟩), rfl⟩, ⟨.inr ⟨rfl, ⟨rfl, trivial⟩, (.inl ⟨_, rfl, by simp [hc13]⟩), rfl⟩, ⟨.inr ⟨rfl, ⟨rfl, trivial⟩, (.inl ⟨_, rfl, by simp [hc13]⟩), rfl⟩, ⟨.inr ⟨rfl, ⟨rfl, rfl, trivial⟩, (.inl ⟨_, rfl, by simp [hc13]⟩), rfl⟩, ⟨.inr ⟨rfl, ⟨rfl, trivial⟩, (.inl ⟨_, rfl, by simp [hc13]⟩), rfl⟩, ⟨.inr ⟨rfl, ⟨rfl, rfl, rfl, trivial⟩, (.inl ⟨_, rfl, by simp [hc13]⟩), rfl⟩, ⟨.inr ⟨rfl, ⟨rfl, trivial⟩, (.inl ⟨_, rfl, by simp [hc13]⟩), rfl⟩, ⟨.inr ⟨(OpJ.w (J_pick rfl (Opd.tmp rfl) (fun hf => absurd (hc13.symm.trans hf) (by decide)) (fun _ => Opd.con))), ⟨rfl, rfl, trivial⟩, rfl, rfl⟩, trivial⟩⟩⟩⟩⟩⟩⟩⟩⟩⟩⟩⟩⟩⟩⟩⟩⟩ ?_
            refine RegL.nil ?_
            replace h := Option.some.inj h; subst h
            exact Ct.mid () rfl ⟨rfl, rfl, rfl, rfl, rfl, rfl, rfl, trivial⟩
        · clear hx12
          refine Ct.then_tr ?_
          refine Tr.weak (Γ' := [(0, (pEq (.slice ho0 hn0 hc0))), (1, (pEq (.int .i64 a_1))), (2, (pEq (.int .i64 b_2))), (3, (pFn Try.prog (fun x : (Int × Int) => [(pEq (.int .i64 x.1)), (pEq (.int .i64 x.2))]) cmp_3 (fun y => (pEq (.int .i64 y))))), (8, (pEq (.int .i64 v4))), (9, (pEq (.int .i64 v9))), (34, (pEq (.bool x12)))]) ⟨rfl, rfl, rfl, rfl, rfl, rfl, rfl, trivial⟩ ?_
          refine Tr.cond (Opd.tmp rfl) (fun hc => ?_) (fun hc => ?_)
          · replace h := bif_t hc h
            refine Tr.skip ?_
            refine Ct.then_tr ?_
            refine Tr.weak (Γ' := [(0, (pEq (.slice ho0 hn0 hc0))), (1, (pEq (.int .i64 a_1))), (2, (pEq (.int .i64 b_2))), (3, (pFn Try.prog (fun x : (Int × Int) => [(pEq (.int .i64 x.1)), (pEq (.int .i64 x.2))]) cmp_3 (fun y => (pEq (.int .i64 y))))), (8, (pEq (.int .i64 v4))), (9, (pEq (.int .i64 v9)))]) ⟨rfl, rfl, rfl, rfl, rfl, rfl, trivial⟩ ?_
            refine Tr.seq ?_
            refine Tr.block ?_
            replace h := bind_some h; obtain ⟨x18, hx18, h⟩ := h
            replace h := bind_some h; obtain ⟨x19, hx19, h⟩ := h
            replace h := bind_some h; obtain ⟨u20, hu20, h⟩ := h
            refine Tr.drawD (n := 53) (m := 16) (es := [some (Ent.mk [(0, (pEq (.slice ho0 hn0 hc0)))] (pEq (.slice ho0 hn0 hc0)) true), some (Ent.mk [(9, (pEq (.int .i64 v9)))] (pEq (.int .i64 v9)) true), some (Ent.mk [(0, (pEq (.slice ho0 hn0 hc0)))] (pEq (.slice ho0 hn0 hc0)) true), some (Ent.mk [(9, (pEq (.int .i64 v9)))] (pEq (.int .i64 v9)) true), some (Ent.mk [(40, (pEq (.int .i64 v9)))] (pEq (.int .i64 (w64 (v9 - (1 : Int))))) true), some (Ent.mk [(0, (pEq (.slice ho0 hn0 hc0)))] (pEq (.slice ho0 hn0 hc0)) true), some (Ent.mk [(9, (pEq (.int .i64 v9)))] (pEq (.int .i64 v9)) true), some (Ent.mk [(43, (pEq (.int .i64 v9)))] (pEq (.int .i64 (w64 (v9 - (1 : Int))))) true), some (Ent.mk [(42, (pEq (.slice ho0 hn0 hc0))), (44, (pEq (.int .i64 (w64 (v9 - (1 : Int))))))] (pEq (.pointer (some ⟨blk ho0, ((w64 (v9 - (1 : Int)))).toNat * 1, none⟩))) true), some (Ent.mk [(45, (pEq (.pointer (some ⟨blk ho0, ((w64 (v9 - (1 : Int)))).toNat * 1, none⟩))))] (pEq (.int .i64 x18)) true), some (Ent.mk [(0, (pEq (.slice ho0 hn0 hc0)))] (pEq (.slice ho0 hn0 hc0)) true), some (Ent.mk [(9, (pEq (.int .i64 v9)))] (pEq (.int .i64 v9)) true), some (Ent.mk [(47, (pEq (.slice ho0 hn0 hc0))), (48, (pEq (.int .i64 v9)))] (pEq (.pointer (some ⟨blk ho0, (v9).toNat * 1, none⟩))) true), some (Ent.mk [(49, (pEq (.pointer (some ⟨blk ho0, (v9).toNat * 1, none⟩))))] (pEq (.int .i64 x19)) true), some (Ent.mk [(37, (pEq (.slice ho0 hn0 hc0))), (38, (pEq (.int .i64 v9)))] (pEq (.pointer (some ⟨blk ho0, (v9).toNat * 1, none⟩))) true), none]) (rd := [[0], [9], [0], [9], [40], [0], [9], [43], [42, 44], [45], [0], [9], [47, 48], [49], [37, 38], [46, 51]]) rfl hmix (by kernel_rfl) fun hD => ?_
            refine RD.step hD (es := [some (Ent.mk [(0, (pEq (.slice ho0 hn0 hc0)))] (pEq (.slice ho0 hn0 hc0)) true), some (Ent.mk [(9, (pEq (.int .i64 v9)))] (pEq (.int .i64 v9)) true), some (Ent.mk [(0, (pEq (.slice ho0 hn0 hc0)))] (pEq (.slice ho0 hn0 hc0)) true), some (Ent.mk [(9, (pEq (.int .i64 v9)))] (pEq (.int .i64 v9)) true), some (Ent.mk [(40, (pEq (.int .i64 v9)))] (pEq (.int .i64 (w64 (v9 - (1 : Int))))) true), some (Ent.mk [(0, (pEq (.slice ho0 hn0 hc0)))] (pEq (.slice ho0 hn0 hc0)) true), some (Ent.mk [(9, (pEq (.int .i64 v9)))] (pEq (.int .i64 v9)) true), some (Ent.mk [(43, (pEq (.int .i64 v9)))] (pEq (.int .i64 (w64 (v9 - (1 : Int))))) true), some (Ent.mk [(42, (pEq (.slice ho0 hn0 hc0))), (44, (pEq (.int .i64 (w64 (v9 - (1 : Int))))))] (pEq (.pointer (some ⟨blk ho0, ((w64 (v9 - (1 : Int)))).toNat * 1, none⟩))) true), some (Ent.mk [(45, (pEq (.pointer (some ⟨blk ho0, ((w64 (v9 - (1 : Int)))).toNat * 1, none⟩))))] (pEq (.int .i64 x18)) true), some (Ent.mk [(0, (pEq (.slice ho0 hn0 hc0)))] (pEq (.slice ho0 hn0 hc0)) true), some (Ent.mk [(9, (pEq (.int .i64 v9)))] (pEq (.int .i64 v9)) true), some (Ent.mk [(47, (pEq (.slice ho0 hn0 hc0))), (48, (pEq (.int .i64 v9)))] (pEq (.pointer (some ⟨blk ho0, (v9).toNat * 1, none⟩))) true), some (Ent.mk [(49, (pEq (.pointer (some ⟨blk ho0, (v9).toNat * 1, none⟩))))] (pEq (.int .i64 x19)) true), some (Ent.mk [(37, (pEq (.slice ho0 hn0 hc0))), (38, (pEq (.int .i64 v9)))] (pEq (.pointer (some ⟨blk ho0, (v9).toNat * 1, none⟩))) true), none]) (done := []) (mask := [true, true, true, true, true, true, true, true, true, true, true, true, true, true, true, false]) (γ := Unit) (p := fun _ => pAny) (Ω' := fun _ => [oSl 2 1 (cK .i64) ho0 hn0 hc0 (v10.set (v9).toNat x18)]) (es' := fun g21 => [some (Ent.mk [(0, (pEq (.slice ho0 hn0 hc0)))] (pEq (.slice ho0 hn0 hc0)) true), some (Ent.mk [(9, (pEq (.int .i64 v9)))] (pEq (.int .i64 v9)) true), some (Ent.mk [(0, (pEq (.slice ho0 hn0 hc0)))] (pEq (.slice ho0 hn0 hc0)) true), some (Ent.mk [(9, (pEq (.int .i64 v9)))] (pEq (.int .i64 v9)) true), some (Ent.mk [(40, (pEq (.int .i64 v9)))] (pEq (.int .i64 (w64 (v9 - (1 : Int))))) true), some (Ent.mk [(0, (pEq (.slice ho0 hn0 hc0)))] (pEq (.slice ho0 hn0 hc0)) true), some (Ent.mk [(9, (pEq (.int .i64 v9)))] (pEq (.int .i64 v9)) true), some (Ent.mk [(43, (pEq (.int .i64 v9)))] (pEq (.int .i64 (w64 (v9 - (1 : Int))))) true), some (Ent.mk [(42, (pEq (.slice ho0 hn0 hc0))), (44, (pEq (.int .i64 (w64 (v9 - (1 : Int))))))] (pEq (.pointer (some ⟨blk ho0, ((w64 (v9 - (1 : Int)))).toNat * 1, none⟩))) true), some (Ent.mk [(45, (pEq (.pointer (some ⟨blk ho0, ((w64 (v9 - (1 : Int)))).toNat * 1, none⟩))))] (pEq (.int .i64 x18)) true), some (Ent.mk [(0, (pEq (.slice ho0 hn0 hc0)))] (pEq (.slice ho0 hn0 hc0)) true), some (Ent.mk [(9, (pEq (.int .i64 v9)))] (pEq (.int .i64 v9)) true), some (Ent.mk [(47, (pEq (.slice ho0 hn0 hc0))), (48, (pEq (.int .i64 v9)))] (pEq (.pointer (some ⟨blk ho0, (v9).toNat * 1, none⟩))) true), some (Ent.mk [(49, (pEq (.pointer (some ⟨blk ho0, (v9).toNat * 1, none⟩))))] (pEq (.int .i64 x19)) true), some (Ent.mk [(37, (pEq (.slice ho0 hn0 hc0))), (38, (pEq (.int .i64 v9)))] (pEq (.pointer (some ⟨blk ho0, (v9).toNat * 1, none⟩))) true), some (Ent.mk [(46, (pEq (.int .i64 x18))), (51, (pEq (.pointer (some ⟨blk ho0, (v9).toNat * 1, none⟩))))] ((fun _ => pAny) g21) true)]) (Γc := [(46, (pEq (.int .i64 x18))), (51, (pEq (.pointer (some ⟨blk ho0, (v9).toNat * 1, none⟩))))]) 15 rfl rfl rfl (by kernel_rfl) ⟨.inr ⟨(OpJ.w (J_move rfl (Opd.tmp rfl))), ⟨rfl, trivial⟩, rfl, rfl⟩, ⟨.inr ⟨(OpJ.w (J_move rfl (Opd.tmp rfl))), ⟨rfl, trivial⟩, rfl, rfl⟩, ⟨.inr ⟨(OpJ.w (J_move rfl (Opd.tmp rfl))), ⟨rfl, trivial⟩, rfl, rfl⟩, ⟨.inr ⟨(OpJ.w (J_move rfl (Opd.tmp rfl))), ⟨rfl, trivial⟩, rfl, rfl⟩, ⟨.inr ⟨(OpJ.w (J_bin rfl (Opd.tmp rfl) Opd.con B_sub)), ⟨rfl, trivial⟩, rfl, rfl⟩, ⟨.inr ⟨(OpJ.w (J_move rfl (Opd.tmp rfl))), ⟨rfl, trivial⟩, rfl, rfl⟩, ⟨.inr ⟨(OpJ.w (J_move rfl (Opd.tmp rfl))), ⟨rfl, trivial⟩, rfl, rfl⟩, ⟨.inr ⟨(OpJ.w (J_bin rfl (Opd.tmp rfl) Opd.con B_sub)), ⟨rfl, trivial⟩, rfl, rfl⟩, ⟨.inr ⟨(W_rowIdx (j := 0) rfl Try.underlying26 sz2 (Opd.tmp rfl) (Opd.tmp rfl) rfl (idx_lt hx18)), ⟨rfl, rfl, trivial⟩, rfl, rfl⟩, ⟨.inr ⟨(W_rowLoad (j := 0) (f := (cK .i64)) rfl Try.isAgg2 (fun _ => rfl) (Opd.tmp rfl) rfl hx18 rfl), ⟨rfl, trivial⟩, rfl, rfl⟩, ⟨.inr ⟨(OpJ.w (J_move rfl (Opd.tmp rfl))), ⟨rfl, trivial⟩, rfl, rfl⟩, ⟨.inr ⟨(OpJ.w (J_move rfl (Opd.tmp rfl))), ⟨rfl, trivial⟩, rfl, rfl⟩, ⟨.inr ⟨(W_rowIdx (j := 0) rfl Try.underlying26 sz2 (Opd.tmp rfl) (Opd.tmp rfl) rfl (idx_lt hx19)), ⟨rfl, rfl, trivial⟩, rfl, rfl⟩, ⟨.inr ⟨(W_rowLoad (j := 0) (f := (cK .i64)) rfl Try.isAgg2 (fun _ => rfl) (Opd.tmp rfl) rfl hx19 rfl), ⟨rfl, trivial⟩, rfl, rfl⟩, ⟨.inr ⟨(W_rowIdx (j := 0) rfl Try.underlying26 sz2 (Opd.tmp rfl) (Opd.tmp rfl) rfl (inB_some hu20)), ⟨rfl, rfl, trivial⟩, rfl, rfl⟩, trivial⟩⟩⟩⟩⟩⟩⟩⟩⟩⟩⟩⟩⟩⟩⟩ rfl rfl ⟨rfl, rfl, trivial⟩ (fun _ => M_rowStore rfl sz2 (fun _ => rfl) (Opd.tmp rfl) (Opd.tmp rfl) rfl OneC.int (setL_of (inB_some hu20))) (fun g21 => ⟨rfl, ⟨rfl, ⟨rfl, ⟨rfl, ⟨rfl, ⟨rfl, ⟨rfl, ⟨rfl, ⟨rfl, ⟨rfl, ⟨rfl, ⟨rfl, ⟨rfl, ⟨rfl, ⟨rfl, trivial⟩⟩⟩⟩⟩⟩⟩⟩⟩⟩⟩⟩⟩⟩⟩) (fun g21 => rfl) rfl fun g21 => ?_
            refine RD.add 15 0 rfl ?_
            refine RD.add 15 1 rfl ?_
            refine RD.add 15 5 rfl ?_
            refine RD.add 15 6 rfl ?_
            refine RD.add 15 7 rfl ?_
            refine RD.add 15 8 rfl ?_
            refine RD.add 15 9 rfl ?_
            refine RD.add 15 13 rfl ?_
            refine RD.add 15 14 rfl ?_
            refine RD.add 13 12 rfl ?_
            refine RD.add 12 10 rfl ?_
            refine RD.add 12 11 rfl ?_
            refine RD.fin (es := [Ent.mk [(0, (pEq (.slice ho0 hn0 hc0)))] (pEq (.slice ho0 hn0 hc0)) true, Ent.mk [(9, (pEq (.int .i64 v9)))] (pEq (.int .i64 v9)) true, Ent.mk [(0, (pEq (.slice ho0 hn0 hc0)))] (pEq (.slice ho0 hn0 hc0)) true, Ent.mk [(9, (pEq (.int .i64 v9)))] (pEq (.int .i64 v9)) true, Ent.mk [(40, (pEq (.int .i64 v9)))] (pEq (.int .i64 (w64 (v9 - (1 : Int))))) true, Ent.mk [(0, (pEq (.slice ho0 hn0 hc0)))] (pEq (.slice ho0 hn0 hc0)) true, Ent.mk [(9, (pEq (.int .i64 v9)))] (pEq (.int .i64 v9)) true, Ent.mk [(43, (pEq (.int .i64 v9)))] (pEq (.int .i64 (w64 (v9 - (1 : Int))))) true, Ent.mk [(42, (pEq (.slice ho0 hn0 hc0))), (44, (pEq (.int .i64 (w64 (v9 - (1 : Int))))))] (pEq (.pointer (some ⟨blk ho0, ((w64 (v9 - (1 : Int)))).toNat * 1, none⟩))) true, Ent.mk [(45, (pEq (.pointer (some ⟨blk ho0, ((w64 (v9 - (1 : Int)))).toNat * 1, none⟩))))] (pEq (.int .i64 x18)) true, Ent.mk [(0, (pEq (.slice ho0 hn0 hc0)))] (pEq (.slice ho0 hn0 hc0)) true, Ent.mk [(9, (pEq (.int .i64 v9)))] (pEq (.int .i64 v9)) true, Ent.mk [(47, (pEq (.slice ho0 hn0 hc0))), (48, (pEq (.int .i64 v9)))] (pEq (.pointer (some ⟨blk ho0, (v9).toNat * 1, none⟩))) true, Ent.mk [(49, (pEq (.pointer (some ⟨blk ho0, (v9).toNat * 1, none⟩))))] (pEq (.int .i64 x19)) true, Ent.mk [(37, (pEq (.slice ho0 hn0 hc0))), (38, (pEq (.int .i64 v9)))] (pEq (.pointer (some ⟨blk ho0, (v9).toNat * 1, none⟩))) true, Ent.mk [(46, (pEq (.int .i64 x18))), (51, (pEq (.pointer (some ⟨blk ho0, (v9).toNat * 1, none⟩))))] ((fun _ => pAny) g21) true]) (done := [11, 10, 12, 14, 13, 9, 8, 7, 6, 5, 1, 0, 15]) hD ⟨.inl rfl, ⟨.inl rfl, ⟨.inr ⟨(OpJ.w (J_move rfl (Opd.tmp rfl))), ⟨rfl, trivial⟩, rfl, rfl⟩, ⟨.inr ⟨(OpJ.w (J_move rfl (Opd.tmp rfl))), ⟨rfl, trivial⟩, rfl, rfl⟩, ⟨.inr ⟨(OpJ.w (J_bin rfl (Opd.tmp rfl) Opd.con B_sub)), ⟨rfl, trivial⟩, rfl, rfl⟩, ⟨.inl rfl, ⟨.inl rfl, ⟨.inl rfl, ⟨.inl rfl, ⟨.inl rfl, ⟨.inl rfl, ⟨.inl rfl, ⟨.inl rfl, ⟨.inl rfl, ⟨.inl rfl, ⟨.inl rfl, trivial⟩⟩⟩⟩⟩⟩⟩⟩⟩⟩⟩⟩⟩⟩⟩⟩ ?_
            replace h := bind_some h; obtain ⟨u22, hu22, h⟩ := h
            refine RegL.pureW (p := (pEq (.pointer (some ⟨blk ho0, ((w64 (v9 - (1 : Int)))).toNat * 1, none⟩)))) rfl rfl rfl (W_rowIdx (j := 0) rfl Try.underlying26 sz2 (Opd.tmp rfl) (Opd.tmp rfl) rfl (inB_some hu22)) ?_
            refine RegL.stepN (γ := Unit) (p := fun _ => pAny) (Ω' := fun _ => [oSl 2 1 (cK .i64) ho0 hn0 hc0 ((v10.set (v9).toNat x18).set ((w64 (v9 - (1 : Int)))).toNat x19)]) rfl rfl (M_rowStore rfl sz2 (fun _ => rfl) (Opd.tmp rfl) (Opd.tmp rfl) rfl OneC.int (setL_of (inB_some hu22))) fun g23 => ?_
            refine RegL.nil ?_
            refine Ct.blk_normal ?_
            refine Ct.then_tr ?_
            refine Tr.weak (Γ' := [(0, (pEq (.slice ho0 hn0 hc0))), (1, (pEq (.int .i64 a_1))), (2, (pEq (.int .i64 b_2))), (3, (pFn Try.prog (fun x : (Int × Int) => [(pEq (.int .i64 x.1)), (pEq (.int .i64 x.2))]) cmp_3 (fun y => (pEq (.int .i64 y))))), (8, (pEq (.int .i64 v4))), (9, (pEq (.int .i64 v9)))]) ⟨rfl, rfl, rfl, rfl, rfl, rfl, trivial⟩ ?_
            refine Tr.region ?_
            refine RegL.pure (p := (pEq (.int .i64 v9))) rfl rfl rfl (J_move rfl (Opd.tmp rfl)) ?_
            refine RegL.pure (p := (pEq (.int .i64 (w64 (v9 - (1 : Int)))))) rfl rfl rfl (J_bin rfl (Opd.tmp rfl) Opd.con B_sub) ?_
            refine RegL.pure (p := (pEq (.int .i64 (w64 (v9 - (1 : Int)))))) rfl rfl rfl (J_assign rfl (Opd.tmp rfl)) ?_
            refine RegL.nil ?_
            replace h := Option.some.inj h; subst h
            exact Ct.again () rfl ⟨rfl, rfl, rfl, rfl, rfl, rfl, trivial⟩
          · replace h := bif_f hc h
            refine Tr.exit ?_
            refine Ct.then_exit ?_
            replace h := map_some h; obtain ⟨r1, h, rfl⟩ := h
            refine Ct.out_exit fun e => ?_
            subst e
            refine Ct.blk_exit ?_
            replace h := Option.some.inj h; subst h
            exact Ct.mid () rfl ⟨rfl, rfl, rfl, rfl, rfl, trivial⟩
      · clear hx7
        refine Ct.blk_normal ?_
        refine Ct.then_tr ?_
        refine Tr.weak (Γ' := [(0, (pEq (.slice ho0 hn0 hc0))), (1, (pEq (.int .i64 a_1))), (2, (pEq (.int .i64 b_2))), (3, (pFn Try.prog (fun x : (Int × Int) => [(pEq (.int .i64 x.1)), (pEq (.int .i64 x.2))]) cmp_3 (fun y => (pEq (.int .i64 y))))), (8, (pEq (.int .i64 v4)))]) ⟨rfl, rfl, rfl, rfl, rfl, trivial⟩ ?_
        refine Tr.region ?_
        refine RegL.pure (p := (pEq (.int .i64 v4))) rfl rfl rfl (J_move rfl (Opd.tmp rfl)) ?_
        refine RegL.pure (p := (pEq (.int .i64 (w64 (v4 + (1 : Int)))))) rfl rfl rfl (J_bin rfl (Opd.tmp rfl) Opd.con B_add) ?_
        refine RegL.pure (p := (pEq (.int .i64 (w64 (v4 + (1 : Int)))))) rfl rfl rfl (J_assign rfl (Opd.tmp rfl)) ?_
        refine RegL.nil ?_
        replace h := Option.some.inj h; subst h
        exact Ct.again () rfl ⟨rfl, rfl, rfl, rfl, rfl, trivial⟩
    · replace h := bif_f hc h
      refine Tr.exit ?_
      refine Ct.then_exit ?_
      replace h := map_some h; obtain ⟨r1, h, rfl⟩ := h
      refine Ct.out_exit fun e => ?_
      subst e
      refine Ct.blk_exit ?_
      replace h := Option.some.inj h; subst h
      exact Ct.mid () rfl trivial
  · clear hx2
    replace h := Option.some.inj h; subst h
    exact Ct.retN0 (Ωx := []) () rfl rfl rfl

theorem o_slices_swapRangeCmpFunc_int64 {data_0 : (List Int)} {a_1 : Int} {b_2 : Int} {n_3 : Int} {cmp_4 : ((Int × Int) → Option Int)} {ho0 : Option Addr} {hn0 hc0 : Nat} {r : (List Int)} (h : m_slices_swapRangeCmpFunc_int64 data_0 a_1 b_2 n_3 cmp_4 = some r) : CallH Try.prog 128 [(pEq (.slice ho0 hn0 hc0)), (pEq (.int .i64 a_1)), (pEq (.int .i64 b_2)), (pEq (.int .i64 n_3)), (pFn Try.prog (fun x : (Int × Int) => [(pEq (.int .i64 x.1)), (pEq (.int .i64 x.2))]) cmp_4 (fun y => (pEq (.int .i64 y))))] [oSl 2 1 (cK .i64) ho0 hn0 hc0 data_0] (fun g : Unit => (pTup [])) (fun g : Unit => [oSl 2 1 (cK .i64) ho0 hn0 hc0 r]) := by
  unfold m_slices_swapRangeCmpFunc_int64 at h
  refine CallH.enter Try.func128 rfl Try.ntmps128 rfl fun W I0 H => ?_
  refine Tr.weak (Γ' := [(0, (pEq (.slice ho0 hn0 hc0))), (1, (pEq (.int .i64 a_1))), (2, (pEq (.int .i64 b_2))), (3, (pEq (.int .i64 n_3)))]) ⟨rfl, rfl, rfl, rfl, trivial⟩ ?_
  refine Tr.seq ?_
  refine Tr.region ?_
  refine RegL.pure (p := (pEq (.int .i64 (0 : Int)))) rfl rfl rfl (J_assign rfl Opd.con) ?_
  refine RegL.nil ?_
  refine Ct.then_tr ?_
  refine Tr.weak (Γ' := [(0, (pEq (.slice ho0 hn0 hc0))), (1, (pEq (.int .i64 a_1))), (2, (pEq (.int .i64 b_2))), (3, (pEq (.int .i64 n_3))), (10, (pEq (.int .i64 (0 : Int))))]) ⟨rfl, rfl, rfl, rfl, rfl, trivial⟩ ?_
  replace h := bind_some h; obtain ⟨x2, hx2, h⟩ := h
  refine Tr.cut (γ := Unit) (Γm := fun g => []) (Ωm := fun g => [oSl 2 1 (cK .i64) ho0 hn0 hc0 x2]) ?_ (fun g13 => ?_)
  · clear h
    have h := hx2
    clear hx2
    refine Tr.block ?_
    refine Tr.weak (Γ' := [(0, (pEq (.slice ho0 hn0 hc0))), (1, (pEq (.int .i64 a_1))), (2, (pEq (.int .i64 b_2))), (3, (pEq (.int .i64 n_3))), (10, (pEq (.int .i64 (0 : Int))))]) ⟨rfl, rfl, rfl, rfl, rfl, trivial⟩ ?_
    refine Tr.loop (γ := Unit) (σ := (Int × (List Int))) (Γσ := fun s g => [(0, (pEq (.slice ho0 hn0 hc0))), (1, (pEq (.int .i64 a_1))), (2, (pEq (.int .i64 b_2))), (3, (pEq (.int .i64 n_3))), (10, (pEq (.int .i64 s.1)))]) (Ωσ := fun s g => [oSl 2 1 (cK .i64) ho0 hn0 hc0 s.2]) (g := ()) h ?_
    clear h
    rintro ⟨v4, v5⟩ g6 t h
    replace h : m_slices_swapRangeCmpFunc_int64_B3 a_1 b_2 n_3 v4 v5 = some t := h
    unfold m_slices_swapRangeCmpFunc_int64_B3 at h
    refine Tr.weakO (Γ' := [(0, (pEq (.slice ho0 hn0 hc0))), (1, (pEq (.int .i64 a_1))), (2, (pEq (.int .i64 b_2))), (3, (pEq (.int .i64 n_3))), (10, (pEq (.int .i64 v4)))]) (Ω' := [oSl 2 1 (cK .i64) ho0 hn0 hc0 v5]) rfl ⟨rfl, rfl, rfl, rfl, rfl, trivial⟩ ?_
    refine Tr.seq ?_
    refine Tr.seq ?_
    refine Tr.region ?_
    refine RegL.pure (p := (pEq (.int .i64 v4))) rfl rfl rfl (J_move rfl (Opd.tmp rfl)) ?_
    refine RegL.pure (p := (pEq (.int .i64 n_3))) rfl rfl rfl (J_move rfl (Opd.tmp rfl)) ?_
    refine RegL.pure (p := (pEq (.bool (decide (v4 < n_3))))) rfl rfl rfl (J_bin rfl (Opd.tmp rfl) (Opd.tmp rfl) B_lss) ?_
    refine RegL.nil ?_
    refine Ct.then_tr ?_
    refine Tr.weak (Γ' := [(0, (pEq (.slice ho0 hn0 hc0))), (1, (pEq (.int .i64 a_1))), (2, (pEq (.int .i64 b_2))), (3, (pEq (.int .i64 n_3))), (10, (pEq (.int .i64 v4))), (13, (pEq (.bool (decide (v4 < n_3)))))]) ⟨rfl, rfl, rfl, rfl, rfl, rfl, trivial⟩ ?_
    refine Tr.cond (Opd.tmp rfl) (fun hc => ?_) (fun hc => ?_)
    · replace h := bif_t hc h
      refine Tr.skip ?_
      refine Ct.then_tr ?_
      refine Tr.weak (Γ' := [(0, (pEq (.slice ho0 hn0 hc0))), (1, (pEq (.int .i64 a_1))), (2, (pEq (.int .i64 b_2))), (3, (pEq (.int .i64 n_3))), (10, (pEq (.int .i64 v4)))]) ⟨rfl, rfl, rfl, rfl, rfl, trivial⟩ ?_
      refine Tr.seq ?_
      refine Tr.block ?_
      replace h := bind_some h; obtain ⟨x7, hx7, h⟩ := h
      replace h := bind_some h; obtain ⟨x8, hx8, h⟩ := h
      replace h := bind_some h; obtain ⟨u9, hu9, h⟩ := h
      refine Tr.drawD (n := 38) (m := 22) (es := [some (Ent.mk [(0, (pEq (.slice ho0 hn0 hc0)))] (pEq (.slice ho0 hn0 hc0)) true), some (Ent.mk [(1, (pEq (.int .i64 a_1)))] (pEq (.int .i64 a_1)) true), some (Ent.mk [(10, (pEq (.int .i64 v4)))] (pEq (.int .i64 v4)) true), some (Ent.mk [(17, (pEq (.int .i64 a_1))), (18, (pEq (.int .i64 v4)))] (pEq (.int .i64 (w64 (a_1 + v4)))) true), some (Ent.mk [(0, (pEq (.slice ho0 hn0 hc0)))] (pEq (.slice ho0 hn0 hc0)) true), some (Ent.mk [(2, (pEq (.int .i64 b_2)))] (pEq (.int .i64 b_2)) true), some (Ent.mk [(10, (pEq (.int .i64 v4)))] (pEq (.int .i64 v4)) true), some (Ent.mk [(21, (pEq (.int .i64 b_2))), (22, (pEq (.int .i64 v4)))] (pEq (.int .i64 (w64 (b_2 + v4)))) true), some (Ent.mk [(0, (pEq (.slice ho0 hn0 hc0)))] (pEq (.slice ho0 hn0 hc0)) true), some (Ent.mk [(2, (pEq (.int .i64 b_2)))] (pEq (.int .i64 b_2)) true), some (Ent.mk [(10, (pEq (.int .i64 v4)))] (pEq (.int .i64 v4)) true), some (Ent.mk [(25, (pEq (.int .i64 b_2))), (26, (pEq (.int .i64 v4)))] (pEq (.int .i64 (w64 (b_2 + v4)))) true), some (Ent.mk [(24, (pEq (.slice ho0 hn0 hc0))), (27, (pEq (.int .i64 (w64 (b_2 + v4)))))] (pEq (.pointer (some ⟨blk ho0, ((w64 (b_2 + v4))).toNat * 1, none⟩))) true), some (Ent.mk [(28, (pEq (.pointer (some ⟨blk ho0, ((w64 (b_2 + v4))).toNat * 1, none⟩))))] (pEq (.int .i64 x7)) true), some (Ent.mk [(0, (pEq (.slice ho0 hn0 hc0)))] (pEq (.slice ho0 hn0 hc0)) true), some (Ent.mk [(1, (pEq (.int .i64 a_1)))] (pEq (.int .i64 a_1)) true), some (Ent.mk [(10, (pEq (.int .i64 v4)))] (pEq (.int .i64 v4)) true), some (Ent.mk [(31, (pEq (.int .i64 a_1))), (32, (pEq (.int .i64 v4)))] (pEq (.int .i64 (w64 (a_1 + v4)))) true), some (Ent.mk [(30, (pEq (.slice ho0 hn0 hc0))), (33, (pEq (.int .i64 (w64 (a_1 + v4)))))] (pEq (.pointer (some ⟨blk ho0, ((w64 (a_1 + v4))).toNat * 1, none⟩))) true), some (Ent.mk [(34, (pEq (.pointer (some ⟨blk ho0, ((w64 (a_1 + v4))).toNat * 1, none⟩))))] (pEq (.int .i64 x8)) true), some (Ent.mk [(16, (pEq (.slice ho0 hn0 hc0))), (19, (pEq (.int .i64 (w64 (a_1 + v4)))))] (pEq (.pointer (some ⟨blk ho0, ((w64 (a_1 + v4))).toNat * 1, none⟩))) true), none]) (rd := [[0], [1], [10], [17, 18], [0], [2], [10], [21, 22], [0], [2], [10], [25, 26], [24, 27], [28], [0], [1], [10], [31, 32], [30, 33], [34], [16, 19], [29, 36]]) rfl hmix (by kernel_rfl) fun hD => ?_
      refine RD.step hD (es := [some (Ent.mk [(0, (pEq (.slice ho0 hn0 hc0)))] (pEq (.slice ho0 hn0 hc0)) true), some (Ent.mk [(1, (pEq (.int .i64 a_1)))] (pEq (.int .i64 a_1)) true), some (Ent.mk [(10, (pEq (.int .i64 v4)))] (pEq (.int .i64 v4)) true), some (Ent.mk [(17, (pEq (.int .i64 a_1))), (18, (pEq (.int .i64 v4)))] (pEq (.int .i64 (w64 (a_1 + v4)))) true), some (Ent.mk [(0, (pEq (.slice ho0 hn0 hc0)))] (pEq (.slice ho0 hn0 hc0)) true), some (Ent.mk [(2, (pEq (.int .i64 b_2)))] (pEq (.int .i64 b_2)) true), some (Ent.mk [(10, (pEq (.int .i64 v4)))] (pEq (.int .i64 v4)) true), some (Ent.mk [(21, (pEq (.int .i64 b_2))), (22, (pEq (.int .i64 v4)))] (pEq (.int .i64 (w64 (b_2 + v4)))) true), some (Ent.mk [(0, (pEq (.slice ho0 hn0 hc0)))] (pEq (.slice ho0 hn0 hc0)) true), some (Ent.mk [(2, (pEq (.int .i64 b_2)))] (pEq (.int .i64 b_2)) true), some (Ent.mk [(10, (pEq (.int .i64 v4)))] (pEq (.int .i64 v4)) true), some (Ent.mk [(25, (pEq (.int .i64 b_2))), (26, (pEq (.int .i64 v4)))] (pEq (.int .i64 (w64 (b_2 + v4)))) true), some (Ent.mk [(24, (pEq (.slice ho0 hn0 hc0))), (27, (pEq (.int .i64 (w64 (b_2 + v4)))))] (pEq (.pointer (some ⟨blk ho0, ((w64 (b_2 + v4))).toNat * 1, none⟩))) true), some (Ent.mk [(28, (pEq (.pointer (some ⟨blk ho0, ((w64 (b_2 + v4))).toNat * 1, none⟩))))] (pEq (.int .i64 x7)) true), some (Ent.mk [(0, (pEq (.slice ho0 hn0 hc0)))] (pEq (.slice ho0 hn0 hc0)) true), some (Ent.mk [(1, (pEq (.int .i64 a_1)))] (pEq (.int .i64 a_1)) true), some (Ent.mk [(10, (pEq (.int .i64 v4)))] (pEq (.int .i64 v4)) true), some (Ent.mk [(31, (pEq (.int .i64 a_1))), (32, (pEq (.int .i64 v4)))] (pEq (.int .i64 (w64 (a_1 + v4)))) true), some (Ent.mk [(30, (pEq (.slice ho0 hn0 hc0))), (33, (pEq (.int .i64 (w64 (a_1 + v4)))))] (pEq (.pointer (some ⟨blk ho0, ((w64 (a_1 + v4))).toNat * 1, none⟩))) true), some (Ent.mk [(34, (pEq (.pointer (some ⟨blk ho0, ((w64 (a_1 + v4))).toNat * 1, none⟩))))] (pEq (.int .i64 x8)) true), some (Ent.mk [(16, (pEq (.slice ho0 hn0 hc0))), (19, (pEq (.int .i64 (w64 (a_1 + v4)))))] (pEq (.pointer (some ⟨blk ho0, ((w64 (a_1 + v4))).toNat * 1, none⟩))) true), none]) (done := []) (mask := [true, true, true, true, true, true, true, true, true, true, true, true, true, true, true, true, true, true, true, true, true, false]) (γ := Unit) (p := fun _ => pAny) (Ω' := fun _ => [oSl 2 1 (cK .i64) ho0 hn0 hc0 (v5.set ((w64 (a_1 + v4))).toNat x7)]) (es' := fun g10 => [some (Ent.mk [(0, (pEq (.slice ho0 hn0 hc0)))] (pEq (.slice ho0 hn0 hc0)) true), some (Ent.mk [(1, (pEq (.int .i64 a_1)))] (pEq (.int .i64 a_1)) true), some (Ent.mk [(10, (pEq (.int .i64 v4)))] (pEq (.int .i64 v4)) true), some (Ent.mk [(17, (pEq (.int .i64 a_1))), (18, (pEq (.int .i64 v4)))] (pEq (.int .i64 (w64 (a_1 + v4)))) true), some (Ent.mk [(0, (pEq (.slice ho0 hn0 hc0)))] (pEq (.slice ho0 hn0 hc0)) true), some (Ent.mk [(2, (pEq (.int .i64 b_2)))] (pEq (.int .i64 b_2)) true), some (Ent.mk [(10, (pEq (.int .i64 v4)))] (pEq (.int .i64 v4)) true), some (Ent.mk [(21, (pEq (.int .i64 b_2))), (22, (pEq (.int .i64 v4)))] (pEq (.int .i64 (w64 (b_2 + v4)))) true), some (Ent.mk [(0, (pEq (.slice ho0 hn0 hc0)))] (pEq (.slice ho0 hn0 hc0)) true), some (Ent.mk [(2, (pEq (.int .i64 b_2)))] (pEq (.int .i64 b_2)) true), some (Ent.mk [(10, (pEq (.int .i64 v4)))] (pEq (.int .i64 v4)) true), some (Ent.mk [(25, (pEq (.int .i64 b_2))), (26, (pEq (.int .i64 v4)))] (pEq (.int .i64 (w64 (b_2 + v4)))) true), some (Ent.mk [(24, (pEq (.slice ho0 hn0 hc0))), (27, (pEq (.int .i64 (w64 (b_2 + v4)))))] (pEq (.pointer (some ⟨blk ho0, ((w64 (b_2 + v4))).toNat * 1, none⟩))) true), some (Ent.mk [(28, (pEq (.pointer (some ⟨blk ho0, ((w64 (b_2 + v4))).toNat * 1, none⟩))))] (pEq (.int .i64 x7)) true), some (Ent.mk [(0, (pEq (.slice ho0 hn0 hc0)))] (pEq (.slice ho0 hn0 hc0)) true), some (Ent.mk [(1, (pEq (.int .i64 a_1)))] (pEq (.int .i64 a_1)) true), some (Ent.mk [(10, (pEq (.int .i64 v4)))] (pEq (.int .i64 v4)) true), some (Ent.mk [(31, (pEq (.int .i64 a_1))), (32, (pEq (.int .i64 v4)))] (pEq (.int .i64 (w64 (a_1 + v4)))) true), some (Ent.mk [(30, (pEq (.slice ho0 hn0 hc0))), (33, (pEq (.int .i64 (w64 (a_1 + v4)))))] (pEq (.pointer (some ⟨blk ho0, ((w64 (a_1 + v4))).toNat * 1, none⟩))) true), some (Ent.mk [(34, (pEq (.pointer (some ⟨blk ho0, ((w64 (a_1 + v4))).toNat * 1, none⟩))))] (pEq (.int .i64 x8)) true), some (Ent.mk [(16, (pEq (.slice ho0 hn0 hc0))), (19, (pEq (.int .i64 (w64 (a_1 + v4)))))] (pEq (.pointer (some ⟨blk ho0, ((w64 (a_1 + v4))).toNat * 1, none⟩))) true), some (Ent.mk [(29, (pEq (.int .i64 x7))), (36, (pEq (.pointer (some ⟨blk ho0, ((w64 (a_1 + v4))).toNat * 1, none⟩))))] ((fun _ => pAny) g10) true)]) (Γc := [(29, (pEq (.int .i64 x7))), (36, (pEq (.pointer (some ⟨blk ho0, ((w64 (a_1 + v4))).toNat * 1, none⟩))))]) 21 rfl rfl rfl (by kernel_rfl) ⟨.inr ⟨(OpJ.w (J_move rfl (Opd.tmp rfl))), ⟨rfl, trivial⟩, rfl, rfl⟩, ⟨.inr ⟨(OpJ.w (J_move rfl (Opd.tmp rfl))), ⟨rfl, trivial⟩, rfl, rfl⟩, ⟨.inr ⟨(OpJ.w (J_move rfl (Opd.tmp rfl))), ⟨rfl, trivial⟩, rfl, rfl⟩, ⟨.inr ⟨(OpJ.w (J_bin rfl (Opd.tmp rfl) (Opd.tmp rfl) B_add)), ⟨rfl, rfl, trivial⟩, rfl, rfl⟩, ⟨.inr ⟨(OpJ.w (J_move rfl (Opd.tmp rfl))), ⟨rfl, trivial⟩, rfl, rfl⟩, ⟨.inr ⟨(OpJ.w (J_move rfl (Opd.tmp rfl))), ⟨rfl, trivial⟩, rfl, rfl⟩, ⟨.inr ⟨(OpJ.w (J_move rfl (Opd.tmp rfl))), ⟨rfl, trivial⟩, rfl, rfl⟩, ⟨.inr ⟨(OpJ.w (J_bin rfl (Opd.tmp rfl) (Opd.tmp rfl) B_add)), ⟨rfl, rfl, trivial⟩, rfl, rfl⟩, ⟨.inr ⟨(OpJ.w (J_move rfl (Opd.tmp rfl))), ⟨rfl, trivial⟩, rfl, rfl⟩, ⟨.inr ⟨(OpJ.w (J_move rfl (Opd.tmp rfl))), ⟨rfl, trivial⟩, rfl, rfl⟩, ⟨.inr ⟨(OpJ.w (J_move rfl (Opd.tmp rfl))), ⟨rfl, trivial⟩, rfl, rfl⟩, ⟨.inr ⟨(OpJ.w (J_bin rfl (Opd.tmp rfl) (Opd.tmp rfl) B_add)), ⟨rfl, rfl, trivial⟩, rfl, rfl⟩, ⟨.inr ⟨(W_rowIdx (j := 0) rfl Try.underlying26 sz2 (Opd.tmp rfl) (Opd.tmp rfl) rfl (idx_lt hx7)), ⟨rfl, rfl, trivial⟩, rfl, rfl⟩, ⟨.inr ⟨(W_rowLoad (j := 0) (f := (cK .i64)) rfl Try.isAgg2 (fun _ => rfl) (Opd.tmp rfl) rfl hx7 rfl), ⟨rfl, trivial⟩, rfl, rfl⟩, ⟨.inr ⟨(OpJ.w (J_move rfl (Opd.tmp rfl))), ⟨rfl, trivial⟩, rfl, rfl⟩, ⟨.inr ⟨(OpJ.w (J_move rfl (Opd.tmp rfl))), ⟨rfl, trivial⟩, rfl, rfl⟩, ⟨.inr ⟨(OpJ.w (J_move rfl (Opd.tmp rfl))), ⟨rfl, trivial⟩, rfl, rfl⟩, ⟨.inr ⟨(OpJ.w (J_bin rfl (Opd.tmp rfl) (Opd.tmp rfl) B_add)), ⟨rfl, rfl, trivial⟩, rfl, rfl⟩, ⟨.inr ⟨(W_rowIdx (j := 0) rfl Try.underlying26 sz2 (Opd.tmp rfl) (Opd.tmp rfl) rfl (idx_lt hx8)), ⟨rfl, rfl, trivial⟩, rfl, rfl⟩, ⟨.inr ⟨(W_rowLoad (j := 0) (f := (cK .i64)) rfl Try.isAgg2 (fun _ => rfl) (Opd.tmp rfl) rfl hx8 rfl), ⟨rfl, trivial⟩, rfl, rfl⟩, ⟨.inr ⟨(W_rowIdx (j := 0) rfl Try.underlying26 sz2 (Opd.tmp rfl) (Opd.tmp rfl) rfl (inB_some hu9)), ⟨rfl, rfl, trivial⟩, rfl, rfl⟩, trivial⟩⟩⟩⟩⟩⟩⟩⟩⟩⟩⟩⟩⟩⟩⟩⟩⟩⟩⟩⟩⟩ rfl rfl ⟨rfl, rfl, trivial⟩ (fun _ => M_rowStore rfl sz2 (fun _ => rfl) (Opd.tmp rfl) (Opd.tmp rfl) rfl OneC.int (setL_of (inB_some hu9))) (fun g10 => ⟨rfl, ⟨rfl, ⟨rfl, ⟨rfl, ⟨rfl, ⟨rfl, ⟨rfl, ⟨rfl, ⟨rfl, ⟨rfl, ⟨rfl, ⟨rfl, ⟨rfl, ⟨rfl, ⟨rfl, ⟨rfl, ⟨rfl, ⟨rfl, ⟨rfl, ⟨rfl, ⟨rfl, trivial⟩⟩⟩⟩⟩⟩⟩⟩⟩⟩⟩⟩⟩⟩⟩⟩⟩⟩⟩⟩⟩) (fun g10 => rfl) rfl fun g10 => ?_
      refine RD.add 21 0 rfl ?_
      refine RD.add 21 1 rfl ?_
      refine RD.add 21 2 rfl ?_
      refine RD.add 21 3 rfl ?_
      refine RD.add 21 8 rfl ?_
      refine RD.add 21 9 rfl ?_
      refine RD.add 21 10 rfl ?_
      refine RD.add 21 11 rfl ?_
      refine RD.add 21 12 rfl ?_
      refine RD.add 21 13 rfl ?_
      refine RD.add 21 19 rfl ?_
      refine RD.add 21 20 rfl ?_
      refine RD.add 19 18 rfl ?_
      refine RD.add 18 14 rfl ?_
      refine RD.add 18 17 rfl ?_
      refine RD.add 17 15 rfl ?_
      refine RD.add 17 16 rfl ?_
      refine RD.fin (es := [Ent.mk [(0, (pEq (.slice ho0 hn0 hc0)))] (pEq (.slice ho0 hn0 hc0)) true, Ent.mk [(1, (pEq (.int .i64 a_1)))] (pEq (.int .i64 a_1)) true, Ent.mk [(10, (pEq (.int .i64 v4)))] (pEq (.int .i64 v4)) true, Ent.mk [(17, (pEq (.int .i64 a_1))), (18, (pEq (.int .i64 v4)))] (pEq (.int .i64 (w64 (a_1 + v4)))) true, Ent.mk [(0, (pEq (.slice ho0 hn0 hc0)))] (pEq (.slice ho0 hn0 hc0)) true, Ent.mk [(2, (pEq (.int .i64 b_2)))] (pEq (.int .i64 b_2)) true, Ent.mk [(10, (pEq (.int .i64 v4)))] (pEq (.int .i64 v4)) true, Ent.mk [(21, (pEq (.int .i64 b_2))), (22, (pEq (.int .i64 v4)))] (pEq (.int .i64 (w64 (b_2 + v4)))) true, Ent.mk [(0, (pEq (.slice ho0 hn0 hc0)))] (pEq (.slice ho0 hn0 hc0)) true, Ent.mk [(2, (pEq (.int .i64 b_2)))] (pEq (.int .i64 b_2)) true, Ent.mk [(10, (pEq (.int .i64 v4)))] (pEq (.int .i64 v4)) true, Ent.mk [(25, (pEq (.int .i64 b_2))), (26, (pEq (.int .i64 v4)))] (pEq (.int .i64 (w64 (b_2 + v4)))) true, Ent.mk [(24, (pEq (.slice ho0 hn0 hc0))), (27, (pEq (.int .i64 (w64 (b_2 + v4)))))] (pEq (.pointer (some ⟨blk ho0, ((w64 (b_2 + v4))).toNat * 1, none⟩))) true, Ent.mk [(28, (pEq (.pointer (some ⟨blk ho0, ((w64 (b_2 + v4))).toNat * 1, none⟩))))] (pEq (.int .i64 x7)) true, Ent.mk [(0, (pEq (.slice ho0 hn0 hc0)))] (pEq (.slice ho0 hn0 hc0)) true, Ent.mk [(1, (pEq (.int .i64 a_1)))] (pEq (.int .i64 a_1)) true, Ent.mk [(10, (pEq (.int .i64 v4)))] (pEq (.int .i64 v4)) true, Ent.mk [(31, (pEq (.int .i64 a_1))), (32, (pEq (.int .i64 v4)))] (pEq (.int .i64 (w64 (a_1 + v4)))) true, Ent.mk [(30, (pEq (.slice ho0 hn0 hc0))), (33, (pEq (.int .i64 (w64 (a_1 + v4)))))] (pEq (.pointer (some ⟨blk ho0, ((w64 (a_1 + v4))).toNat * 1, none⟩))) true, Ent.mk [(34, (pEq (.pointer (some ⟨blk ho0, ((w64 (a_1 + v4))).toNat * 1, none⟩))))] (pEq (.int .i64 x8)) true, Ent.mk [(16, (pEq (.slice ho0 hn0 hc0))), (19, (pEq (.int .i64 (w64 (a_1 + v4)))))] (pEq (.pointer (some ⟨blk ho0, ((w64 (a_1 + v4))).toNat * 1, none⟩))) true, Ent.mk [(29, (pEq (.int .i64 x7))), (36, (pEq (.pointer (some ⟨blk ho0, ((w64 (a_1 + v4))).toNat * 1, none⟩))))] ((fun _ => pAny) g10) true]) (done := [16, 15, 17, 14, 18, 20, 19, 13, 12, 11, 10, 9, 8, 3, 2, 1, 0, 21]) hD ⟨.inl rfl, ⟨.inl rfl, ⟨.inl rfl, ⟨.inl rfl, ⟨.inr ⟨(OpJ.w (J_move rfl (Opd.tmp rfl))), ⟨rfl, trivial⟩, rfl, rfl⟩, ⟨.inr ⟨(OpJ.w (J_move rfl (Opd.tmp rfl))), ⟨rfl, trivial⟩, rfl, rfl⟩, ⟨.inr ⟨(OpJ.w (J_move rfl (Opd.tmp rfl))), ⟨rfl, trivial⟩, rfl, rfl⟩, ⟨.inr ⟨(OpJ.w (J_bin rfl (Opd.tmp rfl) (Opd.tmp rfl) B_add)), ⟨rfl, rfl, trivial⟩, rfl, rfl⟩, ⟨.inl rfl, ⟨.inl rfl, ⟨.inl rfl, ⟨.inl rfl, ⟨.inl rfl, ⟨.inl rfl, ⟨.inl rfl, ⟨.inl rfl, ⟨.inl rfl, ⟨.inl rfl, ⟨.inl rfl, ⟨.inl rfl, ⟨.inl rfl, ⟨.inl rfl, trivial⟩⟩⟩⟩⟩⟩⟩⟩⟩⟩⟩⟩⟩⟩⟩⟩⟩⟩⟩⟩⟩⟩ ?_
      replace h := bind_some h; obtain ⟨u11, hu11, h⟩ := h
      refine RegL.pureW (p := (pEq (.pointer (some ⟨blk ho0, ((w64 (b_2 + v4))).toNat * 1, none⟩)))) rfl rfl rfl (W_rowIdx (j := 0) rfl Try.underlying26 sz2 (Opd.tmp rfl) (Opd.tmp rfl) rfl (inB_some hu11)) ?_
      refine RegL.stepN (γ := Unit) (p := fun _ => pAny) (Ω' := fun _ => [oSl 2 1 (cK .i64) ho0 hn0 hc0 ((v5.set ((w64 (a_1 + v4))).toNat x7).set ((w64 (b_2 + v4))).toNat x8)]) rfl rfl (M_rowStore rfl sz2 (fun _ => rfl) (Opd.tmp rfl) (Opd.tmp rfl) rfl OneC.int (setL_of (inB_some hu11))) fun g12 => ?_
      refine RegL.nil ?_
      refine Ct.blk_normal ?_
      refine Ct.then_tr ?_
      refine Tr.weak (Γ' := [(0, (pEq (.slice ho0 hn0 hc0))), (1, (pEq (.int .i64 a_1))), (2, (pEq (.int .i64 b_2))), (3, (pEq (.int .i64 n_3))), (10, (pEq (.int .i64 v4)))]) ⟨rfl, rfl, rfl, rfl, rfl, trivial⟩ ?_
      refine Tr.region ?_
      refine RegL.pure (p := (pEq (.int .i64 v4))) rfl rfl rfl (J_move rfl (Opd.tmp rfl)) ?_
      refine RegL.pure (p := (pEq (.int .i64 (w64 (v4 + (1 : Int)))))) rfl rfl rfl (J_bin rfl (Opd.tmp rfl) Opd.con B_add) ?_
      refine RegL.pure (p := (pEq (.int .i64 (w64 (v4 + (1 : Int)))))) rfl rfl rfl (J_assign rfl (Opd.tmp rfl)) ?_
      refine RegL.nil ?_
      replace h := Option.some.inj h; subst h
      exact Ct.again () rfl ⟨rfl, rfl, rfl, rfl, rfl, trivial⟩
    · replace h := bif_f hc h
      refine Tr.exit ?_
      refine Ct.then_exit ?_
      replace h := map_some h; obtain ⟨r1, h, rfl⟩ := h
      refine Ct.out_exit fun e => ?_
      subst e
      refine Ct.blk_exit ?_
      replace h := Option.some.inj h; subst h
      exact Ct.mid () rfl trivial
  · clear hx2
    replace h := Option.some.inj h; subst h
    exact Ct.retN0 (Ωx := []) () rfl rfl rfl

theorem o_slices_rotateCmpFunc_int64 {data_0 : (List Int)} {a_1 : Int} {m_2 : Int} {b_3 : Int} {cmp_4 : ((Int × Int) → Option Int)} {ho0 : Option Addr} {hn0 hc0 : Nat} {r : (List Int)} (h : m_slices_rotateCmpFunc_int64 data_0 a_1 m_2 b_3 cmp_4 = some r) : CallH Try.prog 119 [(pEq (.slice ho0 hn0 hc0)), (pEq (.int .i64 a_1)), (pEq (.int .i64 m_2)), (pEq (.int .i64 b_3)), (pFn Try.prog (fun x : (Int × Int) => [(pEq (.int .i64 x.1)), (pEq (.int .i64 x.2))]) cmp_4 (fun y => (pEq (.int .i64 y))))] [oSl 2 1 (cK .i64) ho0 hn0 hc0 data_0] (fun g : Unit => (pTup [])) (fun g : Unit => [oSl 2 1 (cK .i64) ho0 hn0 hc0 r]) := by
  unfold m_slices_rotateCmpFunc_int64 at h
  refine CallH.enter Try.func119 rfl Try.ntmps119 rfl fun W I0 H => ?_
  refine Tr.weak (Γ' := [(0, (pEq (.slice ho0 hn0 hc0))), (1, (pEq (.int .i64 a_1))), (2, (pEq (.int .i64 m_2))), (3, (pEq (.int .i64 b_3))), (4, (pFn Try.prog (fun x : (Int × Int) => [(pEq (.int .i64 x.1)), (pEq (.int .i64 x.2))]) cmp_4 (fun y => (pEq (.int .i64 y)))))]) ⟨rfl, rfl, rfl, rfl, rfl, trivial⟩ ?_
  refine Tr.seq ?_
  refine Tr.region ?_
  refine RegL.pure (p := (pEq (.int .i64 m_2))) rfl rfl rfl (J_move rfl (Opd.tmp rfl)) ?_
  refine RegL.pure (p := (pEq (.int .i64 a_1))) rfl rfl rfl (J_move rfl (Opd.tmp rfl)) ?_
  refine RegL.pure (p := (pEq (.int .i64 (w64 (m_2 - a_1))))) rfl rfl rfl (J_bin rfl (Opd.tmp rfl) (Opd.tmp rfl) B_sub) ?_
  refine RegL.pure (p := (pEq (.int .i64 (w64 (m_2 - a_1))))) rfl rfl rfl (J_assign rfl (Opd.tmp rfl)) ?_
  refine RegL.nil ?_
  refine Ct.then_tr ?_
  refine Tr.weak (Γ' := [(0, (pEq (.slice ho0 hn0 hc0))), (2, (pEq (.int .i64 m_2))), (3, (pEq (.int .i64 b_3))), (4, (pFn Try.prog (fun x : (Int × Int) => [(pEq (.int .i64 x.1)), (pEq (.int .i64 x.2))]) cmp_4 (fun y => (pEq (.int .i64 y))))), (10, (pEq (.int .i64 (w64 (m_2 - a_1)))))]) ⟨rfl, rfl, rfl, rfl, rfl, trivial⟩ ?_
  refine Tr.seq ?_
  refine Tr.region ?_
  refine RegL.pure (p := (pEq (.int .i64 b_3))) rfl rfl rfl (J_move rfl (Opd.tmp rfl)) ?_
  refine RegL.pure (p := (pEq (.int .i64 m_2))) rfl rfl rfl (J_move rfl (Opd.tmp rfl)) ?_
  refine RegL.pure (p := (pEq (.int .i64 (w64 (b_3 - m_2))))) rfl rfl rfl (J_bin rfl (Opd.tmp rfl) (Opd.tmp rfl) B_sub) ?_
  refine RegL.pure (p := (pEq (.int .i64 (w64 (b_3 - m_2))))) rfl rfl rfl (J_assign rfl (Opd.tmp rfl)) ?_
  refine RegL.nil ?_
  refine Ct.then_tr ?_
  refine Tr.weak (Γ' := [(0, (pEq (.slice ho0 hn0 hc0))), (2, (pEq (.int .i64 m_2))), (4, (pFn Try.prog (fun x : (Int × Int) => [(pEq (.int .i64 x.1)), (pEq (.int .i64 x.2))]) cmp_4 (fun y => (pEq (.int .i64 y))))), (10, (pEq (.int .i64 (w64 (m_2 - a_1))))), (11, (pEq (.int .i64 (w64 (b_3 - m_2)))))]) ⟨rfl, rfl, rfl, rfl, rfl, trivial⟩ ?_
  refine Tr.seq ?_
  replace h := bind_some h; obtain ⟨x2, hx2, h⟩ := h
  refine Tr.cut (γ := Unit) (Γm := fun g => [(0, (pEq (.slice ho0 hn0 hc0))), (2, (pEq (.int .i64 m_2))), (4, (pFn Try.prog (fun x : (Int × Int) => [(pEq (.int .i64 x.1)), (pEq (.int .i64 x.2))]) cmp_4 (fun y => (pEq (.int .i64 y))))), (10, (pEq (.int .i64 x2.1)))]) (Ωm := fun g => [oSl 2 1 (cK .i64) ho0 hn0 hc0 x2.2]) ?_ (fun g14 => ?_)
  · clear h
    have h := hx2
    clear hx2
    refine Tr.block ?_
    refine Tr.weak (Γ' := [(0, (pEq (.slice ho0 hn0 hc0))), (2, (pEq (.int .i64 m_2))), (4, (pFn Try.prog (fun x : (Int × Int) => [(pEq (.int .i64 x.1)), (pEq (.int .i64 x.2))]) cmp_4 (fun y => (pEq (.int .i64 y))))), (10, (pEq (.int .i64 (w64 (m_2 - a_1))))), (11, (pEq (.int .i64 (w64 (b_3 - m_2)))))]) ⟨rfl, rfl, rfl, rfl, rfl, trivial⟩ ?_
    refine Tr.loop (γ := Unit) (σ := (Int × Int × (List Int))) (Γσ := fun s g => [(0, (pEq (.slice ho0 hn0 hc0))), (2, (pEq (.int .i64 m_2))), (4, (pFn Try.prog (fun x : (Int × Int) => [(pEq (.int .i64 x.1)), (pEq (.int .i64 x.2))]) cmp_4 (fun y => (pEq (.int .i64 y))))), (10, (pEq (.int .i64 s.1))), (11, (pEq (.int .i64 s.2.1)))]) (Ωσ := fun s g => [oSl 2 1 (cK .i64) ho0 hn0 hc0 s.2.2]) (g := ()) h ?_
    clear h
    rintro ⟨v4, v5, v6⟩ g7 t h
    replace h : m_slices_rotateCmpFunc_int64_B3 m_2 cmp_4 v4 v5 v6 = some t := h
    unfold m_slices_rotateCmpFunc_int64_B3 at h
    refine Tr.weakO (Γ' := [(0, (pEq (.slice ho0 hn0 hc0))), (2, (pEq (.int .i64 m_2))), (4, (pFn Try.prog (fun x : (Int × Int) => [(pEq (.int .i64 x.1)), (pEq (.int .i64 x.2))]) cmp_4 (fun y => (pEq (.int .i64 y))))), (10, (pEq (.int .i64 v4))), (11, (pEq (.int .i64 v5)))]) (Ω' := [oSl 2 1 (cK .i64) ho0 hn0 hc0 v6]) rfl ⟨rfl, rfl, rfl, rfl, rfl, trivial⟩ ?_
    refine Tr.seq ?_
    refine Tr.seq ?_
    refine Tr.region ?_
    refine RegL.pure (p := (pEq (.int .i64 v4))) rfl rfl rfl (J_move rfl (Opd.tmp rfl)) ?_
    refine RegL.pure (p := (pEq (.int .i64 v5))) rfl rfl rfl (J_move rfl (Opd.tmp rfl)) ?_
    refine RegL.pure (p := (pEq (.bool (v4 != v5)))) rfl rfl rfl (J_bin rfl (Opd.tmp rfl) (Opd.tmp rfl) B_neq) ?_
    refine RegL.nil ?_
    refine Ct.then_tr ?_
    refine Tr.weak (Γ' := [(0, (pEq (.slice ho0 hn0 hc0))), (2, (pEq (.int .i64 m_2))), (4, (pFn Try.prog (fun x : (Int × Int) => [(pEq (.int .i64 x.1)), (pEq (.int .i64 x.2))]) cmp_4 (fun y => (pEq (.int .i64 y))))), (10, (pEq (.int .i64 v4))), (11, (pEq (.int .i64 v5))), (20, (pEq (.bool (v4 != v5))))]) ⟨rfl, rfl, rfl, rfl, rfl, rfl, trivial⟩ ?_
    refine Tr.cond (Opd.tmp rfl) (fun hc => ?_) (fun hc => ?_)
    · replace h := bif_t hc h
      refine Tr.skip ?_
      refine Ct.then_tr ?_
      refine Tr.weak (Γ' := [(0, (pEq (.slice ho0 hn0 hc0))), (2, (pEq (.int .i64 m_2))), (4, (pFn Try.prog (fun x : (Int × Int) => [(pEq (.int .i64 x.1)), (pEq (.int .i64 x.2))]) cmp_4 (fun y => (pEq (.int .i64 y))))), (10, (pEq (.int .i64 v4))), (11, (pEq (.int .i64 v5)))]) ⟨rfl, rfl, rfl, rfl, rfl, trivial⟩ ?_
      refine Tr.block ?_
      refine Tr.seq ?_
      refine Tr.region ?_
      refine RegL.pure (p := (pEq (.int .i64 v4))) rfl rfl rfl (J_move rfl (Opd.tmp rfl)) ?_
      refine RegL.pure (p := (pEq (.int .i64 v5))) rfl rfl rfl (J_move rfl (Opd.tmp rfl)) ?_
      refine RegL.pure (p := (pEq (.bool (decide (v5 < v4))))) rfl rfl rfl (J_bin rfl (Opd.tmp rfl) (Opd.tmp rfl) B_gtr) ?_
      refine RegL.nil ?_
      refine Ct.then_tr ?_
      refine Tr.weak (Γ' := [(0, (pEq (.slice ho0 hn0 hc0))), (2, (pEq (.int .i64 m_2))), (4, (pFn Try.prog (fun x : (Int × Int) => [(pEq (.int .i64 x.1)), (pEq (.int .i64 x.2))]) cmp_4 (fun y => (pEq (.int .i64 y))))), (10, (pEq (.int .i64 v4))), (11, (pEq (.int .i64 v5))), (23, (pEq (.bool (decide (v5 < v4)))))]) ⟨rfl, rfl, rfl, rfl, rfl, rfl, trivial⟩ ?_
      replace h := bind_some h; obtain ⟨x8, hx8, h⟩ := h
      refine Tr.cut (γ := Unit) (Γm := fun g => [(0, (pEq (.slice ho0 hn0 hc0))), (2, (pEq (.int .i64 m_2))), (4, (pFn Try.prog (fun x : (Int × Int) => [(pEq (.int .i64 x.1)), (pEq (.int .i64 x.2))]) cmp_4 (fun y => (pEq (.int .i64 y))))), (10, (pEq (.int .i64 x8.1))), (11, (pEq (.int .i64 x8.2.1)))]) (Ωm := fun g => [oSl 2 1 (cK .i64) ho0 hn0 hc0 x8.2.2]) ?_ (fun g13 => ?_)
      · clear h
        have h := hx8
        clear hx8
        refine Tr.cond (Opd.tmp rfl) (fun hc => ?_) (fun hc => ?_)
        · replace h := bif_t hc h
          refine Tr.seq ?_
          refine Tr.region ?_
          refine RegL.pure (p := (pEq (.slice ho0 hn0 hc0))) rfl rfl rfl (J_move rfl (Opd.tmp rfl)) ?_
          refine RegL.pure (p := (pEq (.int .i64 m_2))) rfl rfl rfl (J_move rfl (Opd.tmp rfl)) ?_
          refine RegL.pure (p := (pEq (.int .i64 v4))) rfl rfl rfl (J_move rfl (Opd.tmp rfl)) ?_
          refine RegL.pure (p := (pEq (.int .i64 (w64 (m_2 - v4))))) rfl rfl rfl (J_bin rfl (Opd.tmp rfl) (Opd.tmp rfl) B_sub) ?_
          refine RegL.pure (p := (pEq (.int .i64 m_2))) rfl rfl rfl (J_move rfl (Opd.tmp rfl)) ?_
          refine RegL.pure (p := (pEq (.int .i64 v5))) rfl rfl rfl (J_move rfl (Opd.tmp rfl)) ?_
          refine RegL.pure (p := (pFn Try.prog (fun x : (Int × Int) => [(pEq (.int .i64 x.1)), (pEq (.int .i64 x.2))]) cmp_4 (fun y => (pEq (.int .i64 y))))) rfl rfl rfl (J_move rfl (Opd.tmp rfl)) ?_
          replace h := bind_some h; obtain ⟨x9, hx9, h⟩ := h
          refine RegL.step (γ := Unit) (p := fun g => (pTup [])) (Ω' := fun g => [oSl 2 1 (cK .i64) ho0 hn0 hc0 x9]) rfl rfl rfl (M_callH (Ωi := [oSl 2 1 (cK .i64) ho0 hn0 hc0 v6]) rfl Try.call128 (o_slices_swapRangeCmpFunc_int64 hx9) (Opds.cons (Opd.tmp rfl) (Opds.cons (Opd.tmp rfl) (Opds.cons (Opd.tmp rfl) (Opds.cons (Opd.tmp rfl) (Opds.cons (Opd.tmp rfl) Opds.nil)))))) fun g10 => ?_
          refine RegL.nil ?_
          refine Ct.then_tr ?_
          refine Tr.weak (Γ' := [(0, (pEq (.slice ho0 hn0 hc0))), (2, (pEq (.int .i64 m_2))), (4, (pFn Try.prog (fun x : (Int × Int) => [(pEq (.int .i64 x.1)), (pEq (.int .i64 x.2))]) cmp_4 (fun y => (pEq (.int .i64 y))))), (10, (pEq (.int .i64 v4))), (11, (pEq (.int .i64 v5)))]) ⟨rfl, rfl, rfl, rfl, rfl, trivial⟩ ?_
          refine Tr.region ?_
          refine RegL.pure (p := (pEq (.int .i64 v4))) rfl rfl rfl (J_move rfl (Opd.tmp rfl)) ?_
          refine RegL.pure (p := (pEq (.int .i64 v5))) rfl rfl rfl (J_move rfl (Opd.tmp rfl)) ?_
          refine RegL.pure (p := (pEq (.int .i64 (w64 (v4 - v5))))) rfl rfl rfl (J_bin rfl (Opd.tmp rfl) (Opd.tmp rfl) B_sub) ?_
          refine RegL.pure (p := (pEq (.int .i64 (w64 (v4 - v5))))) rfl rfl rfl (J_assign rfl (Opd.tmp rfl)) ?_
          refine RegL.nil ?_
          replace h := Option.some.inj h; subst h
          exact Ct.mid () rfl ⟨rfl, rfl, rfl, rfl, rfl, trivial⟩
        · replace h := bif_f hc h
          refine Tr.seq ?_
          refine Tr.region ?_
          refine RegL.pure (p := (pEq (.slice ho0 hn0 hc0))) rfl rfl rfl (J_move rfl (Opd.tmp rfl)) ?_
          refine RegL.pure (p := (pEq (.int .i64 m_2))) rfl rfl rfl (J_move rfl (Opd.tmp rfl)) ?_
          refine RegL.pure (p := (pEq (.int .i64 v4))) rfl rfl rfl (J_move rfl (Opd.tmp rfl)) ?_
          refine RegL.pure (p := (pEq (.int .i64 (w64 (m_2 - v4))))) rfl rfl rfl (J_bin rfl (Opd.tmp rfl) (Opd.tmp rfl) B_sub) ?_
          refine RegL.pure (p := (pEq (.int .i64 m_2))) rfl rfl rfl (J_move rfl (Opd.tmp rfl)) ?_
          refine RegL.pure (p := (pEq (.int .i64 v5))) rfl rfl rfl (J_move rfl (Opd.tmp rfl)) ?_
          refine RegL.pure (p := (pEq (.int .i64 (w64 (m_2 + v5))))) rfl rfl rfl (J_bin rfl (Opd.tmp rfl) (Opd.tmp rfl) B_add) ?_
          refine RegL.pure (p := (pEq (.int .i64 v4))) rfl rfl rfl (J_move rfl (Opd.tmp rfl)) ?_
          refine RegL.pure (p := (pEq (.int .i64 (w64 ((w64 (m_2 + v5)) - v4))))) rfl rfl rfl (J_bin rfl (Opd.tmp rfl) (Opd.tmp rfl) B_sub) ?_
          refine RegL.pure (p := (pEq (.int .i64 v4))) rfl rfl rfl (J_move rfl (Opd.tmp rfl)) ?_
          refine RegL.pure (p := (pFn Try.prog (fun x : (Int × Int) => [(pEq (.int .i64 x.1)), (pEq (.int .i64 x.2))]) cmp_4 (fun y => (pEq (.int .i64 y))))) rfl rfl rfl (J_move rfl (Opd.tmp rfl)) ?_
          replace h := bind_some h; obtain ⟨x11, hx11, h⟩ := h
          refine RegL.step (γ := Unit) (p := fun g => (pTup [])) (Ω' := fun g => [oSl 2 1 (cK .i64) ho0 hn0 hc0 x11]) rfl rfl rfl (M_callH (Ωi := [oSl 2 1 (cK .i64) ho0 hn0 hc0 v6]) rfl Try.call128 (o_slices_swapRangeCmpFunc_int64 hx11) (Opds.cons (Opd.tmp rfl) (Opds.cons (Opd.tmp rfl) (Opds.cons (Opd.tmp rfl) (Opds.cons (Opd.tmp rfl) (Opds.cons (Opd.tmp rfl) Opds.nil)))))) fun g12 => ?_
          refine RegL.nil ?_
          refine Ct.then_tr ?_
          refine Tr.weak (Γ' := [(0, (pEq (.slice ho0 hn0 hc0))), (2, (pEq (.int .i64 m_2))), (4, (pFn Try.prog (fun x : (Int × Int) => [(pEq (.int .i64 x.1)), (pEq (.int .i64 x.2))]) cmp_4 (fun y => (pEq (.int .i64 y))))), (10, (pEq (.int .i64 v4))), (11, (pEq (.int .i64 v5)))]) ⟨rfl, rfl, rfl, rfl, rfl, trivial⟩ ?_
          refine Tr.region ?_
          refine RegL.pure (p := (pEq (.int .i64 v5))) rfl rfl rfl (J_move rfl (Opd.tmp rfl)) ?_
          refine RegL.pure (p := (pEq (.int .i64 v4))) rfl rfl rfl (J_move rfl (Opd.tmp rfl)) ?_
          refine RegL.pure (p := (pEq (.int .i64 (w64 (v5 - v4))))) rfl rfl rfl (J_bin rfl (Opd.tmp rfl) (Opd.tmp rfl) B_sub) ?_
          refine RegL.pure (p := (pEq (.int .i64 (w64 (v5 - v4))))) rfl rfl rfl (J_assign rfl (Opd.tmp rfl)) ?_
          refine RegL.nil ?_
          replace h := Option.some.inj h; subst h
          exact Ct.mid () rfl ⟨rfl, rfl, rfl, rfl, rfl, trivial⟩
      · clear hx8
        refine Ct.blk_normal ?_
        replace h := Option.some.inj h; subst h
        exact Ct.again () rfl ⟨rfl, rfl, rfl, rfl, rfl, trivial⟩
    · replace h := bif_f hc h
      refine Tr.exit ?_
      refine Ct.then_exit ?_
      replace h := map_some h; obtain ⟨r1, h, rfl⟩ := h
      refine Ct.out_exit fun e => ?_
      subst e
      refine Ct.blk_exit ?_
      replace h := Option.some.inj h; subst h
      exact Ct.mid () rfl ⟨rfl, rfl, rfl, rfl, trivial⟩
  · clear hx2
    refine Ct.then_tr ?_
    refine Tr.weak (Γ' := [(0, (pEq (.slice ho0 hn0 hc0))), (2, (pEq (.int .i64 m_2))), (4, (pFn Try.prog (fun x : (Int × Int) => [(pEq (.int .i64 x.1)), (pEq (.int .i64 x.2))]) cmp_4 (fun y => (pEq (.int .i64 y))))), (10, (pEq (.int .i64 x2.1)))]) ⟨rfl, rfl, rfl, rfl, trivial⟩ ?_
    refine Tr.region ?_
    refine RegL.pure (p := (pEq (.slice ho0 hn0 hc0))) rfl rfl rfl (J_move rfl (Opd.tmp rfl)) ?_
    refine RegL.pure (p := (pEq (.int .i64 m_2))) rfl rfl rfl (J_move rfl (Opd.tmp rfl)) ?_
    refine RegL.pure (p := (pEq (.int .i64 x2.1))) rfl rfl rfl (J_move rfl (Opd.tmp rfl)) ?_
    refine RegL.pure (p := (pEq (.int .i64 (w64 (m_2 - x2.1))))) rfl rfl rfl (J_bin rfl (Opd.tmp rfl) (Opd.tmp rfl) B_sub) ?_
    refine RegL.pure (p := (pEq (.int .i64 m_2))) rfl rfl rfl (J_move rfl (Opd.tmp rfl)) ?_
    refine RegL.pure (p := (pEq (.int .i64 x2.1))) rfl rfl rfl (J_move rfl (Opd.tmp rfl)) ?_
    refine RegL.pure (p := (pFn Try.prog (fun x : (Int × Int) => [(pEq (.int .i64 x.1)), (pEq (.int .i64 x.2))]) cmp_4 (fun y => (pEq (.int .i64 y))))) rfl rfl rfl (J_move rfl (Opd.tmp rfl)) ?_
    replace h := bind_some h; obtain ⟨x15, hx15, h⟩ := h
    refine RegL.step (γ := Unit) (p := fun g => (pTup [])) (Ω' := fun g => [oSl 2 1 (cK .i64) ho0 hn0 hc0 x15]) rfl rfl rfl (M_callH (Ωi := [oSl 2 1 (cK .i64) ho0 hn0 hc0 x2.2]) rfl Try.call128 (o_slices_swapRangeCmpFunc_int64 hx15) (Opds.cons (Opd.tmp rfl) (Opds.cons (Opd.tmp rfl) (Opds.cons (Opd.tmp rfl) (Opds.cons (Opd.tmp rfl) (Opds.cons (Opd.tmp rfl) Opds.nil)))))) fun g16 => ?_
    refine RegL.nil ?_
    replace h := Option.some.inj h; subst h
    exact Ct.retN0 (Ωx := []) () rfl rfl rfl

theorem of_slices_symMergeCmpFunc_int64 : ∀ (n : Nat) {a_0 : (List Int)} {a_1 : Int} {a_2 : Int} {a_3 : Int} {a_4 : ((Int × Int) → Option Int)} {ho0 : Option Addr} {hn0 hc0 : Nat} {r : (List Int)} (h : iterM (fun self (a : ((List Int) × Int × Int × Int × ((Int × Int) → Option Int))) => mf_slices_symMergeCmpFunc_int64 self a.1 a.2.1 a.2.2.1 a.2.2.2.1 a.2.2.2.2) n (a_0, a_1, a_2, a_3, a_4) = some r), CallH Try.prog 96 [(pEq (.slice ho0 hn0 hc0)), (pEq (.int .i64 a_1)), (pEq (.int .i64 a_2)), (pEq (.int .i64 a_3)), (pFn Try.prog (fun x : (Int × Int) => [(pEq (.int .i64 x.1)), (pEq (.int .i64 x.2))]) a_4 (fun y => (pEq (.int .i64 y))))] [oSl 2 1 (cK .i64) ho0 hn0 hc0 a_0] (fun g : Unit => (pTup [])) (fun g : Unit => [oSl 2 1 (cK .i64) ho0 hn0 hc0 r]) := by
  intro n
  induction n with
  | zero => intros; rename_i h; simp [iterM] at h
  | succ n ih =>
  intro a_0 a_1 a_2 a_3 a_4 ho0 hn0 hc0 r h
  replace h : mf_slices_symMergeCmpFunc_int64 (iterM (fun self (a : ((List Int) × Int × Int × Int × ((Int × Int) → Option Int))) => mf_slices_symMergeCmpFunc_int64 self a.1 a.2.1 a.2.2.1 a.2.2.2.1 a.2.2.2.2) n) a_0 a_1 a_2 a_3 a_4 = some r := h
  unfold mf_slices_symMergeCmpFunc_int64 at h
  refine CallH.enter Try.func96 rfl Try.ntmps96 rfl fun W I0 H => ?_
  refine Tr.weak (Γ' := [(0, (pEq (.slice ho0 hn0 hc0))), (1, (pEq (.int .i64 a_1))), (2, (pEq (.int .i64 a_2))), (3, (pEq (.int .i64 a_3))), (4, (pFn Try.prog (fun x : (Int × Int) => [(pEq (.int .i64 x.1)), (pEq (.int .i64 x.2))]) a_4 (fun y => (pEq (.int .i64 y)))))]) ⟨rfl, rfl, rfl, rfl, rfl, trivial⟩ ?_
  refine Tr.seq ?_
  refine Tr.seq ?_
  refine Tr.region ?_
  refine RegL.pure (p := (pEq (.int .i64 a_2))) rfl rfl rfl (J_move rfl (Opd.tmp rfl)) ?_
  refine RegL.pure (p := (pEq (.int .i64 a_1))) rfl rfl rfl (J_move rfl (Opd.tmp rfl)) ?_
  refine RegL.pure (p := (pEq (.int .i64 (w64 (a_2 - a_1))))) rfl rfl rfl (J_bin rfl (Opd.tmp rfl) (Opd.tmp rfl) B_sub) ?_
  refine RegL.pure (p := (pEq (.bool ((w64 (a_2 - a_1)) == (1 : Int))))) rfl rfl rfl (J_bin rfl (Opd.tmp rfl) Opd.con B_eql) ?_
  refine RegL.nil ?_
  refine Ct.then_tr ?_
  refine Tr.weak (Γ' := [(0, (pEq (.slice ho0 hn0 hc0))), (1, (pEq (.int .i64 a_1))), (2, (pEq (.int .i64 a_2))), (3, (pEq (.int .i64 a_3))), (4, (pFn Try.prog (fun x : (Int × Int) => [(pEq (.int .i64 x.1)), (pEq (.int .i64 x.2))]) a_4 (fun y => (pEq (.int .i64 y))))), (28, (pEq (.bool ((w64 (a_2 - a_1)) == (1 : Int)))))]) ⟨rfl, rfl, rfl, rfl, rfl, rfl, trivial⟩ ?_
  refine Tr.cond (Opd.tmp rfl) (fun hc => ?_) (fun hc => ?_)
  · replace h := bif_t hc h
    refine Tr.seq ?_
    refine Tr.region ?_
    refine RegL.pure (p := (pEq (.int .i64 a_2))) rfl rfl rfl (J_move rfl (Opd.tmp rfl)) ?_
    refine RegL.pure (p := (pEq (.int .i64 a_2))) rfl rfl rfl (J_assign rfl (Opd.tmp rfl)) ?_
    refine RegL.nil ?_
    refine Ct.then_tr ?_
    refine Tr.weak (Γ' := [(0, (pEq (.slice ho0 hn0 hc0))), (1, (pEq (.int .i64 a_1))), (3, (pEq (.int .i64 a_3))), (4, (pFn Try.prog (fun x : (Int × Int) => [(pEq (.int .i64 x.1)), (pEq (.int .i64 x.2))]) a_4 (fun y => (pEq (.int .i64 y))))), (10, (pEq (.int .i64 a_2)))]) ⟨rfl, rfl, rfl, rfl, rfl, trivial⟩ ?_
    refine Tr.seq ?_
    refine Tr.region ?_
    refine RegL.pure (p := (pEq (.int .i64 a_3))) rfl rfl rfl (J_move rfl (Opd.tmp rfl)) ?_
    refine RegL.pure (p := (pEq (.int .i64 a_3))) rfl rfl rfl (J_assign rfl (Opd.tmp rfl)) ?_
    refine RegL.nil ?_
    refine Ct.then_tr ?_
    refine Tr.weak (Γ' := [(0, (pEq (.slice ho0 hn0 hc0))), (1, (pEq (.int .i64 a_1))), (4, (pFn Try.prog (fun x : (Int × Int) => [(pEq (.int .i64 x.1)), (pEq (.int .i64 x.2))]) a_4 (fun y => (pEq (.int .i64 y))))), (10, (pEq (.int .i64 a_2))), (11, (pEq (.int .i64 a_3)))]) ⟨rfl, rfl, rfl, rfl, rfl, trivial⟩ ?_
    refine Tr.seq ?_
    replace h := bind_some h; obtain ⟨x2, hx2, h⟩ := h
    refine Tr.cut (γ := Unit) (Γm := fun g => [(0, (pEq (.slice ho0 hn0 hc0))), (1, (pEq (.int .i64 a_1))), (10, (pEq (.int .i64 x2)))]) (Ωm := fun g => [oSl 2 1 (cK .i64) ho0 hn0 hc0 a_0]) ?_ (fun g13 => ?_)
    · clear h
      have h := hx2
      clear hx2
      refine Tr.block ?_
      refine Tr.weak (Γ' := [(0, (pEq (.slice ho0 hn0 hc0))), (1, (pEq (.int .i64 a_1))), (4, (pFn Try.prog (fun x : (Int × Int) => [(pEq (.int .i64 x.1)), (pEq (.int .i64 x.2))]) a_4 (fun y => (pEq (.int .i64 y))))), (10, (pEq (.int .i64 a_2))), (11, (pEq (.int .i64 a_3)))]) ⟨rfl, rfl, rfl, rfl, rfl, trivial⟩ ?_
      refine Tr.loop (γ := Unit) (σ := (Int × Int)) (Γσ := fun s g => [(0, (pEq (.slice ho0 hn0 hc0))), (1, (pEq (.int .i64 a_1))), (4, (pFn Try.prog (fun x : (Int × Int) => [(pEq (.int .i64 x.1)), (pEq (.int .i64 x.2))]) a_4 (fun y => (pEq (.int .i64 y))))), (10, (pEq (.int .i64 s.1))), (11, (pEq (.int .i64 s.2)))]) (Ωσ := fun s g => [oSl 2 1 (cK .i64) ho0 hn0 hc0 a_0]) (g := ()) h ?_
      clear h
      rintro ⟨v4, v5⟩ g6 t h
      replace h : m_slices_symMergeCmpFunc_int64_B3 a_0 a_1 a_4 v4 v5 = some t := h
      unfold m_slices_symMergeCmpFunc_int64_B3 at h
      refine Tr.weakO (Γ' := [(0, (pEq (.slice ho0 hn0 hc0))), (1, (pEq (.int .i64 a_1))), (4, (pFn Try.prog (fun x : (Int × Int) => [(pEq (.int .i64 x.1)), (pEq (.int .i64 x.2))]) a_4 (fun y => (pEq (.int .i64 y))))), (10, (pEq (.int .i64 v4))), (11, (pEq (.int .i64 v5)))]) (Ω' := [oSl 2 1 (cK .i64) ho0 hn0 hc0 a_0]) rfl ⟨rfl, rfl, rfl, rfl, rfl, trivial⟩ ?_
      refine Tr.seq ?_
      refine Tr.seq ?_
      refine Tr.region ?_
      refine RegL.pure (p := (pEq (.int .i64 v4))) rfl rfl rfl (J_move rfl (Opd.tmp rfl)) ?_
      refine RegL.pure (p := (pEq (.int .i64 v5))) rfl rfl rfl (J_move rfl (Opd.tmp rfl)) ?_
      refine RegL.pure (p := (pEq (.bool (decide (v4 < v5))))) rfl rfl rfl (J_bin rfl (Opd.tmp rfl) (Opd.tmp rfl) B_lss) ?_
      refine RegL.nil ?_
      refine Ct.then_tr ?_
      refine Tr.weak (Γ' := [(0, (pEq (.slice ho0 hn0 hc0))), (1, (pEq (.int .i64 a_1))), (4, (pFn Try.prog (fun x : (Int × Int) => [(pEq (.int .i64 x.1)), (pEq (.int .i64 x.2))]) a_4 (fun y => (pEq (.int .i64 y))))), (10, (pEq (.int .i64 v4))), (11, (pEq (.int .i64 v5))), (33, (pEq (.bool (decide (v4 < v5)))))]) ⟨rfl, rfl, rfl, rfl, rfl, rfl, trivial⟩ ?_
      refine Tr.cond (Opd.tmp rfl) (fun hc => ?_) (fun hc => ?_)
      · replace h := bif_t hc h
        refine Tr.skip ?_
        refine Ct.then_tr ?_
        refine Tr.weak (Γ' := [(0, (pEq (.slice ho0 hn0 hc0))), (1, (pEq (.int .i64 a_1))), (4, (pFn Try.prog (fun x : (Int × Int) => [(pEq (.int .i64 x.1)), (pEq (.int .i64 x.2))]) a_4 (fun y => (pEq (.int .i64 y))))), (10, (pEq (.int .i64 v4))), (11, (pEq (.int .i64 v5)))]) ⟨rfl, rfl, rfl, rfl, rfl, trivial⟩ ?_
        refine Tr.block ?_
        refine Tr.seq ?_
        refine Tr.region ?_
        refine RegL.pure (p := (pEq (.int .i64 v4))) rfl rfl rfl (J_move rfl (Opd.tmp rfl)) ?_
        refine RegL.pure (p := (pEq (.int .i64 v5))) rfl rfl rfl (J_move rfl (Opd.tmp rfl)) ?_
        refine RegL.pure (p := (pEq (.int .i64 (w64 (v4 + v5))))) rfl rfl rfl (J_bin rfl (Opd.tmp rfl) (Opd.tmp rfl) B_add) ?_
        refine RegL.pure (p := (pEq (.int .u64 (IntKind.wrap .u64 ((w64 (v4 + v5))))))) rfl rfl rfl (J_conv rfl Try.underlying3 Try.underlying92 (Opd.tmp rfl)) ?_
        replace h := bind_some h; obtain ⟨x7, hx7, h⟩ := h
        refine RegL.pure (p := (pEq (.int .u64 x7))) rfl rfl rfl (J_bin rfl (Opd.tmp rfl) Opd.con (B_bitshr hx7)) ?_
        refine RegL.pure (p := (pEq (.int .i64 (w64 (x7))))) rfl rfl rfl (J_conv rfl Try.underlying92 Try.underlying3 (Opd.tmp rfl)) ?_
        refine RegL.pure (p := (pEq (.int .i64 (w64 (x7))))) rfl rfl rfl (J_assign rfl (Opd.tmp rfl)) ?_
        refine RegL.nil ?_
        refine Ct.then_tr ?_
        refine Tr.weak (Γ' := [(0, (pEq (.slice ho0 hn0 hc0))), (1, (pEq (.int .i64 a_1))), (4, (pFn Try.prog (fun x : (Int × Int) => [(pEq (.int .i64 x.1)), (pEq (.int .i64 x.2))]) a_4 (fun y => (pEq (.int .i64 y))))), (10, (pEq (.int .i64 v4))), (11, (pEq (.int .i64 v5))), (12, (pEq (.int .i64 (w64 (x7)))))]) ⟨rfl, rfl, rfl, rfl, rfl, rfl, trivial⟩ ?_
        refine Tr.seq ?_
        replace h := bind_some h; obtain ⟨x8, hx8, h⟩ := h
        replace h := bind_some h; obtain ⟨x9, hx9, h⟩ := h
        replace h := bind_some h; obtain ⟨x10, hx10, h⟩ := h
        refine Tr.drawD (n := 220) (m := 11) (es := [some (Ent.mk [(4, (pFn Try.prog (fun x : (Int × Int) => [(pEq (.int .i64 x.1)), (pEq (.int .i64 x.2))]) a_4 (fun y => (pEq (.int .i64 y)))))] (pFn Try.prog (fun x : (Int × Int) => [(pEq (.int .i64 x.1)), (pEq (.int .i64 x.2))]) a_4 (fun y => (pEq (.int .i64 y)))) true), some (Ent.mk [(0, (pEq (.slice ho0 hn0 hc0)))] (pEq (.slice ho0 hn0 hc0)) true), some (Ent.mk [(12, (pEq (.int .i64 (w64 (x7)))))] (pEq (.int .i64 (w64 (x7)))) true), some (Ent.mk [(41, (pEq (.slice ho0 hn0 hc0))), (42, (pEq (.int .i64 (w64 (x7)))))] (pEq (.pointer (some ⟨blk ho0, ((w64 (x7))).toNat * 1, none⟩))) true), some (Ent.mk [(43, (pEq (.pointer (some ⟨blk ho0, ((w64 (x7))).toNat * 1, none⟩))))] (pEq (.int .i64 x8)) true), some (Ent.mk [(0, (pEq (.slice ho0 hn0 hc0)))] (pEq (.slice ho0 hn0 hc0)) true), some (Ent.mk [(1, (pEq (.int .i64 a_1)))] (pEq (.int .i64 a_1)) true), some (Ent.mk [(45, (pEq (.slice ho0 hn0 hc0))), (46, (pEq (.int .i64 a_1)))] (pEq (.pointer (some ⟨blk ho0, (a_1).toNat * 1, none⟩))) true), some (Ent.mk [(47, (pEq (.pointer (some ⟨blk ho0, (a_1).toNat * 1, none⟩))))] (pEq (.int .i64 x9)) true), some (Ent.mk [(40, (pFn Try.prog (fun x : (Int × Int) => [(pEq (.int .i64 x.1)), (pEq (.int .i64 x.2))]) a_4 (fun y => (pEq (.int .i64 y))))), (44, (pEq (.int .i64 x8))), (48, (pEq (.int .i64 x9)))] (pEq (.int .i64 x10)) true), some (Ent.mk [(49, (pEq (.int .i64 x10)))] (pEq (.bool (decide (x10 < (0 : Int))))) true)]) (rd := [[4], [0], [12], [41, 42], [43], [0], [1], [45, 46], [47], [40, 44, 48], [49]]) rfl hmix (by kernel_rfl) fun hD => ?_
        refine RD.fin (es := [Ent.mk [(4, (pFn Try.prog (fun x : (Int × Int) => [(pEq (.int .i64 x.1)), (pEq (.int .i64 x.2))]) a_4 (fun y => (pEq (.int .i64 y)))))] (pFn Try.prog (fun x : (Int × Int) => [(pEq (.int .i64 x.1)), (pEq (.int .i64 x.2))]) a_4 (fun y => (pEq (.int .i64 y)))) true, Ent.mk [(0, (pEq (.slice ho0 hn0 hc0)))] (pEq (.slice ho0 hn0 hc0)) true, Ent.mk [(12, (pEq (.int .i64 (w64 (x7)))))] (pEq (.int .i64 (w64 (x7)))) true, Ent.mk [(41, (pEq (.slice ho0 hn0 hc0))), (42, (pEq (.int .i64 (w64 (x7)))))] (pEq (.pointer (some ⟨blk ho0, ((w64 (x7))).toNat * 1, none⟩))) true, Ent.mk [(43, (pEq (.pointer (some ⟨blk ho0, ((w64 (x7))).toNat * 1, none⟩))))] (pEq (.int .i64 x8)) true, Ent.mk [(0, (pEq (.slice ho0 hn0 hc0)))] (pEq (.slice ho0 hn0 hc0)) true, Ent.mk [(1, (pEq (.int .i64 a_1)))] (pEq (.int .i64 a_1)) true, Ent.mk [(45, (pEq (.slice ho0 hn0 hc0))), (46, (pEq (.int .i64 a_1)))] (pEq (.pointer (some ⟨blk ho0, (a_1).toNat * 1, none⟩))) true, Ent.mk [(47, (pEq (.pointer (some ⟨blk ho0, (a_1).toNat * 1, none⟩))))] (pEq (.int .i64 x9)) true, Ent.mk [(40, (pFn Try.prog (fun x : (Int × Int) => [(pEq (.int .i64 x.1)), (pEq (.int .i64 x.2))]) a_4 (fun y => (pEq (.int .i64 y))))), (44, (pEq (.int .i64 x8))), (48, (pEq (.int .i64 x9)))] (pEq (.int .i64 x10)) true, Ent.mk [(49, (pEq (.int .i64 x10)))] (pEq (.bool (decide (x10 < (0 : Int))))) true]) (done := []) hD ⟨.inr ⟨(OpJ.w (J_move rfl (Opd.tmp rfl))), ⟨rfl, trivial⟩, rfl, rfl⟩, ⟨.inr ⟨(OpJ.w (J_move rfl (Opd.tmp rfl))), ⟨rfl, trivial⟩, rfl, rfl⟩, ⟨.inr ⟨(OpJ.w (J_move rfl (Opd.tmp rfl))), ⟨rfl, trivial⟩, rfl, rfl⟩, ⟨.inr ⟨(W_rowIdx (j := 0) rfl Try.underlying26 sz2 (Opd.tmp rfl) (Opd.tmp rfl) rfl (idx_lt hx8)), ⟨rfl, rfl, trivial⟩, rfl, rfl⟩, ⟨.inr ⟨(W_rowLoad (j := 0) (f := (cK .i64)) rfl Try.isAgg2 (fun _ => rfl) (Opd.tmp rfl) rfl hx8 rfl), ⟨rfl, trivial⟩, rfl, rfl⟩, ⟨.inr ⟨(OpJ.w (J_move rfl (Opd.tmp rfl))), ⟨rfl, trivial⟩, rfl, rfl⟩, ⟨.inr ⟨(OpJ.w (J_move rfl (Opd.tmp rfl))), ⟨rfl, trivial⟩, rfl, rfl⟩, ⟨.inr ⟨(W_rowIdx (j := 0) rfl Try.underlying26 sz2 (Opd.tmp rfl) (Opd.tmp rfl) rfl (idx_lt hx9)), ⟨rfl, rfl, trivial⟩, rfl, rfl⟩, ⟨.inr ⟨(W_rowLoad (j := 0) (f := (cK .i64)) rfl Try.isAgg2 (fun _ => rfl) (Opd.tmp rfl) rfl hx9 rfl), ⟨rfl, trivial⟩, rfl, rfl⟩, ⟨.inr ⟨(OpJ.w (J_callv (x := (x8, x9)) rfl (Opd.tmp rfl) rfl (Opds.cons (Opd.tmp rfl) (Opds.cons (Opd.tmp rfl) Opds.nil)) hx10 rfl)), ⟨rfl, rfl, rfl, trivial⟩, rfl, rfl⟩, ⟨.inr ⟨(OpJ.w (J_bin rfl (Opd.tmp rfl) Opd.con B_lss)), ⟨rfl, trivial⟩, rfl, rfl⟩, trivial⟩⟩⟩⟩⟩⟩⟩⟩⟩⟩⟩ ?_
        refine RegL.nil ?_
        refine Ct.then_tr ?_
        refine Tr.weak (Γ' := [(0, (pEq (.slice ho0 hn0 hc0))), (1, (pEq (.int .i64 a_1))), (4, (pFn Try.prog (fun x : (Int × Int) => [(pEq (.int .i64 x.1)), (pEq (.int .i64 x.2))]) a_4 (fun y => (pEq (.int .i64 y))))), (10, (pEq (.int .i64 v4))), (11, (pEq (.int .i64 v5))), (12, (pEq (.int .i64 (w64 (x7))))), (50, (pEq (.bool (decide (x10 < (0 : Int))))))]) ⟨rfl, rfl, rfl, rfl, rfl, rfl, rfl, trivial⟩ ?_
        replace h := bind_some h; obtain ⟨x11, hx11, h⟩ := h
        refine Tr.cut (γ := Unit) (Γm := fun g => [(0, (pEq (.slice ho0 hn0 hc0))), (1, (pEq (.int .i64 a_1))), (4, (pFn Try.prog (fun x : (Int × Int) => [(pEq (.int .i64 x.1)), (pEq (.int .i64 x.2))]) a_4 (fun y => (pEq (.int .i64 y))))), (10, (pEq (.int .i64 x11.1))), (11, (pEq (.int .i64 x11.2)))]) (Ωm := fun g => [oSl 2 1 (cK .i64) ho0 hn0 hc0 a_0]) ?_ (fun g12 => ?_)
        · clear h
          have h := hx11
          clear hx11
          refine Tr.cond (Opd.tmp rfl) (fun hc => ?_) (fun hc => ?_)
          · replace h := bif_t hc h
            refine Tr.region ?_
            refine RegL.pure (p := (pEq (.int .i64 (w64 (x7))))) rfl rfl rfl (J_move rfl (Opd.tmp rfl)) ?_
            refine RegL.pure (p := (pEq (.int .i64 (w64 ((w64 (x7)) + (1 : Int)))))) rfl rfl rfl (J_bin rfl (Opd.tmp rfl) Opd.con B_add) ?_
            refine RegL.pure (p := (pEq (.int .i64 (w64 ((w64 (x7)) + (1 : Int)))))) rfl rfl rfl (J_assign rfl (Opd.tmp rfl)) ?_
            refine RegL.nil ?_
            replace h := Option.some.inj h; subst h
            exact Ct.mid () rfl ⟨rfl, rfl, rfl, rfl, rfl, trivial⟩
          · replace h := bif_f hc h
            refine Tr.region ?_
            refine RegL.pure (p := (pEq (.int .i64 (w64 (x7))))) rfl rfl rfl (J_move rfl (Opd.tmp rfl)) ?_
            refine RegL.pure (p := (pEq (.int .i64 (w64 (x7))))) rfl rfl rfl (J_assign rfl (Opd.tmp rfl)) ?_
            refine RegL.nil ?_
            replace h := Option.some.inj h; subst h
            exact Ct.mid () rfl ⟨rfl, rfl, rfl, rfl, rfl, trivial⟩
        · clear hx11
          refine Ct.blk_normal ?_
          replace h := Option.some.inj h; subst h
          exact Ct.again () rfl ⟨rfl, rfl, rfl, rfl, rfl, trivial⟩
      · replace h := bif_f hc h
        refine Tr.exit ?_
        refine Ct.then_exit ?_
        replace h := map_some h; obtain ⟨r1, h, rfl⟩ := h
        refine Ct.out_exit fun e => ?_
        subst e
        refine Ct.blk_exit ?_
        replace h := Option.some.inj h; subst h
        exact Ct.mid () rfl ⟨rfl, rfl, rfl, trivial⟩
    · clear hx2
      refine Ct.then_tr ?_
      refine Tr.weak (Γ' := [(0, (pEq (.slice ho0 hn0 hc0))), (1, (pEq (.int .i64 a_1))), (10, (pEq (.int .i64 x2)))]) ⟨rfl, rfl, rfl, trivial⟩ ?_
      refine Tr.seq ?_
      refine Tr.seq ?_
      refine Tr.region ?_
      refine RegL.pure (p := (pEq (.int .i64 a_1))) rfl rfl rfl (J_move rfl (Opd.tmp rfl)) ?_
      refine RegL.pure (p := (pEq (.int .i64 a_1))) rfl rfl rfl (J_assign rfl (Opd.tmp rfl)) ?_
      refine RegL.nil ?_
      refine Ct.then_tr ?_
      refine Tr.weak (Γ' := [(0, (pEq (.slice ho0 hn0 hc0))), (10, (pEq (.int .i64 x2))), (13, (pEq (.int .i64 a_1)))]) ⟨rfl, rfl, rfl, trivial⟩ ?_
      replace h := bind_some h; obtain ⟨x14, hx14, h⟩ := h
      refine Tr.cut (γ := Unit) (Γm := fun g => []) (Ωm := fun g => [oSl 2 1 (cK .i64) ho0 hn0 hc0 x14]) ?_ (fun g25 => ?_)
      · clear h
        have h := hx14
        clear hx14
        refine Tr.block ?_
        refine Tr.weak (Γ' := [(0, (pEq (.slice ho0 hn0 hc0))), (10, (pEq (.int .i64 x2))), (13, (pEq (.int .i64 a_1)))]) ⟨rfl, rfl, rfl, trivial⟩ ?_
        refine Tr.loop (γ := Unit) (σ := (Int × (List Int))) (Γσ := fun s g => [(0, (pEq (.slice ho0 hn0 hc0))), (10, (pEq (.int .i64 x2))), (13, (pEq (.int .i64 s.1)))]) (Ωσ := fun s g => [oSl 2 1 (cK .i64) ho0 hn0 hc0 s.2]) (g := ()) h ?_
        clear h
        rintro ⟨v16, v17⟩ g18 t h
        replace h : m_slices_symMergeCmpFunc_int64_B15 x2 v16 v17 = some t := h
        unfold m_slices_symMergeCmpFunc_int64_B15 at h
        refine Tr.weakO (Γ' := [(0, (pEq (.slice ho0 hn0 hc0))), (10, (pEq (.int .i64 x2))), (13, (pEq (.int .i64 v16)))]) (Ω' := [oSl 2 1 (cK .i64) ho0 hn0 hc0 v17]) rfl ⟨rfl, rfl, rfl, trivial⟩ ?_
        refine Tr.seq ?_
        refine Tr.seq ?_
        refine Tr.region ?_
        refine RegL.pure (p := (pEq (.int .i64 v16))) rfl rfl rfl (J_move rfl (Opd.tmp rfl)) ?_
        refine RegL.pure (p := (pEq (.int .i64 x2))) rfl rfl rfl (J_move rfl (Opd.tmp rfl)) ?_
        refine RegL.pure (p := (pEq (.int .i64 (w64 (x2 - (1 : Int)))))) rfl rfl rfl (J_bin rfl (Opd.tmp rfl) Opd.con B_sub) ?_
        refine RegL.pure (p := (pEq (.bool (decide (v16 < (w64 (x2 - (1 : Int)))))))) rfl rfl rfl (J_bin rfl (Opd.tmp rfl) (Opd.tmp rfl) B_lss) ?_
        refine RegL.nil ?_
        refine Ct.then_tr ?_
        refine Tr.weak (Γ' := [(0, (pEq (.slice ho0 hn0 hc0))), (10, (pEq (.int .i64 x2))), (13, (pEq (.int .i64 v16))), (58, (pEq (.bool (decide (v16 < (w64 (x2 - (1 : Int))))))))]) ⟨rfl, rfl, rfl, rfl, trivial⟩ ?_
        refine Tr.cond (Opd.tmp rfl) (fun hc => ?_) (fun hc => ?_)
        · replace h := bif_t hc h
          refine Tr.skip ?_
          refine Ct.then_tr ?_
          refine Tr.weak (Γ' := [(0, (pEq (.slice ho0 hn0 hc0))), (10, (pEq (.int .i64 x2))), (13, (pEq (.int .i64 v16)))]) ⟨rfl, rfl, rfl, trivial⟩ ?_
          refine Tr.seq ?_
          refine Tr.block ?_
          replace h := bind_some h; obtain ⟨x19, hx19, h⟩ := h
          replace h := bind_some h; obtain ⟨x20, hx20, h⟩ := h
          replace h := bind_some h; obtain ⟨u21, hu21, h⟩ := h
          refine Tr.drawD (n := 220) (m := 16) (es := [some (Ent.mk [(0, (pEq (.slice ho0 hn0 hc0)))] (pEq (.slice ho0 hn0 hc0)) true), some (Ent.mk [(13, (pEq (.int .i64 v16)))] (pEq (.int .i64 v16)) true), some (Ent.mk [(0, (pEq (.slice ho0 hn0 hc0)))] (pEq (.slice ho0 hn0 hc0)) true), some (Ent.mk [(13, (pEq (.int .i64 v16)))] (pEq (.int .i64 v16)) true), some (Ent.mk [(64, (pEq (.int .i64 v16)))] (pEq (.int .i64 (w64 (v16 + (1 : Int))))) true), some (Ent.mk [(0, (pEq (.slice ho0 hn0 hc0)))] (pEq (.slice ho0 hn0 hc0)) true), some (Ent.mk [(13, (pEq (.int .i64 v16)))] (pEq (.int .i64 v16)) true), some (Ent.mk [(67, (pEq (.int .i64 v16)))] (pEq (.int .i64 (w64 (v16 + (1 : Int))))) true), some (Ent.mk [(66, (pEq (.slice ho0 hn0 hc0))), (68, (pEq (.int .i64 (w64 (v16 + (1 : Int))))))] (pEq (.pointer (some ⟨blk ho0, ((w64 (v16 + (1 : Int)))).toNat * 1, none⟩))) true), some (Ent.mk [(69, (pEq (.pointer (some ⟨blk ho0, ((w64 (v16 + (1 : Int)))).toNat * 1, none⟩))))] (pEq (.int .i64 x19)) true), some (Ent.mk [(0, (pEq (.slice ho0 hn0 hc0)))] (pEq (.slice ho0 hn0 hc0)) true), some (Ent.mk [(13, (pEq (.int .i64 v16)))] (pEq (.int .i64 v16)) true), some (Ent.mk [(71, (pEq (.slice ho0 hn0 hc0))), (72, (pEq (.int .i64 v16)))] (pEq (.pointer (some ⟨blk ho0, (v16).toNat * 1, none⟩))) true), some (Ent.mk [(73, (pEq (.pointer (some ⟨blk ho0, (v16).toNat * 1, none⟩))))] (pEq (.int .i64 x20)) true), some (Ent.mk [(61, (pEq (.slice ho0 hn0 hc0))), (62, (pEq (.int .i64 v16)))] (pEq (.pointer (some ⟨blk ho0, (v16).toNat * 1, none⟩))) true), none]) (rd := [[0], [13], [0], [13], [64], [0], [13], [67], [66, 68], [69], [0], [13], [71, 72], [73], [61, 62], [70, 75]]) rfl hmix (by kernel_rfl) fun hD => ?_
          refine RD.step hD (es := [some (Ent.mk [(0, (pEq (.slice ho0 hn0 hc0)))] (pEq (.slice ho0 hn0 hc0)) true), some (Ent.mk [(13, (pEq (.int .i64 v16)))] (pEq (.int .i64 v16)) true), some (Ent.mk [(0, (pEq (.slice ho0 hn0 hc0)))] (pEq (.slice ho0 hn0 hc0)) true), some (Ent.mk [(13, (pEq (.int .i64 v16)))] (pEq (.int .i64 v16)) true), some (Ent.mk [(64, (pEq (.int .i64 v16)))] (pEq (.int .i64 (w64 (v16 + (1 : Int))))) true), some (Ent.mk [(0, (pEq (.slice ho0 hn0 hc0)))] (pEq (.slice ho0 hn0 hc0)) true), some (Ent.mk [(13, (pEq (.int .i64 v16)))] (pEq (.int .i64 v16)) true), some (Ent.mk [(67, (pEq (.int .i64 v16)))] (pEq (.int .i64 (w64 (v16 + (1 : Int))))) true), some (Ent.mk [(66, (pEq (.slice ho0 hn0 hc0))), (68, (pEq (.int .i64 (w64 (v16 + (1 : Int))))))] (pEq (.pointer (some ⟨blk ho0, ((w64 (v16 + (1 : Int)))).toNat * 1, none⟩))) true), some (Ent.mk [(69, (pEq (.pointer (some ⟨blk ho0, ((w64 (v16 + (1 : Int)))).toNat * 1, none⟩))))] (pEq (.int .i64 x19)) true), some (Ent.mk [(0, (pEq (.slice ho0 hn0 hc0)))] (pEq (.slice ho0 hn0 hc0)) true), some (Ent.mk [(13, (pEq (.int .i64 v16)))] (pEq (.int .i64 v16)) true), some (Ent.mk [(71, (pEq (.slice ho0 hn0 hc0))), (72, (pEq (.int .i64 v16)))] (pEq (.pointer (some ⟨blk ho0, (v16).toNat * 1, none⟩))) true), some (Ent.mk [(73, (pEq (.pointer (some ⟨blk ho0, (v16).toNat * 1, none⟩))))] (pEq (.int .i64 x20)) true), some (Ent.mk [(61, (pEq (.slice ho0 hn0 hc0))), (62, (pEq (.int .i64 v16)))] (pEq (.pointer (some ⟨blk ho0, (v16).toNat * 1, none⟩))) true), none]) (done := []) (mask := [true, true, true, true, true, true, true, true, true, true, true, true, true, true, true, false]) (γ := Unit) (p := fun _ => pAny) (Ω' := fun _ => [oSl 2 1 (cK .i64) ho0 hn0 hc0 (v17.set (v16).toNat x19)]) (es' := fun g22 => [some (Ent.mk [(0, (pEq (.slice ho0 hn0 hc0)))] (pEq (.slice ho0 hn0 hc0)) true), some (Ent.mk [(13, (pEq (.int .i64 v16)))] (pEq (.int .i64 v16)) true), some (Ent.mk [(0, (pEq (.slice ho0 hn0 hc0)))] (pEq (.slice ho0 hn0 hc0)) true), some (Ent.mk [(13, (pEq (.int .i64 v16)))] (pEq (.int .i64 v16)) true), some (Ent.mk [(64, (pEq (.int .i64 v16)))] (pEq (.int .i64 (w64 (v16 + (1 : Int))))) true), some (Ent.mk [(0, (pEq (.slice ho0 hn0 hc0)))] (pEq (.slice ho0 hn0 hc0)) true), some (Ent.mk [(13, (pEq (.int .i64 v16)))] (pEq (.int .i64 v16)) true), some (Ent.mk [(67, (pEq (.int .i64 v16)))] (pEq (.int .i64 (w64 (v16 + (1 : Int))))) true), some (Ent.mk [(66, (pEq (.slice ho0 hn0 hc0))), (68, (pEq (.int .i64 (w64 (v16 + (1 : Int))))))] (pEq (.pointer (some ⟨blk ho0, ((w64 (v16 + (1 : Int)))).toNat * 1, none⟩))) true), some (Ent.mk [(69, (pEq (.pointer (some ⟨blk ho0, ((w64 (v16 + (1 : Int)))).toNat * 1, none⟩))))] (pEq (.int .i64 x19)) true), some (Ent.mk [(0, (pEq (.slice ho0 hn0 hc0)))] (pEq (.slice ho0 hn0 hc0)) true), some (Ent.mk [(13, (pEq (.int .i64 v16)))] (pEq (.int .i64 v16)) true), some (Ent.mk [(71, (pEq (.slice ho0 hn0 hc0))), (72, (pEq (.int .i64 v16)))] (pEq (.pointer (some ⟨blk ho0, (v16).toNat * 1, none⟩))) true), some (Ent.mk [(73, (pEq (.pointer (some ⟨blk ho0, (v16).toNat * 1, none⟩))))] (pEq (.int .i64 x20)) true), some (Ent.mk [(61, (pEq (.slice ho0 hn0 hc0))), (62, (pEq (.int .i64 v16)))] (pEq (.pointer (some ⟨blk ho0, (v16).toNat * 1, none⟩))) true), some (Ent.mk [(70, (pEq (.int .i64 x19))), (75, (pEq (.pointer (some ⟨blk ho0, (v16).toNat * 1, none⟩))))] ((fun _ => pAny) g22) true)]) (Γc := [(70, (pEq (.int .i64 x19))), (75, (pEq (.pointer (some ⟨blk ho0, (v16).toNat * 1, none⟩))))]) 15 rfl rfl rfl (by kernel_rfl) ⟨.inr ⟨(OpJ.w (J_move rfl (Opd.tmp rfl))), ⟨rfl, trivial⟩, rfl, rfl⟩, ⟨.inr ⟨(OpJ.w (J_move rfl (Opd.tmp rfl))), ⟨rfl, trivial⟩, rfl, rfl⟩, ⟨.inr ⟨(OpJ.w (J_move rfl (Opd.tmp rfl))), ⟨rfl, trivial⟩, rfl, rfl⟩, ⟨.inr ⟨(OpJ.w (J_move rfl (Opd.tmp rfl))), ⟨rfl, trivial⟩, rfl, rfl⟩, ⟨.inr ⟨(OpJ.w (J_bin rfl (Opd.tmp rfl) Opd.con B_add)), ⟨rfl, trivial⟩, rfl, rfl⟩, ⟨.inr ⟨(OpJ.w (J_move rfl (Opd.tmp rfl))), ⟨rfl, trivial⟩, rfl, rfl⟩, ⟨.inr ⟨(OpJ.w (J_move rfl (Opd.tmp rfl))), ⟨rfl, trivial⟩, rfl, rfl⟩, ⟨.inr ⟨(OpJ.w (J_bin rfl (Opd.tmp rfl) Opd.con B_add)), ⟨rfl, trivial⟩, rfl, rfl⟩, ⟨.inr ⟨(W_rowIdx (j := 0) rfl Try.underlying26 sz2 (Opd.tmp rfl) (Opd.tmp rfl) rfl (idx_lt hx19)), ⟨rfl, rfl, trivial⟩, rfl, rfl⟩, ⟨.inr ⟨(W_rowLoad (j := 0) (f := (cK .i64)) rfl Try.isAgg2 (fun _ => rfl) (Opd.tmp rfl) rfl hx19 rfl), ⟨rfl, trivial⟩, rfl, rfl⟩, ⟨.inr ⟨(OpJ.w (J_move rfl (Opd.tmp rfl))), ⟨rfl, trivial⟩, rfl, rfl⟩, ⟨.inr ⟨(OpJ.w (J_move rfl (Opd.tmp rfl))), ⟨rfl, trivial⟩, rfl, rfl⟩, ⟨.inr ⟨(W_rowIdx (j := 0) rfl Try.underlying26 sz2 (Opd.tmp rfl) (Opd.tmp rfl) rfl (idx_lt hx20)), ⟨rfl, rfl, trivial⟩, rfl, rfl⟩, ⟨.inr ⟨(W_rowLoad (j := 0) (f := (cK .i64)) rfl Try.isAgg2 (fun _ => rfl) (Opd.tmp rfl) rfl hx20 rfl), ⟨rfl, trivial⟩, rfl, rfl⟩, ⟨.inr ⟨(W_rowIdx (j := 0) rfl Try.underlying26 sz2 (Opd.tmp rfl) (Opd.tmp rfl) rfl (inB_some hu21)), ⟨rfl, rfl, trivial⟩, rfl, rfl⟩, trivial⟩⟩⟩⟩⟩⟩⟩⟩⟩⟩⟩⟩⟩⟩⟩ rfl rfl ⟨rfl, rfl, trivial⟩ (fun _ => M_rowStore rfl sz2 (fun _ => rfl) (Opd.tmp rfl) (Opd.tmp rfl) rfl OneC.int (setL_of (inB_some hu21))) (fun g22 => ⟨rfl, ⟨rfl, ⟨rfl, ⟨rfl, ⟨rfl, ⟨rfl, ⟨rfl, ⟨rfl, ⟨rfl, ⟨rfl, ⟨rfl, ⟨rfl, ⟨rfl, ⟨rfl, ⟨rfl, trivial⟩⟩⟩⟩⟩⟩⟩⟩⟩⟩⟩⟩⟩⟩⟩) (fun g22 => rfl) rfl fun g22 => ?_
          refine RD.add 15 0 rfl ?_
          refine RD.add 15 1 rfl ?_
          refine RD.add 15 5 rfl ?_
          refine RD.add 15 6 rfl ?_
          refine RD.add 15 7 rfl ?_
          refine RD.add 15 8 rfl ?_
          refine RD.add 15 9 rfl ?_
          refine RD.add 15 13 rfl ?_
          refine RD.add 15 14 rfl ?_
          refine RD.add 13 12 rfl ?_
          refine RD.add 12 10 rfl ?_
          refine RD.add 12 11 rfl ?_
          refine RD.fin (es := [Ent.mk [(0, (pEq (.slice ho0 hn0 hc0)))] (pEq (.slice ho0 hn0 hc0)) true, Ent.mk [(13, (pEq (.int .i64 v16)))] (pEq (.int .i64 v16)) true, Ent.mk [(0, (pEq (.slice ho0 hn0 hc0)))] (pEq (.slice ho0 hn0 hc0)) true, Ent.mk [(13, (pEq (.int .i64 v16)))] (pEq (.int .i64 v16)) true, Ent.mk [(64, (pEq (.int .i64 v16)))] (pEq (.int .i64 (w64 (v16 + (1 : Int))))) true, Ent.mk [(0, (pEq (.slice ho0 hn0 hc0)))] (pEq (.slice ho0 hn0 hc0)) true, Ent.mk [(13, (pEq (.int .i64 v16)))] (pEq (.int .i64 v16)) true, Ent.mk [(67, (pEq (.int .i64 v16)))] (pEq (.int .i64 (w64 (v16 + (1 : Int))))) true, Ent.mk [(66, (pEq (.slice ho0 hn0 hc0))), (68, (pEq (.int .i64 (w64 (v16 + (1 : Int))))))] (pEq (.pointer (some ⟨blk ho0, ((w64 (v16 + (1 : Int)))).toNat * 1, none⟩))) true, Ent.mk [(69, (pEq (.pointer (some ⟨blk ho0, ((w64 (v16 + (1 : Int)))).toNat * 1, none⟩))))] (pEq (.int .i64 x19)) true, Ent.mk [(0, (pEq (.slice ho0 hn0 hc0)))] (pEq (.slice ho0 hn0 hc0)) true, Ent.mk [(13, (pEq (.int .i64 v16)))] (pEq (.int .i64 v16)) true, Ent.mk [(71, (pEq (.slice ho0 hn0 hc0))), (72, (pEq (.int .i64 v16)))] (pEq (.pointer (some ⟨blk ho0, (v16).toNat * 1, none⟩))) true, Ent.mk [(73, (pEq (.pointer (some ⟨blk ho0, (v16).toNat * 1, none⟩))))] (pEq (.int .i64 x20)) true, Ent.mk [(61, (pEq (.slice ho0 hn0 hc0))), (62, (pEq (.int .i64 v16)))] (pEq (.pointer (some ⟨blk ho0, (v16).toNat * 1, none⟩))) true, Ent.mk [(70, (pEq (.int .i64 x19))), (75, (pEq (.pointer (some ⟨blk ho0, (v16).toNat * 1, none⟩))))] ((fun _ => pAny) g22) true]) (done := [11, 10, 12, 14, 13, 9, 8, 7, 6, 5, 1, 0, 15]) hD ⟨.inl rfl, ⟨.inl rfl, ⟨.inr ⟨(OpJ.w (J_move rfl (Opd.tmp rfl))), ⟨rfl, trivial⟩, rfl, rfl⟩, ⟨.inr ⟨(OpJ.w (J_move rfl (Opd.tmp rfl))), ⟨rfl, trivial⟩, rfl, rfl⟩, ⟨.inr ⟨(OpJ.w (J_bin rfl (Opd.tmp rfl) Opd.con B_add)), ⟨rfl, trivial⟩, rfl, rfl⟩, ⟨.inl rfl, ⟨.inl rfl, ⟨.inl rfl, ⟨.inl rfl, ⟨.inl rfl, ⟨.inl rfl, ⟨.inl rfl, ⟨.inl rfl, ⟨.inl rfl, ⟨.inl rfl, ⟨.inl rfl, trivial⟩⟩⟩⟩⟩⟩⟩⟩⟩⟩⟩⟩⟩⟩⟩⟩ ?_
          replace h := bind_some h; obtain ⟨u23, hu23, h⟩ := h
          refine RegL.pureW (p := (pEq (.pointer (some ⟨blk ho0, ((w64 (v16 + (1 : Int)))).toNat * 1, none⟩)))) rfl rfl rfl (W_rowIdx (j := 0) rfl Try.underlying26 sz2 (Opd.tmp rfl) (Opd.tmp rfl) rfl (inB_some hu23)) ?_
          refine RegL.stepN (γ := Unit) (p := fun _ => pAny) (Ω' := fun _ => [oSl 2 1 (cK .i64) ho0 hn0 hc0 ((v17.set (v16).toNat x19).set ((w64 (v16 + (1 : Int)))).toNat x20)]) rfl rfl (M_rowStore rfl sz2 (fun _ => rfl) (Opd.tmp rfl) (Opd.tmp rfl) rfl OneC.int (setL_of (inB_some hu23))) fun g24 => ?_
          refine RegL.nil ?_
          refine Ct.blk_normal ?_
          refine Ct.then_tr ?_
          refine Tr.weak (Γ' := [(0, (pEq (.slice ho0 hn0 hc0))), (10, (pEq (.int .i64 x2))), (13, (pEq (.int .i64 v16)))]) ⟨rfl, rfl, rfl, trivial⟩ ?_
          refine Tr.region ?_
          refine RegL.pure (p := (pEq (.int .i64 v16))) rfl rfl rfl (J_move rfl (Opd.tmp rfl)) ?_
          refine RegL.pure (p := (pEq (.int .i64 (w64 (v16 + (1 : Int)))))) rfl rfl rfl (J_bin rfl (Opd.tmp rfl) Opd.con B_add) ?_
          refine RegL.pure (p := (pEq (.int .i64 (w64 (v16 + (1 : Int)))))) rfl rfl rfl (J_assign rfl (Opd.tmp rfl)) ?_
          refine RegL.nil ?_
          replace h := Option.some.inj h; subst h
          exact Ct.again () rfl ⟨rfl, rfl, rfl, trivial⟩
        · replace h := bif_f hc h
          refine Tr.exit ?_
          refine Ct.then_exit ?_
          replace h := map_some h; obtain ⟨r1, h, rfl⟩ := h
          refine Ct.out_exit fun e => ?_
          subst e
          refine Ct.blk_exit ?_
          replace h := Option.some.inj h; subst h
          exact Ct.mid () rfl trivial
      · clear hx14
        refine Ct.then_tr ?_
        refine Tr.weak (Γ' := []) trivial ?_
        refine Tr.ret ?_
        refine Ct.then_ret ?_
        replace h := Option.some.inj h; subst h
        exact Ct.retH0 (Ωx := []) () rfl rfl rfl
  · replace h := bif_f hc h
    refine Tr.skip ?_
    refine Ct.then_tr ?_
    refine Tr.weak (Γ' := [(0, (pEq (.slice ho0 hn0 hc0))), (1, (pEq (.int .i64 a_1))), (2, (pEq (.int .i64 a_2))), (3, (pEq (.int .i64 a_3))), (4, (pFn Try.prog (fun x : (Int × Int) => [(pEq (.int .i64 x.1)), (pEq (.int .i64 x.2))]) a_4 (fun y => (pEq (.int .i64 y)))))]) ⟨rfl, rfl, rfl, rfl, rfl, trivial⟩ ?_
    refine Tr.seq ?_
    refine Tr.seq ?_
    refine Tr.region ?_
    refine RegL.pure (p := (pEq (.int .i64 a_3))) rfl rfl rfl (J_move rfl (Opd.tmp rfl)) ?_
    refine RegL.pure (p := (pEq (.int .i64 a_2))) rfl rfl rfl (J_move rfl (Opd.tmp rfl)) ?_
    refine RegL.pure (p := (pEq (.int .i64 (w64 (a_3 - a_2))))) rfl rfl rfl (J_bin rfl (Opd.tmp rfl) (Opd.tmp rfl) B_sub) ?_
    refine RegL.pure (p := (pEq (.bool ((w64 (a_3 - a_2)) == (1 : Int))))) rfl rfl rfl (J_bin rfl (Opd.tmp rfl) Opd.con B_eql) ?_
    refine RegL.nil ?_
    refine Ct.then_tr ?_
    refine Tr.weak (Γ' := [(0, (pEq (.slice ho0 hn0 hc0))), (1, (pEq (.int .i64 a_1))), (2, (pEq (.int .i64 a_2))), (3, (pEq (.int .i64 a_3))), (4, (pFn Try.prog (fun x : (Int × Int) => [(pEq (.int .i64 x.1)), (pEq (.int .i64 x.2))]) a_4 (fun y => (pEq (.int .i64 y))))), (80, (pEq (.bool ((w64 (a_3 - a_2)) == (1 : Int)))))]) ⟨rfl, rfl, rfl, rfl, rfl, rfl, trivial⟩ ?_
    refine Tr.cond (Opd.tmp rfl) (fun hc => ?_) (fun hc => ?_)
    · replace h := bif_t hc h
      refine Tr.seq ?_
      refine Tr.region ?_
      refine RegL.pure (p := (pEq (.int .i64 a_1))) rfl rfl rfl (J_move rfl (Opd.tmp rfl)) ?_
      refine RegL.pure (p := (pEq (.int .i64 a_1))) rfl rfl rfl (J_assign rfl (Opd.tmp rfl)) ?_
      refine RegL.nil ?_
      refine Ct.then_tr ?_
      refine Tr.weak (Γ' := [(0, (pEq (.slice ho0 hn0 hc0))), (2, (pEq (.int .i64 a_2))), (4, (pFn Try.prog (fun x : (Int × Int) => [(pEq (.int .i64 x.1)), (pEq (.int .i64 x.2))]) a_4 (fun y => (pEq (.int .i64 y))))), (14, (pEq (.int .i64 a_1)))]) ⟨rfl, rfl, rfl, rfl, trivial⟩ ?_
      refine Tr.seq ?_
      refine Tr.region ?_
      refine RegL.pure (p := (pEq (.int .i64 a_2))) rfl rfl rfl (J_move rfl (Opd.tmp rfl)) ?_
      refine RegL.pure (p := (pEq (.int .i64 a_2))) rfl rfl rfl (J_assign rfl (Opd.tmp rfl)) ?_
      refine RegL.nil ?_
      refine Ct.then_tr ?_
      refine Tr.weak (Γ' := [(0, (pEq (.slice ho0 hn0 hc0))), (2, (pEq (.int .i64 a_2))), (4, (pFn Try.prog (fun x : (Int × Int) => [(pEq (.int .i64 x.1)), (pEq (.int .i64 x.2))]) a_4 (fun y => (pEq (.int .i64 y))))), (14, (pEq (.int .i64 a_1))), (15, (pEq (.int .i64 a_2)))]) ⟨rfl, rfl, rfl, rfl, rfl, trivial⟩ ?_
      refine Tr.seq ?_
      replace h := bind_some h; obtain ⟨x26, hx26, h⟩ := h
      refine Tr.cut (γ := Unit) (Γm := fun g => [(0, (pEq (.slice ho0 hn0 hc0))), (2, (pEq (.int .i64 a_2))), (14, (pEq (.int .i64 x26)))]) (Ωm := fun g => [oSl 2 1 (cK .i64) ho0 hn0 hc0 a_0]) ?_ (fun g37 => ?_)
      · clear h
        have h := hx26
        clear hx26
        refine Tr.block ?_
        refine Tr.weak (Γ' := [(0, (pEq (.slice ho0 hn0 hc0))), (2, (pEq (.int .i64 a_2))), (4, (pFn Try.prog (fun x : (Int × Int) => [(pEq (.int .i64 x.1)), (pEq (.int .i64 x.2))]) a_4 (fun y => (pEq (.int .i64 y))))), (14, (pEq (.int .i64 a_1))), (15, (pEq (.int .i64 a_2)))]) ⟨rfl, rfl, rfl, rfl, rfl, trivial⟩ ?_
        refine Tr.loop (γ := Unit) (σ := (Int × Int)) (Γσ := fun s g => [(0, (pEq (.slice ho0 hn0 hc0))), (2, (pEq (.int .i64 a_2))), (4, (pFn Try.prog (fun x : (Int × Int) => [(pEq (.int .i64 x.1)), (pEq (.int .i64 x.2))]) a_4 (fun y => (pEq (.int .i64 y))))), (14, (pEq (.int .i64 s.1))), (15, (pEq (.int .i64 s.2)))]) (Ωσ := fun s g => [oSl 2 1 (cK .i64) ho0 hn0 hc0 a_0]) (g := ()) h ?_
        clear h
        rintro ⟨v28, v29⟩ g30 t h
        replace h : m_slices_symMergeCmpFunc_int64_B27 a_0 a_2 a_4 v28 v29 = some t := h
        unfold m_slices_symMergeCmpFunc_int64_B27 at h
        refine Tr.weakO (Γ' := [(0, (pEq (.slice ho0 hn0 hc0))), (2, (pEq (.int .i64 a_2))), (4, (pFn Try.prog (fun x : (Int × Int) => [(pEq (.int .i64 x.1)), (pEq (.int .i64 x.2))]) a_4 (fun y => (pEq (.int .i64 y))))), (14, (pEq (.int .i64 v28))), (15, (pEq (.int .i64 v29)))]) (Ω' := [oSl 2 1 (cK .i64) ho0 hn0 hc0 a_0]) rfl ⟨rfl, rfl, rfl, rfl, rfl, trivial⟩ ?_
        refine Tr.seq ?_
        refine Tr.seq ?_
        refine Tr.region ?_
        refine RegL.pure (p := (pEq (.int .i64 v28))) rfl rfl rfl (J_move rfl (Opd.tmp rfl)) ?_
        refine RegL.pure (p := (pEq (.int .i64 v29))) rfl rfl rfl (J_move rfl (Opd.tmp rfl)) ?_
        refine RegL.pure (p := (pEq (.bool (decide (v28 < v29))))) rfl rfl rfl (J_bin rfl (Opd.tmp rfl) (Opd.tmp rfl) B_lss) ?_
        refine RegL.nil ?_
        refine Ct.then_tr ?_
        refine Tr.weak (Γ' := [(0, (pEq (.slice ho0 hn0 hc0))), (2, (pEq (.int .i64 a_2))), (4, (pFn Try.prog (fun x : (Int × Int) => [(pEq (.int .i64 x.1)), (pEq (.int .i64 x.2))]) a_4 (fun y => (pEq (.int .i64 y))))), (14, (pEq (.int .i64 v28))), (15, (pEq (.int .i64 v29))), (85, (pEq (.bool (decide (v28 < v29)))))]) ⟨rfl, rfl, rfl, rfl, rfl, rfl, trivial⟩ ?_
        refine Tr.cond (Opd.tmp rfl) (fun hc => ?_) (fun hc => ?_)
        · replace h := bif_t hc h
          refine Tr.skip ?_
          refine Ct.then_tr ?_
          refine Tr.weak (Γ' := [(0, (pEq (.slice ho0 hn0 hc0))), (2, (pEq (.int .i64 a_2))), (4, (pFn Try.prog (fun x : (Int × Int) => [(pEq (.int .i64 x.1)), (pEq (.int .i64 x.2))]) a_4 (fun y => (pEq (.int .i64 y))))), (14, (pEq (.int .i64 v28))), (15, (pEq (.int .i64 v29)))]) ⟨rfl, rfl, rfl, rfl, rfl, trivial⟩ ?_
          refine Tr.block ?_
          refine Tr.seq ?_
          refine Tr.region ?_
          refine RegL.pure (p := (pEq (.int .i64 v28))) rfl rfl rfl (J_move rfl (Opd.tmp rfl)) ?_
          refine RegL.pure (p := (pEq (.int .i64 v29))) rfl rfl rfl (J_move rfl (Opd.tmp rfl)) ?_
          refine RegL.pure (p := (pEq (.int .i64 (w64 (v28 + v29))))) rfl rfl rfl (J_bin rfl (Opd.tmp rfl) (Opd.tmp rfl) B_add) ?_
          refine RegL.pure (p := (pEq (.int .u64 (IntKind.wrap .u64 ((w64 (v28 + v29))))))) rfl rfl rfl (J_conv rfl Try.underlying3 Try.underlying92 (Opd.tmp rfl)) ?_
          replace h := bind_some h; obtain ⟨x31, hx31, h⟩ := h
          refine RegL.pure (p := (pEq (.int .u64 x31))) rfl rfl rfl (J_bin rfl (Opd.tmp rfl) Opd.con (B_bitshr hx31)) ?_
          refine RegL.pure (p := (pEq (.int .i64 (w64 (x31))))) rfl rfl rfl (J_conv rfl Try.underlying92 Try.underlying3 (Opd.tmp rfl)) ?_
          refine RegL.pure (p := (pEq (.int .i64 (w64 (x31))))) rfl rfl rfl (J_assign rfl (Opd.tmp rfl)) ?_
          refine RegL.nil ?_
          refine Ct.then_tr ?_
          refine Tr.weak (Γ' := [(0, (pEq (.slice ho0 hn0 hc0))), (2, (pEq (.int .i64 a_2))), (4, (pFn Try.prog (fun x : (Int × Int) => [(pEq (.int .i64 x.1)), (pEq (.int .i64 x.2))]) a_4 (fun y => (pEq (.int .i64 y))))), (14, (pEq (.int .i64 v28))), (15, (pEq (.int .i64 v29))), (16, (pEq (.int .i64 (w64 (x31)))))]) ⟨rfl, rfl, rfl, rfl, rfl, rfl, trivial⟩ ?_
          refine Tr.seq ?_
          replace h := bind_some h; obtain ⟨x32, hx32, h⟩ := h
          replace h := bind_some h; obtain ⟨x33, hx33, h⟩ := h
          replace h := bind_some h; obtain ⟨x34, hx34, h⟩ := h
          refine Tr.drawD (n := 220) (m := 12) (es := [some (Ent.mk [(4, (pFn Try.prog (fun x : (Int × Int) => [(pEq (.int .i64 x.1)), (pEq (.int .i64 x.2))]) a_4 (fun y => (pEq (.int .i64 y)))))] (pFn Try.prog (fun x : (Int × Int) => [(pEq (.int .i64 x.1)), (pEq (.int .i64 x.2))]) a_4 (fun y => (pEq (.int .i64 y)))) true), some (Ent.mk [(0, (pEq (.slice ho0 hn0 hc0)))] (pEq (.slice ho0 hn0 hc0)) true), some (Ent.mk [(2, (pEq (.int .i64 a_2)))] (pEq (.int .i64 a_2)) true), some (Ent.mk [(93, (pEq (.slice ho0 hn0 hc0))), (94, (pEq (.int .i64 a_2)))] (pEq (.pointer (some ⟨blk ho0, (a_2).toNat * 1, none⟩))) true), some (Ent.mk [(95, (pEq (.pointer (some ⟨blk ho0, (a_2).toNat * 1, none⟩))))] (pEq (.int .i64 x32)) true), some (Ent.mk [(0, (pEq (.slice ho0 hn0 hc0)))] (pEq (.slice ho0 hn0 hc0)) true), some (Ent.mk [(16, (pEq (.int .i64 (w64 (x31)))))] (pEq (.int .i64 (w64 (x31)))) true), some (Ent.mk [(97, (pEq (.slice ho0 hn0 hc0))), (98, (pEq (.int .i64 (w64 (x31)))))] (pEq (.pointer (some ⟨blk ho0, ((w64 (x31))).toNat * 1, none⟩))) true), some (Ent.mk [(99, (pEq (.pointer (some ⟨blk ho0, ((w64 (x31))).toNat * 1, none⟩))))] (pEq (.int .i64 x33)) true), some (Ent.mk [(92, (pFn Try.prog (fun x : (Int × Int) => [(pEq (.int .i64 x.1)), (pEq (.int .i64 x.2))]) a_4 (fun y => (pEq (.int .i64 y))))), (96, (pEq (.int .i64 x32))), (100, (pEq (.int .i64 x33)))] (pEq (.int .i64 x34)) true), some (Ent.mk [(101, (pEq (.int .i64 x34)))] (pEq (.bool (decide (x34 < (0 : Int))))) true), some (Ent.mk [(102, (pEq (.bool (decide (x34 < (0 : Int))))))] (pEq (.bool (!(decide (x34 < (0 : Int)))))) true)]) (rd := [[4], [0], [2], [93, 94], [95], [0], [16], [97, 98], [99], [92, 96, 100], [101], [102]]) rfl hmix (by kernel_rfl) fun hD => ?_
          refine RD.fin (es := [Ent.mk [(4, (pFn Try.prog (fun x : (Int × Int) => [(pEq (.int .i64 x.1)), (pEq (.int .i64 x.2))]) a_4 (fun y => (pEq (.int .i64 y)))))] (pFn Try.prog (fun x : (Int × Int) => [(pEq (.int .i64 x.1)), (pEq (.int .i64 x.2))]) a_4 (fun y => (pEq (.int .i64 y)))) true, Ent.mk [(0, (pEq (.slice ho0 hn0 hc0)))] (pEq (.slice ho0 hn0 hc0)) true, Ent.mk [(2, (pEq (.int .i64 a_2)))] (pEq (.int .i64 a_2)) true, Ent.mk [(93, (pEq (.slice ho0 hn0 hc0))), (94, (pEq (.int .i64 a_2)))] (pEq (.pointer (some ⟨blk ho0, (a_2).toNat * 1, none⟩))) true, Ent.mk [(95, (pEq (.pointer (some ⟨blk ho0, (a_2).toNat * 1, none⟩))))] (pEq (.int .i64 x32)) true, Ent.mk [(0, (pEq (.slice ho0 hn0 hc0)))] (pEq (.slice ho0 hn0 hc0)) true, Ent.mk [(16, (pEq (.int .i64 (w64 (x31)))))] (pEq (.int .i64 (w64 (x31)))) true, Ent.mk [(97, (pEq (.slice ho0 hn0 hc0))), (98, (pEq (.int .i64 (w64 (x31)))))] (pEq (.pointer (some ⟨blk ho0, ((w64 (x31))).toNat * 1, none⟩))) true, Ent.mk [(99, (pEq (.pointer (some ⟨blk ho0, ((w64 (x31))).toNat * 1, none⟩))))] (pEq (.int .i64 x33)) true, Ent.mk [(92, (pFn Try.prog (fun x : (Int × Int) => [(pEq (.int .i64 x.1)), (pEq (.int .i64 x.2))]) a_4 (fun y => (pEq (.int .i64 y))))), (96, (pEq (.int .i64 x32))), (100, (pEq (.int .i64 x33)))] (pEq (.int .i64 x34)) true, Ent.mk [(101, (pEq (.int .i64 x34)))] (pEq (.bool (decide (x34 < (0 : Int))))) true, Ent.mk [(102, (pEq (.bool (decide (x34 < (0 : Int))))))] (pEq (.bool (!(decide (x34 < (0 : Int)))))) true]) (done := []) hD ⟨.inr ⟨(OpJ.w (J_move rfl (Opd.tmp rfl))), ⟨rfl, trivial⟩, rfl, rfl⟩, ⟨.inr ⟨(OpJ.w (J_move rfl (Opd.tmp rfl))), ⟨rfl, trivial⟩, rfl, rfl⟩, ⟨.inr ⟨(OpJ.w (J_move rfl (Opd.tmp rfl))), ⟨rfl, trivial⟩, rfl, rfl⟩, ⟨.inr ⟨(W_rowIdx (j := 0) rfl Try.underlying26 sz2 (Opd.tmp rfl) (Opd.tmp rfl) rfl (idx_lt hx32)), ⟨rfl, rfl, trivial⟩, rfl, rfl⟩, ⟨.inr ⟨(W_rowLoad (j := 0) (f := (cK .i64)) rfl Try.isAgg2 (fun _ => rfl) (Opd.tmp rfl) rfl hx32 rfl), ⟨rfl, trivial⟩, rfl, rfl⟩, ⟨.inr ⟨(OpJ.w (J_move rfl (Opd.tmp rfl))), ⟨rfl, trivial⟩, rfl, rfl⟩, ⟨.inr ⟨(OpJ.w (J_move rfl (Opd.tmp rfl))), ⟨rfl, trivial⟩, rfl, rfl⟩, ⟨.inr ⟨(W_rowIdx (j := 0) rfl Try.underlying26 sz2 (Opd.tmp rfl) (Opd.tmp rfl) rfl (idx_lt hx33)), ⟨rfl, rfl, trivial⟩, rfl, rfl⟩, ⟨.inr ⟨(W_rowLoad (j := 0) (f := (cK .i64)) rfl Try.isAgg2 (fun _ => rfl) (Opd.tmp rfl) rfl hx33 rfl), ⟨rfl, trivial⟩, rfl, rfl⟩, ⟨.inr ⟨(OpJ.w (J_callv (x := (x32, x33)) rfl (Opd.tmp rfl) rfl (Opds.cons (Opd.tmp rfl) (Opds.cons (Opd.tmp rfl) Opds.nil)) hx34 rfl)), ⟨rfl, rfl, rfl, trivial⟩, rfl, rfl⟩, ⟨.inr ⟨(OpJ.w (J_bin rfl (Opd.tmp rfl) Opd.con B_lss)), ⟨rfl, trivial⟩, rfl, rfl⟩, ⟨.inr ⟨(OpJ.w (J_not rfl (Opd.tmp rfl))), ⟨rfl, trivial⟩, rfl, rfl⟩, trivial⟩⟩⟩⟩⟩⟩⟩⟩⟩⟩⟩⟩ ?_
          refine RegL.nil ?_
          refine Ct.then_tr ?_
          refine Tr.weak (Γ' := [(0, (pEq (.slice ho0 hn0 hc0))), (2, (pEq (.int .i64 a_2))), (4, (pFn Try.prog (fun x : (Int × Int) => [(pEq (.int .i64 x.1)), (pEq (.int .i64 x.2))]) a_4 (fun y => (pEq (.int .i64 y))))), (14, (pEq (.int .i64 v28))), (15, (pEq (.int .i64 v29))), (16, (pEq (.int .i64 (w64 (x31))))), (103, (pEq (.bool (!(decide (x34 < (0 : Int)))))))]) ⟨rfl, rfl, rfl, rfl, rfl, rfl, rfl, trivial⟩ ?_
          replace h := bind_some h; obtain ⟨x35, hx35, h⟩ := h
          refine Tr.cut (γ := Unit) (Γm := fun g => [(0, (pEq (.slice ho0 hn0 hc0))), (2, (pEq (.int .i64 a_2))), (4, (pFn Try.prog (fun x : (Int × Int) => [(pEq (.int .i64 x.1)), (pEq (.int .i64 x.2))]) a_4 (fun y => (pEq (.int .i64 y))))), (14, (pEq (.int .i64 x35.1))), (15, (pEq (.int .i64 x35.2)))]) (Ωm := fun g => [oSl 2 1 (cK .i64) ho0 hn0 hc0 a_0]) ?_ (fun g36 => ?_)
          · clear h
            have h := hx35
            clear hx35
            refine Tr.cond (Opd.tmp rfl) (fun hc => ?_) (fun hc => ?_)
            · replace h := bif_t hc h
              refine Tr.region ?_
              refine RegL.pure (p := (pEq (.int .i64 (w64 (x31))))) rfl rfl rfl (J_move rfl (Opd.tmp rfl)) ?_
              refine RegL.pure (p := (pEq (.int .i64 (w64 ((w64 (x31)) + (1 : Int)))))) rfl rfl rfl (J_bin rfl (Opd.tmp rfl) Opd.con B_add) ?_
              refine RegL.pure (p := (pEq (.int .i64 (w64 ((w64 (x31)) + (1 : Int)))))) rfl rfl rfl (J_assign rfl (Opd.tmp rfl)) ?_
              refine RegL.nil ?_
              replace h := Option.some.inj h; subst h
              exact Ct.mid () rfl ⟨rfl, rfl, rfl, rfl, rfl, trivial⟩
            · replace h := bif_f hc h
              refine Tr.region ?_
              refine RegL.pure (p := (pEq (.int .i64 (w64 (x31))))) rfl rfl rfl (J_move rfl (Opd.tmp rfl)) ?_
              refine RegL.pure (p := (pEq (.int .i64 (w64 (x31))))) rfl rfl rfl (J_assign rfl (Opd.tmp rfl)) ?_
              refine RegL.nil ?_
              replace h := Option.some.inj h; subst h
              exact Ct.mid () rfl ⟨rfl, rfl, rfl, rfl, rfl, trivial⟩
          · clear hx35
            refine Ct.blk_normal ?_
            replace h := Option.some.inj h; subst h
            exact Ct.again () rfl ⟨rfl, rfl, rfl, rfl, rfl, trivial⟩
        · replace h := bif_f hc h
          refine Tr.exit ?_
          refine Ct.then_exit ?_
          replace h := map_some h; obtain ⟨r1, h, rfl⟩ := h
          refine Ct.out_exit fun e => ?_
          subst e
          refine Ct.blk_exit ?_
          replace h := Option.some.inj h; subst h
          exact Ct.mid () rfl ⟨rfl, rfl, rfl, trivial⟩
      · clear hx26
        refine Ct.then_tr ?_
        refine Tr.weak (Γ' := [(0, (pEq (.slice ho0 hn0 hc0))), (2, (pEq (.int .i64 a_2))), (14, (pEq (.int .i64 x26)))]) ⟨rfl, rfl, rfl, trivial⟩ ?_
        refine Tr.seq ?_
        refine Tr.seq ?_
        refine Tr.region ?_
        refine RegL.pure (p := (pEq (.int .i64 a_2))) rfl rfl rfl (J_move rfl (Opd.tmp rfl)) ?_
        refine RegL.pure (p := (pEq (.int .i64 a_2))) rfl rfl rfl (J_assign rfl (Opd.tmp rfl)) ?_
        refine RegL.nil ?_
        refine Ct.then_tr ?_
        refine Tr.weak (Γ' := [(0, (pEq (.slice ho0 hn0 hc0))), (14, (pEq (.int .i64 x26))), (17, (pEq (.int .i64 a_2)))]) ⟨rfl, rfl, rfl, trivial⟩ ?_
        replace h := bind_some h; obtain ⟨x38, hx38, h⟩ := h
        refine Tr.cut (γ := Unit) (Γm := fun g => []) (Ωm := fun g => [oSl 2 1 (cK .i64) ho0 hn0 hc0 x38]) ?_ (fun g49 => ?_)
        · clear h
          have h := hx38
          clear hx38
          refine Tr.block ?_
          refine Tr.weak (Γ' := [(0, (pEq (.slice ho0 hn0 hc0))), (14, (pEq (.int .i64 x26))), (17, (pEq (.int .i64 a_2)))]) ⟨rfl, rfl, rfl, trivial⟩ ?_
          refine Tr.loop (γ := Unit) (σ := (Int × (List Int))) (Γσ := fun s g => [(0, (pEq (.slice ho0 hn0 hc0))), (14, (pEq (.int .i64 x26))), (17, (pEq (.int .i64 s.1)))]) (Ωσ := fun s g => [oSl 2 1 (cK .i64) ho0 hn0 hc0 s.2]) (g := ()) h ?_
          clear h
          rintro ⟨v40, v41⟩ g42 t h
          replace h : m_slices_symMergeCmpFunc_int64_B39 x26 v40 v41 = some t := h
          unfold m_slices_symMergeCmpFunc_int64_B39 at h
          refine Tr.weakO (Γ' := [(0, (pEq (.slice ho0 hn0 hc0))), (14, (pEq (.int .i64 x26))), (17, (pEq (.int .i64 v40)))]) (Ω' := [oSl 2 1 (cK .i64) ho0 hn0 hc0 v41]) rfl ⟨rfl, rfl, rfl, trivial⟩ ?_
          refine Tr.seq ?_
          refine Tr.seq ?_
          refine Tr.region ?_
          refine RegL.pure (p := (pEq (.int .i64 v40))) rfl rfl rfl (J_move rfl (Opd.tmp rfl)) ?_
          refine RegL.pure (p := (pEq (.int .i64 x26))) rfl rfl rfl (J_move rfl (Opd.tmp rfl)) ?_
          refine RegL.pure (p := (pEq (.bool (decide (x26 < v40))))) rfl rfl rfl (J_bin rfl (Opd.tmp rfl) (Opd.tmp rfl) B_gtr) ?_
          refine RegL.nil ?_
          refine Ct.then_tr ?_
          refine Tr.weak (Γ' := [(0, (pEq (.slice ho0 hn0 hc0))), (14, (pEq (.int .i64 x26))), (17, (pEq (.int .i64 v40))), (110, (pEq (.bool (decide (x26 < v40)))))]) ⟨rfl, rfl, rfl, rfl, trivial⟩ ?_
          refine Tr.cond (Opd.tmp rfl) (fun hc => ?_) (fun hc => ?_)
          · replace h := bif_t hc h
            refine Tr.skip ?_
            refine Ct.then_tr ?_
            refine Tr.weak (Γ' := [(0, (pEq (.slice ho0 hn0 hc0))), (14, (pEq (.int .i64 x26))), (17, (pEq (.int .i64 v40)))]) ⟨rfl, rfl, rfl, trivial⟩ ?_
            refine Tr.seq ?_
            refine Tr.block ?_
            replace h := bind_some h; obtain ⟨x43, hx43, h⟩ := h
            replace h := bind_some h; obtain ⟨x44, hx44, h⟩ := h
            replace h := bind_some h; obtain ⟨u45, hu45, h⟩ := h
            refine Tr.drawD (n := 220) (m := 16) (es := [some (Ent.mk [(0, (pEq (.slice ho0 hn0 hc0)))] (pEq (.slice ho0 hn0 hc0)) true), some (Ent.mk [(17, (pEq (.int .i64 v40)))] (pEq (.int .i64 v40)) true), some (Ent.mk [(0, (pEq (.slice ho0 hn0 hc0)))] (pEq (.slice ho0 hn0 hc0)) true), some (Ent.mk [(17, (pEq (.int .i64 v40)))] (pEq (.int .i64 v40)) true), some (Ent.mk [(116, (pEq (.int .i64 v40)))] (pEq (.int .i64 (w64 (v40 - (1 : Int))))) true), some (Ent.mk [(0, (pEq (.slice ho0 hn0 hc0)))] (pEq (.slice ho0 hn0 hc0)) true), some (Ent.mk [(17, (pEq (.int .i64 v40)))] (pEq (.int .i64 v40)) true), some (Ent.mk [(119, (pEq (.int .i64 v40)))] (pEq (.int .i64 (w64 (v40 - (1 : Int))))) true), some (Ent.mk [(118, (pEq (.slice ho0 hn0 hc0))), (120, (pEq (.int .i64 (w64 (v40 - (1 : Int))))))] (pEq (.pointer (some ⟨blk ho0, ((w64 (v40 - (1 : Int)))).toNat * 1, none⟩))) true), some (Ent.mk [(121, (pEq (.pointer (some ⟨blk ho0, ((w64 (v40 - (1 : Int)))).toNat * 1, none⟩))))] (pEq (.int .i64 x43)) true), some (Ent.mk [(0, (pEq (.slice ho0 hn0 hc0)))] (pEq (.slice ho0 hn0 hc0)) true), some (Ent.mk [(17, (pEq (.int .i64 v40)))] (pEq (.int .i64 v40)) true), some (Ent.mk [(123, (pEq (.slice ho0 hn0 hc0))), (124, (pEq (.int .i64 v40)))] (pEq (.pointer (some ⟨blk ho0, (v40).toNat * 1, none⟩))) true), some (Ent.mk [(125, (pEq (.pointer (some ⟨blk ho0, (v40).toNat * 1, none⟩))))] (pEq (.int .i64 x44)) true), some (Ent.mk [(113, (pEq (.slice ho0 hn0 hc0))), (114, (pEq (.int .i64 v40)))] (pEq (.pointer (some ⟨blk ho0, (v40).toNat * 1, none⟩))) true), none]) (rd := [[0], [17], [0], [17], [116], [0], [17], [119], [118, 120], [121], [0], [17], [123, 124], [125], [113, 114], [122, 127]]) rfl hmix (by kernel_rfl) fun hD => ?_
            refine RD.step hD (es := [some (Ent.mk [(0, (pEq (.slice ho0 hn0 hc0)))] (pEq (.slice ho0 hn0 hc0)) true), some (Ent.mk [(17, (pEq (.int .i64 v40)))] (pEq (.int .i64 v40)) true), some (Ent.mk [(0, (pEq (.slice ho0 hn0 hc0)))] (pEq (.slice ho0 hn0 hc0)) true), some (Ent.mk [(17, (pEq (.int .i64 v40)))] (pEq (.int .i64 v40)) true), some (Ent.mk [(116, (pEq (.int .i64 v40)))] (pEq (.int .i64 (w64 (v40 - (1 : Int))))) true), some (Ent.mk [(0, (pEq (.slice ho0 hn0 hc0)))] (pEq (.slice ho0 hn0 hc0)) true), some (Ent.mk [(17, (pEq (.int .i64 v40)))] (pEq (.int .i64 v40)) true), some (Ent.mk [(119, (pEq (.int .i64 v40)))] (pEq (.int .i64 (w64 (v40 - (1 : Int))))) true), some (Ent.mk [(118, (pEq (.slice ho0 hn0 hc0))), (120, (pEq (.int .i64 (w64 (v40 - (1 : Int))))))] (pEq (.pointer (some ⟨blk ho0, ((w64 (v40 - (1 : Int)))).toNat * 1, none⟩))) true), some (Ent.mk [(121, (pEq (.pointer (some ⟨blk ho0, ((w64 (v40 - (1 : Int)))).toNat * 1, none⟩))))] (pEq (.int .i64 x43)) true), some (Ent.mk [(0, (pEq (.slice ho0 hn0 hc0)))] (pEq (.slice ho0 hn0 hc0)) true), some (Ent.mk [(17, (pEq (.int .i64 v40)))] (pEq (.int .i64 v40)) true), some (Ent.mk [(123, (pEq (.slice ho0 hn0 hc0))), (124, (pEq (.int .i64 v40)))] (pEq (.pointer (some ⟨blk ho0, (v40).toNat * 1, none⟩))) true), some (Ent.mk [(125, (pEq (.pointer (some ⟨blk ho0, (v40).toNat * 1, none⟩))))] (pEq (.int .i64 x44)) true), some (Ent.mk [(113, (pEq (.slice ho0 hn0 hc0))), (114, (pEq (.int .i64 v40)))] (pEq (.pointer (some ⟨blk ho0, (v40).toNat * 1, none⟩))) true), none]) (done := []) (mask := [true, true, true, true, true, true, true, true, true, true, true, true, true, true, true, false]) (γ := Unit) (p := fun _ => pAny) (Ω' := fun _ => [oSl 2 1 (cK .i64) ho0 hn0 hc0 (v41.set (v40).toNat x43)]) (es' := fun g46 => [some (Ent.mk [(0, (pEq (.slice ho0 hn0 hc0)))] (pEq (.slice ho0 hn0 hc0)) true), some (Ent.mk [(17, (pEq (.int .i64 v40)))] (pEq (.int .i64 v40)) true), some (Ent.mk [(0, (pEq (.slice ho0 hn0 hc0)))] (pEq (.slice ho0 hn0 hc0)) true), some (Ent.mk [(17, (pEq (.int .i64 v40)))] (pEq (.int .i64 v40)) true), some (Ent.mk [(116, (pEq (.int .i64 v40)))] (pEq (.int .i64 (w64 (v40 - (1 : Int))))) true), some (Ent.mk [(0, (pEq (.slice ho0 hn0 hc0)))] (pEq (.slice ho0 hn0 hc0)) true), some (Ent.mk [(17, (pEq (.int .i64 v40)))] (pEq (.int .i64 v40)) true), some (Ent.mk [(119, (pEq (.int .i64 v40)))] (pEq (.int .i64 (w64 (v40 - (1 : Int))))) true), some (Ent.mk [(118, (pEq (.slice ho0 hn0 hc0))), (120, (pEq (.int .i64 (w64 (v40 - (1 : Int))))))] (pEq (.pointer (some ⟨blk ho0, ((w64 (v40 - (1 : Int)))).toNat * 1, none⟩))) true), some (Ent.mk [(121, (pEq (.pointer (some ⟨blk ho0, ((w64 (v40 - (1 : Int)))).toNat * 1, none⟩))))] (pEq (.int .i64 x43)) true), some (Ent.mk [(0, (pEq (.slice ho0 hn0 hc0)))] (pEq (.slice ho0 hn0 hc0)) true), some (Ent.mk [(17, (pEq (.int .i64 v40)))] (pEq (.int .i64 v40)) true), some (Ent.mk [(123, (pEq (.slice ho0 hn0 hc0))), (124, (pEq (.int .i64 v40)))] (pEq (.pointer (some ⟨blk ho0, (v40).toNat * 1, none⟩))) true), some (Ent.mk [(125, (pEq (.pointer (some ⟨blk ho0, (v40).toNat * 1, none⟩))))] (pEq (.int .i64 x44)) true), some (Ent.mk [(113, (pEq (.slice ho0 hn0 hc0))), (114, (pEq (.int .i64 v40)))] (pEq (.pointer (some ⟨blk ho0, (v40).toNat * 1, none⟩))) true), some (Ent.mk [(122, (pEq (.int .i64 x43))), (127, (pEq (.pointer (some ⟨blk ho0, (v40).toNat * 1, none⟩))))] ((fun _ => pAny) g46) true)]) (Γc := [(122, (pEq (.int .i64 x43))), (127, (pEq (.pointer (some ⟨blk ho0, (v40).toNat * 1, none⟩))))]) 15 rfl rfl rfl (by kernel_rfl) ⟨.inr ⟨(OpJ.w (J_move rfl (Opd.tmp rfl))), ⟨rfl, trivial⟩, rfl, rfl⟩, ⟨.inr ⟨(OpJ.w (J_move rfl (Opd.tmp rfl))), ⟨rfl, trivial⟩, rfl, rfl⟩, ⟨.inr ⟨(OpJ.w (J_move rfl (Opd.tmp rfl))), ⟨rfl, trivial⟩, rfl, rfl⟩, ⟨.inr ⟨(OpJ.w (J_move rfl (Opd.tmp rfl))), ⟨rfl, trivial⟩, rfl, rfl⟩, ⟨.inr ⟨(OpJ.w (J_bin rfl (Opd.tmp rfl) Opd.con B_sub)), ⟨rfl, trivial⟩, rfl, rfl⟩, ⟨.inr ⟨(OpJ.w (J_move rfl (Opd.tmp rfl))), ⟨rfl, trivial⟩, rfl, rfl⟩, ⟨.inr ⟨(OpJ.w (J_move rfl (Opd.tmp rfl))), ⟨rfl, trivial⟩, rfl, rfl⟩, ⟨.inr ⟨(OpJ.w (J_bin rfl (Opd.tmp rfl) Opd.con B_sub)), ⟨rfl, trivial⟩, rfl, rfl⟩, ⟨.inr ⟨(W_rowIdx (j := 0) rfl Try.underlying26 sz2 (Opd.tmp rfl) (Opd.tmp rfl) rfl (idx_lt hx43)), ⟨rfl, rfl, trivial⟩, rfl, rfl⟩, ⟨.inr ⟨(W_rowLoad (j := 0) (f := (cK .i64)) rfl Try.isAgg2 (fun _ => rfl) (Opd.tmp rfl) rfl hx43 rfl), ⟨rfl, trivial⟩, rfl, rfl⟩, ⟨.inr ⟨(OpJ.w (J_move rfl (Opd.tmp rfl))), ⟨rfl, trivial⟩, rfl, rfl⟩, ⟨.inr ⟨(OpJ.w (J_move rfl (Opd.tmp rfl))), ⟨rfl, trivial⟩, rfl, rfl⟩, ⟨.inr ⟨(W_rowIdx (j := 0) rfl Try.underlying26 sz2 (Opd.tmp rfl) (Opd.tmp rfl) rfl (idx_lt hx44)), ⟨rfl, rfl, trivial⟩, rfl, rfl⟩, ⟨.inr ⟨(W_rowLoad (j := 0) (f := (cK .i64)) rfl Try.isAgg2 (fun _ => rfl) (Opd.tmp rfl) rfl hx44 rfl), ⟨rfl, trivial⟩, rfl, rfl⟩, ⟨.inr ⟨(W_rowIdx (j := 0) rfl Try.underlying26 sz2 (Opd.tmp rfl) (Opd.tmp rfl) rfl (inB_some hu45)), ⟨rfl, rfl, trivial⟩, rfl, rfl⟩, trivial⟩⟩⟩⟩⟩⟩⟩⟩⟩⟩⟩⟩⟩⟩⟩ rfl rfl ⟨rfl, rfl, trivial⟩ (fun _ => M_rowStore rfl sz2 (fun _ => rfl) (Opd.tmp rfl) (Opd.tmp rfl) rfl OneC.int (setL_of (inB_some hu45))) (fun g46 => ⟨rfl, ⟨rfl, ⟨rfl, ⟨rfl, ⟨rfl, ⟨rfl, ⟨rfl, ⟨rfl, ⟨rfl, ⟨rfl, ⟨rfl, ⟨rfl, ⟨rfl, ⟨rfl, ⟨rfl, trivial⟩⟩⟩⟩⟩⟩⟩⟩⟩⟩⟩⟩⟩⟩⟩) (fun g46 => rfl) rfl fun g46 => ?_
            refine RD.add 15 0 rfl ?_
            refine RD.add 15 1 rfl ?_
            refine RD.add 15 5 rfl ?_
            refine RD.add 15 6 rfl ?_
            refine RD.add 15 7 rfl ?_
            refine RD.add 15 8 rfl ?_
            refine RD.add 15 9 rfl ?_
            refine RD.add 15 13 rfl ?_
            refine RD.add 15 14 rfl ?_
            refine RD.add 13 12 rfl ?_
            refine RD.add 12 10 rfl ?_
            refine RD.add 12 11 rfl ?_
            refine RD.fin (es := [Ent.mk [(0, (pEq (.slice ho0 hn0 hc0)))] (pEq (.slice ho0 hn0 hc0)) true, Ent.mk [(17, (pEq (.int .i64 v40)))] (pEq (.int .i64 v40)) true, Ent.mk [(0, (pEq (.slice ho0 hn0 hc0)))] (pEq (.slice ho0 hn0 hc0)) true, Ent.mk [(17, (pEq (.int .i64 v40)))] (pEq (.int .i64 v40)) true, Ent.mk [(116, (pEq (.int .i64 v40)))] (pEq (.int .i64 (w64 (v40 - (1 : Int))))) true, Ent.mk [(0, (pEq (.slice ho0 hn0 hc0)))] (pEq (.slice ho0 hn0 hc0)) true, Ent.mk [(17, (pEq (.int .i64 v40)))] (pEq (.int .i64 v40)) true, Ent.mk [(119, (pEq (.int .i64 v40)))] (pEq (.int .i64 (w64 (v40 - (1 : Int))))) true, Ent.mk [(118, (pEq (.slice ho0 hn0 hc0))), (120, (pEq (.int .i64 (w64 (v40 - (1 : Int))))))] (pEq (.pointer (some ⟨blk ho0, ((w64 (v40 - (1 : Int)))).toNat * 1, none⟩))) true, Ent.mk [(121, (pEq (.pointer (some ⟨blk ho0, ((w64 (v40 - (1 : Int)))).toNat * 1, none⟩))))] (pEq (.int .i64 x43)) true, Ent.mk [(0, (pEq (.slice ho0 hn0 hc0)))] (pEq (.slice ho0 hn0 hc0)) true, Ent.mk [(17, (pEq (.int .i64 v40)))] (pEq (.int .i64 v40)) true, Ent.mk [(123, (pEq (.slice ho0 hn0 hc0))), (124, (pEq (.int .i64 v40)))] (pEq (.pointer (some ⟨blk ho0, (v40).toNat * 1, none⟩))) true, Ent.mk [(125, (pEq (.pointer (some ⟨blk ho0, (v40).toNat * 1, none⟩))))] (pEq (.int .i64 x44)) true, Ent.mk [(113, (pEq (.slice ho0 hn0 hc0))), (114, (pEq (.int .i64 v40)))] (pEq (.pointer (some ⟨blk ho0, (v40).toNat * 1, none⟩))) true, Ent.mk [(122, (pEq (.int .i64 x43))), (127, (pEq (.pointer (some ⟨blk ho0, (v40).toNat * 1, none⟩))))] ((fun _ => pAny) g46) true]) (done := [11, 10, 12, 14, 13, 9, 8, 7, 6, 5, 1, 0, 15]) hD ⟨.inl rfl, ⟨.inl rfl, ⟨.inr ⟨(OpJ.w (J_move rfl (Opd.tmp rfl))), ⟨rfl, trivial⟩, rfl, rfl⟩, ⟨.inr ⟨(OpJ.w (J_move rfl (Opd.tmp rfl))), ⟨rfl, trivial⟩, rfl, rfl⟩, ⟨.inr ⟨(OpJ.w (J_bin rfl (Opd.tmp rfl) Opd.con B_sub)), ⟨rfl, trivial⟩, rfl, rfl⟩, ⟨.inl rfl, ⟨.inl rfl, ⟨.inl rfl, ⟨.inl rfl, ⟨.inl rfl, ⟨.inl rfl, ⟨.inl rfl, ⟨.inl rfl, ⟨.inl rfl, ⟨.inl rfl, ⟨.inl rfl, trivial⟩⟩⟩⟩⟩⟩⟩⟩⟩⟩⟩⟩⟩⟩⟩⟩ ?_
            replace h := bind_some h; obtain ⟨u47, hu47, h⟩ := h
            refine RegL.pureW (p := (pEq (.pointer (some ⟨blk ho0, ((w64 (v40 - (1 : Int)))).toNat * 1, none⟩)))) rfl rfl rfl (W_rowIdx (j := 0) rfl Try.underlying26 sz2 (Opd.tmp rfl) (Opd.tmp rfl) rfl (inB_some hu47)) ?_
            refine RegL.stepN (γ := Unit) (p := fun _ => pAny) (Ω' := fun _ => [oSl 2 1 (cK .i64) ho0 hn0 hc0 ((v41.set (v40).toNat x43).set ((w64 (v40 - (1 : Int)))).toNat x44)]) rfl rfl (M_rowStore rfl sz2 (fun _ => rfl) (Opd.tmp rfl) (Opd.tmp rfl) rfl OneC.int (setL_of (inB_some hu47))) fun g48 => ?_
            refine RegL.nil ?_
            refine Ct.blk_normal ?_
            refine Ct.then_tr ?_
            refine Tr.weak (Γ' := [(0, (pEq (.slice ho0 hn0 hc0))), (14, (pEq (.int .i64 x26))), (17, (pEq (.int .i64 v40)))]) ⟨rfl, rfl, rfl, trivial⟩ ?_
            refine Tr.region ?_
            refine RegL.pure (p := (pEq (.int .i64 v40))) rfl rfl rfl (J_move rfl (Opd.tmp rfl)) ?_
            refine RegL.pure (p := (pEq (.int .i64 (w64 (v40 - (1 : Int)))))) rfl rfl rfl (J_bin rfl (Opd.tmp rfl) Opd.con B_sub) ?_
            refine RegL.pure (p := (pEq (.int .i64 (w64 (v40 - (1 : Int)))))) rfl rfl rfl (J_assign rfl (Opd.tmp rfl)) ?_
            refine RegL.nil ?_
            replace h := Option.some.inj h; subst h
            exact Ct.again () rfl ⟨rfl, rfl, rfl, trivial⟩
          · replace h := bif_f hc h
            refine Tr.exit ?_
            refine Ct.then_exit ?_
            replace h := map_some h; obtain ⟨r1, h, rfl⟩ := h
            refine Ct.out_exit fun e => ?_
            subst e
            refine Ct.blk_exit ?_
            replace h := Option.some.inj h; subst h
            exact Ct.mid () rfl trivial
        · clear hx38
          refine Ct.then_tr ?_
          refine Tr.weak (Γ' := []) trivial ?_
          refine Tr.ret ?_
          refine Ct.then_ret ?_
          replace h := Option.some.inj h; subst h
          exact Ct.retH0 (Ωx := []) () rfl rfl rfl
    · replace h := bif_f hc h
      refine Tr.skip ?_
      refine Ct.then_tr ?_
      refine Tr.weak (Γ' := [(0, (pEq (.slice ho0 hn0 hc0))), (1, (pEq (.int .i64 a_1))), (2, (pEq (.int .i64 a_2))), (3, (pEq (.int .i64 a_3))), (4, (pFn Try.prog (fun x : (Int × Int) => [(pEq (.int .i64 x.1)), (pEq (.int .i64 x.2))]) a_4 (fun y => (pEq (.int .i64 y)))))]) ⟨rfl, rfl, rfl, rfl, rfl, trivial⟩ ?_
      refine Tr.seq ?_
      refine Tr.region ?_
      refine RegL.pure (p := (pEq (.int .i64 a_1))) rfl rfl rfl (J_move rfl (Opd.tmp rfl)) ?_
      refine RegL.pure (p := (pEq (.int .i64 a_3))) rfl rfl rfl (J_move rfl (Opd.tmp rfl)) ?_
      refine RegL.pure (p := (pEq (.int .i64 (w64 (a_1 + a_3))))) rfl rfl rfl (J_bin rfl (Opd.tmp rfl) (Opd.tmp rfl) B_add) ?_
      refine RegL.pure (p := (pEq (.int .u64 (IntKind.wrap .u64 ((w64 (a_1 + a_3))))))) rfl rfl rfl (J_conv rfl Try.underlying3 Try.underlying92 (Opd.tmp rfl)) ?_
      replace h := bind_some h; obtain ⟨x50, hx50, h⟩ := h
      refine RegL.pure (p := (pEq (.int .u64 x50))) rfl rfl rfl (J_bin rfl (Opd.tmp rfl) Opd.con (B_bitshr hx50)) ?_
      refine RegL.pure (p := (pEq (.int .i64 (w64 (x50))))) rfl rfl rfl (J_conv rfl Try.underlying92 Try.underlying3 (Opd.tmp rfl)) ?_
      refine RegL.pure (p := (pEq (.int .i64 (w64 (x50))))) rfl rfl rfl (J_assign rfl (Opd.tmp rfl)) ?_
      refine RegL.nil ?_
      refine Ct.then_tr ?_
      refine Tr.weak (Γ' := [(0, (pEq (.slice ho0 hn0 hc0))), (1, (pEq (.int .i64 a_1))), (2, (pEq (.int .i64 a_2))), (3, (pEq (.int .i64 a_3))), (4, (pFn Try.prog (fun x : (Int × Int) => [(pEq (.int .i64 x.1)), (pEq (.int .i64 x.2))]) a_4 (fun y => (pEq (.int .i64 y))))), (18, (pEq (.int .i64 (w64 (x50)))))]) ⟨rfl, rfl, rfl, rfl, rfl, rfl, trivial⟩ ?_
      refine Tr.seq ?_
      refine Tr.region ?_
      refine RegL.pure (p := (pEq (.int .i64 (w64 (x50))))) rfl rfl rfl (J_move rfl (Opd.tmp rfl)) ?_
      refine RegL.pure (p := (pEq (.int .i64 a_2))) rfl rfl rfl (J_move rfl (Opd.tmp rfl)) ?_
      refine RegL.pure (p := (pEq (.int .i64 (w64 ((w64 (x50)) + a_2))))) rfl rfl rfl (J_bin rfl (Opd.tmp rfl) (Opd.tmp rfl) B_add) ?_
      refine RegL.pure (p := (pEq (.int .i64 (w64 ((w64 (x50)) + a_2))))) rfl rfl rfl (J_assign rfl (Opd.tmp rfl)) ?_
      refine RegL.nil ?_
      refine Ct.then_tr ?_
      refine Tr.weak (Γ' := [(0, (pEq (.slice ho0 hn0 hc0))), (1, (pEq (.int .i64 a_1))), (2, (pEq (.int .i64 a_2))), (3, (pEq (.int .i64 a_3))), (4, (pFn Try.prog (fun x : (Int × Int) => [(pEq (.int .i64 x.1)), (pEq (.int .i64 x.2))]) a_4 (fun y => (pEq (.int .i64 y))))), (18, (pEq (.int .i64 (w64 (x50))))), (19, (pEq (.int .i64 (w64 ((w64 (x50)) + a_2)))))]) ⟨rfl, rfl, rfl, rfl, rfl, rfl, rfl, trivial⟩ ?_
      refine Tr.seq ?_
      refine Tr.region ?_
      refine RegL.pure (p := (pEq (.int .i64 (0 : Int)))) rfl rfl rfl (J_assign rfl Opd.con) ?_
      refine RegL.pure (p := (pEq (.int .i64 (0 : Int)))) rfl rfl rfl (J_assign rfl Opd.con) ?_
      refine RegL.nil ?_
      refine Ct.then_tr ?_
      refine Tr.weak (Γ' := [(0, (pEq (.slice ho0 hn0 hc0))), (1, (pEq (.int .i64 a_1))), (2, (pEq (.int .i64 a_2))), (3, (pEq (.int .i64 a_3))), (4, (pFn Try.prog (fun x : (Int × Int) => [(pEq (.int .i64 x.1)), (pEq (.int .i64 x.2))]) a_4 (fun y => (pEq (.int .i64 y))))), (18, (pEq (.int .i64 (w64 (x50))))), (19, (pEq (.int .i64 (w64 ((w64 (x50)) + a_2)))))]) ⟨rfl, rfl, rfl, rfl, rfl, rfl, rfl, trivial⟩ ?_
      refine Tr.seq ?_
      refine Tr.seq ?_
      refine Tr.region ?_
      refine RegL.pure (p := (pEq (.int .i64 a_2))) rfl rfl rfl (J_move rfl (Opd.tmp rfl)) ?_
      refine RegL.pure (p := (pEq (.int .i64 (w64 (x50))))) rfl rfl rfl (J_move rfl (Opd.tmp rfl)) ?_
      refine RegL.pure (p := (pEq (.bool (decide ((w64 (x50)) < a_2))))) rfl rfl rfl (J_bin rfl (Opd.tmp rfl) (Opd.tmp rfl) B_gtr) ?_
      refine RegL.nil ?_
      refine Ct.then_tr ?_
      refine Tr.weak (Γ' := [(0, (pEq (.slice ho0 hn0 hc0))), (1, (pEq (.int .i64 a_1))), (2, (pEq (.int .i64 a_2))), (3, (pEq (.int .i64 a_3))), (4, (pFn Try.prog (fun x : (Int × Int) => [(pEq (.int .i64 x.1)), (pEq (.int .i64 x.2))]) a_4 (fun y => (pEq (.int .i64 y))))), (18, (pEq (.int .i64 (w64 (x50))))), (19, (pEq (.int .i64 (w64 ((w64 (x50)) + a_2))))), (140, (pEq (.bool (decide ((w64 (x50)) < a_2)))))]) ⟨rfl, rfl, rfl, rfl, rfl, rfl, rfl, rfl, trivial⟩ ?_
      replace h := bind_some h; obtain ⟨x51, hx51, h⟩ := h
      refine Tr.cut (γ := Unit) (Γm := fun g => [(0, (pEq (.slice ho0 hn0 hc0))), (1, (pEq (.int .i64 a_1))), (2, (pEq (.int .i64 a_2))), (3, (pEq (.int .i64 a_3))), (4, (pFn Try.prog (fun x : (Int × Int) => [(pEq (.int .i64 x.1)), (pEq (.int .i64 x.2))]) a_4 (fun y => (pEq (.int .i64 y))))), (18, (pEq (.int .i64 (w64 (x50))))), (19, (pEq (.int .i64 (w64 ((w64 (x50)) + a_2))))), (20, (pEq (.int .i64 x51.1))), (21, (pEq (.int .i64 x51.2)))]) (Ωm := fun g => [oSl 2 1 (cK .i64) ho0 hn0 hc0 a_0]) ?_ (fun g52 => ?_)
      · clear h
        have h := hx51
        clear hx51
        refine Tr.cond (Opd.tmp rfl) (fun hc => ?_) (fun hc => ?_)
        · replace h := bif_t hc h
          refine Tr.seq ?_
          refine Tr.region ?_
          refine RegL.pure (p := (pEq (.int .i64 (w64 ((w64 (x50)) + a_2))))) rfl rfl rfl (J_move rfl (Opd.tmp rfl)) ?_
          refine RegL.pure (p := (pEq (.int .i64 a_3))) rfl rfl rfl (J_move rfl (Opd.tmp rfl)) ?_
          refine RegL.pure (p := (pEq (.int .i64 (w64 ((w64 ((w64 (x50)) + a_2)) - a_3))))) rfl rfl rfl (J_bin rfl (Opd.tmp rfl) (Opd.tmp rfl) B_sub) ?_
          refine RegL.pure (p := (pEq (.int .i64 (w64 ((w64 ((w64 (x50)) + a_2)) - a_3))))) rfl rfl rfl (J_assign rfl (Opd.tmp rfl)) ?_
          refine RegL.nil ?_
          refine Ct.then_tr ?_
          refine Tr.weak (Γ' := [(0, (pEq (.slice ho0 hn0 hc0))), (1, (pEq (.int .i64 a_1))), (2, (pEq (.int .i64 a_2))), (3, (pEq (.int .i64 a_3))), (4, (pFn Try.prog (fun x : (Int × Int) => [(pEq (.int .i64 x.1)), (pEq (.int .i64 x.2))]) a_4 (fun y => (pEq (.int .i64 y))))), (18, (pEq (.int .i64 (w64 (x50))))), (19, (pEq (.int .i64 (w64 ((w64 (x50)) + a_2))))), (20, (pEq (.int .i64 (w64 ((w64 ((w64 (x50)) + a_2)) - a_3)))))]) ⟨rfl, rfl, rfl, rfl, rfl, rfl, rfl, rfl, trivial⟩ ?_
          refine Tr.region ?_
          refine RegL.pure (p := (pEq (.int .i64 (w64 (x50))))) rfl rfl rfl (J_move rfl (Opd.tmp rfl)) ?_
          refine RegL.pure (p := (pEq (.int .i64 (w64 (x50))))) rfl rfl rfl (J_assign rfl (Opd.tmp rfl)) ?_
          refine RegL.nil ?_
          replace h := Option.some.inj h; subst h
          exact Ct.mid () rfl ⟨rfl, rfl, rfl, rfl, rfl, rfl, rfl, rfl, rfl, trivial⟩
        · replace h := bif_f hc h
          refine Tr.seq ?_
          refine Tr.region ?_
          refine RegL.pure (p := (pEq (.int .i64 a_1))) rfl rfl rfl (J_move rfl (Opd.tmp rfl)) ?_
          refine RegL.pure (p := (pEq (.int .i64 a_1))) rfl rfl rfl (J_assign rfl (Opd.tmp rfl)) ?_
          refine RegL.nil ?_
          refine Ct.then_tr ?_
          refine Tr.weak (Γ' := [(0, (pEq (.slice ho0 hn0 hc0))), (1, (pEq (.int .i64 a_1))), (2, (pEq (.int .i64 a_2))), (3, (pEq (.int .i64 a_3))), (4, (pFn Try.prog (fun x : (Int × Int) => [(pEq (.int .i64 x.1)), (pEq (.int .i64 x.2))]) a_4 (fun y => (pEq (.int .i64 y))))), (18, (pEq (.int .i64 (w64 (x50))))), (19, (pEq (.int .i64 (w64 ((w64 (x50)) + a_2))))), (20, (pEq (.int .i64 a_1)))]) ⟨rfl, rfl, rfl, rfl, rfl, rfl, rfl, rfl, trivial⟩ ?_
          refine Tr.region ?_
          refine RegL.pure (p := (pEq (.int .i64 a_2))) rfl rfl rfl (J_move rfl (Opd.tmp rfl)) ?_
          refine RegL.pure (p := (pEq (.int .i64 a_2))) rfl rfl rfl (J_assign rfl (Opd.tmp rfl)) ?_
          refine RegL.nil ?_
          replace h := Option.some.inj h; subst h
          exact Ct.mid () rfl ⟨rfl, rfl, rfl, rfl, rfl, rfl, rfl, rfl, rfl, trivial⟩
      · clear hx51
        refine Ct.then_tr ?_
        refine Tr.weak (Γ' := [(0, (pEq (.slice ho0 hn0 hc0))), (1, (pEq (.int .i64 a_1))), (2, (pEq (.int .i64 a_2))), (3, (pEq (.int .i64 a_3))), (4, (pFn Try.prog (fun x : (Int × Int) => [(pEq (.int .i64 x.1)), (pEq (.int .i64 x.2))]) a_4 (fun y => (pEq (.int .i64 y))))), (18, (pEq (.int .i64 (w64 (x50))))), (19, (pEq (.int .i64 (w64 ((w64 (x50)) + a_2))))), (20, (pEq (.int .i64 x51.1))), (21, (pEq (.int .i64 x51.2)))]) ⟨rfl, rfl, rfl, rfl, rfl, rfl, rfl, rfl, rfl, trivial⟩ ?_
        refine Tr.seq ?_
        refine Tr.region ?_
        refine RegL.pure (p := (pEq (.int .i64 (w64 ((w64 (x50)) + a_2))))) rfl rfl rfl (J_move rfl (Opd.tmp rfl)) ?_
        refine RegL.pure (p := (pEq (.int .i64 (w64 ((w64 ((w64 (x50)) + a_2)) - (1 : Int)))))) rfl rfl rfl (J_bin rfl (Opd.tmp rfl) Opd.con B_sub) ?_
        refine RegL.pure (p := (pEq (.int .i64 (w64 ((w64 ((w64 (x50)) + a_2)) - (1 : Int)))))) rfl rfl rfl (J_assign rfl (Opd.tmp rfl)) ?_
        refine RegL.nil ?_
        refine Ct.then_tr ?_
        refine Tr.weak (Γ' := [(0, (pEq (.slice ho0 hn0 hc0))), (1, (pEq (.int .i64 a_1))), (2, (pEq (.int .i64 a_2))), (3, (pEq (.int .i64 a_3))), (4, (pFn Try.prog (fun x : (Int × Int) => [(pEq (.int .i64 x.1)), (pEq (.int .i64 x.2))]) a_4 (fun y => (pEq (.int .i64 y))))), (18, (pEq (.int .i64 (w64 (x50))))), (19, (pEq (.int .i64 (w64 ((w64 (x50)) + a_2))))), (20, (pEq (.int .i64 x51.1))), (21, (pEq (.int .i64 x51.2))), (22, (pEq (.int .i64 (w64 ((w64 ((w64 (x50)) + a_2)) - (1 : Int))))))]) ⟨rfl, rfl, rfl, rfl, rfl, rfl, rfl, rfl, rfl, rfl, trivial⟩ ?_
        refine Tr.seq ?_
        replace h := bind_some h; obtain ⟨x53, hx53, h⟩ := h
        refine Tr.cut (γ := Unit) (Γm := fun g => [(0, (pEq (.slice ho0 hn0 hc0))), (1, (pEq (.int .i64 a_1))), (2, (pEq (.int .i64 a_2))), (3, (pEq (.int .i64 a_3))), (4, (pFn Try.prog (fun x : (Int × Int) => [(pEq (.int .i64 x.1)), (pEq (.int .i64 x.2))]) a_4 (fun y => (pEq (.int .i64 y))))), (18, (pEq (.int .i64 (w64 (x50))))), (19, (pEq (.int .i64 (w64 ((w64 (x50)) + a_2))))), (20, (pEq (.int .i64 x53)))]) (Ωm := fun g => [oSl 2 1 (cK .i64) ho0 hn0 hc0 a_0]) ?_ (fun g64 => ?_)
        · clear h
          have h := hx53
          clear hx53
          refine Tr.block ?_
          refine Tr.weak (Γ' := [(0, (pEq (.slice ho0 hn0 hc0))), (1, (pEq (.int .i64 a_1))), (2, (pEq (.int .i64 a_2))), (3, (pEq (.int .i64 a_3))), (4, (pFn Try.prog (fun x : (Int × Int) => [(pEq (.int .i64 x.1)), (pEq (.int .i64 x.2))]) a_4 (fun y => (pEq (.int .i64 y))))), (18, (pEq (.int .i64 (w64 (x50))))), (19, (pEq (.int .i64 (w64 ((w64 (x50)) + a_2))))), (20, (pEq (.int .i64 x51.1))), (21, (pEq (.int .i64 x51.2))), (22, (pEq (.int .i64 (w64 ((w64 ((w64 (x50)) + a_2)) - (1 : Int))))))]) ⟨rfl, rfl, rfl, rfl, rfl, rfl, rfl, rfl, rfl, rfl, trivial⟩ ?_
          refine Tr.loop (γ := Unit) (σ := (Int × Int)) (Γσ := fun s g => [(0, (pEq (.slice ho0 hn0 hc0))), (1, (pEq (.int .i64 a_1))), (2, (pEq (.int .i64 a_2))), (3, (pEq (.int .i64 a_3))), (4, (pFn Try.prog (fun x : (Int × Int) => [(pEq (.int .i64 x.1)), (pEq (.int .i64 x.2))]) a_4 (fun y => (pEq (.int .i64 y))))), (18, (pEq (.int .i64 (w64 (x50))))), (19, (pEq (.int .i64 (w64 ((w64 (x50)) + a_2))))), (20, (pEq (.int .i64 s.1))), (21, (pEq (.int .i64 s.2))), (22, (pEq (.int .i64 (w64 ((w64 ((w64 (x50)) + a_2)) - (1 : Int))))))]) (Ωσ := fun s g => [oSl 2 1 (cK .i64) ho0 hn0 hc0 a_0]) (g := ()) h ?_
          clear h
          rintro ⟨v55, v56⟩ g57 t h
          replace h : m_slices_symMergeCmpFunc_int64_B54 a_0 a_2 a_4 x50 v55 v56 = some t := h
          unfold m_slices_symMergeCmpFunc_int64_B54 at h
          refine Tr.weakO (Γ' := [(0, (pEq (.slice ho0 hn0 hc0))), (1, (pEq (.int .i64 a_1))), (2, (pEq (.int .i64 a_2))), (3, (pEq (.int .i64 a_3))), (4, (pFn Try.prog (fun x : (Int × Int) => [(pEq (.int .i64 x.1)), (pEq (.int .i64 x.2))]) a_4 (fun y => (pEq (.int .i64 y))))), (18, (pEq (.int .i64 (w64 (x50))))), (19, (pEq (.int .i64 (w64 ((w64 (x50)) + a_2))))), (20, (pEq (.int .i64 v55))), (21, (pEq (.int .i64 v56))), (22, (pEq (.int .i64 (w64 ((w64 ((w64 (x50)) + a_2)) - (1 : Int))))))]) (Ω' := [oSl 2 1 (cK .i64) ho0 hn0 hc0 a_0]) rfl ⟨rfl, rfl, rfl, rfl, rfl, rfl, rfl, rfl, rfl, rfl, trivial⟩ ?_
          refine Tr.seq ?_
          refine Tr.seq ?_
          refine Tr.region ?_
          refine RegL.pure (p := (pEq (.int .i64 v55))) rfl rfl rfl (J_move rfl (Opd.tmp rfl)) ?_
          refine RegL.pure (p := (pEq (.int .i64 v56))) rfl rfl rfl (J_move rfl (Opd.tmp rfl)) ?_
          refine RegL.pure (p := (pEq (.bool (decide (v55 < v56))))) rfl rfl rfl (J_bin rfl (Opd.tmp rfl) (Opd.tmp rfl) B_lss) ?_
          refine RegL.nil ?_
          refine Ct.then_tr ?_
          refine Tr.weak (Γ' := [(0, (pEq (.slice ho0 hn0 hc0))), (1, (pEq (.int .i64 a_1))), (2, (pEq (.int .i64 a_2))), (3, (pEq (.int .i64 a_3))), (4, (pFn Try.prog (fun x : (Int × Int) => [(pEq (.int .i64 x.1)), (pEq (.int .i64 x.2))]) a_4 (fun y => (pEq (.int .i64 y))))), (18, (pEq (.int .i64 (w64 (x50))))), (19, (pEq (.int .i64 (w64 ((w64 (x50)) + a_2))))), (20, (pEq (.int .i64 v55))), (21, (pEq (.int .i64 v56))), (22, (pEq (.int .i64 (w64 ((w64 ((w64 (x50)) + a_2)) - (1 : Int)))))), (151, (pEq (.bool (decide (v55 < v56)))))]) ⟨rfl, rfl, rfl, rfl, rfl, rfl, rfl, rfl, rfl, rfl, rfl, trivial⟩ ?_
          refine Tr.cond (Opd.tmp rfl) (fun hc => ?_) (fun hc => ?_)
          · replace h := bif_t hc h
            refine Tr.skip ?_
            refine Ct.then_tr ?_
            refine Tr.weak (Γ' := [(0, (pEq (.slice ho0 hn0 hc0))), (1, (pEq (.int .i64 a_1))), (2, (pEq (.int .i64 a_2))), (3, (pEq (.int .i64 a_3))), (4, (pFn Try.prog (fun x : (Int × Int) => [(pEq (.int .i64 x.1)), (pEq (.int .i64 x.2))]) a_4 (fun y => (pEq (.int .i64 y))))), (18, (pEq (.int .i64 (w64 (x50))))), (19, (pEq (.int .i64 (w64 ((w64 (x50)) + a_2))))), (20, (pEq (.int .i64 v55))), (21, (pEq (.int .i64 v56))), (22, (pEq (.int .i64 (w64 ((w64 ((w64 (x50)) + a_2)) - (1 : Int))))))]) ⟨rfl, rfl, rfl, rfl, rfl, rfl, rfl, rfl, rfl, rfl, trivial⟩ ?_
            refine Tr.block ?_
            refine Tr.seq ?_
            refine Tr.region ?_
            refine RegL.pure (p := (pEq (.int .i64 v55))) rfl rfl rfl (J_move rfl (Opd.tmp rfl)) ?_
            refine RegL.pure (p := (pEq (.int .i64 v56))) rfl rfl rfl (J_move rfl (Opd.tmp rfl)) ?_
            refine RegL.pure (p := (pEq (.int .i64 (w64 (v55 + v56))))) rfl rfl rfl (J_bin rfl (Opd.tmp rfl) (Opd.tmp rfl) B_add) ?_
            refine RegL.pure (p := (pEq (.int .u64 (IntKind.wrap .u64 ((w64 (v55 + v56))))))) rfl rfl rfl (J_conv rfl Try.underlying3 Try.underlying92 (Opd.tmp rfl)) ?_
            replace h := bind_some h; obtain ⟨x58, hx58, h⟩ := h
            refine RegL.pure (p := (pEq (.int .u64 x58))) rfl rfl rfl (J_bin rfl (Opd.tmp rfl) Opd.con (B_bitshr hx58)) ?_
            refine RegL.pure (p := (pEq (.int .i64 (w64 (x58))))) rfl rfl rfl (J_conv rfl Try.underlying92 Try.underlying3 (Opd.tmp rfl)) ?_
            refine RegL.pure (p := (pEq (.int .i64 (w64 (x58))))) rfl rfl rfl (J_assign rfl (Opd.tmp rfl)) ?_
            refine RegL.nil ?_
            refine Ct.then_tr ?_
            refine Tr.weak (Γ' := [(0, (pEq (.slice ho0 hn0 hc0))), (1, (pEq (.int .i64 a_1))), (2, (pEq (.int .i64 a_2))), (3, (pEq (.int .i64 a_3))), (4, (pFn Try.prog (fun x : (Int × Int) => [(pEq (.int .i64 x.1)), (pEq (.int .i64 x.2))]) a_4 (fun y => (pEq (.int .i64 y))))), (18, (pEq (.int .i64 (w64 (x50))))), (19, (pEq (.int .i64 (w64 ((w64 (x50)) + a_2))))), (20, (pEq (.int .i64 v55))), (21, (pEq (.int .i64 v56))), (22, (pEq (.int .i64 (w64 ((w64 ((w64 (x50)) + a_2)) - (1 : Int)))))), (23, (pEq (.int .i64 (w64 (x58)))))]) ⟨rfl, rfl, rfl, rfl, rfl, rfl, rfl, rfl, rfl, rfl, rfl, trivial⟩ ?_
            refine Tr.seq ?_
            replace h := bind_some h; obtain ⟨x59, hx59, h⟩ := h
            replace h := bind_some h; obtain ⟨x60, hx60, h⟩ := h
            replace h := bind_some h; obtain ⟨x61, hx61, h⟩ := h
            refine Tr.drawD (n := 220) (m := 14) (es := [some (Ent.mk [(4, (pFn Try.prog (fun x : (Int × Int) => [(pEq (.int .i64 x.1)), (pEq (.int .i64 x.2))]) a_4 (fun y => (pEq (.int .i64 y)))))] (pFn Try.prog (fun x : (Int × Int) => [(pEq (.int .i64 x.1)), (pEq (.int .i64 x.2))]) a_4 (fun y => (pEq (.int .i64 y)))) true), some (Ent.mk [(0, (pEq (.slice ho0 hn0 hc0)))] (pEq (.slice ho0 hn0 hc0)) true), some (Ent.mk [(22, (pEq (.int .i64 (w64 ((w64 ((w64 (x50)) + a_2)) - (1 : Int))))))] (pEq (.int .i64 (w64 ((w64 ((w64 (x50)) + a_2)) - (1 : Int))))) true), some (Ent.mk [(23, (pEq (.int .i64 (w64 (x58)))))] (pEq (.int .i64 (w64 (x58)))) true), some (Ent.mk [(160, (pEq (.int .i64 (w64 ((w64 ((w64 (x50)) + a_2)) - (1 : Int)))))), (161, (pEq (.int .i64 (w64 (x58)))))] (pEq (.int .i64 (w64 ((w64 ((w64 ((w64 (x50)) + a_2)) - (1 : Int))) - (w64 (x58)))))) true), some (Ent.mk [(159, (pEq (.slice ho0 hn0 hc0))), (162, (pEq (.int .i64 (w64 ((w64 ((w64 ((w64 (x50)) + a_2)) - (1 : Int))) - (w64 (x58)))))))] (pEq (.pointer (some ⟨blk ho0, ((w64 ((w64 ((w64 ((w64 (x50)) + a_2)) - (1 : Int))) - (w64 (x58))))).toNat * 1, none⟩))) true), some (Ent.mk [(163, (pEq (.pointer (some ⟨blk ho0, ((w64 ((w64 ((w64 ((w64 (x50)) + a_2)) - (1 : Int))) - (w64 (x58))))).toNat * 1, none⟩))))] (pEq (.int .i64 x59)) true), some (Ent.mk [(0, (pEq (.slice ho0 hn0 hc0)))] (pEq (.slice ho0 hn0 hc0)) true), some (Ent.mk [(23, (pEq (.int .i64 (w64 (x58)))))] (pEq (.int .i64 (w64 (x58)))) true), some (Ent.mk [(165, (pEq (.slice ho0 hn0 hc0))), (166, (pEq (.int .i64 (w64 (x58)))))] (pEq (.pointer (some ⟨blk ho0, ((w64 (x58))).toNat * 1, none⟩))) true), some (Ent.mk [(167, (pEq (.pointer (some ⟨blk ho0, ((w64 (x58))).toNat * 1, none⟩))))] (pEq (.int .i64 x60)) true), some (Ent.mk [(158, (pFn Try.prog (fun x : (Int × Int) => [(pEq (.int .i64 x.1)), (pEq (.int .i64 x.2))]) a_4 (fun y => (pEq (.int .i64 y))))), (164, (pEq (.int .i64 x59))), (168, (pEq (.int .i64 x60)))] (pEq (.int .i64 x61)) true), some (Ent.mk [(169, (pEq (.int .i64 x61)))] (pEq (.bool (decide (x61 < (0 : Int))))) true), some (Ent.mk [(170, (pEq (.bool (decide (x61 < (0 : Int))))))] (pEq (.bool (!(decide (x61 < (0 : Int)))))) true)]) (rd := [[4], [0], [22], [23], [160, 161], [159, 162], [163], [0], [23], [165, 166], [167], [158, 164, 168], [169], [170]]) rfl hmix (by kernel_rfl) fun hD => ?_
            refine RD.fin (es := [Ent.mk [(4, (pFn Try.prog (fun x : (Int × Int) => [(pEq (.int .i64 x.1)), (pEq (.int .i64 x.2))]) a_4 (fun y => (pEq (.int .i64 y)))))] (pFn Try.prog (fun x : (Int × Int) => [(pEq (.int .i64 x.1)), (pEq (.int .i64 x.2))]) a_4 (fun y => (pEq (.int .i64 y)))) true, Ent.mk [(0, (pEq (.slice ho0 hn0 hc0)))] (pEq (.slice ho0 hn0 hc0)) true, Ent.mk [(22, (pEq (.int .i64 (w64 ((w64 ((w64 (x50)) + a_2)) - (1 : Int))))))] (pEq (.int .i64 (w64 ((w64 ((w64 (x50)) + a_2)) - (1 : Int))))) true, Ent.mk [(23, (pEq (.int .i64 (w64 (x58)))))] (pEq (.int .i64 (w64 (x58)))) true, Ent.mk [(160, (pEq (.int .i64 (w64 ((w64 ((w64 (x50)) + a_2)) - (1 : Int)))))), (161, (pEq (.int .i64 (w64 (x58)))))] (pEq (.int .i64 (w64 ((w64 ((w64 ((w64 (x50)) + a_2)) - (1 : Int))) - (w64 (x58)))))) true, Ent.mk [(159, (pEq (.slice ho0 hn0 hc0))), (162, (pEq (.int .i64 (w64 ((w64 ((w64 ((w64 (x50)) + a_2)) - (1 : Int))) - (w64 (x58)))))))] (pEq (.pointer (some ⟨blk ho0, ((w64 ((w64 ((w64 ((w64 (x50)) + a_2)) - (1 : Int))) - (w64 (x58))))).toNat * 1, none⟩))) true, Ent.mk [(163, (pEq (.pointer (some ⟨blk ho0, ((w64 ((w64 ((w64 ((w64 (x50)) + a_2)) - (1 : Int))) - (w64 (x58))))).toNat * 1, none⟩))))] (pEq (.int .i64 x59)) true, Ent.mk [(0, (pEq (.slice ho0 hn0 hc0)))] (pEq (.slice ho0 hn0 hc0)) true, Ent.mk [(23, (pEq (.int .i64 (w64 (x58)))))] (pEq (.int .i64 (w64 (x58)))) true, Ent.mk [(165, (pEq (.slice ho0 hn0 hc0))), (166, (pEq (.int .i64 (w64 (x58)))))] (pEq (.pointer (some ⟨blk ho0, ((w64 (x58))).toNat * 1, none⟩))) true, Ent.mk [(167, (pEq (.pointer (some ⟨blk ho0, ((w64 (x58))).toNat * 1, none⟩))))] (pEq (.int .i64 x60)) true, Ent.mk [(158, (pFn Try.prog (fun x : (Int × Int) => [(pEq (.int .i64 x.1)), (pEq (.int .i64 x.2))]) a_4 (fun y => (pEq (.int .i64 y))))), (164, (pEq (.int .i64 x59))), (168, (pEq (.int .i64 x60)))] (pEq (.int .i64 x61)) true, Ent.mk [(169, (pEq (.int .i64 x61)))] (pEq (.bool (decide (x61 < (0 : Int))))) true, Ent.mk [(170, (pEq (.bool (decide (x61 < (0 : Int))))))] (pEq (.bool (!(decide (x61 < (0 : Int)))))) true]) (done := []) hD ⟨.inr ⟨(OpJ.w (J_move rfl (Opd.tmp rfl))), ⟨rfl, trivial⟩, rfl, rfl⟩, ⟨.inr ⟨(OpJ.w (J_move rfl (Opd.tmp rfl))), ⟨rfl, trivial⟩, rfl, rfl⟩, ⟨.inr ⟨(OpJ.w (J_move rfl (Opd.tmp rfl))), ⟨rfl, trivial⟩, rfl, rfl⟩, ⟨.inr ⟨(OpJ.w (J_move rfl (Opd.tmp rfl))), ⟨rfl, trivial⟩, rfl, rfl⟩, ⟨.inr ⟨(OpJ.w (J_bin rfl (Opd.tmp rfl) (Opd.tmp rfl) B_sub)), ⟨rfl, rfl, trivial⟩, rfl, rfl⟩, ⟨.inr ⟨(W_rowIdx (j := 0) rfl Try.underlying26 sz2 (Opd.tmp rfl) (Opd.tmp rfl) rfl (idx_lt hx59)), ⟨rfl, rfl, trivial⟩, rfl, rfl⟩, ⟨.inr ⟨(W_rowLoad (j := 0) (f := (cK .i64)) rfl Try.isAgg2 (fun _ => rfl) (Opd.tmp rfl) rfl hx59 rfl), ⟨rfl, trivial⟩, rfl, rfl⟩, ⟨.inr ⟨(OpJ.w (J_move rfl (Opd.tmp rfl))), ⟨rfl, trivial⟩, rfl, rfl⟩, ⟨.inr ⟨(OpJ.w (J_move rfl (Opd.tmp rfl))), ⟨rfl, trivial⟩, rfl, rfl⟩, ⟨.inr ⟨(W_rowIdx (j := 0) rfl Try.underlying26 sz2 (Opd.tmp rfl) (Opd.tmp rfl) rfl (idx_lt hx60)), ⟨rfl, rfl, trivial⟩, rfl, rfl⟩, ⟨.inr ⟨(W_rowLoad (j := 0) (f := (cK .i64)) rfl Try.isAgg2 (fun _ => rfl) (Opd.tmp rfl) rfl hx60 rfl), ⟨rfl, trivial⟩, rfl, rfl⟩, ⟨.inr ⟨(OpJ.w (J_callv (x := (x59, x60)) rfl (Opd.tmp rfl) rfl (Opds.cons (Opd.tmp rfl) (Opds.cons (Opd.tmp rfl) Opds.nil)) hx61 rfl)), ⟨rfl, rfl, rfl, trivial⟩, rfl, rfl⟩, ⟨.inr ⟨(OpJ.w (J_bin rfl (Opd.tmp rfl) Opd.con B_lss)), ⟨rfl, trivial⟩, rfl, rfl⟩, ⟨.inr ⟨(OpJ.w (J_not rfl (Opd.tmp rfl))), ⟨rfl, trivial⟩, rfl, rfl⟩, trivial⟩⟩⟩⟩⟩⟩⟩⟩⟩⟩⟩⟩⟩⟩ ?_
            refine RegL.nil ?_
            refine Ct.then_tr ?_
            refine Tr.weak (Γ' := [(0, (pEq (.slice ho0 hn0 hc0))), (1, (pEq (.int .i64 a_1))), (2, (pEq (.int .i64 a_2))), (3, (pEq (.int .i64 a_3))), (4, (pFn Try.prog (fun x : (Int × Int) => [(pEq (.int .i64 x.1)), (pEq (.int .i64 x.2))]) a_4 (fun y => (pEq (.int .i64 y))))), (18, (pEq (.int .i64 (w64 (x50))))), (19, (pEq (.int .i64 (w64 ((w64 (x50)) + a_2))))), (20, (pEq (.int .i64 v55))), (21, (pEq (.int .i64 v56))), (22, (pEq (.int .i64 (w64 ((w64 ((w64 (x50)) + a_2)) - (1 : Int)))))), (23, (pEq (.int .i64 (w64 (x58))))), (171, (pEq (.bool (!(decide (x61 < (0 : Int)))))))]) ⟨rfl, rfl, rfl, rfl, rfl, rfl, rfl, rfl, rfl, rfl, rfl, rfl, trivial⟩ ?_
            replace h := bind_some h; obtain ⟨x62, hx62, h⟩ := h
            refine Tr.cut (γ := Unit) (Γm := fun g => [(0, (pEq (.slice ho0 hn0 hc0))), (1, (pEq (.int .i64 a_1))), (2, (pEq (.int .i64 a_2))), (3, (pEq (.int .i64 a_3))), (4, (pFn Try.prog (fun x : (Int × Int) => [(pEq (.int .i64 x.1)), (pEq (.int .i64 x.2))]) a_4 (fun y => (pEq (.int .i64 y))))), (18, (pEq (.int .i64 (w64 (x50))))), (19, (pEq (.int .i64 (w64 ((w64 (x50)) + a_2))))), (20, (pEq (.int .i64 x62.1))), (21, (pEq (.int .i64 x62.2))), (22, (pEq (.int .i64 (w64 ((w64 ((w64 (x50)) + a_2)) - (1 : Int))))))]) (Ωm := fun g => [oSl 2 1 (cK .i64) ho0 hn0 hc0 a_0]) ?_ (fun g63 => ?_)
            · clear h
              have h := hx62
              clear hx62
              refine Tr.cond (Opd.tmp rfl) (fun hc => ?_) (fun hc => ?_)
              · replace h := bif_t hc h
                refine Tr.region ?_
                refine RegL.pure (p := (pEq (.int .i64 (w64 (x58))))) rfl rfl rfl (J_move rfl (Opd.tmp rfl)) ?_
                refine RegL.pure (p := (pEq (.int .i64 (w64 ((w64 (x58)) + (1 : Int)))))) rfl rfl rfl (J_bin rfl (Opd.tmp rfl) Opd.con B_add) ?_
                refine RegL.pure (p := (pEq (.int .i64 (w64 ((w64 (x58)) + (1 : Int)))))) rfl rfl rfl (J_assign rfl (Opd.tmp rfl)) ?_
                refine RegL.nil ?_
                replace h := Option.some.inj h; subst h
                exact Ct.mid () rfl ⟨rfl, rfl, rfl, rfl, rfl, rfl, rfl, rfl, rfl, rfl, trivial⟩
              · replace h := bif_f hc h
                refine Tr.region ?_
                refine RegL.pure (p := (pEq (.int .i64 (w64 (x58))))) rfl rfl rfl (J_move rfl (Opd.tmp rfl)) ?_
                refine RegL.pure (p := (pEq (.int .i64 (w64 (x58))))) rfl rfl rfl (J_assign rfl (Opd.tmp rfl)) ?_
                refine RegL.nil ?_
                replace h := Option.some.inj h; subst h
                exact Ct.mid () rfl ⟨rfl, rfl, rfl, rfl, rfl, rfl, rfl, rfl, rfl, rfl, trivial⟩
            · clear hx62
              refine Ct.blk_normal ?_
              replace h := Option.some.inj h; subst h
              exact Ct.again () rfl ⟨rfl, rfl, rfl, rfl, rfl, rfl, rfl, rfl, rfl, rfl, trivial⟩
          · replace h := bif_f hc h
            refine Tr.exit ?_
            refine Ct.then_exit ?_
            replace h := map_some h; obtain ⟨r1, h, rfl⟩ := h
            refine Ct.out_exit fun e => ?_
            subst e
            refine Ct.blk_exit ?_
            replace h := Option.some.inj h; subst h
            exact Ct.mid () rfl ⟨rfl, rfl, rfl, rfl, rfl, rfl, rfl, rfl, trivial⟩
        · clear hx53
          refine Ct.then_tr ?_
          refine Tr.weak (Γ' := [(0, (pEq (.slice ho0 hn0 hc0))), (1, (pEq (.int .i64 a_1))), (2, (pEq (.int .i64 a_2))), (3, (pEq (.int .i64 a_3))), (4, (pFn Try.prog (fun x : (Int × Int) => [(pEq (.int .i64 x.1)), (pEq (.int .i64 x.2))]) a_4 (fun y => (pEq (.int .i64 y))))), (18, (pEq (.int .i64 (w64 (x50))))), (19, (pEq (.int .i64 (w64 ((w64 (x50)) + a_2))))), (20, (pEq (.int .i64 x53)))]) ⟨rfl, rfl, rfl, rfl, rfl, rfl, rfl, rfl, trivial⟩ ?_
          refine Tr.seq ?_
          refine Tr.region ?_
          refine RegL.pure (p := (pEq (.int .i64 (w64 ((w64 (x50)) + a_2))))) rfl rfl rfl (J_move rfl (Opd.tmp rfl)) ?_
          refine RegL.pure (p := (pEq (.int .i64 x53))) rfl rfl rfl (J_move rfl (Opd.tmp rfl)) ?_
          refine RegL.pure (p := (pEq (.int .i64 (w64 ((w64 ((w64 (x50)) + a_2)) - x53))))) rfl rfl rfl (J_bin rfl (Opd.tmp rfl) (Opd.tmp rfl) B_sub) ?_
          refine RegL.pure (p := (pEq (.int .i64 (w64 ((w64 ((w64 (x50)) + a_2)) - x53))))) rfl rfl rfl (J_assign rfl (Opd.tmp rfl)) ?_
          refine RegL.nil ?_
          refine Ct.then_tr ?_
          refine Tr.weak (Γ' := [(0, (pEq (.slice ho0 hn0 hc0))), (1, (pEq (.int .i64 a_1))), (2, (pEq (.int .i64 a_2))), (3, (pEq (.int .i64 a_3))), (4, (pFn Try.prog (fun x : (Int × Int) => [(pEq (.int .i64 x.1)), (pEq (.int .i64 x.2))]) a_4 (fun y => (pEq (.int .i64 y))))), (18, (pEq (.int .i64 (w64 (x50))))), (20, (pEq (.int .i64 x53))), (24, (pEq (.int .i64 (w64 ((w64 ((w64 (x50)) + a_2)) - x53)))))]) ⟨rfl, rfl, rfl, rfl, rfl, rfl, rfl, rfl, trivial⟩ ?_
          refine Tr.seq ?_
          refine Tr.seq ?_
          replace h := bind_some h; obtain ⟨x65, hx65, h⟩ := h
          refine Tr.cut (γ := Unit) (Γm := fun g => [(0, (pEq (.slice ho0 hn0 hc0))), (1, (pEq (.int .i64 a_1))), (2, (pEq (.int .i64 a_2))), (3, (pEq (.int .i64 a_3))), (4, (pFn Try.prog (fun x : (Int × Int) => [(pEq (.int .i64 x.1)), (pEq (.int .i64 x.2))]) a_4 (fun y => (pEq (.int .i64 y))))), (18, (pEq (.int .i64 (w64 (x50))))), (20, (pEq (.int .i64 x53))), (24, (pEq (.int .i64 (w64 ((w64 ((w64 (x50)) + a_2)) - x53))))), (185, (pEq (.bool x65)))]) (Ωm := fun g => [oSl 2 1 (cK .i64) ho0 hn0 hc0 a_0]) ?_ (fun g67 => ?_)
          · clear h
            have h := hx65
            clear hx65
            refine Tr.region ?_
            refine RegL.pure (p := (pEq (.int .i64 x53))) rfl rfl rfl (J_move rfl (Opd.tmp rfl)) ?_
            refine RegL.pure (p := (pEq (.int .i64 a_2))) rfl rfl rfl (J_move rfl (Opd.tmp rfl)) ?_
            refine RegL.pure (p := (pEq (.bool (decide (x53 < a_2))))) rfl rfl rfl (J_bin rfl (Opd.tmp rfl) (Opd.tmp rfl) B_lss) ?_
            refine RegL.pure (p := (pEq (.bool (decide (x53 < a_2))))) rfl rfl rfl (J_move rfl (Opd.tmp rfl)) ?_
            rcases Bool.eq_false_or_eq_true (decide (x53 < a_2)) with hc66 | hc66
            · replace h := bif_t hc66 h
              refine RegL.pureG (p := (pEq (.int .i64 a_2))) rfl rfl rfl hc66 rfl rfl (J_move rfl (Opd.tmp rfl)) ?_
              refine RegL.pureG (p := (pEq (.int .i64 (w64 ((w64 ((w64 (x50)) + a_2)) - x53))))) rfl rfl rfl hc66 rfl rfl (J_move rfl (Opd.tmp rfl)) ?_
              refine RegL.pureG (p := (pEq (.bool (decide (a_2 < (w64 ((w64 ((w64 (x50)) + a_2)) - x53))))))) rfl rfl rfl hc66 rfl rfl (J_bin rfl (Opd.tmp rfl) (Opd.tmp rfl) B_lss) ?_
              refine RegL.pure (p := (pEq (.bool (decide (a_2 < (w64 ((w64 ((w64 (x50)) + a_2)) - x53))))))) rfl rfl rfl (J_pick rfl (Opd.tmp rfl) (fun _ => (Opd.tmp rfl)) (fun hf => absurd (hc66.symm.trans hf) (by decide))) ?_
              refine RegL.nil ?_
              replace h := Option.some.inj h; subst h
              exact Ct.mid () rfl ⟨rfl, rfl, rfl, rfl, rfl, rfl, rfl, rfl, rfl, trivial⟩
            · replace h := bif_f hc66 h
              refine RegL.skipG rfl rfl rfl hc66 rfl rfl ?_
              refine RegL.skipG rfl rfl rfl hc66 rfl rfl ?_
              refine RegL.skipG rfl rfl rfl hc66 rfl rfl ?_
              refine RegL.pure (p := (pEq (.bool false))) rfl rfl rfl (J_pick rfl (Opd.tmp rfl) (fun hf => absurd (hc66.symm.trans hf) (by decide)) (fun _ => Opd.con)) ?_
              refine RegL.nil ?_
              replace h := Option.some.inj h; subst h
              exact Ct.mid () rfl ⟨rfl, rfl, rfl, rfl, rfl, rfl, rfl, rfl, rfl, trivial⟩
          · clear hx65
            refine Ct.then_tr ?_
            refine Tr.weak (Γ' := [(0, (pEq (.slice ho0 hn0 hc0))), (1, (pEq (.int .i64 a_1))), (2, (pEq (.int .i64 a_2))), (3, (pEq (.int .i64 a_3))), (4, (pFn Try.prog (fun x : (Int × Int) => [(pEq (.int .i64 x.1)), (pEq (.int .i64 x.2))]) a_4 (fun y => (pEq (.int .i64 y))))), (18, (pEq (.int .i64 (w64 (x50))))), (20, (pEq (.int .i64 x53))), (24, (pEq (.int .i64 (w64 ((w64 ((w64 (x50)) + a_2)) - x53))))), (185, (pEq (.bool x65)))]) ⟨rfl, rfl, rfl, rfl, rfl, rfl, rfl, rfl, rfl, trivial⟩ ?_
            replace h := bind_some h; obtain ⟨x68, hx68, h⟩ := h
            refine Tr.cut (γ := Unit) (Γm := fun g => [(0, (pEq (.slice ho0 hn0 hc0))), (1, (pEq (.int .i64 a_1))), (3, (pEq (.int .i64 a_3))), (4, (pFn Try.prog (fun x : (Int × Int) => [(pEq (.int .i64 x.1)), (pEq (.int .i64 x.2))]) a_4 (fun y => (pEq (.int .i64 y))))), (18, (pEq (.int .i64 (w64 (x50))))), (20, (pEq (.int .i64 x53))), (24, (pEq (.int .i64 (w64 ((w64 ((w64 (x50)) + a_2)) - x53)))))]) (Ωm := fun g => [oSl 2 1 (cK .i64) ho0 hn0 hc0 x68]) ?_ (fun g71 => ?_)
            · clear h
              have h := hx68
              clear hx68
              refine Tr.cond (Opd.tmp rfl) (fun hc => ?_) (fun hc => ?_)
              · replace h := bif_t hc h
                refine Tr.region ?_
                refine RegL.pure (p := (pEq (.slice ho0 hn0 hc0))) rfl rfl rfl (J_move rfl (Opd.tmp rfl)) ?_
                refine RegL.pure (p := (pEq (.int .i64 x53))) rfl rfl rfl (J_move rfl (Opd.tmp rfl)) ?_
                refine RegL.pure (p := (pEq (.int .i64 a_2))) rfl rfl rfl (J_move rfl (Opd.tmp rfl)) ?_
                refine RegL.pure (p := (pEq (.int .i64 (w64 ((w64 ((w64 (x50)) + a_2)) - x53))))) rfl rfl rfl (J_move rfl (Opd.tmp rfl)) ?_
                refine RegL.pure (p := (pFn Try.prog (fun x : (Int × Int) => [(pEq (.int .i64 x.1)), (pEq (.int .i64 x.2))]) a_4 (fun y => (pEq (.int .i64 y))))) rfl rfl rfl (J_move rfl (Opd.tmp rfl)) ?_
                replace h := bind_some h; obtain ⟨x69, hx69, h⟩ := h
                refine RegL.step (γ := Unit) (p := fun g => (pTup [])) (Ω' := fun g => [oSl 2 1 (cK .i64) ho0 hn0 hc0 x69]) rfl rfl rfl (M_callH (Ωi := [oSl 2 1 (cK .i64) ho0 hn0 hc0 a_0]) rfl Try.call119 (o_slices_rotateCmpFunc_int64 hx69) (Opds.cons (Opd.tmp rfl) (Opds.cons (Opd.tmp rfl) (Opds.cons (Opd.tmp rfl) (Opds.cons (Opd.tmp rfl) (Opds.cons (Opd.tmp rfl) Opds.nil)))))) fun g70 => ?_
                refine RegL.nil ?_
                replace h := Option.some.inj h; subst h
                exact Ct.mid () rfl ⟨rfl, rfl, rfl, rfl, rfl, rfl, rfl, trivial⟩
              · replace h := bif_f hc h
                refine Tr.skip ?_
                replace h := Option.some.inj h; subst h
                exact Ct.mid () rfl ⟨rfl, rfl, rfl, rfl, rfl, rfl, rfl, trivial⟩
            · clear hx68
              refine Ct.then_tr ?_
              refine Tr.weak (Γ' := [(0, (pEq (.slice ho0 hn0 hc0))), (1, (pEq (.int .i64 a_1))), (3, (pEq (.int .i64 a_3))), (4, (pFn Try.prog (fun x : (Int × Int) => [(pEq (.int .i64 x.1)), (pEq (.int .i64 x.2))]) a_4 (fun y => (pEq (.int .i64 y))))), (18, (pEq (.int .i64 (w64 (x50))))), (20, (pEq (.int .i64 x53))), (24, (pEq (.int .i64 (w64 ((w64 ((w64 (x50)) + a_2)) - x53)))))]) ⟨rfl, rfl, rfl, rfl, rfl, rfl, rfl, trivial⟩ ?_
              refine Tr.seq ?_
              refine Tr.seq ?_
              replace h := bind_some h; obtain ⟨x72, hx72, h⟩ := h
              refine Tr.cut (γ := Unit) (Γm := fun g => [(0, (pEq (.slice ho0 hn0 hc0))), (1, (pEq (.int .i64 a_1))), (3, (pEq (.int .i64 a_3))), (4, (pFn Try.prog (fun x : (Int × Int) => [(pEq (.int .i64 x.1)), (pEq (.int .i64 x.2))]) a_4 (fun y => (pEq (.int .i64 y))))), (18, (pEq (.int .i64 (w64 (x50))))), (20, (pEq (.int .i64 x53))), (24, (pEq (.int .i64 (w64 ((w64 ((w64 (x50)) + a_2)) - x53))))), (199, (pEq (.bool x72)))]) (Ωm := fun g => [oSl 2 1 (cK .i64) ho0 hn0 hc0 x68]) ?_ (fun g74 => ?_)
              · clear h
                have h := hx72
                clear hx72
                refine Tr.region ?_
                refine RegL.pure (p := (pEq (.int .i64 a_1))) rfl rfl rfl (J_move rfl (Opd.tmp rfl)) ?_
                refine RegL.pure (p := (pEq (.int .i64 x53))) rfl rfl rfl (J_move rfl (Opd.tmp rfl)) ?_
                refine RegL.pure (p := (pEq (.bool (decide (a_1 < x53))))) rfl rfl rfl (J_bin rfl (Opd.tmp rfl) (Opd.tmp rfl) B_lss) ?_
                refine RegL.pure (p := (pEq (.bool (decide (a_1 < x53))))) rfl rfl rfl (J_move rfl (Opd.tmp rfl)) ?_
                rcases Bool.eq_false_or_eq_true (decide (a_1 < x53)) with hc73 | hc73
                · replace h := bif_t hc73 h
                  refine RegL.pureG (p := (pEq (.int .i64 x53))) rfl rfl rfl hc73 rfl rfl (J_move rfl (Opd.tmp rfl)) ?_
                  refine RegL.pureG (p := (pEq (.int .i64 (w64 (x50))))) rfl rfl rfl hc73 rfl rfl (J_move rfl (Opd.tmp rfl)) ?_
                  refine RegL.pureG (p := (pEq (.bool (decide (x53 < (w64 (x50))))))) rfl rfl rfl hc73 rfl rfl (J_bin rfl (Opd.tmp rfl) (Opd.tmp rfl) B_lss) ?_
                  refine RegL.pure (p := (pEq (.bool (decide (x53 < (w64 (x50))))))) rfl rfl rfl (J_pick rfl (Opd.tmp rfl) (fun _ => (Opd.tmp rfl)) (fun hf => absurd (hc73.symm.trans hf) (by decide))) ?_
                  refine RegL.nil ?_
                  replace h := Option.some.inj h; subst h
                  exact Ct.mid () rfl ⟨rfl, rfl, rfl, rfl, rfl, rfl, rfl, rfl, trivial⟩
                · replace h := bif_f hc73 h
                  refine RegL.skipG rfl rfl rfl hc73 rfl rfl ?_
                  refine RegL.skipG rfl rfl rfl hc73 rfl rfl ?_
                  refine RegL.skipG rfl rfl rfl hc73 rfl rfl ?_
                  refine RegL.pure (p := (pEq (.bool false))) rfl rfl rfl (J_pick rfl (Opd.tmp rfl) (fun hf => absurd (hc73.symm.trans hf) (by decide)) (fun _ => Opd.con)) ?_
                  refine RegL.nil ?_
                  replace h := Option.some.inj h; subst h
                  exact Ct.mid () rfl ⟨rfl, rfl, rfl, rfl, rfl, rfl, rfl, rfl, trivial⟩
              · clear hx72
                refine Ct.then_tr ?_
                refine Tr.weak (Γ' := [(0, (pEq (.slice ho0 hn0 hc0))), (1, (pEq (.int .i64 a_1))), (3, (pEq (.int .i64 a_3))), (4, (pFn Try.prog (fun x : (Int × Int) => [(pEq (.int .i64 x.1)), (pEq (.int .i64 x.2))]) a_4 (fun y => (pEq (.int .i64 y))))), (18, (pEq (.int .i64 (w64 (x50))))), (20, (pEq (.int .i64 x53))), (24, (pEq (.int .i64 (w64 ((w64 ((w64 (x50)) + a_2)) - x53))))), (199, (pEq (.bool x72)))]) ⟨rfl, rfl, rfl, rfl, rfl, rfl, rfl, rfl, trivial⟩ ?_
                replace h := bind_some h; obtain ⟨x75, hx75, h⟩ := h
                refine Tr.cut (γ := Unit) (Γm := fun g => [(0, (pEq (.slice ho0 hn0 hc0))), (3, (pEq (.int .i64 a_3))), (4, (pFn Try.prog (fun x : (Int × Int) => [(pEq (.int .i64 x.1)), (pEq (.int .i64 x.2))]) a_4 (fun y => (pEq (.int .i64 y))))), (18, (pEq (.int .i64 (w64 (x50))))), (24, (pEq (.int .i64 (w64 ((w64 ((w64 (x50)) + a_2)) - x53)))))]) (Ωm := fun g => [oSl 2 1 (cK .i64) ho0 hn0 hc0 x75]) ?_ (fun g78 => ?_)
                · clear h
                  have h := hx75
                  clear hx75
                  refine Tr.cond (Opd.tmp rfl) (fun hc => ?_) (fun hc => ?_)
                  · replace h := bif_t hc h
                    refine Tr.region ?_
                    refine RegL.pure (p := (pEq (.slice ho0 hn0 hc0))) rfl rfl rfl (J_move rfl (Opd.tmp rfl)) ?_
                    refine RegL.pure (p := (pEq (.int .i64 a_1))) rfl rfl rfl (J_move rfl (Opd.tmp rfl)) ?_
                    refine RegL.pure (p := (pEq (.int .i64 x53))) rfl rfl rfl (J_move rfl (Opd.tmp rfl)) ?_
                    refine RegL.pure (p := (pEq (.int .i64 (w64 (x50))))) rfl rfl rfl (J_move rfl (Opd.tmp rfl)) ?_
                    refine RegL.pure (p := (pFn Try.prog (fun x : (Int × Int) => [(pEq (.int .i64 x.1)), (pEq (.int .i64 x.2))]) a_4 (fun y => (pEq (.int .i64 y))))) rfl rfl rfl (J_move rfl (Opd.tmp rfl)) ?_
                    replace h := bind_some h; obtain ⟨x76, hx76, h⟩ := h
                    refine RegL.step (γ := Unit) (p := fun g => (pTup [])) (Ω' := fun g => [oSl 2 1 (cK .i64) ho0 hn0 hc0 x76]) rfl rfl rfl (M_callH (Ωi := [oSl 2 1 (cK .i64) ho0 hn0 hc0 x68]) rfl Try.call96 (ih hx76) (Opds.cons (Opd.tmp rfl) (Opds.cons (Opd.tmp rfl) (Opds.cons (Opd.tmp rfl) (Opds.cons (Opd.tmp rfl) (Opds.cons (Opd.tmp rfl) Opds.nil)))))) fun g77 => ?_
                    refine RegL.nil ?_
                    replace h := Option.some.inj h; subst h
                    exact Ct.mid () rfl ⟨rfl, rfl, rfl, rfl, rfl, trivial⟩
                  · replace h := bif_f hc h
                    refine Tr.skip ?_
                    replace h := Option.some.inj h; subst h
                    exact Ct.mid () rfl ⟨rfl, rfl, rfl, rfl, rfl, trivial⟩
                · clear hx75
                  refine Ct.then_tr ?_
                  refine Tr.weak (Γ' := [(0, (pEq (.slice ho0 hn0 hc0))), (3, (pEq (.int .i64 a_3))), (4, (pFn Try.prog (fun x : (Int × Int) => [(pEq (.int .i64 x.1)), (pEq (.int .i64 x.2))]) a_4 (fun y => (pEq (.int .i64 y))))), (18, (pEq (.int .i64 (w64 (x50))))), (24, (pEq (.int .i64 (w64 ((w64 ((w64 (x50)) + a_2)) - x53)))))]) ⟨rfl, rfl, rfl, rfl, rfl, trivial⟩ ?_
                  refine Tr.seq ?_
                  replace h := bind_some h; obtain ⟨x79, hx79, h⟩ := h
                  refine Tr.cut (γ := Unit) (Γm := fun g => [(0, (pEq (.slice ho0 hn0 hc0))), (3, (pEq (.int .i64 a_3))), (4, (pFn Try.prog (fun x : (Int × Int) => [(pEq (.int .i64 x.1)), (pEq (.int .i64 x.2))]) a_4 (fun y => (pEq (.int .i64 y))))), (18, (pEq (.int .i64 (w64 (x50))))), (24, (pEq (.int .i64 (w64 ((w64 ((w64 (x50)) + a_2)) - x53))))), (213, (pEq (.bool x79)))]) (Ωm := fun g => [oSl 2 1 (cK .i64) ho0 hn0 hc0 x75]) ?_ (fun g81 => ?_)
                  · clear h
                    have h := hx79
                    clear hx79
                    refine Tr.region ?_
                    refine RegL.pure (p := (pEq (.int .i64 (w64 (x50))))) rfl rfl rfl (J_move rfl (Opd.tmp rfl)) ?_
                    refine RegL.pure (p := (pEq (.int .i64 (w64 ((w64 ((w64 (x50)) + a_2)) - x53))))) rfl rfl rfl (J_move rfl (Opd.tmp rfl)) ?_
                    refine RegL.pure (p := (pEq (.bool (decide ((w64 (x50)) < (w64 ((w64 ((w64 (x50)) + a_2)) - x53))))))) rfl rfl rfl (J_bin rfl (Opd.tmp rfl) (Opd.tmp rfl) B_lss) ?_
                    refine RegL.pure (p := (pEq (.bool (decide ((w64 (x50)) < (w64 ((w64 ((w64 (x50)) + a_2)) - x53))))))) rfl rfl rfl (J_move rfl (Opd.tmp rfl)) ?_
                    rcases Bool.eq_false_or_eq_true (decide ((w64 (x50)) < (w64 ((w64 ((w64 (x50)) + a_2)) - x53)))) with hc80 | hc80
                    · replace h := bif_t hc80 h
                      refine RegL.pureG (p := (pEq (.int .i64 (w64 ((w64 ((w64 (x50)) + a_2)) - x53))))) rfl rfl rfl hc80 rfl rfl (J_move rfl (Opd.tmp rfl)) ?_
                      refine RegL.pureG (p := (pEq (.int .i64 a_3))) rfl rfl rfl hc80 rfl rfl (J_move rfl (Opd.tmp rfl)) ?_
                      refine RegL.pureG (p := (pEq (.bool (decide ((w64 ((w64 ((w64 (x50)) + a_2)) - x53)) < a_3))))) rfl rfl rfl hc80 rfl rfl (J_bin rfl (Opd.tmp rfl) (Opd.tmp rfl) B_lss) ?_
                      refine RegL.pure (p := (pEq (.bool (decide ((w64 ((w64 ((w64 (x50)) + a_2)) - x53)) < a_3))))) rfl rfl rfl (J_pick rfl (Opd.tmp rfl) (fun _ => (Opd.tmp rfl)) (fun hf => absurd (hc80.symm.trans hf) (by decide))) ?_
                      refine RegL.nil ?_
                      replace h := Option.some.inj h; subst h
                      exact Ct.mid () rfl ⟨rfl, rfl, rfl, rfl, rfl, rfl, trivial⟩
                    · replace h := bif_f hc80 h
                      refine RegL.skipG rfl rfl rfl hc80 rfl rfl ?_
                      refine RegL.skipG rfl rfl rfl hc80 rfl rfl ?_
                      refine RegL.skipG rfl rfl rfl hc80 rfl rfl ?_
                      refine RegL.pure (p := (pEq (.bool false))) rfl rfl rfl (J_pick rfl (Opd.tmp rfl) (fun hf => absurd (hc80.symm.trans hf) (by decide)) (fun _ => Opd.con)) ?_
                      refine RegL.nil ?_
                      replace h := Option.some.inj h; subst h
                      exact Ct.mid () rfl ⟨rfl, rfl, rfl, rfl, rfl, rfl, trivial⟩
                  · clear hx79
                    refine Ct.then_tr ?_
                    refine Tr.weak (Γ' := [(0, (pEq (.slice ho0 hn0 hc0))), (3, (pEq (.int .i64 a_3))), (4, (pFn Try.prog (fun x : (Int × Int) => [(pEq (.int .i64 x.1)), (pEq (.int .i64 x.2))]) a_4 (fun y => (pEq (.int .i64 y))))), (18, (pEq (.int .i64 (w64 (x50))))), (24, (pEq (.int .i64 (w64 ((w64 ((w64 (x50)) + a_2)) - x53))))), (213, (pEq (.bool x79)))]) ⟨rfl, rfl, rfl, rfl, rfl, rfl, trivial⟩ ?_
                    replace h := bind_some h; obtain ⟨x82, hx82, h⟩ := h
                    refine Tr.cut (γ := Unit) (Γm := fun g => []) (Ωm := fun g => [oSl 2 1 (cK .i64) ho0 hn0 hc0 x82]) ?_ (fun g85 => ?_)
                    · clear h
                      have h := hx82
                      clear hx82
                      refine Tr.cond (Opd.tmp rfl) (fun hc => ?_) (fun hc => ?_)
                      · replace h := bif_t hc h
                        refine Tr.region ?_
                        refine RegL.pure (p := (pEq (.slice ho0 hn0 hc0))) rfl rfl rfl (J_move rfl (Opd.tmp rfl)) ?_
                        refine RegL.pure (p := (pEq (.int .i64 (w64 (x50))))) rfl rfl rfl (J_move rfl (Opd.tmp rfl)) ?_
                        refine RegL.pure (p := (pEq (.int .i64 (w64 ((w64 ((w64 (x50)) + a_2)) - x53))))) rfl rfl rfl (J_move rfl (Opd.tmp rfl)) ?_
                        refine RegL.pure (p := (pEq (.int .i64 a_3))) rfl rfl rfl (J_move rfl (Opd.tmp rfl)) ?_
                        refine RegL.pure (p := (pFn Try.prog (fun x : (Int × Int) => [(pEq (.int .i64 x.1)), (pEq (.int .i64 x.2))]) a_4 (fun y => (pEq (.int .i64 y))))) rfl rfl rfl (J_move rfl (Opd.tmp rfl)) ?_
                        replace h := bind_some h; obtain ⟨x83, hx83, h⟩ := h
                        refine RegL.step (γ := Unit) (p := fun g => (pTup [])) (Ω' := fun g => [oSl 2 1 (cK .i64) ho0 hn0 hc0 x83]) rfl rfl rfl (M_callH (Ωi := [oSl 2 1 (cK .i64) ho0 hn0 hc0 x75]) rfl Try.call96 (ih hx83) (Opds.cons (Opd.tmp rfl) (Opds.cons (Opd.tmp rfl) (Opds.cons (Opd.tmp rfl) (Opds.cons (Opd.tmp rfl) (Opds.cons (Opd.tmp rfl) Opds.nil)))))) fun g84 => ?_
                        refine RegL.nil ?_
                        replace h := Option.some.inj h; subst h
                        exact Ct.mid () rfl trivial
                      · replace h := bif_f hc h
                        refine Tr.skip ?_
                        replace h := Option.some.inj h; subst h
                        exact Ct.mid () rfl trivial
                    · clear hx82
                      replace h := Option.some.inj h; subst h
                      exact Ct.retN0 (Ωx := []) () rfl rfl rfl

theorem o_slices_symMergeCmpFunc_int64 {a_0 : (List Int)} {a_1 : Int} {a_2 : Int} {a_3 : Int} {a_4 : ((Int × Int) → Option Int)} {ho0 : Option Addr} {hn0 hc0 : Nat} {r : (List Int)} (h : m_slices_symMergeCmpFunc_int64 a_0 a_1 a_2 a_3 a_4 = some r) : CallH Try.prog 96 [(pEq (.slice ho0 hn0 hc0)), (pEq (.int .i64 a_1)), (pEq (.int .i64 a_2)), (pEq (.int .i64 a_3)), (pFn Try.prog (fun x : (Int × Int) => [(pEq (.int .i64 x.1)), (pEq (.int .i64 x.2))]) a_4 (fun y => (pEq (.int .i64 y))))] [oSl 2 1 (cK .i64) ho0 hn0 hc0 a_0] (fun g : Unit => (pTup [])) (fun g : Unit => [oSl 2 1 (cK .i64) ho0 hn0 hc0 r]) := by
  obtain ⟨n, hn⟩ := recM_some h
  exact of_slices_symMergeCmpFunc_int64 n hn

theorem o_slices_stableCmpFunc_int64 {data_0 : (List Int)} {n_1 : Int} {cmp_2 : ((Int × Int) → Option Int)} {ho0 : Option Addr} {hn0 hc0 : Nat} {r : (List Int)} (h : m_slices_stableCmpFunc_int64 data_0 n_1 cmp_2 = some r) : CallH Try.prog 70 [(pEq (.slice ho0 hn0 hc0)), (pEq (.int .i64 n_1)), (pFn Try.prog (fun x : (Int × Int) => [(pEq (.int .i64 x.1)), (pEq (.int .i64 x.2))]) cmp_2 (fun y => (pEq (.int .i64 y))))] [oSl 2 1 (cK .i64) ho0 hn0 hc0 data_0] (fun g : Unit => (pTup [])) (fun g : Unit => [oSl 2 1 (cK .i64) ho0 hn0 hc0 r]) := by
  unfold m_slices_stableCmpFunc_int64 at h
  refine CallH.enter Try.func70 rfl Try.ntmps70 rfl fun W I0 H => ?_
  refine Tr.weak (Γ' := [(0, (pEq (.slice ho0 hn0 hc0))), (1, (pEq (.int .i64 n_1))), (2, (pFn Try.prog (fun x : (Int × Int) => [(pEq (.int .i64 x.1)), (pEq (.int .i64 x.2))]) cmp_2 (fun y => (pEq (.int .i64 y)))))]) ⟨rfl, rfl, rfl, trivial⟩ ?_
  refine Tr.seq ?_
  refine Tr.region ?_
  refine RegL.pure (p := (pEq (.int .i64 (20 : Int)))) rfl rfl rfl (J_assign rfl Opd.con) ?_
  refine RegL.nil ?_
  refine Ct.then_tr ?_
  refine Tr.weak (Γ' := [(0, (pEq (.slice ho0 hn0 hc0))), (1, (pEq (.int .i64 n_1))), (2, (pFn Try.prog (fun x : (Int × Int) => [(pEq (.int .i64 x.1)), (pEq (.int .i64 x.2))]) cmp_2 (fun y => (pEq (.int .i64 y))))), (6, (pEq (.int .i64 (20 : Int))))]) ⟨rfl, rfl, rfl, rfl, trivial⟩ ?_
  refine Tr.seq ?_
  refine Tr.region ?_
  refine RegL.pure (p := (pEq (.int .i64 (20 : Int)))) rfl rfl rfl (J_move rfl (Opd.tmp rfl)) ?_
  refine RegL.pure (p := (pEq (.int .i64 (0 : Int)))) rfl rfl rfl (J_assign rfl Opd.con) ?_
  refine RegL.pure (p := (pEq (.int .i64 (20 : Int)))) rfl rfl rfl (J_assign rfl (Opd.tmp rfl)) ?_
  refine RegL.nil ?_
  refine Ct.then_tr ?_
  refine Tr.weak (Γ' := [(0, (pEq (.slice ho0 hn0 hc0))), (1, (pEq (.int .i64 n_1))), (2, (pFn Try.prog (fun x : (Int × Int) => [(pEq (.int .i64 x.1)), (pEq (.int .i64 x.2))]) cmp_2 (fun y => (pEq (.int .i64 y))))), (6, (pEq (.int .i64 (20 : Int)))), (7, (pEq (.int .i64 (0 : Int)))), (8, (pEq (.int .i64 (20 : Int))))]) ⟨rfl, rfl, rfl, rfl, rfl, rfl, trivial⟩ ?_
  refine Tr.seq ?_
  replace h := bind_some h; obtain ⟨x2, hx2, h⟩ := h
  refine Tr.cut (γ := Unit) (Γm := fun g => [(0, (pEq (.slice ho0 hn0 hc0))), (1, (pEq (.int .i64 n_1))), (2, (pFn Try.prog (fun x : (Int × Int) => [(pEq (.int .i64 x.1)), (pEq (.int .i64 x.2))]) cmp_2 (fun y => (pEq (.int .i64 y))))), (6, (pEq (.int .i64 (20 : Int)))), (7, (pEq (.int .i64 x2.1)))]) (Ωm := fun g => [oSl 2 1 (cK .i64) ho0 hn0 hc0 x2.2]) ?_ (fun g10 => ?_)
  · clear h
    have h := hx2
    clear hx2
    refine Tr.block ?_
    refine Tr.weak (Γ' := [(0, (pEq (.slice ho0 hn0 hc0))), (1, (pEq (.int .i64 n_1))), (2, (pFn Try.prog (fun x : (Int × Int) => [(pEq (.int .i64 x.1)), (pEq (.int .i64 x.2))]) cmp_2 (fun y => (pEq (.int .i64 y))))), (6, (pEq (.int .i64 (20 : Int)))), (7, (pEq (.int .i64 (0 : Int)))), (8, (pEq (.int .i64 (20 : Int))))]) ⟨rfl, rfl, rfl, rfl, rfl, rfl, trivial⟩ ?_
    refine Tr.loop (γ := Unit) (σ := (Int × Int × (List Int))) (Γσ := fun s g => [(0, (pEq (.slice ho0 hn0 hc0))), (1, (pEq (.int .i64 n_1))), (2, (pFn Try.prog (fun x : (Int × Int) => [(pEq (.int .i64 x.1)), (pEq (.int .i64 x.2))]) cmp_2 (fun y => (pEq (.int .i64 y))))), (6, (pEq (.int .i64 (20 : Int)))), (7, (pEq (.int .i64 s.1))), (8, (pEq (.int .i64 s.2.1)))]) (Ωσ := fun s g => [oSl 2 1 (cK .i64) ho0 hn0 hc0 s.2.2]) (g := ()) h ?_
    clear h
    rintro ⟨v4, v5, v6⟩ g7 t h
    replace h : m_slices_stableCmpFunc_int64_B3 n_1 cmp_2 v4 v5 v6 = some t := h
    unfold m_slices_stableCmpFunc_int64_B3 at h
    refine Tr.weakO (Γ' := [(0, (pEq (.slice ho0 hn0 hc0))), (1, (pEq (.int .i64 n_1))), (2, (pFn Try.prog (fun x : (Int × Int) => [(pEq (.int .i64 x.1)), (pEq (.int .i64 x.2))]) cmp_2 (fun y => (pEq (.int .i64 y))))), (6, (pEq (.int .i64 (20 : Int)))), (7, (pEq (.int .i64 v4))), (8, (pEq (.int .i64 v5)))]) (Ω' := [oSl 2 1 (cK .i64) ho0 hn0 hc0 v6]) rfl ⟨rfl, rfl, rfl, rfl, rfl, rfl, trivial⟩ ?_
    refine Tr.seq ?_
    refine Tr.seq ?_
    refine Tr.region ?_
    refine RegL.pure (p := (pEq (.int .i64 v5))) rfl rfl rfl (J_move rfl (Opd.tmp rfl)) ?_
    refine RegL.pure (p := (pEq (.int .i64 n_1))) rfl rfl rfl (J_move rfl (Opd.tmp rfl)) ?_
    refine RegL.pure (p := (pEq (.bool (decide (v5 ≤ n_1))))) rfl rfl rfl (J_bin rfl (Opd.tmp rfl) (Opd.tmp rfl) B_leq) ?_
    refine RegL.nil ?_
    refine Ct.then_tr ?_
    refine Tr.weak (Γ' := [(0, (pEq (.slice ho0 hn0 hc0))), (1, (pEq (.int .i64 n_1))), (2, (pFn Try.prog (fun x : (Int × Int) => [(pEq (.int .i64 x.1)), (pEq (.int .i64 x.2))]) cmp_2 (fun y => (pEq (.int .i64 y))))), (6, (pEq (.int .i64 (20 : Int)))), (7, (pEq (.int .i64 v4))), (8, (pEq (.int .i64 v5))), (13, (pEq (.bool (decide (v5 ≤ n_1)))))]) ⟨rfl, rfl, rfl, rfl, rfl, rfl, rfl, trivial⟩ ?_
    refine Tr.cond (Opd.tmp rfl) (fun hc => ?_) (fun hc => ?_)
    · replace h := bif_t hc h
      refine Tr.skip ?_
      refine Ct.then_tr ?_
      refine Tr.weak (Γ' := [(0, (pEq (.slice ho0 hn0 hc0))), (1, (pEq (.int .i64 n_1))), (2, (pFn Try.prog (fun x : (Int × Int) => [(pEq (.int .i64 x.1)), (pEq (.int .i64 x.2))]) cmp_2 (fun y => (pEq (.int .i64 y))))), (6, (pEq (.int .i64 (20 : Int)))), (7, (pEq (.int .i64 v4))), (8, (pEq (.int .i64 v5)))]) ⟨rfl, rfl, rfl, rfl, rfl, rfl, trivial⟩ ?_
      refine Tr.block ?_
      refine Tr.seq ?_
      refine Tr.region ?_
      refine RegL.pure (p := (pEq (.slice ho0 hn0 hc0))) rfl rfl rfl (J_move rfl (Opd.tmp rfl)) ?_
      refine RegL.pure (p := (pEq (.int .i64 v4))) rfl rfl rfl (J_move rfl (Opd.tmp rfl)) ?_
      refine RegL.pure (p := (pEq (.int .i64 v5))) rfl rfl rfl (J_move rfl (Opd.tmp rfl)) ?_
      refine RegL.pure (p := (pFn Try.prog (fun x : (Int × Int) => [(pEq (.int .i64 x.1)), (pEq (.int .i64 x.2))]) cmp_2 (fun y => (pEq (.int .i64 y))))) rfl rfl rfl (J_move rfl (Opd.tmp rfl)) ?_
      replace h := bind_some h; obtain ⟨x8, hx8, h⟩ := h
      refine RegL.step (γ := Unit) (p := fun g => (pTup [])) (Ω' := fun g => [oSl 2 1 (cK .i64) ho0 hn0 hc0 x8]) rfl rfl rfl (M_callH (Ωi := [oSl 2 1 (cK .i64) ho0 hn0 hc0 v6]) rfl Try.call95 (o_slices_insertionSortCmpFunc_int64 hx8) (Opds.cons (Opd.tmp rfl) (Opds.cons (Opd.tmp rfl) (Opds.cons (Opd.tmp rfl) (Opds.cons (Opd.tmp rfl) Opds.nil))))) fun g9 => ?_
      refine RegL.nil ?_
      refine Ct.then_tr ?_
      refine Tr.weak (Γ' := [(0, (pEq (.slice ho0 hn0 hc0))), (1, (pEq (.int .i64 n_1))), (2, (pFn Try.prog (fun x : (Int × Int) => [(pEq (.int .i64 x.1)), (pEq (.int .i64 x.2))]) cmp_2 (fun y => (pEq (.int .i64 y))))), (6, (pEq (.int .i64 (20 : Int)))), (8, (pEq (.int .i64 v5)))]) ⟨rfl, rfl, rfl, rfl, rfl, trivial⟩ ?_
      refine Tr.seq ?_
      refine Tr.region ?_
      refine RegL.pure (p := (pEq (.int .i64 v5))) rfl rfl rfl (J_move rfl (Opd.tmp rfl)) ?_
      refine RegL.pure (p := (pEq (.int .i64 v5))) rfl rfl rfl (J_assign rfl (Opd.tmp rfl)) ?_
      refine RegL.nil ?_
      refine Ct.then_tr ?_
      refine Tr.weak (Γ' := [(0, (pEq (.slice ho0 hn0 hc0))), (1, (pEq (.int .i64 n_1))), (2, (pFn Try.prog (fun x : (Int × Int) => [(pEq (.int .i64 x.1)), (pEq (.int .i64 x.2))]) cmp_2 (fun y => (pEq (.int .i64 y))))), (6, (pEq (.int .i64 (20 : Int)))), (7, (pEq (.int .i64 v5))), (8, (pEq (.int .i64 v5)))]) ⟨rfl, rfl, rfl, rfl, rfl, rfl, trivial⟩ ?_
      refine Tr.region ?_
      refine RegL.pure (p := (pEq (.int .i64 v5))) rfl rfl rfl (J_move rfl (Opd.tmp rfl)) ?_
      refine RegL.pure (p := (pEq (.int .i64 (20 : Int)))) rfl rfl rfl (J_move rfl (Opd.tmp rfl)) ?_
      refine RegL.pure (p := (pEq (.int .i64 (w64 (v5 + (20 : Int)))))) rfl rfl rfl (J_bin rfl (Opd.tmp rfl) (Opd.tmp rfl) B_add) ?_
      refine RegL.pure (p := (pEq (.int .i64 (w64 (v5 + (20 : Int)))))) rfl rfl rfl (J_assign rfl (Opd.tmp rfl)) ?_
      refine RegL.nil ?_
      refine Ct.blk_normal ?_
      replace h := Option.some.inj h; subst h
      exact Ct.again () rfl ⟨rfl, rfl, rfl, rfl, rfl, rfl, trivial⟩
    · replace h := bif_f hc h
      refine Tr.exit ?_
      refine Ct.then_exit ?_
      replace h := map_some h; obtain ⟨r1, h, rfl⟩ := h
      refine Ct.out_exit fun e => ?_
      subst e
      refine Ct.blk_exit ?_
      replace h := Option.some.inj h; subst h
      exact Ct.mid () rfl ⟨rfl, rfl, rfl, rfl, rfl, trivial⟩
  · clear hx2
    refine Ct.then_tr ?_
    refine Tr.weak (Γ' := [(0, (pEq (.slice ho0 hn0 hc0))), (1, (pEq (.int .i64 n_1))), (2, (pFn Try.prog (fun x : (Int × Int) => [(pEq (.int .i64 x.1)), (pEq (.int .i64 x.2))]) cmp_2 (fun y => (pEq (.int .i64 y))))), (6, (pEq (.int .i64 (20 : Int)))), (7, (pEq (.int .i64 x2.1)))]) ⟨rfl, rfl, rfl, rfl, rfl, trivial⟩ ?_
    refine Tr.seq ?_
    refine Tr.region ?_
    refine RegL.pure (p := (pEq (.slice ho0 hn0 hc0))) rfl rfl rfl (J_move rfl (Opd.tmp rfl)) ?_
    refine RegL.pure (p := (pEq (.int .i64 x2.1))) rfl rfl rfl (J_move rfl (Opd.tmp rfl)) ?_
    refine RegL.pure (p := (pEq (.int .i64 n_1))) rfl rfl rfl (J_move rfl (Opd.tmp rfl)) ?_
    refine RegL.pure (p := (pFn Try.prog (fun x : (Int × Int) => [(pEq (.int .i64 x.1)), (pEq (.int .i64 x.2))]) cmp_2 (fun y => (pEq (.int .i64 y))))) rfl rfl rfl (J_move rfl (Opd.tmp rfl)) ?_
    replace h := bind_some h; obtain ⟨x11, hx11, h⟩ := h
    refine RegL.step (γ := Unit) (p := fun g => (pTup [])) (Ω' := fun g => [oSl 2 1 (cK .i64) ho0 hn0 hc0 x11]) rfl rfl rfl (M_callH (Ωi := [oSl 2 1 (cK .i64) ho0 hn0 hc0 x2.2]) rfl Try.call95 (o_slices_insertionSortCmpFunc_int64 hx11) (Opds.cons (Opd.tmp rfl) (Opds.cons (Opd.tmp rfl) (Opds.cons (Opd.tmp rfl) (Opds.cons (Opd.tmp rfl) Opds.nil))))) fun g12 => ?_
    refine RegL.nil ?_
    refine Ct.then_tr ?_
    refine Tr.weak (Γ' := [(0, (pEq (.slice ho0 hn0 hc0))), (1, (pEq (.int .i64 n_1))), (2, (pFn Try.prog (fun x : (Int × Int) => [(pEq (.int .i64 x.1)), (pEq (.int .i64 x.2))]) cmp_2 (fun y => (pEq (.int .i64 y))))), (6, (pEq (.int .i64 (20 : Int))))]) ⟨rfl, rfl, rfl, rfl, trivial⟩ ?_
    replace h := bind_some h; obtain ⟨x13, hx13, h⟩ := h
    refine Tr.cut (γ := Unit) (Γm := fun g => []) (Ωm := fun g => [oSl 2 1 (cK .i64) ho0 hn0 hc0 x13]) ?_ (fun g31 => ?_)
    · clear h
      have h := hx13
      clear hx13
      refine Tr.block ?_
      refine Tr.weak (Γ' := [(0, (pEq (.slice ho0 hn0 hc0))), (1, (pEq (.int .i64 n_1))), (2, (pFn Try.prog (fun x : (Int × Int) => [(pEq (.int .i64 x.1)), (pEq (.int .i64 x.2))]) cmp_2 (fun y => (pEq (.int .i64 y))))), (6, (pEq (.int .i64 (20 : Int))))]) ⟨rfl, rfl, rfl, rfl, trivial⟩ ?_
      refine Tr.loop (γ := Unit) (σ := (Int × (List Int))) (Γσ := fun s g => [(0, (pEq (.slice ho0 hn0 hc0))), (1, (pEq (.int .i64 n_1))), (2, (pFn Try.prog (fun x : (Int × Int) => [(pEq (.int .i64 x.1)), (pEq (.int .i64 x.2))]) cmp_2 (fun y => (pEq (.int .i64 y))))), (6, (pEq (.int .i64 s.1)))]) (Ωσ := fun s g => [oSl 2 1 (cK .i64) ho0 hn0 hc0 s.2]) (g := ()) h ?_
      clear h
      rintro ⟨v15, v16⟩ g17 t h
      replace h : m_slices_stableCmpFunc_int64_B14 n_1 cmp_2 v15 v16 = some t := h
      unfold m_slices_stableCmpFunc_int64_B14 at h
      refine Tr.weakO (Γ' := [(0, (pEq (.slice ho0 hn0 hc0))), (1, (pEq (.int .i64 n_1))), (2, (pFn Try.prog (fun x : (Int × Int) => [(pEq (.int .i64 x.1)), (pEq (.int .i64 x.2))]) cmp_2 (fun y => (pEq (.int .i64 y))))), (6, (pEq (.int .i64 v15)))]) (Ω' := [oSl 2 1 (cK .i64) ho0 hn0 hc0 v16]) rfl ⟨rfl, rfl, rfl, rfl, trivial⟩ ?_
      refine Tr.seq ?_
      refine Tr.seq ?_
      refine Tr.region ?_
      refine RegL.pure (p := (pEq (.int .i64 v15))) rfl rfl rfl (J_move rfl (Opd.tmp rfl)) ?_
      refine RegL.pure (p := (pEq (.int .i64 n_1))) rfl rfl rfl (J_move rfl (Opd.tmp rfl)) ?_
      refine RegL.pure (p := (pEq (.bool (decide (v15 < n_1))))) rfl rfl rfl (J_bin rfl (Opd.tmp rfl) (Opd.tmp rfl) B_lss) ?_
      refine RegL.nil ?_
      refine Ct.then_tr ?_
      refine Tr.weak (Γ' := [(0, (pEq (.slice ho0 hn0 hc0))), (1, (pEq (.int .i64 n_1))), (2, (pFn Try.prog (fun x : (Int × Int) => [(pEq (.int .i64 x.1)), (pEq (.int .i64 x.2))]) cmp_2 (fun y => (pEq (.int .i64 y))))), (6, (pEq (.int .i64 v15))), (30, (pEq (.bool (decide (v15 < n_1)))))]) ⟨rfl, rfl, rfl, rfl, rfl, trivial⟩ ?_
      refine Tr.cond (Opd.tmp rfl) (fun hc => ?_) (fun hc => ?_)
      · replace h := bif_t hc h
        refine Tr.skip ?_
        refine Ct.then_tr ?_
        refine Tr.weak (Γ' := [(0, (pEq (.slice ho0 hn0 hc0))), (1, (pEq (.int .i64 n_1))), (2, (pFn Try.prog (fun x : (Int × Int) => [(pEq (.int .i64 x.1)), (pEq (.int .i64 x.2))]) cmp_2 (fun y => (pEq (.int .i64 y))))), (6, (pEq (.int .i64 v15)))]) ⟨rfl, rfl, rfl, rfl, trivial⟩ ?_
        refine Tr.block ?_
        refine Tr.seq ?_
        refine Tr.region ?_
        refine RegL.pure (p := (pEq (.int .i64 v15))) rfl rfl rfl (J_move rfl (Opd.tmp rfl)) ?_
        refine RegL.pure (p := (pEq (.int .i64 (w64 ((2 : Int) * v15))))) rfl rfl rfl (J_bin rfl Opd.con (Opd.tmp rfl) B_mul) ?_
        refine RegL.pure (p := (pEq (.int .i64 (0 : Int)))) rfl rfl rfl (J_assign rfl Opd.con) ?_
        refine RegL.pure (p := (pEq (.int .i64 (w64 ((2 : Int) * v15))))) rfl rfl rfl (J_assign rfl (Opd.tmp rfl)) ?_
        refine RegL.nil ?_
        refine Ct.then_tr ?_
        refine Tr.weak (Γ' := [(0, (pEq (.slice ho0 hn0 hc0))), (1, (pEq (.int .i64 n_1))), (2, (pFn Try.prog (fun x : (Int × Int) => [(pEq (.int .i64 x.1)), (pEq (.int .i64 x.2))]) cmp_2 (fun y => (pEq (.int .i64 y))))), (6, (pEq (.int .i64 v15))), (7, (pEq (.int .i64 (0 : Int)))), (8, (pEq (.int .i64 (w64 ((2 : Int) * v15)))))]) ⟨rfl, rfl, rfl, rfl, rfl, rfl, trivial⟩ ?_
        refine Tr.seq ?_
        replace h := bind_some h; obtain ⟨x18, hx18, h⟩ := h
        refine Tr.cut (γ := Unit) (Γm := fun g => [(0, (pEq (.slice ho0 hn0 hc0))), (1, (pEq (.int .i64 n_1))), (2, (pFn Try.prog (fun x : (Int × Int) => [(pEq (.int .i64 x.1)), (pEq (.int .i64 x.2))]) cmp_2 (fun y => (pEq (.int .i64 y))))), (6, (pEq (.int .i64 v15))), (7, (pEq (.int .i64 x18.1)))]) (Ωm := fun g => [oSl 2 1 (cK .i64) ho0 hn0 hc0 x18.2]) ?_ (fun g26 => ?_)
        · clear h
          have h := hx18
          clear hx18
          refine Tr.block ?_
          refine Tr.weak (Γ' := [(0, (pEq (.slice ho0 hn0 hc0))), (1, (pEq (.int .i64 n_1))), (2, (pFn Try.prog (fun x : (Int × Int) => [(pEq (.int .i64 x.1)), (pEq (.int .i64 x.2))]) cmp_2 (fun y => (pEq (.int .i64 y))))), (6, (pEq (.int .i64 v15))), (7, (pEq (.int .i64 (0 : Int)))), (8, (pEq (.int .i64 (w64 ((2 : Int) * v15)))))]) ⟨rfl, rfl, rfl, rfl, rfl, rfl, trivial⟩ ?_
          refine Tr.loop (γ := Unit) (σ := (Int × Int × (List Int))) (Γσ := fun s g => [(0, (pEq (.slice ho0 hn0 hc0))), (1, (pEq (.int .i64 n_1))), (2, (pFn Try.prog (fun x : (Int × Int) => [(pEq (.int .i64 x.1)), (pEq (.int .i64 x.2))]) cmp_2 (fun y => (pEq (.int .i64 y))))), (6, (pEq (.int .i64 v15))), (7, (pEq (.int .i64 s.1))), (8, (pEq (.int .i64 s.2.1)))]) (Ωσ := fun s g => [oSl 2 1 (cK .i64) ho0 hn0 hc0 s.2.2]) (g := ()) h ?_
          clear h
          rintro ⟨v20, v21, v22⟩ g23 t h
          replace h : m_slices_stableCmpFunc_int64_B19 n_1 cmp_2 v15 v20 v21 v22 = some t := h
          unfold m_slices_stableCmpFunc_int64_B19 at h
          refine Tr.weakO (Γ' := [(0, (pEq (.slice ho0 hn0 hc0))), (1, (pEq (.int .i64 n_1))), (2, (pFn Try.prog (fun x : (Int × Int) => [(pEq (.int .i64 x.1)), (pEq (.int .i64 x.2))]) cmp_2 (fun y => (pEq (.int .i64 y))))), (6, (pEq (.int .i64 v15))), (7, (pEq (.int .i64 v20))), (8, (pEq (.int .i64 v21)))]) (Ω' := [oSl 2 1 (cK .i64) ho0 hn0 hc0 v22]) rfl ⟨rfl, rfl, rfl, rfl, rfl, rfl, trivial⟩ ?_
          refine Tr.seq ?_
          refine Tr.seq ?_
          refine Tr.region ?_
          refine RegL.pure (p := (pEq (.int .i64 v21))) rfl rfl rfl (J_move rfl (Opd.tmp rfl)) ?_
          refine RegL.pure (p := (pEq (.int .i64 n_1))) rfl rfl rfl (J_move rfl (Opd.tmp rfl)) ?_
          refine RegL.pure (p := (pEq (.bool (decide (v21 ≤ n_1))))) rfl rfl rfl (J_bin rfl (Opd.tmp rfl) (Opd.tmp rfl) B_leq) ?_
          refine RegL.nil ?_
          refine Ct.then_tr ?_
          refine Tr.weak (Γ' := [(0, (pEq (.slice ho0 hn0 hc0))), (1, (pEq (.int .i64 n_1))), (2, (pFn Try.prog (fun x : (Int × Int) => [(pEq (.int .i64 x.1)), (pEq (.int .i64 x.2))]) cmp_2 (fun y => (pEq (.int .i64 y))))), (6, (pEq (.int .i64 v15))), (7, (pEq (.int .i64 v20))), (8, (pEq (.int .i64 v21))), (35, (pEq (.bool (decide (v21 ≤ n_1)))))]) ⟨rfl, rfl, rfl, rfl, rfl, rfl, rfl, trivial⟩ ?_
          refine Tr.cond (Opd.tmp rfl) (fun hc => ?_) (fun hc => ?_)
          · replace h := bif_t hc h
            refine Tr.skip ?_
            refine Ct.then_tr ?_
            refine Tr.weak (Γ' := [(0, (pEq (.slice ho0 hn0 hc0))), (1, (pEq (.int .i64 n_1))), (2, (pFn Try.prog (fun x : (Int × Int) => [(pEq (.int .i64 x.1)), (pEq (.int .i64 x.2))]) cmp_2 (fun y => (pEq (.int .i64 y))))), (6, (pEq (.int .i64 v15))), (7, (pEq (.int .i64 v20))), (8, (pEq (.int .i64 v21)))]) ⟨rfl, rfl, rfl, rfl, rfl, rfl, trivial⟩ ?_
            refine Tr.block ?_
            refine Tr.seq ?_
            refine Tr.region ?_
            refine RegL.pure (p := (pEq (.slice ho0 hn0 hc0))) rfl rfl rfl (J_move rfl (Opd.tmp rfl)) ?_
            refine RegL.pure (p := (pEq (.int .i64 v20))) rfl rfl rfl (J_move rfl (Opd.tmp rfl)) ?_
            refine RegL.pure (p := (pEq (.int .i64 v20))) rfl rfl rfl (J_move rfl (Opd.tmp rfl)) ?_
            refine RegL.pure (p := (pEq (.int .i64 v15))) rfl rfl rfl (J_move rfl (Opd.tmp rfl)) ?_
            refine RegL.pure (p := (pEq (.int .i64 (w64 (v20 + v15))))) rfl rfl rfl (J_bin rfl (Opd.tmp rfl) (Opd.tmp rfl) B_add) ?_
            refine RegL.pure (p := (pEq (.int .i64 v21))) rfl rfl rfl (J_move rfl (Opd.tmp rfl)) ?_
            refine RegL.pure (p := (pFn Try.prog (fun x : (Int × Int) => [(pEq (.int .i64 x.1)), (pEq (.int .i64 x.2))]) cmp_2 (fun y => (pEq (.int .i64 y))))) rfl rfl rfl (J_move rfl (Opd.tmp rfl)) ?_
            replace h := bind_some h; obtain ⟨x24, hx24, h⟩ := h
            refine RegL.step (γ := Unit) (p := fun g => (pTup [])) (Ω' := fun g => [oSl 2 1 (cK .i64) ho0 hn0 hc0 x24]) rfl rfl rfl (M_callH (Ωi := [oSl 2 1 (cK .i64) ho0 hn0 hc0 v22]) rfl Try.call96 (o_slices_symMergeCmpFunc_int64 hx24) (Opds.cons (Opd.tmp rfl) (Opds.cons (Opd.tmp rfl) (Opds.cons (Opd.tmp rfl) (Opds.cons (Opd.tmp rfl) (Opds.cons (Opd.tmp rfl) Opds.nil)))))) fun g25 => ?_
            refine RegL.nil ?_
            refine Ct.then_tr ?_
            refine Tr.weak (Γ' := [(0, (pEq (.slice ho0 hn0 hc0))), (1, (pEq (.int .i64 n_1))), (2, (pFn Try.prog (fun x : (Int × Int) => [(pEq (.int .i64 x.1)), (pEq (.int .i64 x.2))]) cmp_2 (fun y => (pEq (.int .i64 y))))), (6, (pEq (.int .i64 v15))), (8, (pEq (.int .i64 v21)))]) ⟨rfl, rfl, rfl, rfl, rfl, trivial⟩ ?_
            refine Tr.seq ?_
            refine Tr.region ?_
            refine RegL.pure (p := (pEq (.int .i64 v21))) rfl rfl rfl (J_move rfl (Opd.tmp rfl)) ?_
            refine RegL.pure (p := (pEq (.int .i64 v21))) rfl rfl rfl (J_assign rfl (Opd.tmp rfl)) ?_
            refine RegL.nil ?_
            refine Ct.then_tr ?_
            refine Tr.weak (Γ' := [(0, (pEq (.slice ho0 hn0 hc0))), (1, (pEq (.int .i64 n_1))), (2, (pFn Try.prog (fun x : (Int × Int) => [(pEq (.int .i64 x.1)), (pEq (.int .i64 x.2))]) cmp_2 (fun y => (pEq (.int .i64 y))))), (6, (pEq (.int .i64 v15))), (7, (pEq (.int .i64 v21))), (8, (pEq (.int .i64 v21)))]) ⟨rfl, rfl, rfl, rfl, rfl, rfl, trivial⟩ ?_
            refine Tr.region ?_
            refine RegL.pure (p := (pEq (.int .i64 v21))) rfl rfl rfl (J_move rfl (Opd.tmp rfl)) ?_
            refine RegL.pure (p := (pEq (.int .i64 v15))) rfl rfl rfl (J_move rfl (Opd.tmp rfl)) ?_
            refine RegL.pure (p := (pEq (.int .i64 (w64 ((2 : Int) * v15))))) rfl rfl rfl (J_bin rfl Opd.con (Opd.tmp rfl) B_mul) ?_
            refine RegL.pure (p := (pEq (.int .i64 (w64 (v21 + (w64 ((2 : Int) * v15))))))) rfl rfl rfl (J_bin rfl (Opd.tmp rfl) (Opd.tmp rfl) B_add) ?_
            refine RegL.pure (p := (pEq (.int .i64 (w64 (v21 + (w64 ((2 : Int) * v15))))))) rfl rfl rfl (J_assign rfl (Opd.tmp rfl)) ?_
            refine RegL.nil ?_
            refine Ct.blk_normal ?_
            replace h := Option.some.inj h; subst h
            exact Ct.again () rfl ⟨rfl, rfl, rfl, rfl, rfl, rfl, trivial⟩
          · replace h := bif_f hc h
            refine Tr.exit ?_
            refine Ct.then_exit ?_
            replace h := map_some h; obtain ⟨r1, h, rfl⟩ := h
            refine Ct.out_exit fun e => ?_
            subst e
            refine Ct.blk_exit ?_
            replace h := Option.some.inj h; subst h
            exact Ct.mid () rfl ⟨rfl, rfl, rfl, rfl, rfl, trivial⟩
        · clear hx18
          refine Ct.then_tr ?_
          refine Tr.weak (Γ' := [(0, (pEq (.slice ho0 hn0 hc0))), (1, (pEq (.int .i64 n_1))), (2, (pFn Try.prog (fun x : (Int × Int) => [(pEq (.int .i64 x.1)), (pEq (.int .i64 x.2))]) cmp_2 (fun y => (pEq (.int .i64 y))))), (6, (pEq (.int .i64 v15))), (7, (pEq (.int .i64 x18.1)))]) ⟨rfl, rfl, rfl, rfl, rfl, trivial⟩ ?_
          refine Tr.seq ?_
          refine Tr.seq ?_
          refine Tr.region ?_
          refine RegL.pure (p := (pEq (.int .i64 x18.1))) rfl rfl rfl (J_move rfl (Opd.tmp rfl)) ?_
          refine RegL.pure (p := (pEq (.int .i64 v15))) rfl rfl rfl (J_move rfl (Opd.tmp rfl)) ?_
          refine RegL.pure (p := (pEq (.int .i64 (w64 (x18.1 + v15))))) rfl rfl rfl (J_bin rfl (Opd.tmp rfl) (Opd.tmp rfl) B_add) ?_
          refine RegL.pure (p := (pEq (.int .i64 (w64 (x18.1 + v15))))) rfl rfl rfl (J_assign rfl (Opd.tmp rfl)) ?_
          refine RegL.nil ?_
          refine Ct.then_tr ?_
          refine Tr.weak (Γ' := [(0, (pEq (.slice ho0 hn0 hc0))), (1, (pEq (.int .i64 n_1))), (2, (pFn Try.prog (fun x : (Int × Int) => [(pEq (.int .i64 x.1)), (pEq (.int .i64 x.2))]) cmp_2 (fun y => (pEq (.int .i64 y))))), (6, (pEq (.int .i64 v15))), (7, (pEq (.int .i64 x18.1))), (9, (pEq (.int .i64 (w64 (x18.1 + v15)))))]) ⟨rfl, rfl, rfl, rfl, rfl, rfl, trivial⟩ ?_
          refine Tr.seq ?_
          refine Tr.region ?_
          refine RegL.pure (p := (pEq (.int .i64 (w64 (x18.1 + v15))))) rfl rfl rfl (J_move rfl (Opd.tmp rfl)) ?_
          refine RegL.pure (p := (pEq (.int .i64 n_1))) rfl rfl rfl (J_move rfl (Opd.tmp rfl)) ?_
          refine RegL.pure (p := (pEq (.bool (decide ((w64 (x18.1 + v15)) < n_1))))) rfl rfl rfl (J_bin rfl (Opd.tmp rfl) (Opd.tmp rfl) B_lss) ?_
          refine RegL.nil ?_
          refine Ct.then_tr ?_
          refine Tr.weak (Γ' := [(0, (pEq (.slice ho0 hn0 hc0))), (1, (pEq (.int .i64 n_1))), (2, (pFn Try.prog (fun x : (Int × Int) => [(pEq (.int .i64 x.1)), (pEq (.int .i64 x.2))]) cmp_2 (fun y => (pEq (.int .i64 y))))), (6, (pEq (.int .i64 v15))), (7, (pEq (.int .i64 x18.1))), (9, (pEq (.int .i64 (w64 (x18.1 + v15))))), (54, (pEq (.bool (decide ((w64 (x18.1 + v15)) < n_1)))))]) ⟨rfl, rfl, rfl, rfl, rfl, rfl, rfl, trivial⟩ ?_
          replace h := bind_some h; obtain ⟨x27, hx27, h⟩ := h
          refine Tr.cut (γ := Unit) (Γm := fun g => [(0, (pEq (.slice ho0 hn0 hc0))), (1, (pEq (.int .i64 n_1))), (2, (pFn Try.prog (fun x : (Int × Int) => [(pEq (.int .i64 x.1)), (pEq (.int .i64 x.2))]) cmp_2 (fun y => (pEq (.int .i64 y))))), (6, (pEq (.int .i64 v15)))]) (Ωm := fun g => [oSl 2 1 (cK .i64) ho0 hn0 hc0 x27]) ?_ (fun g30 => ?_)
          · clear h
            have h := hx27
            clear hx27
            refine Tr.cond (Opd.tmp rfl) (fun hc => ?_) (fun hc => ?_)
            · replace h := bif_t hc h
              refine Tr.region ?_
              refine RegL.pure (p := (pEq (.slice ho0 hn0 hc0))) rfl rfl rfl (J_move rfl (Opd.tmp rfl)) ?_
              refine RegL.pure (p := (pEq (.int .i64 x18.1))) rfl rfl rfl (J_move rfl (Opd.tmp rfl)) ?_
              refine RegL.pure (p := (pEq (.int .i64 (w64 (x18.1 + v15))))) rfl rfl rfl (J_move rfl (Opd.tmp rfl)) ?_
              refine RegL.pure (p := (pEq (.int .i64 n_1))) rfl rfl rfl (J_move rfl (Opd.tmp rfl)) ?_
              refine RegL.pure (p := (pFn Try.prog (fun x : (Int × Int) => [(pEq (.int .i64 x.1)), (pEq (.int .i64 x.2))]) cmp_2 (fun y => (pEq (.int .i64 y))))) rfl rfl rfl (J_move rfl (Opd.tmp rfl)) ?_
              replace h := bind_some h; obtain ⟨x28, hx28, h⟩ := h
              refine RegL.step (γ := Unit) (p := fun g => (pTup [])) (Ω' := fun g => [oSl 2 1 (cK .i64) ho0 hn0 hc0 x28]) rfl rfl rfl (M_callH (Ωi := [oSl 2 1 (cK .i64) ho0 hn0 hc0 x18.2]) rfl Try.call96 (o_slices_symMergeCmpFunc_int64 hx28) (Opds.cons (Opd.tmp rfl) (Opds.cons (Opd.tmp rfl) (Opds.cons (Opd.tmp rfl) (Opds.cons (Opd.tmp rfl) (Opds.cons (Opd.tmp rfl) Opds.nil)))))) fun g29 => ?_
              refine RegL.nil ?_
              replace h := Option.some.inj h; subst h
              exact Ct.mid () rfl ⟨rfl, rfl, rfl, rfl, trivial⟩
            · replace h := bif_f hc h
              refine Tr.skip ?_
              replace h := Option.some.inj h; subst h
              exact Ct.mid () rfl ⟨rfl, rfl, rfl, rfl, trivial⟩
          · clear hx27
            refine Ct.then_tr ?_
            refine Tr.weak (Γ' := [(0, (pEq (.slice ho0 hn0 hc0))), (1, (pEq (.int .i64 n_1))), (2, (pFn Try.prog (fun x : (Int × Int) => [(pEq (.int .i64 x.1)), (pEq (.int .i64 x.2))]) cmp_2 (fun y => (pEq (.int .i64 y))))), (6, (pEq (.int .i64 v15)))]) ⟨rfl, rfl, rfl, rfl, trivial⟩ ?_
            refine Tr.region ?_
            refine RegL.pure (p := (pEq (.int .i64 v15))) rfl rfl rfl (J_move rfl (Opd.tmp rfl)) ?_
            refine RegL.pure (p := (pEq (.int .i64 (w64 (v15 * (2 : Int)))))) rfl rfl rfl (J_bin rfl (Opd.tmp rfl) Opd.con B_mul) ?_
            refine RegL.pure (p := (pEq (.int .i64 (w64 (v15 * (2 : Int)))))) rfl rfl rfl (J_assign rfl (Opd.tmp rfl)) ?_
            refine RegL.nil ?_
            refine Ct.blk_normal ?_
            replace h := Option.some.inj h; subst h
            exact Ct.again () rfl ⟨rfl, rfl, rfl, rfl, trivial⟩
      · replace h := bif_f hc h
        refine Tr.exit ?_
        refine Ct.then_exit ?_
        replace h := map_some h; obtain ⟨r1, h, rfl⟩ := h
        refine Ct.out_exit fun e => ?_
        subst e
        refine Ct.blk_exit ?_
        replace h := Option.some.inj h; subst h
        exact Ct.mid () rfl trivial
    · clear hx13
      replace h := Option.some.inj h; subst h
      exact Ct.retN0 (Ωx := []) () rfl rfl rfl

theorem o_slices_SortStableFunc_int64_int64 {x_0 : (List Int)} {cmp_1 : ((Int × Int) → Option Int)} {ho0 : Option Addr} {hn0 hc0 : Nat} {r : (List Int)} (h : m_slices_SortStableFunc_int64_int64 x_0 cmp_1 = some r) : CallH Try.prog 31 [(pEq (.slice ho0 hn0 hc0)), (pFn Try.prog (fun x : (Int × Int) => [(pEq (.int .i64 x.1)), (pEq (.int .i64 x.2))]) cmp_1 (fun y => (pEq (.int .i64 y))))] [oSl 2 1 (cK .i64) ho0 hn0 hc0 x_0] (fun g : Unit => (pTup [])) (fun g : Unit => [oSl 2 1 (cK .i64) ho0 hn0 hc0 r]) := by
  unfold m_slices_SortStableFunc_int64_int64 at h
  refine CallH.enter Try.func31 rfl Try.ntmps31 rfl fun W I0 H => ?_
  refine Tr.weak (Γ' := [(0, (pEq (.slice ho0 hn0 hc0))), (1, (pFn Try.prog (fun x : (Int × Int) => [(pEq (.int .i64 x.1)), (pEq (.int .i64 x.2))]) cmp_1 (fun y => (pEq (.int .i64 y)))))]) ⟨rfl, rfl, trivial⟩ ?_
  refine Tr.region ?_
  refine RegL.pure (p := (pEq (.slice ho0 hn0 hc0))) rfl rfl rfl (J_move rfl (Opd.tmp rfl)) ?_
  refine RegL.pure (p := (pEq (.slice ho0 hn0 hc0))) rfl rfl rfl (J_move rfl (Opd.tmp rfl)) ?_
  refine RegL.pureW (p := (pEq (.int .i64 (x_0.length : Int)))) rfl rfl rfl (W_rowLen (j := 0) rfl Try.underlying26 (Opd.tmp rfl) rfl) ?_
  refine RegL.pure (p := (pFn Try.prog (fun x : (Int × Int) => [(pEq (.int .i64 x.1)), (pEq (.int .i64 x.2))]) cmp_1 (fun y => (pEq (.int .i64 y))))) rfl rfl rfl (J_move rfl (Opd.tmp rfl)) ?_
  replace h := bind_some h; obtain ⟨x2, hx2, h⟩ := h
  refine RegL.step (γ := Unit) (p := fun g => (pTup [])) (Ω' := fun g => [oSl 2 1 (cK .i64) ho0 hn0 hc0 x2]) rfl rfl rfl (M_callH (Ωi := [oSl 2 1 (cK .i64) ho0 hn0 hc0 x_0]) rfl Try.call70 (o_slices_stableCmpFunc_int64 hx2) (Opds.cons (Opd.tmp rfl) (Opds.cons (Opd.tmp rfl) (Opds.cons (Opd.tmp rfl) Opds.nil)))) fun g3 => ?_
  refine RegL.nil ?_
  replace h := Option.some.inj h; subst h
  exact Ct.retN0 (Ωx := []) () rfl rfl rfl

theorem o_impl_DegreeOrder {p_0 : GProblem}  {r : ((List Int) × Int)} (h : m_impl_DegreeOrder p_0 = some r) : CallH Try.prog 11 [(pAgg (cGProblem p_0))] [] (fun g : G3 => (pTup [(pEq (.slice g.1 g.2.1 g.2.2)), (pEq (.int .i64 r.2))])) (fun g : G3 => [oSl 2 1 (cK .i64) g.1 g.2.1 g.2.2 r.1]) := by
  unfold m_impl_DegreeOrder at h
  refine CallH.enter Try.func11 rfl Try.ntmps11 rfl fun W I0 H => ?_
  refine Tr.weak (Γ' := [(0, (pAgg (cGProblem p_0)))]) ⟨rfl, trivial⟩ ?_
  refine Tr.seq ?_
  refine Tr.region ?_
  refine RegL.pure (p := (pPtr (cGProblem p_0))) rfl rfl rfl (J_boxA rfl (Opd.tmp rfl)) ?_
  refine RegL.pure (p := (pEq (.slice none 0 0))) rfl rfl rfl (J_assign rfl Opd.con) ?_
  refine RegL.pure (p := (pEq (.int .i64 (0 : Int)))) rfl rfl rfl (J_assign rfl Opd.con) ?_
  refine RegL.nil ?_
  refine Ct.then_tr ?_
  refine Tr.weak (Γ' := [(1, (pPtr (cGProblem p_0)))]) ⟨rfl, trivial⟩ ?_
  refine Tr.seq ?_
  refine Tr.seq ?_
  refine Tr.region ?_
  refine RegL.pure (p := (pAgg (cGProblem p_0))) rfl rfl rfl (J_loadA rfl Try.isAgg29 sz29 (Opd.tmp rfl) rfl) ?_
  replace h := bind_some h; obtain ⟨x1, hx1, h⟩ := h
  refine RegL.pure (p := (pEq (.bool x1))) rfl rfl rfl (J_call rfl Try.call30 (c_impl_ValidProblem hx1) (Opds.cons (Opd.tmp rfl) Opds.nil)) ?_
  refine RegL.pure (p := (pEq (.bool (!x1)))) rfl rfl rfl (J_not rfl (Opd.tmp rfl)) ?_
  refine RegL.nil ?_
  refine Ct.then_tr ?_
  refine Tr.weak (Γ' := [(1, (pPtr (cGProblem p_0))), (8, (pEq (.bool (!x1))))]) ⟨rfl, rfl, trivial⟩ ?_
  refine Tr.cond (Opd.tmp rfl) (fun hc => ?_) (fun hc => ?_)
  · replace h := bif_t hc h
    refine Tr.seq ?_
    refine Tr.region ?_
    refine RegL.pure (p := (pEq (.slice none 0 0))) rfl rfl rfl (J_assign rfl Opd.con) ?_
    refine RegL.pure (p := (pEq (.int .i64 (1 : Int)))) rfl rfl rfl (J_assign rfl Opd.con) ?_
    refine RegL.nil ?_
    refine Ct.then_tr ?_
    refine Tr.weak (Γ' := [(2, (pEq (.slice none 0 0))), (3, (pEq (.int .i64 (1 : Int))))]) ⟨rfl, rfl, trivial⟩ ?_
    refine Tr.ret ?_
    refine Ct.then_ret ?_
    refine Ct.re (Ω2 := [oSl 2 1 (cK .i64) none 0 0 ([] : (List Int))]) (fun h => SatO.nilRow h) ?_
    replace h := Option.some.inj h; subst h
    exact Ct.retH2 (Ωx := []) (none, 0, 0) rfl (RvOk.tmp rfl) (RvOk.tmp rfl) rfl rfl
  · replace h := bif_f hc h
    refine Tr.skip ?_
    refine Ct.then_tr ?_
    refine Tr.weak (Γ' := [(1, (pPtr (cGProblem p_0)))]) ⟨rfl, trivial⟩ ?_
    refine Tr.seq ?_
    refine Tr.region ?_
    refine RegL.pure (p := (pPtr ((cSl 1 (cSl 1 (cK .i64))) p_0.Domains))) rfl rfl rfl (J_fieldAddr rfl Try.underlying29 rfl sz22 (by decide) (Opd.tmp rfl) rfl) ?_
    refine RegL.pure (p := (pSl 1 (cSl 1 (cK .i64)) p_0.Domains)) rfl rfl rfl (J_load rfl Try.isAgg22 (Opd.tmp rfl)) ?_
    refine RegL.pure (p := (pEq (.int .i64 (p_0.Domains.length : Int)))) rfl rfl rfl (J_len rfl Try.underlying22 (Opd.tmp rfl) rfl) ?_
    replace h := bind_some h; obtain ⟨x3, hx3, h⟩ := h
    refine RegL.step (γ := Option Addr) (p := fun a => pEq (.slice a ((p_0.Domains.length : Int)).toNat ((p_0.Domains.length : Int)).toNat)) (Ω' := fun a => [oSl 2 1 (cK .i64) a ((p_0.Domains.length : Int)).toNat ((p_0.Domains.length : Int)).toNat x3]) rfl rfl rfl (M_make rfl Try.underlying26 el2 (by decide) (Opd.tmp rfl) hx3) fun o4 => ?_
    refine RegL.pure (p := (pEq (.slice o4 ((p_0.Domains.length : Int)).toNat ((p_0.Domains.length : Int)).toNat))) rfl rfl rfl (J_assign rfl (Opd.tmp rfl)) ?_
    refine RegL.nil ?_
    refine Ct.then_tr ?_
    refine Tr.weak (Γ' := [(1, (pPtr (cGProblem p_0))), (4, (pEq (.slice o4 ((p_0.Domains.length : Int)).toNat ((p_0.Domains.length : Int)).toNat)))]) ⟨rfl, rfl, trivial⟩ ?_
    refine Tr.seq ?_
    refine Tr.seq ?_
    refine Tr.region ?_
    refine RegL.pure (p := (pEq (.slice o4 ((p_0.Domains.length : Int)).toNat ((p_0.Domains.length : Int)).toNat))) rfl rfl rfl (J_move rfl (Opd.tmp rfl)) ?_
    refine RegL.pureW (p := (pEq (.int .i64 (x3.length : Int)))) rfl rfl rfl (W_rowLen (j := 0) rfl Try.underlying26 (Opd.tmp rfl) rfl) ?_
    refine RegL.pure (p := (pEq (.int .i64 (0 : Int)))) rfl rfl rfl (J_move rfl Opd.con) ?_
    refine RegL.nil ?_
    refine Ct.then_tr ?_
    refine Tr.weak (Γ' := [(1, (pPtr (cGProblem p_0))), (4, (pEq (.slice o4 ((p_0.Domains.length : Int)).toNat ((p_0.Domains.length : Int)).toNat))), (14, (pEq (.int .i64 (x3.length : Int)))), (15, (pEq (.int .i64 (0 : Int))))]) ⟨rfl, rfl, rfl, rfl, trivial⟩ ?_
    replace h := bind_some h; obtain ⟨x6, hx6, h⟩ := h
    refine Tr.cut (γ := G3) (Γm := fun g => [(1, (pPtr (cGProblem p_0))), (4, (pEq (.slice g.1 g.2.1 g.2.2)))]) (Ωm := fun g => [oSl 2 1 (cK .i64) g.1 g.2.1 g.2.2 x6]) ?_ (fun g13 => ?_)
    · clear h
      have h := hx6
      clear hx6
      refine Tr.block ?_
      refine Tr.weak (Γ' := [(1, (pPtr (cGProblem p_0))), (4, (pEq (.slice o4 ((p_0.Domains.length : Int)).toNat ((p_0.Domains.length : Int)).toNat))), (14, (pEq (.int .i64 (x3.length : Int)))), (15, (pEq (.int .i64 (0 : Int))))]) ⟨rfl, rfl, rfl, rfl, trivial⟩ ?_
      refine Tr.loop (γ := G3) (σ := (Int × (List Int))) (Γσ := fun s g => [(1, (pPtr (cGProblem p_0))), (4, (pEq (.slice g.1 g.2.1 g.2.2))), (14, (pEq (.int .i64 (x3.length : Int)))), (15, (pEq (.int .i64 s.1)))]) (Ωσ := fun s g => [oSl 2 1 (cK .i64) g.1 g.2.1 g.2.2 s.2]) (g := (o4, ((p_0.Domains.length : Int)).toNat, ((p_0.Domains.length : Int)).toNat)) h ?_
      clear h
      rintro ⟨v8, v9⟩ g10 t h
      replace h : m_impl_DegreeOrder_B7 x3 v8 v9 = some t := h
      unfold m_impl_DegreeOrder_B7 at h
      refine Tr.weakO (Γ' := [(1, (pPtr (cGProblem p_0))), (4, (pEq (.slice g10.1 g10.2.1 g10.2.2))), (14, (pEq (.int .i64 (x3.length : Int)))), (15, (pEq (.int .i64 v8)))]) (Ω' := [oSl 2 1 (cK .i64) g10.1 g10.2.1 g10.2.2 v9]) rfl ⟨rfl, rfl, rfl, rfl, trivial⟩ ?_
      refine Tr.seq ?_
      refine Tr.region ?_
      refine RegL.pure (p := (pEq (.bool (decide (v8 < (x3.length : Int)))))) rfl rfl rfl (J_bin rfl (Opd.tmp rfl) (Opd.tmp rfl) B_lss) ?_
      refine RegL.nil ?_
      refine Ct.then_tr ?_
      refine Tr.weak (Γ' := [(1, (pPtr (cGProblem p_0))), (4, (pEq (.slice g10.1 g10.2.1 g10.2.2))), (14, (pEq (.int .i64 (x3.length : Int)))), (15, (pEq (.int .i64 v8))), (16, (pEq (.bool (decide (v8 < (x3.length : Int))))))]) ⟨rfl, rfl, rfl, rfl, rfl, trivial⟩ ?_
      refine Tr.seq ?_
      refine Tr.cond (Opd.tmp rfl) (fun hc => ?_) (fun hc => ?_)
      · replace h := bif_t hc h
        refine Tr.skip ?_
        refine Ct.then_tr ?_
        refine Tr.weak (Γ' := [(1, (pPtr (cGProblem p_0))), (4, (pEq (.slice g10.1 g10.2.1 g10.2.2))), (14, (pEq (.int .i64 (x3.length : Int)))), (15, (pEq (.int .i64 v8)))]) ⟨rfl, rfl, rfl, rfl, trivial⟩ ?_
        refine Tr.seq ?_
        refine Tr.block ?_
        refine Tr.seq ?_
        refine Tr.region ?_
        refine RegL.pure (p := (pEq (.int .i64 v8))) rfl rfl rfl (J_move rfl (Opd.tmp rfl)) ?_
        refine RegL.pure (p := (pEq (.int .i64 v8))) rfl rfl rfl (J_assign rfl (Opd.tmp rfl)) ?_
        refine RegL.nil ?_
        refine Ct.then_tr ?_
        refine Tr.weak (Γ' := [(1, (pPtr (cGProblem p_0))), (4, (pEq (.slice g10.1 g10.2.1 g10.2.2))), (5, (pEq (.int .i64 v8))), (14, (pEq (.int .i64 (x3.length : Int)))), (15, (pEq (.int .i64 v8)))]) ⟨rfl, rfl, rfl, rfl, rfl, trivial⟩ ?_
        refine Tr.region ?_
        refine RegL.pure (p := (pEq (.slice g10.1 g10.2.1 g10.2.2))) rfl rfl rfl (J_move rfl (Opd.tmp rfl)) ?_
        refine RegL.pure (p := (pEq (.int .i64 v8))) rfl rfl rfl (J_move rfl (Opd.tmp rfl)) ?_
        refine RegL.pure (p := (pEq (.int .i64 v8))) rfl rfl rfl (J_move rfl (Opd.tmp rfl)) ?_
        replace h := bind_some h; obtain ⟨u11, hu11, h⟩ := h
        refine RegL.pureW (p := (pEq (.pointer (some ⟨blk g10.1, (v8).toNat * 1, none⟩)))) rfl rfl rfl (W_rowIdx (j := 0) rfl Try.underlying26 sz2 (Opd.tmp rfl) (Opd.tmp rfl) rfl (inB_some hu11)) ?_
        refine RegL.stepN (γ := Unit) (p := fun _ => pAny) (Ω' := fun _ => [oSl 2 1 (cK .i64) g10.1 g10.2.1 g10.2.2 (v9.set (v8).toNat v8)]) rfl rfl (M_rowStore rfl sz2 (fun _ => rfl) (Opd.tmp rfl) (Opd.tmp rfl) rfl OneC.int (setL_of (inB_some hu11))) fun g12 => ?_
        refine RegL.nil ?_
        refine Ct.blk_normal ?_
        refine Ct.then_tr ?_
        refine Tr.weak (Γ' := [(1, (pPtr (cGProblem p_0))), (4, (pEq (.slice g10.1 g10.2.1 g10.2.2))), (14, (pEq (.int .i64 (x3.length : Int)))), (15, (pEq (.int .i64 v8)))]) ⟨rfl, rfl, rfl, rfl, trivial⟩ ?_
        refine Tr.region ?_
        refine RegL.pure (p := (pEq (.int .i64 (w64 (v8 + (1 : Int)))))) rfl rfl rfl (J_bin rfl (Opd.tmp rfl) Opd.con B_add) ?_
        refine RegL.pure (p := (pEq (.int .i64 (w64 (v8 + (1 : Int)))))) rfl rfl rfl (J_move rfl (Opd.tmp rfl)) ?_
        refine RegL.nil ?_
        replace h := Option.some.inj h; subst h
        exact Ct.again (g10.1, g10.2.1, g10.2.2) rfl ⟨rfl, rfl, rfl, rfl, trivial⟩
      · replace h := bif_f hc h
        refine Tr.exit ?_
        refine Ct.then_exit ?_
        replace h := map_some h; obtain ⟨r1, h, rfl⟩ := h
        refine Ct.out_exit fun e => ?_
        subst e
        refine Ct.blk_exit ?_
        replace h := Option.some.inj h; subst h
        exact Ct.mid (g10.1, g10.2.1, g10.2.2) rfl ⟨rfl, rfl, trivial⟩
    · clear hx6
      refine Ct.then_tr ?_
      refine Tr.weak (Γ' := [(1, (pPtr (cGProblem p_0))), (4, (pEq (.slice g13.1 g13.2.1 g13.2.2)))]) ⟨rfl, rfl, trivial⟩ ?_
      refine Tr.seq ?_
      refine Tr.region ?_
      refine RegL.pure (p := (pEq (.slice g13.1 g13.2.1 g13.2.2))) rfl rfl rfl (J_move rfl (Opd.tmp rfl)) ?_
      refine RegL.pure (p := (pFn Try.prog (fun x : (Int × Int) => [(pEq (.int .i64 x.1)), (pEq (.int .i64 x.2))]) (fun x => m_impl_DegreeOrder_1 x.1 x.2 p_0) (fun y => (pEq (.int .i64 y))))) rfl rfl rfl (J_makeFn rfl Try.call32 (Opds.cons (Opd.tmp rfl) Opds.nil) (fun _ _ h => c_impl_DegreeOrder_1 h)) ?_
      replace h := bind_some h; obtain ⟨x14, hx14, h⟩ := h
      refine RegL.step (γ := Unit) (p := fun g => (pTup [])) (Ω' := fun g => [oSl 2 1 (cK .i64) g13.1 g13.2.1 g13.2.2 x14]) rfl rfl rfl (M_callH (Ωi := [oSl 2 1 (cK .i64) g13.1 g13.2.1 g13.2.2 x6]) rfl Try.call31 (o_slices_SortStableFunc_int64_int64 hx14) (Opds.cons (Opd.tmp rfl) (Opds.cons (Opd.tmp rfl) Opds.nil))) fun g15 => ?_
      refine RegL.nil ?_
      refine Ct.then_tr ?_
      refine Tr.weak (Γ' := [(4, (pEq (.slice g13.1 g13.2.1 g13.2.2)))]) ⟨rfl, trivial⟩ ?_
      refine Tr.seq ?_
      refine Tr.region ?_
      refine RegL.pure (p := (pEq (.slice g13.1 g13.2.1 g13.2.2))) rfl rfl rfl (J_move rfl (Opd.tmp rfl)) ?_
      refine RegL.pure (p := (pEq (.slice g13.1 g13.2.1 g13.2.2))) rfl rfl rfl (J_assign rfl (Opd.tmp rfl)) ?_
      refine RegL.pure (p := (pEq (.int .i64 (0 : Int)))) rfl rfl rfl (J_assign rfl Opd.con) ?_
      refine RegL.nil ?_
      refine Ct.then_tr ?_
      refine Tr.weak (Γ' := [(2, (pEq (.slice g13.1 g13.2.1 g13.2.2))), (3, (pEq (.int .i64 (0 : Int))))]) ⟨rfl, rfl, trivial⟩ ?_
      refine Tr.ret ?_
      replace h := Option.some.inj h; subst h
      exact Ct.retH2 (Ωx := []) (g13.1, g13.2.1, g13.2.2) rfl (RvOk.tmp rfl) (RvOk.tmp rfl) rfl rfl

theorem c_impl_DegreeOrder {p_0 : GProblem} {r : ((List Int) × Int)} (h : m_impl_DegreeOrder p_0 = some r) : CallJ Try.prog 11 [(pAgg (cGProblem p_0))] (pTup [(pSl 1 (cK .i64) r.1), (pEq (.int .i64 r.2))]) :=
  CallH.frozen (o_impl_DegreeOrder h) (fun g => (Conv.tup (Convs.cons (Conv.row (f := (cK .i64)) 0 (fun _ => rfl) rfl) (Convs.cons Conv.refl Convs.nil))))

theorem c_laws_eqInt64S {a_0 : (List Int)} {b_1 : (List Int)} {r : Bool} (h : m_laws_eqInt64S a_0 b_1 = some r) : CallJ Try.prog 12 [(pSl 1 (cK .i64) a_0), (pSl 1 (cK .i64) b_1)] (pEq (.bool r)) := by
  unfold m_laws_eqInt64S at h
  refine CallJ.enterH Try.func12 rfl Try.ntmps12 rfl fun W I0 H => ?_
  refine Tr.weak (Γ' := [(0, (pSl 1 (cK .i64) a_0)), (1, (pSl 1 (cK .i64) b_1))]) ⟨rfl, rfl, trivial⟩ ?_
  refine Tr.seq ?_
  refine Tr.region ?_
  refine RegL.pure (p := (pEq (.bool false))) rfl rfl rfl (J_assign rfl Opd.con) ?_
  refine RegL.nil ?_
  refine Ct.then_tr ?_
  refine Tr.weak (Γ' := [(0, (pSl 1 (cK .i64) a_0)), (1, (pSl 1 (cK .i64) b_1))]) ⟨rfl, rfl, trivial⟩ ?_
  refine Tr.seq ?_
  refine Tr.seq ?_
  refine Tr.region ?_
  refine RegL.pure (p := (pSl 1 (cK .i64) a_0)) rfl rfl rfl (J_move rfl (Opd.tmp rfl)) ?_
  refine RegL.pure (p := (pEq (.int .i64 (a_0.length : Int)))) rfl rfl rfl (J_len rfl Try.underlying26 (Opd.tmp rfl) rfl) ?_
  refine RegL.pure (p := (pSl 1 (cK .i64) b_1)) rfl rfl rfl (J_move rfl (Opd.tmp rfl)) ?_
  refine RegL.pure (p := (pEq (.int .i64 (b_1.length : Int)))) rfl rfl rfl (J_len rfl Try.underlying26 (Opd.tmp rfl) rfl) ?_
  refine RegL.pure (p := (pEq (.bool ((a_0.length : Int) != (b_1.length : Int))))) rfl rfl rfl (J_bin rfl (Opd.tmp rfl) (Opd.tmp rfl) B_neq) ?_
  refine RegL.nil ?_
  refine Ct.then_tr ?_
  refine Tr.weak (Γ' := [(0, (pSl 1 (cK .i64) a_0)), (1, (pSl 1 (cK .i64) b_1)), (10, (pEq (.bool ((a_0.length : Int) != (b_1.length : Int)))))]) ⟨rfl, rfl, rfl, trivial⟩ ?_
  refine Tr.cond (Opd.tmp rfl) (fun hc => ?_) (fun hc => ?_)
  · replace h := bif_t hc h
    refine Tr.seq ?_
    refine Tr.region ?_
    refine RegL.pure (p := (pEq (.bool false))) rfl rfl rfl (J_assign rfl Opd.con) ?_
    refine RegL.nil ?_
    refine Ct.then_tr ?_
    refine Tr.weak (Γ' := [(4, (pEq (.bool false)))]) ⟨rfl, trivial⟩ ?_
    refine Tr.ret ?_
    refine Ct.then_ret ?_
    replace h := Option.some.inj h; subst h
    exact Ct.retH1 (Ωx := []) () rfl (RvOk.tmp rfl) rfl
  · replace h := bif_f hc h
    refine Tr.skip ?_
    refine Ct.then_tr ?_
    refine Tr.weak (Γ' := [(0, (pSl 1 (cK .i64) a_0)), (1, (pSl 1 (cK .i64) b_1))]) ⟨rfl, rfl, trivial⟩ ?_
    refine Tr.seq ?_
    refine Tr.seq ?_
    refine Tr.region ?_
    refine RegL.pure (p := (pEq (.int .i64 (0 : Int)))) rfl rfl rfl (J_assign rfl Opd.con) ?_
    refine RegL.nil ?_
    refine Ct.then_tr ?_
    refine Tr.weak (Γ' := [(0, (pSl 1 (cK .i64) a_0)), (1, (pSl 1 (cK .i64) b_1)), (5, (pEq (.int .i64 (0 : Int))))]) ⟨rfl, rfl, rfl, trivial⟩ ?_
    refine Tr.block ?_
    refine Tr.weak (Γ' := [(0, (pSl 1 (cK .i64) a_0)), (1, (pSl 1 (cK .i64) b_1)), (5, (pEq (.int .i64 (0 : Int))))]) ⟨rfl, rfl, rfl, trivial⟩ ?_
    refine Tr.loop (γ := Unit) (σ := Int) (Γσ := fun s g => [(0, (pSl 1 (cK .i64) a_0)), (1, (pSl 1 (cK .i64) b_1)), (5, (pEq (.int .i64 s)))]) (Ωσ := fun s g => []) (g := ()) h ?_
    clear h
    rintro v2 g3 t h
    replace h : m_laws_eqInt64S_B1 a_0 b_1 v2 = some t := h
    unfold m_laws_eqInt64S_B1 at h
    refine Tr.weakO (Γ' := [(0, (pSl 1 (cK .i64) a_0)), (1, (pSl 1 (cK .i64) b_1)), (5, (pEq (.int .i64 v2)))]) (Ω' := []) rfl ⟨rfl, rfl, rfl, trivial⟩ ?_
    refine Tr.seq ?_
    refine Tr.seq ?_
    refine Tr.region ?_
    refine RegL.pure (p := (pEq (.int .i64 v2))) rfl rfl rfl (J_move rfl (Opd.tmp rfl)) ?_
    refine RegL.pure (p := (pSl 1 (cK .i64) a_0)) rfl rfl rfl (J_move rfl (Opd.tmp rfl)) ?_
    refine RegL.pure (p := (pEq (.int .i64 (a_0.length : Int)))) rfl rfl rfl (J_len rfl Try.underlying26 (Opd.tmp rfl) rfl) ?_
    refine RegL.pure (p := (pEq (.bool (decide (v2 < (a_0.length : Int)))))) rfl rfl rfl (J_bin rfl (Opd.tmp rfl) (Opd.tmp rfl) B_lss) ?_
    refine RegL.nil ?_
    refine Ct.then_tr ?_
    refine Tr.weak (Γ' := [(0, (pSl 1 (cK .i64) a_0)), (1, (pSl 1 (cK .i64) b_1)), (5, (pEq (.int .i64 v2))), (14, (pEq (.bool (decide (v2 < (a_0.length : Int))))))]) ⟨rfl, rfl, rfl, rfl, trivial⟩ ?_
    refine Tr.cond (Opd.tmp rfl) (fun hc => ?_) (fun hc => ?_)
    · replace h := bif_t hc h
      refine Tr.skip ?_
      refine Ct.then_tr ?_
      refine Tr.weak (Γ' := [(0, (pSl 1 (cK .i64) a_0)), (1, (pSl 1 (cK .i64) b_1)), (5, (pEq (.int .i64 v2)))]) ⟨rfl, rfl, rfl, trivial⟩ ?_
      refine Tr.seq ?_
      refine Tr.block ?_
      refine Tr.seq ?_
      replace h := bind_some h; obtain ⟨x4, hx4, h⟩ := h
      replace h := bind_some h; obtain ⟨x5, hx5, h⟩ := h
      refine Tr.drawD (n := 26) (m := 9) (es := [some (Ent.mk [(0, (pSl 1 (cK .i64) a_0))] (pSl 1 (cK .i64) a_0) true), some (Ent.mk [(5, (pEq (.int .i64 v2)))] (pEq (.int .i64 v2)) true), some (Ent.mk [(17, (pSl 1 (cK .i64) a_0)), (18, (pEq (.int .i64 v2)))] (pPtr ((cK .i64) x4)) true), some (Ent.mk [(19, (pPtr ((cK .i64) x4)))] (pEq (.int .i64 x4)) true), some (Ent.mk [(1, (pSl 1 (cK .i64) b_1))] (pSl 1 (cK .i64) b_1) true), some (Ent.mk [(5, (pEq (.int .i64 v2)))] (pEq (.int .i64 v2)) true), some (Ent.mk [(21, (pSl 1 (cK .i64) b_1)), (22, (pEq (.int .i64 v2)))] (pPtr ((cK .i64) x5)) true), some (Ent.mk [(23, (pPtr ((cK .i64) x5)))] (pEq (.int .i64 x5)) true), some (Ent.mk [(20, (pEq (.int .i64 x4))), (24, (pEq (.int .i64 x5)))] (pEq (.bool (x4 != x5))) true)]) (rd := [[0], [5], [17, 18], [19], [1], [5], [21, 22], [23], [20, 24]]) rfl hmix (by kernel_rfl) fun hD => ?_
      refine RD.fin (es := [Ent.mk [(0, (pSl 1 (cK .i64) a_0))] (pSl 1 (cK .i64) a_0) true, Ent.mk [(5, (pEq (.int .i64 v2)))] (pEq (.int .i64 v2)) true, Ent.mk [(17, (pSl 1 (cK .i64) a_0)), (18, (pEq (.int .i64 v2)))] (pPtr ((cK .i64) x4)) true, Ent.mk [(19, (pPtr ((cK .i64) x4)))] (pEq (.int .i64 x4)) true, Ent.mk [(1, (pSl 1 (cK .i64) b_1))] (pSl 1 (cK .i64) b_1) true, Ent.mk [(5, (pEq (.int .i64 v2)))] (pEq (.int .i64 v2)) true, Ent.mk [(21, (pSl 1 (cK .i64) b_1)), (22, (pEq (.int .i64 v2)))] (pPtr ((cK .i64) x5)) true, Ent.mk [(23, (pPtr ((cK .i64) x5)))] (pEq (.int .i64 x5)) true, Ent.mk [(20, (pEq (.int .i64 x4))), (24, (pEq (.int .i64 x5)))] (pEq (.bool (x4 != x5))) true]) (done := []) hD ⟨.inr ⟨(OpJ.w (J_move rfl (Opd.tmp rfl))), ⟨rfl, trivial⟩, rfl, rfl⟩, ⟨.inr ⟨(OpJ.w (J_move rfl (Opd.tmp rfl))), ⟨rfl, trivial⟩, rfl, rfl⟩, ⟨.inr ⟨(OpJ.w (J_idx rfl Try.underlying26 sz2 (Opd.tmp rfl) (Opd.tmp rfl) hx4)), ⟨rfl, rfl, trivial⟩, rfl, rfl⟩, ⟨.inr ⟨(OpJ.w (J_load rfl Try.isAgg2 (Opd.tmp rfl))), ⟨rfl, trivial⟩, rfl, rfl⟩, ⟨.inr ⟨(OpJ.w (J_move rfl (Opd.tmp rfl))), ⟨rfl, trivial⟩, rfl, rfl⟩, ⟨.inr ⟨(OpJ.w (J_move rfl (Opd.tmp rfl))), ⟨rfl, trivial⟩, rfl, rfl⟩, ⟨.inr ⟨(OpJ.w (J_idx rfl Try.underlying26 sz2 (Opd.tmp rfl) (Opd.tmp rfl) hx5)), ⟨rfl, rfl, trivial⟩, rfl, rfl⟩, ⟨.inr ⟨(OpJ.w (J_load rfl Try.isAgg2 (Opd.tmp rfl))), ⟨rfl, trivial⟩, rfl, rfl⟩, ⟨.inr ⟨(OpJ.w (J_bin rfl (Opd.tmp rfl) (Opd.tmp rfl) B_neq)), ⟨rfl, rfl, trivial⟩, rfl, rfl⟩, trivial⟩⟩⟩⟩⟩⟩⟩⟩⟩ ?_
      refine RegL.nil ?_
      refine Ct.then_tr ?_
      refine Tr.weak (Γ' := [(0, (pSl 1 (cK .i64) a_0)), (1, (pSl 1 (cK .i64) b_1)), (5, (pEq (.int .i64 v2))), (25, (pEq (.bool (x4 != x5))))]) ⟨rfl, rfl, rfl, rfl, trivial⟩ ?_
      refine Tr.cond (Opd.tmp rfl) (fun hc => ?_) (fun hc => ?_)
      · replace h := bif_t hc h
        refine Tr.seq ?_
        refine Tr.region ?_
        refine RegL.pure (p := (pEq (.bool false))) rfl rfl rfl (J_assign rfl Opd.con) ?_
        refine RegL.nil ?_
        refine Ct.then_tr ?_
        refine Tr.weak (Γ' := [(4, (pEq (.bool false)))]) ⟨rfl, trivial⟩ ?_
        refine Tr.ret ?_
        refine Ct.blk_ret ?_
        refine Ct.then_ret ?_
        replace h := map_some h; obtain ⟨r1, h, rfl⟩ := h
        refine Ct.out_ret fun e => ?_
        subst e
        refine Ct.blk_ret ?_
        refine Ct.then_ret ?_
        replace h := Option.some.inj h; subst h
        exact Ct.retH1 (Ωx := []) () rfl (RvOk.tmp rfl) rfl
      · replace h := bif_f hc h
        refine Tr.skip ?_
        refine Ct.blk_normal ?_
        refine Ct.then_tr ?_
        refine Tr.weak (Γ' := [(0, (pSl 1 (cK .i64) a_0)), (1, (pSl 1 (cK .i64) b_1)), (5, (pEq (.int .i64 v2)))]) ⟨rfl, rfl, rfl, trivial⟩ ?_
        refine Tr.region ?_
        refine RegL.pure (p := (pEq (.int .i64 v2))) rfl rfl rfl (J_move rfl (Opd.tmp rfl)) ?_
        refine RegL.pure (p := (pEq (.int .i64 (w64 (v2 + (1 : Int)))))) rfl rfl rfl (J_bin rfl (Opd.tmp rfl) Opd.con B_add) ?_
        refine RegL.pure (p := (pEq (.int .i64 (w64 (v2 + (1 : Int)))))) rfl rfl rfl (J_assign rfl (Opd.tmp rfl)) ?_
        refine RegL.nil ?_
        replace h := Option.some.inj h; subst h
        exact Ct.again () rfl ⟨rfl, rfl, rfl, trivial⟩
    · replace h := bif_f hc h
      refine Tr.exit ?_
      refine Ct.then_exit ?_
      replace h := map_some h; obtain ⟨r1, h, rfl⟩ := h
      refine Ct.out_exit fun e => ?_
      subst e
      refine Ct.blk_exit ?_
      refine Ct.then_tr ?_
      refine Tr.weak (Γ' := []) trivial ?_
      refine Tr.seq ?_
      refine Tr.region ?_
      refine RegL.pure (p := (pEq (.bool true))) rfl rfl rfl (J_assign rfl Opd.con) ?_
      refine RegL.nil ?_
      refine Ct.then_tr ?_
      refine Tr.weak (Γ' := [(4, (pEq (.bool true)))]) ⟨rfl, trivial⟩ ?_
      refine Tr.ret ?_
      replace h := Option.some.inj h; subst h
      exact Ct.retH1 (Ωx := []) () rfl (RvOk.tmp rfl) rfl

theorem c_laws_eqInt64SS {a_0 : (List (List Int))} {b_1 : (List (List Int))} {r : Bool} (h : m_laws_eqInt64SS a_0 b_1 = some r) : CallJ Try.prog 35 [(pSl 1 (cSl 1 (cK .i64)) a_0), (pSl 1 (cSl 1 (cK .i64)) b_1)] (pEq (.bool r)) := by
  unfold m_laws_eqInt64SS at h
  refine CallJ.enterH Try.func35 rfl Try.ntmps35 rfl fun W I0 H => ?_
  refine Tr.weak (Γ' := [(0, (pSl 1 (cSl 1 (cK .i64)) a_0)), (1, (pSl 1 (cSl 1 (cK .i64)) b_1))]) ⟨rfl, rfl, trivial⟩ ?_
  refine Tr.seq ?_
  refine Tr.region ?_
  refine RegL.pure (p := (pEq (.bool false))) rfl rfl rfl (J_assign rfl Opd.con) ?_
  refine RegL.nil ?_
  refine Ct.then_tr ?_
  refine Tr.weak (Γ' := [(0, (pSl 1 (cSl 1 (cK .i64)) a_0)), (1, (pSl 1 (cSl 1 (cK .i64)) b_1))]) ⟨rfl, rfl, trivial⟩ ?_
  refine Tr.seq ?_
  refine Tr.seq ?_
  refine Tr.region ?_
  refine RegL.pure (p := (pSl 1 (cSl 1 (cK .i64)) a_0)) rfl rfl rfl (J_move rfl (Opd.tmp rfl)) ?_
  refine RegL.pure (p := (pEq (.int .i64 (a_0.length : Int)))) rfl rfl rfl (J_len rfl Try.underlying22 (Opd.tmp rfl) rfl) ?_
  refine RegL.pure (p := (pSl 1 (cSl 1 (cK .i64)) b_1)) rfl rfl rfl (J_move rfl (Opd.tmp rfl)) ?_
  refine RegL.pure (p := (pEq (.int .i64 (b_1.length : Int)))) rfl rfl rfl (J_len rfl Try.underlying22 (Opd.tmp rfl) rfl) ?_
  refine RegL.pure (p := (pEq (.bool ((a_0.length : Int) != (b_1.length : Int))))) rfl rfl rfl (J_bin rfl (Opd.tmp rfl) (Opd.tmp rfl) B_neq) ?_
  refine RegL.nil ?_
  refine Ct.then_tr ?_
  refine Tr.weak (Γ' := [(0, (pSl 1 (cSl 1 (cK .i64)) a_0)), (1, (pSl 1 (cSl 1 (cK .i64)) b_1)), (10, (pEq (.bool ((a_0.length : Int) != (b_1.length : Int)))))]) ⟨rfl, rfl, rfl, trivial⟩ ?_
  refine Tr.cond (Opd.tmp rfl) (fun hc => ?_) (fun hc => ?_)
  · replace h := bif_t hc h
    refine Tr.seq ?_
    refine Tr.region ?_
    refine RegL.pure (p := (pEq (.bool false))) rfl rfl rfl (J_assign rfl Opd.con) ?_
    refine RegL.nil ?_
    refine Ct.then_tr ?_
    refine Tr.weak (Γ' := [(4, (pEq (.bool false)))]) ⟨rfl, trivial⟩ ?_
    refine Tr.ret ?_
    refine Ct.then_ret ?_
    replace h := Option.some.inj h; subst h
    exact Ct.retH1 (Ωx := []) () rfl (RvOk.tmp rfl) rfl
  · replace h := bif_f hc h
    refine Tr.skip ?_
    refine Ct.then_tr ?_
    refine Tr.weak (Γ' := [(0, (pSl 1 (cSl 1 (cK .i64)) a_0)), (1, (pSl 1 (cSl 1 (cK .i64)) b_1))]) ⟨rfl, rfl, trivial⟩ ?_
    refine Tr.seq ?_
    refine Tr.seq ?_
    refine Tr.region ?_
    refine RegL.pure (p := (pEq (.int .i64 (0 : Int)))) rfl rfl rfl (J_assign rfl Opd.con) ?_
    refine RegL.nil ?_
    refine Ct.then_tr ?_
    refine Tr.weak (Γ' := [(0, (pSl 1 (cSl 1 (cK .i64)) a_0)), (1, (pSl 1 (cSl 1 (cK .i64)) b_1)), (5, (pEq (.int .i64 (0 : Int))))]) ⟨rfl, rfl, rfl, trivial⟩ ?_
    refine Tr.block ?_
    refine Tr.weak (Γ' := [(0, (pSl 1 (cSl 1 (cK .i64)) a_0)), (1, (pSl 1 (cSl 1 (cK .i64)) b_1)), (5, (pEq (.int .i64 (0 : Int))))]) ⟨rfl, rfl, rfl, trivial⟩ ?_
    refine Tr.loop (γ := Unit) (σ := Int) (Γσ := fun s g => [(0, (pSl 1 (cSl 1 (cK .i64)) a_0)), (1, (pSl 1 (cSl 1 (cK .i64)) b_1)), (5, (pEq (.int .i64 s)))]) (Ωσ := fun s g => []) (g := ()) h ?_
    clear h
    rintro v2 g3 t h
    replace h : m_laws_eqInt64SS_B1 a_0 b_1 v2 = some t := h
    unfold m_laws_eqInt64SS_B1 at h
    refine Tr.weakO (Γ' := [(0, (pSl 1 (cSl 1 (cK .i64)) a_0)), (1, (pSl 1 (cSl 1 (cK .i64)) b_1)), (5, (pEq (.int .i64 v2)))]) (Ω' := []) rfl ⟨rfl, rfl, rfl, trivial⟩ ?_
    refine Tr.seq ?_
    refine Tr.seq ?_
    refine Tr.region ?_
    refine RegL.pure (p := (pEq (.int .i64 v2))) rfl rfl rfl (J_move rfl (Opd.tmp rfl)) ?_
    refine RegL.pure (p := (pSl 1 (cSl 1 (cK .i64)) a_0)) rfl rfl rfl (J_move rfl (Opd.tmp rfl)) ?_
    refine RegL.pure (p := (pEq (.int .i64 (a_0.length : Int)))) rfl rfl rfl (J_len rfl Try.underlying22 (Opd.tmp rfl) rfl) ?_
    refine RegL.pure (p := (pEq (.bool (decide (v2 < (a_0.length : Int)))))) rfl rfl rfl (J_bin rfl (Opd.tmp rfl) (Opd.tmp rfl) B_lss) ?_
    refine RegL.nil ?_
    refine Ct.then_tr ?_
    refine Tr.weak (Γ' := [(0, (pSl 1 (cSl 1 (cK .i64)) a_0)), (1, (pSl 1 (cSl 1 (cK .i64)) b_1)), (5, (pEq (.int .i64 v2))), (14, (pEq (.bool (decide (v2 < (a_0.length : Int))))))]) ⟨rfl, rfl, rfl, rfl, trivial⟩ ?_
    refine Tr.cond (Opd.tmp rfl) (fun hc => ?_) (fun hc => ?_)
    · replace h := bif_t hc h
      refine Tr.skip ?_
      refine Ct.then_tr ?_
      refine Tr.weak (Γ' := [(0, (pSl 1 (cSl 1 (cK .i64)) a_0)), (1, (pSl 1 (cSl 1 (cK .i64)) b_1)), (5, (pEq (.int .i64 v2)))]) ⟨rfl, rfl, rfl, trivial⟩ ?_
      refine Tr.seq ?_
      refine Tr.block ?_
      refine Tr.seq ?_
      replace h := bind_some h; obtain ⟨x4, hx4, h⟩ := h
      replace h := bind_some h; obtain ⟨x5, hx5, h⟩ := h
      replace h := bind_some h; obtain ⟨x6, hx6, h⟩ := h
      refine Tr.drawD (n := 27) (m := 10) (es := [some (Ent.mk [(0, (pSl 1 (cSl 1 (cK .i64)) a_0))] (pSl 1 (cSl 1 (cK .i64)) a_0) true), some (Ent.mk [(5, (pEq (.int .i64 v2)))] (pEq (.int .i64 v2)) true), some (Ent.mk [(17, (pSl 1 (cSl 1 (cK .i64)) a_0)), (18, (pEq (.int .i64 v2)))] (pPtr ((cSl 1 (cK .i64)) x4)) true), some (Ent.mk [(19, (pPtr ((cSl 1 (cK .i64)) x4)))] (pSl 1 (cK .i64) x4) true), some (Ent.mk [(1, (pSl 1 (cSl 1 (cK .i64)) b_1))] (pSl 1 (cSl 1 (cK .i64)) b_1) true), some (Ent.mk [(5, (pEq (.int .i64 v2)))] (pEq (.int .i64 v2)) true), some (Ent.mk [(21, (pSl 1 (cSl 1 (cK .i64)) b_1)), (22, (pEq (.int .i64 v2)))] (pPtr ((cSl 1 (cK .i64)) x5)) true), some (Ent.mk [(23, (pPtr ((cSl 1 (cK .i64)) x5)))] (pSl 1 (cK .i64) x5) true), some (Ent.mk [(20, (pSl 1 (cK .i64) x4)), (24, (pSl 1 (cK .i64) x5))] (pEq (.bool x6)) true), some (Ent.mk [(25, (pEq (.bool x6)))] (pEq (.bool (!x6))) true)]) (rd := [[0], [5], [17, 18], [19], [1], [5], [21, 22], [23], [20, 24], [25]]) rfl hmix (by kernel_rfl) fun hD => ?_
      refine RD.fin (es := [Ent.mk [(0, (pSl 1 (cSl 1 (cK .i64)) a_0))] (pSl 1 (cSl 1 (cK .i64)) a_0) true, Ent.mk [(5, (pEq (.int .i64 v2)))] (pEq (.int .i64 v2)) true, Ent.mk [(17, (pSl 1 (cSl 1 (cK .i64)) a_0)), (18, (pEq (.int .i64 v2)))] (pPtr ((cSl 1 (cK .i64)) x4)) true, Ent.mk [(19, (pPtr ((cSl 1 (cK .i64)) x4)))] (pSl 1 (cK .i64) x4) true, Ent.mk [(1, (pSl 1 (cSl 1 (cK .i64)) b_1))] (pSl 1 (cSl 1 (cK .i64)) b_1) true, Ent.mk [(5, (pEq (.int .i64 v2)))] (pEq (.int .i64 v2)) true, Ent.mk [(21, (pSl 1 (cSl 1 (cK .i64)) b_1)), (22, (pEq (.int .i64 v2)))] (pPtr ((cSl 1 (cK .i64)) x5)) true, Ent.mk [(23, (pPtr ((cSl 1 (cK .i64)) x5)))] (pSl 1 (cK .i64) x5) true, Ent.mk [(20, (pSl 1 (cK .i64) x4)), (24, (pSl 1 (cK .i64) x5))] (pEq (.bool x6)) true, Ent.mk [(25, (pEq (.bool x6)))] (pEq (.bool (!x6))) true]) (done := []) hD ⟨.inr ⟨(OpJ.w (J_move rfl (Opd.tmp rfl))), ⟨rfl, trivial⟩, rfl, rfl⟩, ⟨.inr ⟨(OpJ.w (J_move rfl (Opd.tmp rfl))), ⟨rfl, trivial⟩, rfl, rfl⟩, ⟨.inr ⟨(OpJ.w (J_idx rfl Try.underlying22 sz26 (Opd.tmp rfl) (Opd.tmp rfl) hx4)), ⟨rfl, rfl, trivial⟩, rfl, rfl⟩, ⟨.inr ⟨(OpJ.w (J_load rfl Try.isAgg26 (Opd.tmp rfl))), ⟨rfl, trivial⟩, rfl, rfl⟩, ⟨.inr ⟨(OpJ.w (J_move rfl (Opd.tmp rfl))), ⟨rfl, trivial⟩, rfl, rfl⟩, ⟨.inr ⟨(OpJ.w (J_move rfl (Opd.tmp rfl))), ⟨rfl, trivial⟩, rfl, rfl⟩, ⟨.inr ⟨(OpJ.w (J_idx rfl Try.underlying22 sz26 (Opd.tmp rfl) (Opd.tmp rfl) hx5)), ⟨rfl, rfl, trivial⟩, rfl, rfl⟩, ⟨.inr ⟨(OpJ.w (J_load rfl Try.isAgg26 (Opd.tmp rfl))), ⟨rfl, trivial⟩, rfl, rfl⟩, ⟨.inr ⟨(OpJ.w (J_call rfl Try.call12 (c_laws_eqInt64S hx6) (Opds.cons (Opd.tmp rfl) (Opds.cons (Opd.tmp rfl) Opds.nil)))), ⟨rfl, rfl, trivial⟩, rfl, rfl⟩, ⟨.inr ⟨(OpJ.w (J_not rfl (Opd.tmp rfl))), ⟨rfl, trivial⟩, rfl, rfl⟩, trivial⟩⟩⟩⟩⟩⟩⟩⟩⟩⟩ ?_
      refine RegL.nil ?_
      refine Ct.then_tr ?_
      refine Tr.weak (Γ' := [(0, (pSl 1 (cSl 1 (cK .i64)) a_0)), (1, (pSl 1 (cSl 1 (cK .i64)) b_1)), (5, (pEq (.int .i64 v2))), (26, (pEq (.bool (!x6))))]) ⟨rfl, rfl, rfl, rfl, trivial⟩ ?_
      refine Tr.cond (Opd.tmp rfl) (fun hc => ?_) (fun hc => ?_)
      · replace h := bif_t hc h
        refine Tr.seq ?_
        refine Tr.region ?_
        refine RegL.pure (p := (pEq (.bool false))) rfl rfl rfl (J_assign rfl Opd.con) ?_
        refine RegL.nil ?_
        refine Ct.then_tr ?_
        refine Tr.weak (Γ' := [(4, (pEq (.bool false)))]) ⟨rfl, trivial⟩ ?_
        refine Tr.ret ?_
        refine Ct.blk_ret ?_
        refine Ct.then_ret ?_
        replace h := map_some h; obtain ⟨r1, h, rfl⟩ := h
        refine Ct.out_ret fun e => ?_
        subst e
        refine Ct.blk_ret ?_
        refine Ct.then_ret ?_
        replace h := Option.some.inj h; subst h
        exact Ct.retH1 (Ωx := []) () rfl (RvOk.tmp rfl) rfl
      · replace h := bif_f hc h
        refine Tr.skip ?_
        refine Ct.blk_normal ?_
        refine Ct.then_tr ?_
        refine Tr.weak (Γ' := [(0, (pSl 1 (cSl 1 (cK .i64)) a_0)), (1, (pSl 1 (cSl 1 (cK .i64)) b_1)), (5, (pEq (.int .i64 v2)))]) ⟨rfl, rfl, rfl, trivial⟩ ?_
        refine Tr.region ?_
        refine RegL.pure (p := (pEq (.int .i64 v2))) rfl rfl rfl (J_move rfl (Opd.tmp rfl)) ?_
        refine RegL.pure (p := (pEq (.int .i64 (w64 (v2 + (1 : Int)))))) rfl rfl rfl (J_bin rfl (Opd.tmp rfl) Opd.con B_add) ?_
        refine RegL.pure (p := (pEq (.int .i64 (w64 (v2 + (1 : Int)))))) rfl rfl rfl (J_assign rfl (Opd.tmp rfl)) ?_
        refine RegL.nil ?_
        replace h := Option.some.inj h; subst h
        exact Ct.again () rfl ⟨rfl, rfl, rfl, trivial⟩
    · replace h := bif_f hc h
      refine Tr.exit ?_
      refine Ct.then_exit ?_
      replace h := map_some h; obtain ⟨r1, h, rfl⟩ := h
      refine Ct.out_exit fun e => ?_
      subst e
      refine Ct.blk_exit ?_
      refine Ct.then_tr ?_
      refine Tr.weak (Γ' := []) trivial ?_
      refine Tr.seq ?_
      refine Tr.region ?_
      refine RegL.pure (p := (pEq (.bool true))) rfl rfl rfl (J_assign rfl Opd.con) ?_
      refine RegL.nil ?_
      refine Ct.then_tr ?_
      refine Tr.weak (Γ' := [(4, (pEq (.bool true)))]) ⟨rfl, trivial⟩ ?_
      refine Tr.ret ?_
      replace h := Option.some.inj h; subst h
      exact Ct.retH1 (Ωx := []) () rfl (RvOk.tmp rfl) rfl

theorem c_laws_eqProblem {a_0 : GProblem} {b_1 : GProblem} {r : Bool} (h : m_laws_eqProblem a_0 b_1 = some r) : CallJ Try.prog 13 [(pAgg (cGProblem a_0)), (pAgg (cGProblem b_1))] (pEq (.bool r)) := by
  unfold m_laws_eqProblem at h
  refine CallJ.enterH Try.func13 rfl Try.ntmps13 rfl fun W I0 H => ?_
  refine Tr.weak (Γ' := [(0, (pAgg (cGProblem a_0))), (1, (pAgg (cGProblem b_1)))]) ⟨rfl, rfl, trivial⟩ ?_
  refine Tr.seq ?_
  refine Tr.region ?_
  refine RegL.pure (p := (pPtr (cGProblem a_0))) rfl rfl rfl (J_boxA rfl (Opd.tmp rfl)) ?_
  refine RegL.pure (p := (pPtr (cGProblem b_1))) rfl rfl rfl (J_boxA rfl (Opd.tmp rfl)) ?_
  refine RegL.pure (p := (pEq (.bool false))) rfl rfl rfl (J_assign rfl Opd.con) ?_
  refine RegL.nil ?_
  refine Ct.then_tr ?_
  refine Tr.weak (Γ' := [(2, (pPtr (cGProblem a_0))), (3, (pPtr (cGProblem b_1)))]) ⟨rfl, rfl, trivial⟩ ?_
  refine Tr.seq ?_
  refine Tr.seq ?_
  refine Tr.region ?_
  refine RegL.pure (p := (pPtr ((cSl 1 (cSl 1 (cK .i64))) a_0.Domains))) rfl rfl rfl (J_fieldAddr rfl Try.underlying29 rfl sz22 (by decide) (Opd.tmp rfl) rfl) ?_
  refine RegL.pure (p := (pSl 1 (cSl 1 (cK .i64)) a_0.Domains)) rfl rfl rfl (J_load rfl Try.isAgg22 (Opd.tmp rfl)) ?_
  refine RegL.pure (p := (pPtr ((cSl 1 (cSl 1 (cK .i64))) b_1.Domains))) rfl rfl rfl (J_fieldAddr rfl Try.underlying29 rfl sz22 (by decide) (Opd.tmp rfl) rfl) ?_
  refine RegL.pure (p := (pSl 1 (cSl 1 (cK .i64)) b_1.Domains)) rfl rfl rfl (J_load rfl Try.isAgg22 (Opd.tmp rfl)) ?_
  replace h := bind_some h; obtain ⟨x1, hx1, h⟩ := h
  refine RegL.pure (p := (pEq (.bool x1))) rfl rfl rfl (J_call rfl Try.call35 (c_laws_eqInt64SS hx1) (Opds.cons (Opd.tmp rfl) (Opds.cons (Opd.tmp rfl) Opds.nil))) ?_
  refine RegL.pure (p := (pEq (.bool (!x1)))) rfl rfl rfl (J_not rfl (Opd.tmp rfl)) ?_
  refine RegL.nil ?_
  refine Ct.then_tr ?_
  refine Tr.weak (Γ' := [(2, (pPtr (cGProblem a_0))), (3, (pPtr (cGProblem b_1))), (10, (pEq (.bool (!x1))))]) ⟨rfl, rfl, rfl, trivial⟩ ?_
  refine Tr.cond (Opd.tmp rfl) (fun hc => ?_) (fun hc => ?_)
  · replace h := bif_t hc h
    refine Tr.seq ?_
    refine Tr.region ?_
    refine RegL.pure (p := (pEq (.bool false))) rfl rfl rfl (J_assign rfl Opd.con) ?_
    refine RegL.nil ?_
    refine Ct.then_tr ?_
    refine Tr.weak (Γ' := [(4, (pEq (.bool false)))]) ⟨rfl, trivial⟩ ?_
    refine Tr.ret ?_
    refine Ct.then_ret ?_
    replace h := Option.some.inj h; subst h
    exact Ct.retH1 (Ωx := []) () rfl (RvOk.tmp rfl) rfl
  · replace h := bif_f hc h
    refine Tr.skip ?_
    refine Ct.then_tr ?_
    refine Tr.weak (Γ' := [(2, (pPtr (cGProblem a_0))), (3, (pPtr (cGProblem b_1)))]) ⟨rfl, rfl, trivial⟩ ?_
    refine Tr.seq ?_
    refine Tr.seq ?_
    refine Tr.region ?_
    refine RegL.pure (p := (pPtr ((cSl 1 (cSl 1 (cK .i64))) a_0.Apart))) rfl rfl rfl (J_fieldAddr rfl Try.underlying29 rfl sz22 (by decide) (Opd.tmp rfl) rfl) ?_
    refine RegL.pure (p := (pSl 1 (cSl 1 (cK .i64)) a_0.Apart)) rfl rfl rfl (J_load rfl Try.isAgg22 (Opd.tmp rfl)) ?_
    refine RegL.pure (p := (pPtr ((cSl 1 (cSl 1 (cK .i64))) b_1.Apart))) rfl rfl rfl (J_fieldAddr rfl Try.underlying29 rfl sz22 (by decide) (Opd.tmp rfl) rfl) ?_
    refine RegL.pure (p := (pSl 1 (cSl 1 (cK .i64)) b_1.Apart)) rfl rfl rfl (J_load rfl Try.isAgg22 (Opd.tmp rfl)) ?_
    replace h := bind_some h; obtain ⟨x2, hx2, h⟩ := h
    refine RegL.pure (p := (pEq (.bool x2))) rfl rfl rfl (J_call rfl Try.call35 (c_laws_eqInt64SS hx2) (Opds.cons (Opd.tmp rfl) (Opds.cons (Opd.tmp rfl) Opds.nil))) ?_
    refine RegL.pure (p := (pEq (.bool (!x2)))) rfl rfl rfl (J_not rfl (Opd.tmp rfl)) ?_
    refine RegL.nil ?_
    refine Ct.then_tr ?_
    refine Tr.weak (Γ' := [(16, (pEq (.bool (!x2))))]) ⟨rfl, trivial⟩ ?_
    refine Tr.cond (Opd.tmp rfl) (fun hc => ?_) (fun hc => ?_)
    · replace h := bif_t hc h
      refine Tr.seq ?_
      refine Tr.region ?_
      refine RegL.pure (p := (pEq (.bool false))) rfl rfl rfl (J_assign rfl Opd.con) ?_
      refine RegL.nil ?_
      refine Ct.then_tr ?_
      refine Tr.weak (Γ' := [(4, (pEq (.bool false)))]) ⟨rfl, trivial⟩ ?_
      refine Tr.ret ?_
      refine Ct.then_ret ?_
      replace h := Option.some.inj h; subst h
      exact Ct.retH1 (Ωx := []) () rfl (RvOk.tmp rfl) rfl
    · replace h := bif_f hc h
      refine Tr.skip ?_
      refine Ct.then_tr ?_
      refine Tr.weak (Γ' := []) trivial ?_
      refine Tr.seq ?_
      refine Tr.region ?_
      refine RegL.pure (p := (pEq (.bool true))) rfl rfl rfl (J_assign rfl Opd.con) ?_
      refine RegL.nil ?_
      refine Ct.then_tr ?_
      refine Tr.weak (Γ' := [(4, (pEq (.bool true)))]) ⟨rfl, trivial⟩ ?_
      refine Tr.ret ?_
      replace h := Option.some.inj h; subst h
      exact Ct.retH1 (Ωx := []) () rfl (RvOk.tmp rfl) rfl

theorem o_laws_markInt64S {a_0 : (List Int)} {k_1 : Int} {ho0 : Option Addr} {hn0 hc0 : Nat} {r : (Int × (List Int))} (h : m_laws_markInt64S a_0 k_1 = some r) : CallH Try.prog 15 [(pEq (.slice ho0 hn0 hc0)), (pEq (.int .i64 k_1))] [oSl 2 1 (cK .i64) ho0 hn0 hc0 a_0] (fun g : Unit => (pEq (.int .i64 r.1))) (fun g : Unit => [oSl 2 1 (cK .i64) ho0 hn0 hc0 r.2]) := by
  unfold m_laws_markInt64S at h
  refine CallH.enter Try.func15 rfl Try.ntmps15 rfl fun W I0 H => ?_
  refine Tr.weak (Γ' := [(0, (pEq (.slice ho0 hn0 hc0))), (1, (pEq (.int .i64 k_1)))]) ⟨rfl, rfl, trivial⟩ ?_
  refine Tr.seq ?_
  refine Tr.region ?_
  refine RegL.pure (p := (pEq (.int .i64 (0 : Int)))) rfl rfl rfl (J_assign rfl Opd.con) ?_
  refine RegL.nil ?_
  refine Ct.then_tr ?_
  refine Tr.weak (Γ' := [(0, (pEq (.slice ho0 hn0 hc0))), (1, (pEq (.int .i64 k_1)))]) ⟨rfl, rfl, trivial⟩ ?_
  refine Tr.seq ?_
  refine Tr.seq ?_
  refine Tr.region ?_
  refine RegL.pure (p := (pEq (.int .i64 (0 : Int)))) rfl rfl rfl (J_assign rfl Opd.con) ?_
  refine RegL.nil ?_
  refine Ct.then_tr ?_
  refine Tr.weak (Γ' := [(0, (pEq (.slice ho0 hn0 hc0))), (1, (pEq (.int .i64 k_1))), (5, (pEq (.int .i64 (0 : Int))))]) ⟨rfl, rfl, rfl, trivial⟩ ?_
  replace h := bind_some h; obtain ⟨x2, hx2, h⟩ := h
  refine Tr.cut (γ := Unit) (Γm := fun g => [(1, (pEq (.int .i64 x2.1)))]) (Ωm := fun g => [oSl 2 1 (cK .i64) ho0 hn0 hc0 x2.2]) ?_ (fun g10 => ?_)
  · clear h
    have h := hx2
    clear hx2
    refine Tr.block ?_
    refine Tr.weak (Γ' := [(0, (pEq (.slice ho0 hn0 hc0))), (1, (pEq (.int .i64 k_1))), (5, (pEq (.int .i64 (0 : Int))))]) ⟨rfl, rfl, rfl, trivial⟩ ?_
    refine Tr.loop (γ := Unit) (σ := (Int × Int × (List Int))) (Γσ := fun s g => [(0, (pEq (.slice ho0 hn0 hc0))), (1, (pEq (.int .i64 s.1))), (5, (pEq (.int .i64 s.2.1)))]) (Ωσ := fun s g => [oSl 2 1 (cK .i64) ho0 hn0 hc0 s.2.2]) (g := ()) h ?_
    clear h
    rintro ⟨v4, v5, v6⟩ g7 t h
    replace h : m_laws_markInt64S_B3  v4 v5 v6 = some t := h
    unfold m_laws_markInt64S_B3 at h
    refine Tr.weakO (Γ' := [(0, (pEq (.slice ho0 hn0 hc0))), (1, (pEq (.int .i64 v4))), (5, (pEq (.int .i64 v5)))]) (Ω' := [oSl 2 1 (cK .i64) ho0 hn0 hc0 v6]) rfl ⟨rfl, rfl, rfl, trivial⟩ ?_
    refine Tr.seq ?_
    refine Tr.seq ?_
    refine Tr.region ?_
    refine RegL.pure (p := (pEq (.int .i64 v5))) rfl rfl rfl (J_move rfl (Opd.tmp rfl)) ?_
    refine RegL.pure (p := (pEq (.slice ho0 hn0 hc0))) rfl rfl rfl (J_move rfl (Opd.tmp rfl)) ?_
    refine RegL.pureW (p := (pEq (.int .i64 (v6.length : Int)))) rfl rfl rfl (W_rowLen (j := 0) rfl Try.underlying26 (Opd.tmp rfl) rfl) ?_
    refine RegL.pure (p := (pEq (.bool (decide (v5 < (v6.length : Int)))))) rfl rfl rfl (J_bin rfl (Opd.tmp rfl) (Opd.tmp rfl) B_lss) ?_
    refine RegL.nil ?_
    refine Ct.then_tr ?_
    refine Tr.weak (Γ' := [(0, (pEq (.slice ho0 hn0 hc0))), (1, (pEq (.int .i64 v4))), (5, (pEq (.int .i64 v5))), (9, (pEq (.bool (decide (v5 < (v6.length : Int))))))]) ⟨rfl, rfl, rfl, rfl, trivial⟩ ?_
    refine Tr.cond (Opd.tmp rfl) (fun hc => ?_) (fun hc => ?_)
    · replace h := bif_t hc h
      refine Tr.skip ?_
      refine Ct.then_tr ?_
      refine Tr.weak (Γ' := [(0, (pEq (.slice ho0 hn0 hc0))), (1, (pEq (.int .i64 v4))), (5, (pEq (.int .i64 v5)))]) ⟨rfl, rfl, rfl, trivial⟩ ?_
      refine Tr.seq ?_
      refine Tr.block ?_
      refine Tr.seq ?_
      refine Tr.region ?_
      refine RegL.pure (p := (pEq (.slice ho0 hn0 hc0))) rfl rfl rfl (J_move rfl (Opd.tmp rfl)) ?_
      refine RegL.pure (p := (pEq (.int .i64 v5))) rfl rfl rfl (J_move rfl (Opd.tmp rfl)) ?_
      refine RegL.pure (p := (pEq (.int .i64 v4))) rfl rfl rfl (J_move rfl (Opd.tmp rfl)) ?_
      replace h := bind_some h; obtain ⟨u8, hu8, h⟩ := h
      refine RegL.pureW (p := (pEq (.pointer (some ⟨blk ho0, (v5).toNat * 1, none⟩)))) rfl rfl rfl (W_rowIdx (j := 0) rfl Try.underlying26 sz2 (Opd.tmp rfl) (Opd.tmp rfl) rfl (inB_some hu8)) ?_
      refine RegL.stepN (γ := Unit) (p := fun _ => pAny) (Ω' := fun _ => [oSl 2 1 (cK .i64) ho0 hn0 hc0 (v6.set (v5).toNat v4)]) rfl rfl (M_rowStore rfl sz2 (fun _ => rfl) (Opd.tmp rfl) (Opd.tmp rfl) rfl OneC.int (setL_of (inB_some hu8))) fun g9 => ?_
      refine RegL.nil ?_
      refine Ct.then_tr ?_
      refine Tr.weak (Γ' := [(0, (pEq (.slice ho0 hn0 hc0))), (1, (pEq (.int .i64 v4))), (5, (pEq (.int .i64 v5)))]) ⟨rfl, rfl, rfl, trivial⟩ ?_
      refine Tr.region ?_
      refine RegL.pure (p := (pEq (.int .i64 v4))) rfl rfl rfl (J_move rfl (Opd.tmp rfl)) ?_
      refine RegL.pure (p := (pEq (.int .i64 (w64 (v4 + (1 : Int)))))) rfl rfl rfl (J_bin rfl (Opd.tmp rfl) Opd.con B_add) ?_
      refine RegL.pure (p := (pEq (.int .i64 (w64 (v4 + (1 : Int)))))) rfl rfl rfl (J_assign rfl (Opd.tmp rfl)) ?_
      refine RegL.nil ?_
      refine Ct.blk_normal ?_
      refine Ct.then_tr ?_
      refine Tr.weak (Γ' := [(0, (pEq (.slice ho0 hn0 hc0))), (1, (pEq (.int .i64 (w64 (v4 + (1 : Int)))))), (5, (pEq (.int .i64 v5)))]) ⟨rfl, rfl, rfl, trivial⟩ ?_
      refine Tr.region ?_
      refine RegL.pure (p := (pEq (.int .i64 v5))) rfl rfl rfl (J_move rfl (Opd.tmp rfl)) ?_
      refine RegL.pure (p := (pEq (.int .i64 (w64 (v5 + (1 : Int)))))) rfl rfl rfl (J_bin rfl (Opd.tmp rfl) Opd.con B_add) ?_
      refine RegL.pure (p := (pEq (.int .i64 (w64 (v5 + (1 : Int)))))) rfl rfl rfl (J_assign rfl (Opd.tmp rfl)) ?_
      refine RegL.nil ?_
      replace h := Option.some.inj h; subst h
      exact Ct.again () rfl ⟨rfl, rfl, rfl, trivial⟩
    · replace h := bif_f hc h
      refine Tr.exit ?_
      refine Ct.then_exit ?_
      replace h := map_some h; obtain ⟨r1, h, rfl⟩ := h
      refine Ct.out_exit fun e => ?_
      subst e
      refine Ct.blk_exit ?_
      replace h := Option.some.inj h; subst h
      exact Ct.mid () rfl ⟨rfl, trivial⟩
  · clear hx2
    refine Ct.then_tr ?_
    refine Tr.weak (Γ' := [(1, (pEq (.int .i64 x2.1)))]) ⟨rfl, trivial⟩ ?_
    refine Tr.seq ?_
    refine Tr.region ?_
    refine RegL.pure (p := (pEq (.int .i64 x2.1))) rfl rfl rfl (J_move rfl (Opd.tmp rfl)) ?_
    refine RegL.pure (p := (pEq (.int .i64 x2.1))) rfl rfl rfl (J_assign rfl (Opd.tmp rfl)) ?_
    refine RegL.nil ?_
    refine Ct.then_tr ?_
    refine Tr.weak (Γ' := [(4, (pEq (.int .i64 x2.1)))]) ⟨rfl, trivial⟩ ?_
    refine Tr.ret ?_
    replace h := Option.some.inj h; subst h
    exact Ct.retH1 (Ωx := []) () rfl (RvOk.tmp rfl) rfl

theorem o_laws_markInt64SS {a_0 : (List (List Int))} {k_1 : Int} {ho0 : Option Addr} {hn0 hc0 : Nat} {hh0 : List G3} {r : (Int × (List (List Int)))} (h : m_laws_markInt64SS a_0 k_1 = some r) : CallH Try.prog 36 [(pEq (.slice ho0 hn0 hc0)), (pEq (.int .i64 k_1))] [oSS 26 2 1 (cK .i64) ho0 hn0 hc0 hh0 a_0] (fun g : Unit => (pEq (.int .i64 r.1))) (fun g : Unit => [oSS 26 2 1 (cK .i64) ho0 hn0 hc0 hh0 r.2]) := by
  unfold m_laws_markInt64SS at h
  refine CallH.enter Try.func36 rfl Try.ntmps36 rfl fun W I0 H => ?_
  refine Tr.weak (Γ' := [(0, (pEq (.slice ho0 hn0 hc0))), (1, (pEq (.int .i64 k_1)))]) ⟨rfl, rfl, trivial⟩ ?_
  refine Tr.seq ?_
  refine Tr.region ?_
  refine RegL.pure (p := (pEq (.int .i64 (0 : Int)))) rfl rfl rfl (J_assign rfl Opd.con) ?_
  refine RegL.nil ?_
  refine Ct.then_tr ?_
  refine Tr.weak (Γ' := [(0, (pEq (.slice ho0 hn0 hc0))), (1, (pEq (.int .i64 k_1)))]) ⟨rfl, rfl, trivial⟩ ?_
  refine Tr.seq ?_
  refine Tr.seq ?_
  refine Tr.region ?_
  refine RegL.pure (p := (pEq (.int .i64 (0 : Int)))) rfl rfl rfl (J_assign rfl Opd.con) ?_
  refine RegL.nil ?_
  refine Ct.then_tr ?_
  refine Tr.weak (Γ' := [(0, (pEq (.slice ho0 hn0 hc0))), (1, (pEq (.int .i64 k_1))), (5, (pEq (.int .i64 (0 : Int))))]) ⟨rfl, rfl, rfl, trivial⟩ ?_
  replace h := bind_some h; obtain ⟨x2, hx2, h⟩ := h
  refine Tr.cut (γ := Unit) (Γm := fun g => [(1, (pEq (.int .i64 x2.1)))]) (Ωm := fun g => [oSS 26 2 1 (cK .i64) ho0 hn0 hc0 hh0 x2.2]) ?_ (fun g12 => ?_)
  · clear h
    have h := hx2
    clear hx2
    refine Tr.block ?_
    refine Tr.weak (Γ' := [(0, (pEq (.slice ho0 hn0 hc0))), (1, (pEq (.int .i64 k_1))), (5, (pEq (.int .i64 (0 : Int))))]) ⟨rfl, rfl, rfl, trivial⟩ ?_
    refine Tr.loop (γ := Unit) (σ := (Int × Int × (List (List Int)))) (Γσ := fun s g => [(0, (pEq (.slice ho0 hn0 hc0))), (1, (pEq (.int .i64 s.1))), (5, (pEq (.int .i64 s.2.1)))]) (Ωσ := fun s g => [oSS 26 2 1 (cK .i64) ho0 hn0 hc0 hh0 s.2.2]) (g := ()) h ?_
    clear h
    rintro ⟨v4, v5, v6⟩ g7 t h
    replace h : m_laws_markInt64SS_B3  v4 v5 v6 = some t := h
    unfold m_laws_markInt64SS_B3 at h
    refine Tr.weakO (Γ' := [(0, (pEq (.slice ho0 hn0 hc0))), (1, (pEq (.int .i64 v4))), (5, (pEq (.int .i64 v5)))]) (Ω' := [oSS 26 2 1 (cK .i64) ho0 hn0 hc0 hh0 v6]) rfl ⟨rfl, rfl, rfl, trivial⟩ ?_
    refine Tr.seq ?_
    refine Tr.seq ?_
    refine Tr.region ?_
    refine RegL.pure (p := (pEq (.int .i64 v5))) rfl rfl rfl (J_move rfl (Opd.tmp rfl)) ?_
    refine RegL.pure (p := (pEq (.slice ho0 hn0 hc0))) rfl rfl rfl (J_move rfl (Opd.tmp rfl)) ?_
    refine RegL.pureW (p := (pEq (.int .i64 (v6.length : Int)))) rfl rfl rfl (W_nestLen (j := 0) rfl Try.underlying22 (Opd.tmp rfl) rfl) ?_
    refine RegL.pure (p := (pEq (.bool (decide (v5 < (v6.length : Int)))))) rfl rfl rfl (J_bin rfl (Opd.tmp rfl) (Opd.tmp rfl) B_lss) ?_
    refine RegL.nil ?_
    refine Ct.then_tr ?_
    refine Tr.weak (Γ' := [(0, (pEq (.slice ho0 hn0 hc0))), (1, (pEq (.int .i64 v4))), (5, (pEq (.int .i64 v5))), (9, (pEq (.bool (decide (v5 < (v6.length : Int))))))]) ⟨rfl, rfl, rfl, rfl, trivial⟩ ?_
    refine Tr.cond (Opd.tmp rfl) (fun hc => ?_) (fun hc => ?_)
    · replace h := bif_t hc h
      refine Tr.skip ?_
      refine Ct.then_tr ?_
      refine Tr.weak (Γ' := [(0, (pEq (.slice ho0 hn0 hc0))), (1, (pEq (.int .i64 v4))), (5, (pEq (.int .i64 v5)))]) ⟨rfl, rfl, rfl, trivial⟩ ?_
      refine Tr.seq ?_
      refine Tr.block ?_
      refine Tr.region ?_
      refine RegL.pure (p := (pEq (.slice ho0 hn0 hc0))) rfl rfl rfl (J_move rfl (Opd.tmp rfl)) ?_
      refine RegL.pure (p := (pEq (.int .i64 v5))) rfl rfl rfl (J_move rfl (Opd.tmp rfl)) ?_
      replace h := bind_some h; obtain ⟨x8, hx8, h⟩ := h
      refine RegL.pureW (p := (pEq (.pointer (some ⟨blk ho0, (v5).toNat * 1, none⟩)))) rfl rfl rfl (W_nestIdx (j := 0) rfl Try.underlying22 sz26 (Opd.tmp rfl) (Opd.tmp rfl) rfl (idx_lt hx8)) ?_
      refine RegL.pureW (p := (pEq (hdrV (gd hh0 v5)))) rfl rfl rfl (W_nestLoad (j := 0) rfl Try.isAgg26 (Opd.tmp rfl) rfl hx8) ?_
      refine RegL.pure (p := (pEq (.int .i64 v4))) rfl rfl rfl (J_move rfl (Opd.tmp rfl)) ?_
      replace h := bind_some h; obtain ⟨x10, hx10, h⟩ := h
      refine RegL.re (Ω2 := [oSl 2 1 (cK .i64) (gd hh0 v5).1 (gd hh0 v5).2.1 (gd hh0 v5).2.2 x8, oHole 26 2 1 (cK .i64) ho0 hn0 hc0 hh0 v6 v5]) (fun h => nest_focus hx8 h) ?_
      refine RegL.step (γ := Unit) (p := fun g => (pEq (.int .i64 x10.1))) (Ω' := fun g => [oSl 2 1 (cK .i64) (gd hh0 v5).1 (gd hh0 v5).2.1 (gd hh0 v5).2.2 x10.2, oHole 26 2 1 (cK .i64) ho0 hn0 hc0 hh0 v6 v5]) rfl rfl rfl (M_callH (Ωi := [oSl 2 1 (cK .i64) (gd hh0 v5).1 (gd hh0 v5).2.1 (gd hh0 v5).2.2 x8]) rfl Try.call15 (o_laws_markInt64S hx10) (Opds.cons (Opd.tmp rfl) (Opds.cons (Opd.tmp rfl) Opds.nil))) fun g11 => ?_
      refine RegL.re (Ω2 := [oSS 26 2 1 (cK .i64) ho0 hn0 hc0 hh0 (v6.set (v5).toNat x10.2)]) (fun h => nest_unfocus hx8 h) ?_
      refine RegL.pure (p := (pEq (.int .i64 x10.1))) rfl rfl rfl (J_assign rfl (Opd.tmp rfl)) ?_
      refine RegL.nil ?_
      refine Ct.blk_normal ?_
      refine Ct.then_tr ?_
      refine Tr.weak (Γ' := [(0, (pEq (.slice ho0 hn0 hc0))), (1, (pEq (.int .i64 x10.1))), (5, (pEq (.int .i64 v5)))]) ⟨rfl, rfl, rfl, trivial⟩ ?_
      refine Tr.region ?_
      refine RegL.pure (p := (pEq (.int .i64 v5))) rfl rfl rfl (J_move rfl (Opd.tmp rfl)) ?_
      refine RegL.pure (p := (pEq (.int .i64 (w64 (v5 + (1 : Int)))))) rfl rfl rfl (J_bin rfl (Opd.tmp rfl) Opd.con B_add) ?_
      refine RegL.pure (p := (pEq (.int .i64 (w64 (v5 + (1 : Int)))))) rfl rfl rfl (J_assign rfl (Opd.tmp rfl)) ?_
      refine RegL.nil ?_
      replace h := Option.some.inj h; subst h
      exact Ct.again () rfl ⟨rfl, rfl, rfl, trivial⟩
    · replace h := bif_f hc h
      refine Tr.exit ?_
      refine Ct.then_exit ?_
      replace h := map_some h; obtain ⟨r1, h, rfl⟩ := h
      refine Ct.out_exit fun e => ?_
      subst e
      refine Ct.blk_exit ?_
      replace h := Option.some.inj h; subst h
      exact Ct.mid () rfl ⟨rfl, trivial⟩
  · clear hx2
    refine Ct.then_tr ?_
    refine Tr.weak (Γ' := [(1, (pEq (.int .i64 x2.1)))]) ⟨rfl, trivial⟩ ?_
    refine Tr.seq ?_
    refine Tr.region ?_
    refine RegL.pure (p := (pEq (.int .i64 x2.1))) rfl rfl rfl (J_move rfl (Opd.tmp rfl)) ?_
    refine RegL.pure (p := (pEq (.int .i64 x2.1))) rfl rfl rfl (J_assign rfl (Opd.tmp rfl)) ?_
    refine RegL.nil ?_
    refine Ct.then_tr ?_
    refine Tr.weak (Γ' := [(4, (pEq (.int .i64 x2.1)))]) ⟨rfl, trivial⟩ ?_
    refine Tr.ret ?_
    replace h := Option.some.inj h; subst h
    exact Ct.retH1 (Ωx := []) () rfl (RvOk.tmp rfl) rfl

theorem o_laws_markProblem {a_0 : GProblem} {k_1 : Int} {ho0_0 : Option Addr} {hn0_0 hc0_0 : Nat} {hh0_0 : List G3} {ho0_1 : Option Addr} {hn0_1 hc0_1 : Nat} {hh0_1 : List G3} {r : (Int × (List (List Int)) × (List (List Int)))} (h : m_laws_markProblem a_0 k_1 = some r) : CallH Try.prog 14 [(pAgg [(pEq (.slice ho0_0 hn0_0 hc0_0)), (pEq (.slice ho0_1 hn0_1 hc0_1))]), (pEq (.int .i64 k_1))] [oSS 26 2 1 (cK .i64) ho0_0 hn0_0 hc0_0 hh0_0 a_0.Domains, oSS 26 2 1 (cK .i64) ho0_1 hn0_1 hc0_1 hh0_1 a_0.Apart] (fun g : Unit => (pEq (.int .i64 r.1))) (fun g : Unit => [oSS 26 2 1 (cK .i64) ho0_0 hn0_0 hc0_0 hh0_0 r.2.1, oSS 26 2 1 (cK .i64) ho0_1 hn0_1 hc0_1 hh0_1 r.2.2]) := by
  unfold m_laws_markProblem at h
  refine CallH.enter Try.func14 rfl Try.ntmps14 rfl fun W I0 H => ?_
  refine Tr.weak (Γ' := [(0, (pAgg [(pEq (.slice ho0_0 hn0_0 hc0_0)), (pEq (.slice ho0_1 hn0_1 hc0_1))])), (1, (pEq (.int .i64 k_1)))]) ⟨rfl, rfl, trivial⟩ ?_
  refine Tr.seq ?_
  refine Tr.region ?_
  refine RegL.step (γ := Nat) (p := fun b => pEq (.pointer (some ⟨b, 0, none⟩))) (Ω' := fun b => [oBlk b [(pEq (.slice ho0_0 hn0_0 hc0_0)), (pEq (.slice ho0_1 hn0_1 hc0_1))], oSS 26 2 1 (cK .i64) ho0_0 hn0_0 hc0_0 hh0_0 a_0.Domains, oSS 26 2 1 (cK .i64) ho0_1 hn0_1 hc0_1 hh0_1 a_0.Apart]) rfl rfl rfl (M_boxA rfl (Opd.tmp rfl)) fun b3 => ?_
  refine RegL.pure (p := (pEq (.int .i64 (0 : Int)))) rfl rfl rfl (J_assign rfl Opd.con) ?_
  refine RegL.nil ?_
  refine Ct.then_tr ?_
  refine Tr.weak (Γ' := [(1, (pEq (.int .i64 k_1))), (2, (pEq (.pointer (some ⟨b3, 0, none⟩))))]) ⟨rfl, rfl, trivial⟩ ?_
  refine Tr.seq ?_
  refine Tr.region ?_
  refine RegL.pure (p := (pEq (.pointer (some ⟨b3, 0, none⟩)))) rfl rfl rfl (J_fieldAddrE rfl Try.underlying29 rfl sz22 (by decide) (Opd.tmp rfl) rfl) ?_
  refine RegL.pureW (p := (pEq (.slice ho0_0 hn0_0 hc0_0))) rfl rfl rfl (W_load (i := 0) rfl Try.isAgg22 (Opd.tmp rfl) rfl rfl) ?_
  refine RegL.pure (p := (pEq (.int .i64 k_1))) rfl rfl rfl (J_move rfl (Opd.tmp rfl)) ?_
  replace h := bind_some h; obtain ⟨x4, hx4, h⟩ := h
  refine RegL.re (Ω2 := [oSS 26 2 1 (cK .i64) ho0_0 hn0_0 hc0_0 hh0_0 a_0.Domains, oBlk b3 [(pEq (.slice ho0_0 hn0_0 hc0_0)), (pEq (.slice ho0_1 hn0_1 hc0_1))], oSS 26 2 1 (cK .i64) ho0_1 hn0_1 hc0_1 hh0_1 a_0.Apart]) (fun h => SatO.pick 1 h) ?_
  refine RegL.step (γ := Unit) (p := fun g => (pEq (.int .i64 x4.1))) (Ω' := fun g => [oSS 26 2 1 (cK .i64) ho0_0 hn0_0 hc0_0 hh0_0 x4.2, oBlk b3 [(pEq (.slice ho0_0 hn0_0 hc0_0)), (pEq (.slice ho0_1 hn0_1 hc0_1))], oSS 26 2 1 (cK .i64) ho0_1 hn0_1 hc0_1 hh0_1 a_0.Apart]) rfl rfl rfl (M_callH (Ωi := [oSS 26 2 1 (cK .i64) ho0_0 hn0_0 hc0_0 hh0_0 a_0.Domains]) rfl Try.call36 (o_laws_markInt64SS hx4) (Opds.cons (Opd.tmp rfl) (Opds.cons (Opd.tmp rfl) Opds.nil))) fun g5 => ?_
  refine RegL.pure (p := (pEq (.int .i64 x4.1))) rfl rfl rfl (J_assign rfl (Opd.tmp rfl)) ?_
  refine RegL.nil ?_
  refine Ct.then_tr ?_
  refine Tr.weak (Γ' := [(1, (pEq (.int .i64 x4.1))), (2, (pEq (.pointer (some ⟨b3, 0, none⟩))))]) ⟨rfl, rfl, trivial⟩ ?_
  refine Tr.seq ?_
  refine Tr.region ?_
  refine RegL.pure (p := (pEq (.pointer (some ⟨b3, 1, none⟩)))) rfl rfl rfl (J_fieldAddrE rfl Try.underlying29 rfl sz22 (by decide) (Opd.tmp rfl) rfl) ?_
  refine RegL.pureW (p := (pEq (.slice ho0_1 hn0_1 hc0_1))) rfl rfl rfl (W_load (i := 1) rfl Try.isAgg22 (Opd.tmp rfl) rfl rfl) ?_
  refine RegL.pure (p := (pEq (.int .i64 x4.1))) rfl rfl rfl (J_move rfl (Opd.tmp rfl)) ?_
  replace h := bind_some h; obtain ⟨x6, hx6, h⟩ := h
  refine RegL.re (Ω2 := [oSS 26 2 1 (cK .i64) ho0_1 hn0_1 hc0_1 hh0_1 a_0.Apart, oSS 26 2 1 (cK .i64) ho0_0 hn0_0 hc0_0 hh0_0 x4.2, oBlk b3 [(pEq (.slice ho0_0 hn0_0 hc0_0)), (pEq (.slice ho0_1 hn0_1 hc0_1))]]) (fun h => SatO.pick 2 h) ?_
  refine RegL.step (γ := Unit) (p := fun g => (pEq (.int .i64 x6.1))) (Ω' := fun g => [oSS 26 2 1 (cK .i64) ho0_1 hn0_1 hc0_1 hh0_1 x6.2, oSS 26 2 1 (cK .i64) ho0_0 hn0_0 hc0_0 hh0_0 x4.2, oBlk b3 [(pEq (.slice ho0_0 hn0_0 hc0_0)), (pEq (.slice ho0_1 hn0_1 hc0_1))]]) rfl rfl rfl (M_callH (Ωi := [oSS 26 2 1 (cK .i64) ho0_1 hn0_1 hc0_1 hh0_1 a_0.Apart]) rfl Try.call36 (o_laws_markInt64SS hx6) (Opds.cons (Opd.tmp rfl) (Opds.cons (Opd.tmp rfl) Opds.nil))) fun g7 => ?_
  refine RegL.pure (p := (pEq (.int .i64 x6.1))) rfl rfl rfl (J_assign rfl (Opd.tmp rfl)) ?_
  refine RegL.nil ?_
  refine Ct.then_tr ?_
  refine Tr.weak (Γ' := [(1, (pEq (.int .i64 x6.1)))]) ⟨rfl, trivial⟩ ?_
  refine Tr.seq ?_
  refine Tr.region ?_
  refine RegL.pure (p := (pEq (.int .i64 x6.1))) rfl rfl rfl (J_move rfl (Opd.tmp rfl)) ?_
  refine RegL.pure (p := (pEq (.int .i64 x6.1))) rfl rfl rfl (J_assign rfl (Opd.tmp rfl)) ?_
  refine RegL.nil ?_
  refine Ct.then_tr ?_
  refine Tr.weak (Γ' := [(4, (pEq (.int .i64 x6.1)))]) ⟨rfl, trivial⟩ ?_
  refine Tr.ret ?_
  refine Ct.re (Ω2 := [oSS 26 2 1 (cK .i64) ho0_0 hn0_0 hc0_0 hh0_0 x4.2, oSS 26 2 1 (cK .i64) ho0_1 hn0_1 hc0_1 hh0_1 x6.2, oBlk b3 [(pEq (.slice ho0_0 hn0_0 hc0_0)), (pEq (.slice ho0_1 hn0_1 hc0_1))]]) (fun h => SatO.pick 1 h) ?_
  refine Ct.re (Ω2 := [oBlk b3 [(pEq (.slice ho0_0 hn0_0 hc0_0)), (pEq (.slice ho0_1 hn0_1 hc0_1))], oSS 26 2 1 (cK .i64) ho0_0 hn0_0 hc0_0 hh0_0 x4.2, oSS 26 2 1 (cK .i64) ho0_1 hn0_1 hc0_1 hh0_1 x6.2]) (fun h => SatO.pick 2 h) ?_
  replace h := Option.some.inj h; subst h
  exact Ct.retH1 (Ωx := [oBlk b3 [(pEq (.slice ho0_0 hn0_0 hc0_0)), (pEq (.slice ho0_1 hn0_1 hc0_1))]]) () rfl (RvOk.tmp rfl) rfl

theorem c_laws_heldInt64S {a_0 : (List Int)} {k_1 : Int} {r : Int} (h : m_laws_heldInt64S a_0 k_1 = some r) : CallJ Try.prog 16 [(pSl 1 (cK .i64) a_0), (pEq (.int .i64 k_1))] (pEq (.int .i64 r)) := by
  unfold m_laws_heldInt64S at h
  refine CallJ.enterH Try.func16 rfl Try.ntmps16 rfl fun W I0 H => ?_
  refine Tr.weak (Γ' := [(0, (pSl 1 (cK .i64) a_0)), (1, (pEq (.int .i64 k_1)))]) ⟨rfl, rfl, trivial⟩ ?_
  refine Tr.seq ?_
  refine Tr.region ?_
  refine RegL.pure (p := (pEq (.int .i64 (0 : Int)))) rfl rfl rfl (J_assign rfl Opd.con) ?_
  refine RegL.nil ?_
  refine Ct.then_tr ?_
  refine Tr.weak (Γ' := [(0, (pSl 1 (cK .i64) a_0)), (1, (pEq (.int .i64 k_1)))]) ⟨rfl, rfl, trivial⟩ ?_
  refine Tr.seq ?_
  refine Tr.seq ?_
  refine Tr.region ?_
  refine RegL.pure (p := (pEq (.int .i64 (0 : Int)))) rfl rfl rfl (J_assign rfl Opd.con) ?_
  refine RegL.nil ?_
  refine Ct.then_tr ?_
  refine Tr.weak (Γ' := [(0, (pSl 1 (cK .i64) a_0)), (1, (pEq (.int .i64 k_1))), (5, (pEq (.int .i64 (0 : Int))))]) ⟨rfl, rfl, rfl, trivial⟩ ?_
  refine Tr.block ?_
  refine Tr.weak (Γ' := [(0, (pSl 1 (cK .i64) a_0)), (1, (pEq (.int .i64 k_1))), (5, (pEq (.int .i64 (0 : Int))))]) ⟨rfl, rfl, rfl, trivial⟩ ?_
  refine Tr.loop (γ := Unit) (σ := (Int × Int)) (Γσ := fun s g => [(0, (pSl 1 (cK .i64) a_0)), (1, (pEq (.int .i64 s.1))), (5, (pEq (.int .i64 s.2)))]) (Ωσ := fun s g => []) (g := ()) h ?_
  clear h
  rintro ⟨v2, v3⟩ g4 t h
  replace h : m_laws_heldInt64S_B1 a_0 v2 v3 = some t := h
  unfold m_laws_heldInt64S_B1 at h
  refine Tr.weakO (Γ' := [(0, (pSl 1 (cK .i64) a_0)), (1, (pEq (.int .i64 v2))), (5, (pEq (.int .i64 v3)))]) (Ω' := []) rfl ⟨rfl, rfl, rfl, trivial⟩ ?_
  refine Tr.seq ?_
  refine Tr.seq ?_
  refine Tr.region ?_
  refine RegL.pure (p := (pEq (.int .i64 v3))) rfl rfl rfl (J_move rfl (Opd.tmp rfl)) ?_
  refine RegL.pure (p := (pSl 1 (cK .i64) a_0)) rfl rfl rfl (J_move rfl (Opd.tmp rfl)) ?_
  refine RegL.pure (p := (pEq (.int .i64 (a_0.length : Int)))) rfl rfl rfl (J_len rfl Try.underlying26 (Opd.tmp rfl) rfl) ?_
  refine RegL.pure (p := (pEq (.bool (decide (v3 < (a_0.length : Int)))))) rfl rfl rfl (J_bin rfl (Opd.tmp rfl) (Opd.tmp rfl) B_lss) ?_
  refine RegL.nil ?_
  refine Ct.then_tr ?_
  refine Tr.weak (Γ' := [(0, (pSl 1 (cK .i64) a_0)), (1, (pEq (.int .i64 v2))), (5, (pEq (.int .i64 v3))), (9, (pEq (.bool (decide (v3 < (a_0.length : Int))))))]) ⟨rfl, rfl, rfl, rfl, trivial⟩ ?_
  refine Tr.cond (Opd.tmp rfl) (fun hc => ?_) (fun hc => ?_)
  · replace h := bif_t hc h
    refine Tr.skip ?_
    refine Ct.then_tr ?_
    refine Tr.weak (Γ' := [(0, (pSl 1 (cK .i64) a_0)), (1, (pEq (.int .i64 v2))), (5, (pEq (.int .i64 v3)))]) ⟨rfl, rfl, rfl, trivial⟩ ?_
    refine Tr.seq ?_
    refine Tr.block ?_
    refine Tr.seq ?_
    refine Tr.seq ?_
    refine Tr.region ?_
    refine RegL.pure (p := (pSl 1 (cK .i64) a_0)) rfl rfl rfl (J_move rfl (Opd.tmp rfl)) ?_
    refine RegL.pure (p := (pEq (.int .i64 v3))) rfl rfl rfl (J_move rfl (Opd.tmp rfl)) ?_
    replace h := bind_some h; obtain ⟨x5, hx5, h⟩ := h
    refine RegL.pure (p := (pPtr ((cK .i64) x5))) rfl rfl rfl (J_idx rfl Try.underlying26 sz2 (Opd.tmp rfl) (Opd.tmp rfl) hx5) ?_
    refine RegL.pure (p := (pEq (.int .i64 x5))) rfl rfl rfl (J_load rfl Try.isAgg2 (Opd.tmp rfl)) ?_
    refine RegL.pure (p := (pEq (.int .i64 v2))) rfl rfl rfl (J_move rfl (Opd.tmp rfl)) ?_
    refine RegL.pure (p := (pEq (.bool (x5 != v2)))) rfl rfl rfl (J_bin rfl (Opd.tmp rfl) (Opd.tmp rfl) B_neq) ?_
    refine RegL.nil ?_
    refine Ct.then_tr ?_
    refine Tr.weak (Γ' := [(0, (pSl 1 (cK .i64) a_0)), (1, (pEq (.int .i64 v2))), (5, (pEq (.int .i64 v3))), (17, (pEq (.bool (x5 != v2))))]) ⟨rfl, rfl, rfl, rfl, trivial⟩ ?_
    refine Tr.cond (Opd.tmp rfl) (fun hc => ?_) (fun hc => ?_)
    · replace h := bif_t hc h
      refine Tr.seq ?_
      refine Tr.region ?_
      refine RegL.pure (p := (pEq (.int .i64 (-1 : Int)))) rfl rfl rfl (J_assign rfl Opd.con) ?_
      refine RegL.nil ?_
      refine Ct.then_tr ?_
      refine Tr.weak (Γ' := [(4, (pEq (.int .i64 (-1 : Int))))]) ⟨rfl, trivial⟩ ?_
      refine Tr.ret ?_
      refine Ct.then_ret ?_
      refine Ct.blk_ret ?_
      refine Ct.then_ret ?_
      replace h := map_some h; obtain ⟨r1, h, rfl⟩ := h
      refine Ct.out_ret fun e => ?_
      subst e
      refine Ct.blk_ret ?_
      refine Ct.then_ret ?_
      replace h := Option.some.inj h; subst h
      exact Ct.retH1 (Ωx := []) () rfl (RvOk.tmp rfl) rfl
    · replace h := bif_f hc h
      refine Tr.skip ?_
      refine Ct.then_tr ?_
      refine Tr.weak (Γ' := [(0, (pSl 1 (cK .i64) a_0)), (1, (pEq (.int .i64 v2))), (5, (pEq (.int .i64 v3)))]) ⟨rfl, rfl, rfl, trivial⟩ ?_
      refine Tr.region ?_
      refine RegL.pure (p := (pEq (.int .i64 v2))) rfl rfl rfl (J_move rfl (Opd.tmp rfl)) ?_
      refine RegL.pure (p := (pEq (.int .i64 (w64 (v2 + (1 : Int)))))) rfl rfl rfl (J_bin rfl (Opd.tmp rfl) Opd.con B_add) ?_
      refine RegL.pure (p := (pEq (.int .i64 (w64 (v2 + (1 : Int)))))) rfl rfl rfl (J_assign rfl (Opd.tmp rfl)) ?_
      refine RegL.nil ?_
      refine Ct.blk_normal ?_
      refine Ct.then_tr ?_
      refine Tr.weak (Γ' := [(0, (pSl 1 (cK .i64) a_0)), (1, (pEq (.int .i64 (w64 (v2 + (1 : Int)))))), (5, (pEq (.int .i64 v3)))]) ⟨rfl, rfl, rfl, trivial⟩ ?_
      refine Tr.region ?_
      refine RegL.pure (p := (pEq (.int .i64 v3))) rfl rfl rfl (J_move rfl (Opd.tmp rfl)) ?_
      refine RegL.pure (p := (pEq (.int .i64 (w64 (v3 + (1 : Int)))))) rfl rfl rfl (J_bin rfl (Opd.tmp rfl) Opd.con B_add) ?_
      refine RegL.pure (p := (pEq (.int .i64 (w64 (v3 + (1 : Int)))))) rfl rfl rfl (J_assign rfl (Opd.tmp rfl)) ?_
      refine RegL.nil ?_
      replace h := Option.some.inj h; subst h
      exact Ct.again () rfl ⟨rfl, rfl, rfl, trivial⟩
  · replace h := bif_f hc h
    refine Tr.exit ?_
    refine Ct.then_exit ?_
    replace h := map_some h; obtain ⟨r1, h, rfl⟩ := h
    refine Ct.out_exit fun e => ?_
    subst e
    refine Ct.blk_exit ?_
    refine Ct.then_tr ?_
    refine Tr.weak (Γ' := [(1, (pEq (.int .i64 v2)))]) ⟨rfl, trivial⟩ ?_
    refine Tr.seq ?_
    refine Tr.region ?_
    refine RegL.pure (p := (pEq (.int .i64 v2))) rfl rfl rfl (J_move rfl (Opd.tmp rfl)) ?_
    refine RegL.pure (p := (pEq (.int .i64 v2))) rfl rfl rfl (J_assign rfl (Opd.tmp rfl)) ?_
    refine RegL.nil ?_
    refine Ct.then_tr ?_
    refine Tr.weak (Γ' := [(4, (pEq (.int .i64 v2)))]) ⟨rfl, trivial⟩ ?_
    refine Tr.ret ?_
    replace h := Option.some.inj h; subst h
    exact Ct.retH1 (Ωx := []) () rfl (RvOk.tmp rfl) rfl


end Go.Proofs.Ytfadnbelnfofbaa.fnExactDegreeOrderW
