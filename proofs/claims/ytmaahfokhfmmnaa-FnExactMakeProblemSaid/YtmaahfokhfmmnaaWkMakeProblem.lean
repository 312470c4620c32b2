/-
  The walks that the law FnExactMakeProblem reaches: each function computes its model. Printed by our own program.
-/
import Derived.Test.YtmaahfokhfmmnaaProg
import Derived.Test.YtmaahfokhfmmnaaMod
import Derived.Test.YtmaahfokhfmmnaaMore
import Derived.KernelRfl
import Derived.Test.YtmaahfokhfmmnaaWkMakeProblema
namespace Go.Proofs.Ytmaahfokhfmmnaa.fnExactMakeProblemW
open Go Go.RowKit Go.Wk
set_option linter.unusedVariables false
set_option maxRecDepth 100000


theorem o_impl_Problem_tighten {p_0 : GProblem} {a_1 : Int} {b_2 : Int} {apart_3 : Int} {ho0_1 : Option Addr} {hn0_1 hc0_1 : Nat} {hh0_1 : List G3} {r : (List (List Int))} (h : m_impl_Problem_tighten p_0 a_1 b_2 apart_3 = some r) : CallH Try.prog 73 [(pAgg [(pSl 1 (cSl 1 (cK .i64)) p_0.Domains), (pEq (.slice ho0_1 hn0_1 hc0_1))]), (pEq (.int .i64 a_1)), (pEq (.int .i64 b_2)), (pEq (.int .i64 apart_3))] [oSS 22 2 1 (cK .i64) ho0_1 hn0_1 hc0_1 hh0_1 p_0.Apart] (fun g : Unit => (pTup [])) (fun g : Unit => [oSS 22 2 1 (cK .i64) ho0_1 hn0_1 hc0_1 hh0_1 r]) := by
  unfold m_impl_Problem_tighten at h
  refine CallH.enter Try.func73 rfl Try.ntmps73 rfl fun W I0 H => ?_
  refine Tr.weak (Γ' := [(0, (pAgg [(pSl 1 (cSl 1 (cK .i64)) p_0.Domains), (pEq (.slice ho0_1 hn0_1 hc0_1))])), (1, (pEq (.int .i64 a_1))), (2, (pEq (.int .i64 b_2))), (3, (pEq (.int .i64 apart_3)))]) ⟨rfl, rfl, rfl, rfl, trivial⟩ ?_
  refine Tr.seq ?_
  refine Tr.region ?_
  refine RegL.step (γ := Nat) (p := fun b => pEq (.pointer (some ⟨b, 0, none⟩))) (Ω' := fun b => [oBlk b [(pSl 1 (cSl 1 (cK .i64)) p_0.Domains), (pEq (.slice ho0_1 hn0_1 hc0_1))], oSS 22 2 1 (cK .i64) ho0_1 hn0_1 hc0_1 hh0_1 p_0.Apart]) rfl rfl rfl (M_boxA rfl (Opd.tmp rfl)) fun b2 => ?_
  refine RegL.nil ?_
  refine Ct.then_tr ?_
  refine Tr.weak (Γ' := [(1, (pEq (.int .i64 a_1))), (2, (pEq (.int .i64 b_2))), (3, (pEq (.int .i64 apart_3))), (4, (pEq (.pointer (some ⟨b2, 0, none⟩))))]) ⟨rfl, rfl, rfl, rfl, trivial⟩ ?_
  refine Tr.seq ?_
  replace h := bind_some h; obtain ⟨x3, hx3, h⟩ := h
  replace h := bind_some h; obtain ⟨x4, hx4, h⟩ := h
  replace h := bind_some h; obtain ⟨x5, hx5, h⟩ := h
  refine Tr.drawD (n := 40) (m := 16) (es := [some (Ent.mk [(4, (pEq (.pointer (some ⟨b2, 0, none⟩))))] (pEq (.pointer (some ⟨b2, 1, none⟩))) true), some (Ent.mk [(8, (pEq (.pointer (some ⟨b2, 1, none⟩))))] (pEq (.slice ho0_1 hn0_1 hc0_1)) true), some (Ent.mk [(1, (pEq (.int .i64 a_1)))] (pEq (.int .i64 a_1)) true), some (Ent.mk [(9, (pEq (.slice ho0_1 hn0_1 hc0_1))), (10, (pEq (.int .i64 a_1)))] (pEq (.pointer (some ⟨blk ho0_1, (a_1).toNat * 1, none⟩))) true), some (Ent.mk [(11, (pEq (.pointer (some ⟨blk ho0_1, (a_1).toNat * 1, none⟩))))] (pEq (hdrV (gd hh0_1 a_1))) true), some (Ent.mk [(2, (pEq (.int .i64 b_2)))] (pEq (.int .i64 b_2)) true), some (Ent.mk [(4, (pEq (.pointer (some ⟨b2, 0, none⟩))))] (pEq (.pointer (some ⟨b2, 1, none⟩))) true), some (Ent.mk [(14, (pEq (.pointer (some ⟨b2, 1, none⟩))))] (pEq (.slice ho0_1 hn0_1 hc0_1)) true), some (Ent.mk [(1, (pEq (.int .i64 a_1)))] (pEq (.int .i64 a_1)) true), some (Ent.mk [(15, (pEq (.slice ho0_1 hn0_1 hc0_1))), (16, (pEq (.int .i64 a_1)))] (pEq (.pointer (some ⟨blk ho0_1, (a_1).toNat * 1, none⟩))) true), some (Ent.mk [(17, (pEq (.pointer (some ⟨blk ho0_1, (a_1).toNat * 1, none⟩))))] (pEq (hdrV (gd hh0_1 a_1))) true), some (Ent.mk [(2, (pEq (.int .i64 b_2)))] (pEq (.int .i64 b_2)) true), some (Ent.mk [(18, (pEq (hdrV (gd hh0_1 a_1)))), (19, (pEq (.int .i64 b_2)))] (pEq (.pointer (some ⟨blk (gd hh0_1 a_1).1, (b_2).toNat * 1, none⟩))) true), some (Ent.mk [(20, (pEq (.pointer (some ⟨blk (gd hh0_1 a_1).1, (b_2).toNat * 1, none⟩))))] (pEq (.int .i64 x5)) true), some (Ent.mk [(3, (pEq (.int .i64 apart_3)))] (pEq (.int .i64 apart_3)) true), some (Ent.mk [(21, (pEq (.int .i64 x5))), (22, (pEq (.int .i64 apart_3)))] (pEq (.int .i64 (if apart_3 > x5 then apart_3 else x5))) true)]) (rd := [[4], [8], [1], [9, 10], [11], [2], [4], [14], [1], [15, 16], [17], [2], [18, 19], [20], [3], [21, 22]]) rfl hmix (by kernel_rfl) fun hD => ?_
  refine RD.fin (es := [Ent.mk [(4, (pEq (.pointer (some ⟨b2, 0, none⟩))))] (pEq (.pointer (some ⟨b2, 1, none⟩))) true, Ent.mk [(8, (pEq (.pointer (some ⟨b2, 1, none⟩))))] (pEq (.slice ho0_1 hn0_1 hc0_1)) true, Ent.mk [(1, (pEq (.int .i64 a_1)))] (pEq (.int .i64 a_1)) true, Ent.mk [(9, (pEq (.slice ho0_1 hn0_1 hc0_1))), (10, (pEq (.int .i64 a_1)))] (pEq (.pointer (some ⟨blk ho0_1, (a_1).toNat * 1, none⟩))) true, Ent.mk [(11, (pEq (.pointer (some ⟨blk ho0_1, (a_1).toNat * 1, none⟩))))] (pEq (hdrV (gd hh0_1 a_1))) true, Ent.mk [(2, (pEq (.int .i64 b_2)))] (pEq (.int .i64 b_2)) true, Ent.mk [(4, (pEq (.pointer (some ⟨b2, 0, none⟩))))] (pEq (.pointer (some ⟨b2, 1, none⟩))) true, Ent.mk [(14, (pEq (.pointer (some ⟨b2, 1, none⟩))))] (pEq (.slice ho0_1 hn0_1 hc0_1)) true, Ent.mk [(1, (pEq (.int .i64 a_1)))] (pEq (.int .i64 a_1)) true, Ent.mk [(15, (pEq (.slice ho0_1 hn0_1 hc0_1))), (16, (pEq (.int .i64 a_1)))] (pEq (.pointer (some ⟨blk ho0_1, (a_1).toNat * 1, none⟩))) true, Ent.mk [(17, (pEq (.pointer (some ⟨blk ho0_1, (a_1).toNat * 1, none⟩))))] (pEq (hdrV (gd hh0_1 a_1))) true, Ent.mk [(2, (pEq (.int .i64 b_2)))] (pEq (.int .i64 b_2)) true, Ent.mk [(18, (pEq (hdrV (gd hh0_1 a_1)))), (19, (pEq (.int .i64 b_2)))] (pEq (.pointer (some ⟨blk (gd hh0_1 a_1).1, (b_2).toNat * 1, none⟩))) true, Ent.mk [(20, (pEq (.pointer (some ⟨blk (gd hh0_1 a_1).1, (b_2).toNat * 1, none⟩))))] (pEq (.int .i64 x5)) true, Ent.mk [(3, (pEq (.int .i64 apart_3)))] (pEq (.int .i64 apart_3)) true, Ent.mk [(21, (pEq (.int .i64 x5))), (22, (pEq (.int .i64 apart_3)))] (pEq (.int .i64 (if apart_3 > x5 then apart_3 else x5))) true]) (done := []) hD ⟨.inr ⟨(OpJ.w (J_fieldAddrE rfl Try.underlying32 rfl sz27 (by decide) (Opd.tmp rfl) rfl)), ⟨rfl, trivial⟩, rfl, rfl⟩, ⟨.inr ⟨(W_load (i := 0) rfl Try.isAgg27 (Opd.tmp rfl) rfl rfl), ⟨rfl, trivial⟩, rfl, rfl⟩, ⟨.inr ⟨(OpJ.w (J_move rfl (Opd.tmp rfl))), ⟨rfl, trivial⟩, rfl, rfl⟩, ⟨.inr ⟨(W_nestIdx (j := 1) rfl Try.underlying27 sz22 (Opd.tmp rfl) (Opd.tmp rfl) rfl (idx_lt hx3)), ⟨rfl, rfl, trivial⟩, rfl, rfl⟩, ⟨.inr ⟨(W_nestLoad (j := 1) rfl Try.isAgg22 (Opd.tmp rfl) rfl hx3), ⟨rfl, trivial⟩, rfl, rfl⟩, ⟨.inr ⟨(OpJ.w (J_move rfl (Opd.tmp rfl))), ⟨rfl, trivial⟩, rfl, rfl⟩, ⟨.inr ⟨(OpJ.w (J_fieldAddrE rfl Try.underlying32 rfl sz27 (by decide) (Opd.tmp rfl) rfl)), ⟨rfl, trivial⟩, rfl, rfl⟩, ⟨.inr ⟨(W_load (i := 0) rfl Try.isAgg27 (Opd.tmp rfl) rfl rfl), ⟨rfl, trivial⟩, rfl, rfl⟩, ⟨.inr ⟨(OpJ.w (J_move rfl (Opd.tmp rfl))), ⟨rfl, trivial⟩, rfl, rfl⟩, ⟨.inr ⟨(W_nestIdx (j := 1) rfl Try.underlying27 sz22 (Opd.tmp rfl) (Opd.tmp rfl) rfl (idx_lt hx4)), ⟨rfl, rfl, trivial⟩, rfl, rfl⟩, ⟨.inr ⟨(W_nestLoad (j := 1) rfl Try.isAgg22 (Opd.tmp rfl) rfl hx4), ⟨rfl, trivial⟩, rfl, rfl⟩, ⟨.inr ⟨(OpJ.w (J_move rfl (Opd.tmp rfl))), ⟨rfl, trivial⟩, rfl, rfl⟩, ⟨.inr ⟨(W_bagIdx (j := 1) rfl Try.underlying22 sz2 (Opd.tmp rfl) (Opd.tmp rfl) rfl hx4 (idx_lt hx5)), ⟨rfl, rfl, trivial⟩, rfl, rfl⟩, ⟨.inr ⟨(W_bagLoad (f := (cK .i64)) (j := 1) rfl Try.isAgg2 (fun _ => rfl) (Opd.tmp rfl) rfl hx4 hx5 rfl), ⟨rfl, trivial⟩, rfl, rfl⟩, ⟨.inr ⟨(OpJ.w (J_move rfl (Opd.tmp rfl))), ⟨rfl, trivial⟩, rfl, rfl⟩, ⟨.inr ⟨(OpJ.w (J_max2 rfl (Opd.tmp rfl) (Opd.tmp rfl))), ⟨rfl, rfl, trivial⟩, rfl, rfl⟩, trivial⟩⟩⟩⟩⟩⟩⟩⟩⟩⟩⟩⟩⟩⟩⟩⟩ ?_
  replace h := bind_some h; obtain ⟨u6, hu6, h⟩ := h
  refine RegL.pureW (p := (pEq (.pointer (some ⟨blk (gd hh0_1 a_1).1, (b_2).toNat * 1, none⟩)))) rfl rfl rfl (W_bagIdx (j := 1) rfl Try.underlying22 sz2 (Opd.tmp rfl) (Opd.tmp rfl) rfl hx3 (inB_some hu6)) ?_
  refine RegL.re (Ω2 := [oSS 22 2 1 (cK .i64) ho0_1 hn0_1 hc0_1 hh0_1 p_0.Apart, oBlk b2 [(pSl 1 (cSl 1 (cK .i64)) p_0.Domains), (pEq (.slice ho0_1 hn0_1 hc0_1))]]) (fun h => SatO.pick 1 h) ?_
  refine RegL.stepN (γ := Unit) (p := fun _ => pAny) (Ω' := fun _ => [oSS 22 2 1 (cK .i64) ho0_1 hn0_1 hc0_1 hh0_1 (p_0.Apart.set (a_1).toNat (x3.set (b_2).toNat (if apart_3 > x5 then apart_3 else x5))), oBlk b2 [(pSl 1 (cSl 1 (cK .i64)) p_0.Domains), (pEq (.slice ho0_1 hn0_1 hc0_1))]]) rfl rfl (M_bagStore rfl sz2 (fun _ => rfl) (Opd.tmp rfl) (Opd.tmp rfl) rfl OneC.int hx3 (inB_some hu6)) fun g7 => ?_
  refine RegL.nil ?_
  refine Ct.then_tr ?_
  refine Tr.weak (Γ' := [(1, (pEq (.int .i64 a_1))), (2, (pEq (.int .i64 b_2))), (4, (pEq (.pointer (some ⟨b2, 0, none⟩))))]) ⟨rfl, rfl, rfl, trivial⟩ ?_
  replace h := bind_some h; obtain ⟨x8, hx8, h⟩ := h
  replace h := bind_some h; obtain ⟨x9, hx9, h⟩ := h
  replace h := bind_some h; obtain ⟨x10, hx10, h⟩ := h
  refine Tr.drawD (n := 40) (m := 14) (es := [some (Ent.mk [(4, (pEq (.pointer (some ⟨b2, 0, none⟩))))] (pEq (.pointer (some ⟨b2, 1, none⟩))) true), some (Ent.mk [(25, (pEq (.pointer (some ⟨b2, 1, none⟩))))] (pEq (.slice ho0_1 hn0_1 hc0_1)) true), some (Ent.mk [(2, (pEq (.int .i64 b_2)))] (pEq (.int .i64 b_2)) true), some (Ent.mk [(26, (pEq (.slice ho0_1 hn0_1 hc0_1))), (27, (pEq (.int .i64 b_2)))] (pEq (.pointer (some ⟨blk ho0_1, (b_2).toNat * 1, none⟩))) true), some (Ent.mk [(28, (pEq (.pointer (some ⟨blk ho0_1, (b_2).toNat * 1, none⟩))))] (pEq (hdrV (gd hh0_1 b_2))) true), some (Ent.mk [(1, (pEq (.int .i64 a_1)))] (pEq (.int .i64 a_1)) true), some (Ent.mk [(4, (pEq (.pointer (some ⟨b2, 0, none⟩))))] (pEq (.pointer (some ⟨b2, 1, none⟩))) true), some (Ent.mk [(31, (pEq (.pointer (some ⟨b2, 1, none⟩))))] (pEq (.slice ho0_1 hn0_1 hc0_1)) true), some (Ent.mk [(1, (pEq (.int .i64 a_1)))] (pEq (.int .i64 a_1)) true), some (Ent.mk [(32, (pEq (.slice ho0_1 hn0_1 hc0_1))), (33, (pEq (.int .i64 a_1)))] (pEq (.pointer (some ⟨blk ho0_1, (a_1).toNat * 1, none⟩))) true), some (Ent.mk [(34, (pEq (.pointer (some ⟨blk ho0_1, (a_1).toNat * 1, none⟩))))] (pEq (hdrV (gd hh0_1 a_1))) true), some (Ent.mk [(2, (pEq (.int .i64 b_2)))] (pEq (.int .i64 b_2)) true), some (Ent.mk [(35, (pEq (hdrV (gd hh0_1 a_1)))), (36, (pEq (.int .i64 b_2)))] (pEq (.pointer (some ⟨blk (gd hh0_1 a_1).1, (b_2).toNat * 1, none⟩))) true), some (Ent.mk [(37, (pEq (.pointer (some ⟨blk (gd hh0_1 a_1).1, (b_2).toNat * 1, none⟩))))] (pEq (.int .i64 x10)) true)]) (rd := [[4], [25], [2], [26, 27], [28], [1], [4], [31], [1], [32, 33], [34], [2], [35, 36], [37]]) rfl hmix (by kernel_rfl) fun hD => ?_
  refine RD.fin (es := [Ent.mk [(4, (pEq (.pointer (some ⟨b2, 0, none⟩))))] (pEq (.pointer (some ⟨b2, 1, none⟩))) true, Ent.mk [(25, (pEq (.pointer (some ⟨b2, 1, none⟩))))] (pEq (.slice ho0_1 hn0_1 hc0_1)) true, Ent.mk [(2, (pEq (.int .i64 b_2)))] (pEq (.int .i64 b_2)) true, Ent.mk [(26, (pEq (.slice ho0_1 hn0_1 hc0_1))), (27, (pEq (.int .i64 b_2)))] (pEq (.pointer (some ⟨blk ho0_1, (b_2).toNat * 1, none⟩))) true, Ent.mk [(28, (pEq (.pointer (some ⟨blk ho0_1, (b_2).toNat * 1, none⟩))))] (pEq (hdrV (gd hh0_1 b_2))) true, Ent.mk [(1, (pEq (.int .i64 a_1)))] (pEq (.int .i64 a_1)) true, Ent.mk [(4, (pEq (.pointer (some ⟨b2, 0, none⟩))))] (pEq (.pointer (some ⟨b2, 1, none⟩))) true, Ent.mk [(31, (pEq (.pointer (some ⟨b2, 1, none⟩))))] (pEq (.slice ho0_1 hn0_1 hc0_1)) true, Ent.mk [(1, (pEq (.int .i64 a_1)))] (pEq (.int .i64 a_1)) true, Ent.mk [(32, (pEq (.slice ho0_1 hn0_1 hc0_1))), (33, (pEq (.int .i64 a_1)))] (pEq (.pointer (some ⟨blk ho0_1, (a_1).toNat * 1, none⟩))) true, Ent.mk [(34, (pEq (.pointer (some ⟨blk ho0_1, (a_1).toNat * 1, none⟩))))] (pEq (hdrV (gd hh0_1 a_1))) true, Ent.mk [(2, (pEq (.int .i64 b_2)))] (pEq (.int .i64 b_2)) true, Ent.mk [(35, (pEq (hdrV (gd hh0_1 a_1)))), (36, (pEq (.int .i64 b_2)))] (pEq (.pointer (some ⟨blk (gd hh0_1 a_1).1, (b_2).toNat * 1, none⟩))) true, Ent.mk [(37, (pEq (.pointer (some ⟨blk (gd hh0_1 a_1).1, (b_2).toNat * 1, none⟩))))] (pEq (.int .i64 x10)) true]) (done := []) hD ⟨.inr ⟨(OpJ.w (J_fieldAddrE rfl Try.underlying32 rfl sz27 (by decide) (Opd.tmp rfl) rfl)), ⟨rfl, trivial⟩, rfl, rfl⟩, ⟨.inr ⟨(W_load (i := 1) rfl Try.isAgg27 (Opd.tmp rfl) rfl rfl), ⟨rfl, trivial⟩, rfl, rfl⟩, ⟨.inr ⟨(OpJ.w (J_move rfl (Opd.tmp rfl))), ⟨rfl, trivial⟩, rfl, rfl⟩, ⟨.inr ⟨(W_nestIdx (j := 0) rfl Try.underlying27 sz22 (Opd.tmp rfl) (Opd.tmp rfl) rfl (idx_lt hx8)), ⟨rfl, rfl, trivial⟩, rfl, rfl⟩, ⟨.inr ⟨(W_nestLoad (j := 0) rfl Try.isAgg22 (Opd.tmp rfl) rfl hx8), ⟨rfl, trivial⟩, rfl, rfl⟩, ⟨.inr ⟨(OpJ.w (J_move rfl (Opd.tmp rfl))), ⟨rfl, trivial⟩, rfl, rfl⟩, ⟨.inr ⟨(OpJ.w (J_fieldAddrE rfl Try.underlying32 rfl sz27 (by decide) (Opd.tmp rfl) rfl)), ⟨rfl, trivial⟩, rfl, rfl⟩, ⟨.inr ⟨(W_load (i := 1) rfl Try.isAgg27 (Opd.tmp rfl) rfl rfl), ⟨rfl, trivial⟩, rfl, rfl⟩, ⟨.inr ⟨(OpJ.w (J_move rfl (Opd.tmp rfl))), ⟨rfl, trivial⟩, rfl, rfl⟩, ⟨.inr ⟨(W_nestIdx (j := 0) rfl Try.underlying27 sz22 (Opd.tmp rfl) (Opd.tmp rfl) rfl (idx_lt hx9)), ⟨rfl, rfl, trivial⟩, rfl, rfl⟩, ⟨.inr ⟨(W_nestLoad (j := 0) rfl Try.isAgg22 (Opd.tmp rfl) rfl hx9), ⟨rfl, trivial⟩, rfl, rfl⟩, ⟨.inr ⟨(OpJ.w (J_move rfl (Opd.tmp rfl))), ⟨rfl, trivial⟩, rfl, rfl⟩, ⟨.inr ⟨(W_bagIdx (j := 0) rfl Try.underlying22 sz2 (Opd.tmp rfl) (Opd.tmp rfl) rfl hx9 (idx_lt hx10)), ⟨rfl, rfl, trivial⟩, rfl, rfl⟩, ⟨.inr ⟨(W_bagLoad (f := (cK .i64)) (j := 0) rfl Try.isAgg2 (fun _ => rfl) (Opd.tmp rfl) rfl hx9 hx10 rfl), ⟨rfl, trivial⟩, rfl, rfl⟩, trivial⟩⟩⟩⟩⟩⟩⟩⟩⟩⟩⟩⟩⟩⟩ ?_
  replace h := bind_some h; obtain ⟨u11, hu11, h⟩ := h
  refine RegL.pureW (p := (pEq (.pointer (some ⟨blk (gd hh0_1 b_2).1, (a_1).toNat * 1, none⟩)))) rfl rfl rfl (W_bagIdx (j := 0) rfl Try.underlying22 sz2 (Opd.tmp rfl) (Opd.tmp rfl) rfl hx8 (inB_some hu11)) ?_
  refine RegL.stepN (γ := Unit) (p := fun _ => pAny) (Ω' := fun _ => [oSS 22 2 1 (cK .i64) ho0_1 hn0_1 hc0_1 hh0_1 ((p_0.Apart.set (a_1).toNat (x3.set (b_2).toNat (if apart_3 > x5 then apart_3 else x5))).set (b_2).toNat (x8.set (a_1).toNat x10)), oBlk b2 [(pSl 1 (cSl 1 (cK .i64)) p_0.Domains), (pEq (.slice ho0_1 hn0_1 hc0_1))]]) rfl rfl (M_bagStore rfl sz2 (fun _ => rfl) (Opd.tmp rfl) (Opd.tmp rfl) rfl OneC.int hx8 (inB_some hu11)) fun g12 => ?_
  refine RegL.nil ?_
  refine Ct.re (Ω2 := [oBlk b2 [(pSl 1 (cSl 1 (cK .i64)) p_0.Domains), (pEq (.slice ho0_1 hn0_1 hc0_1))], oSS 22 2 1 (cK .i64) ho0_1 hn0_1 hc0_1 hh0_1 ((p_0.Apart.set (a_1).toNat (x3.set (b_2).toNat (if apart_3 > x5 then apart_3 else x5))).set (b_2).toNat (x8.set (a_1).toNat x10))]) (fun h => SatO.pick 1 h) ?_
  replace h := Option.some.inj h; subst h
  exact Ct.retN0 (Ωx := [oBlk b2 [(pSl 1 (cSl 1 (cK .i64)) p_0.Domains), (pEq (.slice ho0_1 hn0_1 hc0_1))]]) () rfl rfl rfl

theorem o_impl_MakeProblem {a_0 : (List (List Int))} {a_1 : (List (List Int))}  {r : (GProblem × Int)} (h : m_impl_MakeProblem a_0 a_1 = some r) : CallH Try.prog 31 [(pSl 1 (cSl 1 (cK .i64)) a_0), (pSl 1 (cSl 1 (cK .i64)) a_1)] [] (fun g : ((G3 × List G3) × (G3 × List G3)) => (pTup [(pAgg [(pEq (.slice g.1.1.1 g.1.1.2.1 g.1.1.2.2)), (pEq (.slice g.2.1.1 g.2.1.2.1 g.2.1.2.2))]), (pEq (.int .i64 r.2))])) (fun g : ((G3 × List G3) × (G3 × List G3)) => [oSS 22 2 1 (cK .i64) g.1.1.1 g.1.1.2.1 g.1.1.2.2 g.1.2 r.1.Domains, oSS 22 2 1 (cK .i64) g.2.1.1 g.2.1.2.1 g.2.1.2.2 g.2.2 r.1.Apart]) := by
  unfold m_impl_MakeProblem at h
  refine CallH.enter Try.func31 rfl Try.ntmps31 rfl fun W I0 H => ?_
  refine Tr.weak (Γ' := [(0, (pSl 1 (cSl 1 (cK .i64)) a_0)), (1, (pSl 1 (cSl 1 (cK .i64)) a_1))]) ⟨rfl, rfl, trivial⟩ ?_
  refine Tr.seq ?_
  refine Tr.region ?_
  refine RegL.step (γ := Nat) (p := fun b => pEq (.pointer (some ⟨b, 0, none⟩))) (Ω' := fun b => [oBlk b [(pEq (.slice none 0 0)), (pEq (.slice none 0 0))]]) rfl rfl rfl (M_alloc rfl zero32) fun b1 => ?_
  refine RegL.pure (p := (pEq (.int .i64 (0 : Int)))) rfl rfl rfl (J_assign rfl Opd.con) ?_
  refine RegL.nil ?_
  refine Ct.then_tr ?_
  refine Tr.weak (Γ' := [(0, (pSl 1 (cSl 1 (cK .i64)) a_0)), (1, (pSl 1 (cSl 1 (cK .i64)) a_1)), (4, (pEq (.pointer (some ⟨b1, 0, none⟩))))]) ⟨rfl, rfl, rfl, trivial⟩ ?_
  refine Tr.seq ?_
  refine Tr.seq ?_
  refine Tr.region ?_
  refine RegL.pure (p := (pSl 1 (cSl 1 (cK .i64)) a_0)) rfl rfl rfl (J_move rfl (Opd.tmp rfl)) ?_
  replace h := bind_some h; obtain ⟨x2, hx2, h⟩ := h
  refine RegL.pure (p := (pEq (.bool x2))) rfl rfl rfl (J_call rfl Try.call63 (c_impl_domainsOk hx2) (Opds.cons (Opd.tmp rfl) Opds.nil)) ?_
  refine RegL.pure (p := (pEq (.bool (!x2)))) rfl rfl rfl (J_not rfl (Opd.tmp rfl)) ?_
  refine RegL.nil ?_
  refine Ct.then_tr ?_
  refine Tr.weak (Γ' := [(0, (pSl 1 (cSl 1 (cK .i64)) a_0)), (1, (pSl 1 (cSl 1 (cK .i64)) a_1)), (4, (pEq (.pointer (some ⟨b1, 0, none⟩)))), (11, (pEq (.bool (!x2))))]) ⟨rfl, rfl, rfl, rfl, trivial⟩ ?_
  refine Tr.cond (Opd.tmp rfl) (fun hc => ?_) (fun hc => ?_)
  · replace h := bif_t hc h
    refine Tr.seq ?_
    refine Tr.region ?_
    refine RegL.pure (p := (pAgg [(pEq (.slice none 0 0)), (pEq (.slice none 0 0))])) rfl rfl rfl (J_build (qss := []) rfl bl32 bz32o Parts.nil rfl) ?_
    refine RegL.stepN (γ := Unit) (p := fun _ => pAny) (Ω' := fun _ => [oBlk b1 [(pEq (.slice none 0 0)), (pEq (.slice none 0 0))]]) rfl rfl (M_storeA rfl sz32 (Opd.tmp rfl) (Opd.tmp rfl) (fun _ _ _ h => ones_of ((OneCs.cons OneC.slice (OneCs.cons OneC.slice OneCs.nil))) h) rfl rfl) fun g3 => ?_
    refine RegL.pure (p := (pEq (.int .i64 (1 : Int)))) rfl rfl rfl (J_assign rfl Opd.con) ?_
    refine RegL.nil ?_
    refine Ct.then_tr ?_
    refine Tr.weak (Γ' := [(4, (pEq (.pointer (some ⟨b1, 0, none⟩)))), (5, (pEq (.int .i64 (1 : Int))))]) ⟨rfl, rfl, trivial⟩ ?_
    refine Tr.ret ?_
    refine Ct.then_ret ?_
    refine Ct.re (Ω2 := [oSS 22 2 1 (cK .i64) none 0 0 [] ([] : (List (List Int))), oBlk b1 [(pEq (.slice none 0 0)), (pEq (.slice none 0 0))]]) (fun h => nest_nil h) ?_
    refine Ct.re (Ω2 := [oSS 22 2 1 (cK .i64) none 0 0 [] ([] : (List (List Int))), oSS 22 2 1 (cK .i64) none 0 0 [] ([] : (List (List Int))), oBlk b1 [(pEq (.slice none 0 0)), (pEq (.slice none 0 0))]]) (fun h => nest_nil h) ?_
    refine Ct.re (Ω2 := [oSS 22 2 1 (cK .i64) none 0 0 [] ([] : (List (List Int))), oSS 22 2 1 (cK .i64) none 0 0 [] ([] : (List (List Int))), oBlk b1 [(pEq (.slice none 0 0)), (pEq (.slice none 0 0))]]) (fun h => SatO.pick 1 h) ?_
    refine Ct.re (Ω2 := [oBlk b1 [(pEq (.slice none 0 0)), (pEq (.slice none 0 0))], oSS 22 2 1 (cK .i64) none 0 0 [] ([] : (List (List Int))), oSS 22 2 1 (cK .i64) none 0 0 [] ([] : (List (List Int)))]) (fun h => SatO.pick 2 h) ?_
    replace h := Option.some.inj h; subst h
    exact Ct.retH2 (Ωx := [oBlk b1 [(pEq (.slice none 0 0)), (pEq (.slice none 0 0))]]) (((none, 0, 0), []), ((none, 0, 0), [])) rfl (RvOk.cellA (i := 0) Try.isAgg32 sz32 rfl rfl rfl) (RvOk.tmp rfl) rfl rfl
  · replace h := bif_f hc h
    refine Tr.skip ?_
    refine Ct.then_tr ?_
    refine Tr.weak (Γ' := [(0, (pSl 1 (cSl 1 (cK .i64)) a_0)), (1, (pSl 1 (cSl 1 (cK .i64)) a_1)), (4, (pEq (.pointer (some ⟨b1, 0, none⟩))))]) ⟨rfl, rfl, rfl, trivial⟩ ?_
    refine Tr.seq ?_
    refine Tr.region ?_
    refine RegL.pure (p := (pSl 1 (cSl 1 (cK .i64)) a_0)) rfl rfl rfl (J_move rfl (Opd.tmp rfl)) ?_
    replace h := bind_some h; obtain ⟨x6, hx6, h⟩ := h
    refine RegL.step (γ := (G3 × List G3)) (p := fun g => (pEq (.slice g.1.1 g.1.2.1 g.1.2.2))) (Ω' := fun g => [oSS 22 2 1 (cK .i64) g.1.1 g.1.2.1 g.1.2.2 g.2 x6, oBlk b1 [(pEq (.slice none 0 0)), (pEq (.slice none 0 0))]]) rfl rfl rfl (M_callH (Ωi := []) rfl Try.call71 (o_impl_cloneLists hx6) (Opds.cons (Opd.tmp rfl) Opds.nil)) fun g7 => ?_
    refine RegL.pure (p := (pAgg [(pEq (.slice g7.1.1 g7.1.2.1 g7.1.2.2)), (pEq (.slice none 0 0))])) rfl rfl rfl (J_build (qss := [(0, [(pEq (.slice g7.1.1 g7.1.2.1 g7.1.2.2))])]) rfl bl32 bz32o (Parts.cons (Part.one (Opd.tmp rfl) OneC.slice) Parts.nil) rfl) ?_
    refine RegL.step (γ := Nat) (p := fun b => pEq (.pointer (some ⟨b, 0, none⟩))) (Ω' := fun b => [oBlk b [(pEq (.slice none 0 0)), (pEq (.slice none 0 0))], oSS 22 2 1 (cK .i64) g7.1.1 g7.1.2.1 g7.1.2.2 g7.2 x6, oBlk b1 [(pEq (.slice none 0 0)), (pEq (.slice none 0 0))]]) rfl rfl rfl (M_alloc rfl zero32) fun b9 => ?_
    refine RegL.stepN (γ := Unit) (p := fun _ => pAny) (Ω' := fun _ => [oBlk b9 [(pEq (.slice g7.1.1 g7.1.2.1 g7.1.2.2)), (pEq (.slice none 0 0))], oSS 22 2 1 (cK .i64) g7.1.1 g7.1.2.1 g7.1.2.2 g7.2 x6, oBlk b1 [(pEq (.slice none 0 0)), (pEq (.slice none 0 0))]]) rfl rfl (M_storeA rfl sz32 (Opd.tmp rfl) (Opd.tmp rfl) (fun _ _ _ h => ones_of ((OneCs.cons OneC.slice (OneCs.cons OneC.slice OneCs.nil))) h) rfl rfl) fun g10 => ?_
    refine RegL.nil ?_
    refine Ct.then_tr ?_
    refine Tr.weak (Γ' := [(0, (pSl 1 (cSl 1 (cK .i64)) a_0)), (1, (pSl 1 (cSl 1 (cK .i64)) a_1)), (4, (pEq (.pointer (some ⟨b1, 0, none⟩)))), (6, (pEq (.pointer (some ⟨b9, 0, none⟩))))]) ⟨rfl, rfl, rfl, rfl, trivial⟩ ?_
    refine Tr.seq ?_
    refine Tr.seq ?_
    refine Tr.region ?_
    refine RegL.pure (p := (pSl 1 (cSl 1 (cK .i64)) a_0)) rfl rfl rfl (J_move rfl (Opd.tmp rfl)) ?_
    refine RegL.pure (p := (pEq (.int .i64 (a_0.length : Int)))) rfl rfl rfl (J_len rfl Try.underlying27 (Opd.tmp rfl) rfl) ?_
    refine RegL.pure (p := (pEq (.int .i64 (0 : Int)))) rfl rfl rfl (J_move rfl Opd.con) ?_
    refine RegL.nil ?_
    refine Ct.then_tr ?_
    refine Tr.weak (Γ' := [(0, (pSl 1 (cSl 1 (cK .i64)) a_0)), (1, (pSl 1 (cSl 1 (cK .i64)) a_1)), (4, (pEq (.pointer (some ⟨b1, 0, none⟩)))), (6, (pEq (.pointer (some ⟨b9, 0, none⟩)))), (17, (pEq (.int .i64 (a_0.length : Int)))), (18, (pEq (.int .i64 (0 : Int))))]) ⟨rfl, rfl, rfl, rfl, rfl, rfl, trivial⟩ ?_
    refine Tr.re (Ω2 := [oSS 22 2 1 (cK .i64) none 0 0 [] ([] : (List (List Int))), oBlk b9 [(pEq (.slice g7.1.1 g7.1.2.1 g7.1.2.2)), (pEq (.slice none 0 0))], oSS 22 2 1 (cK .i64) g7.1.1 g7.1.2.1 g7.1.2.2 g7.2 x6, oBlk b1 [(pEq (.slice none 0 0)), (pEq (.slice none 0 0))]]) (fun h => nest_nil h) ?_
    replace h := bind_some h; obtain ⟨x12, hx12, h⟩ := h
    refine Tr.cut (γ := (G3 × List G3)) (Γm := fun g => [(1, (pSl 1 (cSl 1 (cK .i64)) a_1)), (4, (pEq (.pointer (some ⟨b1, 0, none⟩)))), (6, (pEq (.pointer (some ⟨b9, 0, none⟩))))]) (Ωm := fun g => [oSS 22 2 1 (cK .i64) g.1.1 g.1.2.1 g.1.2.2 g.2 x12, oBlk b9 [(pEq (.slice g7.1.1 g7.1.2.1 g7.1.2.2)), (pEq (.slice g.1.1 g.1.2.1 g.1.2.2))], oSS 22 2 1 (cK .i64) g7.1.1 g7.1.2.1 g7.1.2.2 g7.2 x6, oBlk b1 [(pEq (.slice none 0 0)), (pEq (.slice none 0 0))]]) ?_ (fun g25 => ?_)
    · clear h
      have h := hx12
      clear hx12
      refine Tr.block ?_
      refine Tr.weak (Γ' := [(0, (pSl 1 (cSl 1 (cK .i64)) a_0)), (1, (pSl 1 (cSl 1 (cK .i64)) a_1)), (4, (pEq (.pointer (some ⟨b1, 0, none⟩)))), (6, (pEq (.pointer (some ⟨b9, 0, none⟩)))), (17, (pEq (.int .i64 (a_0.length : Int)))), (18, (pEq (.int .i64 (0 : Int))))]) ⟨rfl, rfl, rfl, rfl, rfl, rfl, trivial⟩ ?_
      refine Tr.loop (γ := (G3 × List G3)) (σ := (Int × (List (List Int)))) (Γσ := fun s g => [(0, (pSl 1 (cSl 1 (cK .i64)) a_0)), (1, (pSl 1 (cSl 1 (cK .i64)) a_1)), (4, (pEq (.pointer (some ⟨b1, 0, none⟩)))), (6, (pEq (.pointer (some ⟨b9, 0, none⟩)))), (17, (pEq (.int .i64 (a_0.length : Int)))), (18, (pEq (.int .i64 s.1)))]) (Ωσ := fun s g => [oSS 22 2 1 (cK .i64) g.1.1 g.1.2.1 g.1.2.2 g.2 s.2, oBlk b9 [(pEq (.slice g7.1.1 g7.1.2.1 g7.1.2.2)), (pEq (.slice g.1.1 g.1.2.1 g.1.2.2))], oSS 22 2 1 (cK .i64) g7.1.1 g7.1.2.1 g7.1.2.2 g7.2 x6, oBlk b1 [(pEq (.slice none 0 0)), (pEq (.slice none 0 0))]]) (g := ((none, 0, 0), [])) h ?_
      clear h
      rintro ⟨v14, v15⟩ g16 t h
      replace h : m_impl_MakeProblem_B13 a_0 v14 v15 = some t := h
      unfold m_impl_MakeProblem_B13 at h
      refine Tr.weakO (Γ' := [(0, (pSl 1 (cSl 1 (cK .i64)) a_0)), (1, (pSl 1 (cSl 1 (cK .i64)) a_1)), (4, (pEq (.pointer (some ⟨b1, 0, none⟩)))), (6, (pEq (.pointer (some ⟨b9, 0, none⟩)))), (17, (pEq (.int .i64 (a_0.length : Int)))), (18, (pEq (.int .i64 v14)))]) (Ω' := [oSS 22 2 1 (cK .i64) g16.1.1 g16.1.2.1 g16.1.2.2 g16.2 v15, oBlk b9 [(pEq (.slice g7.1.1 g7.1.2.1 g7.1.2.2)), (pEq (.slice g16.1.1 g16.1.2.1 g16.1.2.2))], oSS 22 2 1 (cK .i64) g7.1.1 g7.1.2.1 g7.1.2.2 g7.2 x6, oBlk b1 [(pEq (.slice none 0 0)), (pEq (.slice none 0 0))]]) rfl ⟨rfl, rfl, rfl, rfl, rfl, rfl, trivial⟩ ?_
      refine Tr.seq ?_
      refine Tr.region ?_
      refine RegL.pure (p := (pEq (.bool (decide (v14 < (a_0.length : Int)))))) rfl rfl rfl (J_bin rfl (Opd.tmp rfl) (Opd.tmp rfl) B_lss) ?_
      refine RegL.nil ?_
      refine Ct.then_tr ?_
      refine Tr.weak (Γ' := [(0, (pSl 1 (cSl 1 (cK .i64)) a_0)), (1, (pSl 1 (cSl 1 (cK .i64)) a_1)), (4, (pEq (.pointer (some ⟨b1, 0, none⟩)))), (6, (pEq (.pointer (some ⟨b9, 0, none⟩)))), (17, (pEq (.int .i64 (a_0.length : Int)))), (18, (pEq (.int .i64 v14))), (19, (pEq (.bool (decide (v14 < (a_0.length : Int))))))]) ⟨rfl, rfl, rfl, rfl, rfl, rfl, rfl, trivial⟩ ?_
      refine Tr.seq ?_
      refine Tr.cond (Opd.tmp rfl) (fun hc => ?_) (fun hc => ?_)
      · replace h := bif_t hc h
        refine Tr.skip ?_
        refine Ct.then_tr ?_
        refine Tr.weak (Γ' := [(0, (pSl 1 (cSl 1 (cK .i64)) a_0)), (1, (pSl 1 (cSl 1 (cK .i64)) a_1)), (4, (pEq (.pointer (some ⟨b1, 0, none⟩)))), (6, (pEq (.pointer (some ⟨b9, 0, none⟩)))), (17, (pEq (.int .i64 (a_0.length : Int)))), (18, (pEq (.int .i64 v14)))]) ⟨rfl, rfl, rfl, rfl, rfl, rfl, trivial⟩ ?_
        refine Tr.seq ?_
        refine Tr.block ?_
        refine Tr.drawD (n := 84) (m := 7) (es := [some (Ent.mk [(6, (pEq (.pointer (some ⟨b9, 0, none⟩))))] (pEq (.pointer (some ⟨b9, 1, none⟩))) true), some (Ent.mk [(20, (pEq (.pointer (some ⟨b9, 1, none⟩))))] (pEq (.slice g16.1.1 g16.1.2.1 g16.1.2.2)) true), some (Ent.mk [(0, (pSl 1 (cSl 1 (cK .i64)) a_0))] (pSl 1 (cSl 1 (cK .i64)) a_0) true), some (Ent.mk [(22, (pSl 1 (cSl 1 (cK .i64)) a_0))] (pEq (.int .i64 (a_0.length : Int))) true), none, none, none]) (rd := [[6], [20], [0], [22], [23], [24], [21, 25]]) rfl hmix (by kernel_rfl) fun hD => ?_
        replace h := bind_some h; obtain ⟨x17, hx17, h⟩ := h
        refine RD.step hD (es := [some (Ent.mk [(6, (pEq (.pointer (some ⟨b9, 0, none⟩))))] (pEq (.pointer (some ⟨b9, 1, none⟩))) true), some (Ent.mk [(20, (pEq (.pointer (some ⟨b9, 1, none⟩))))] (pEq (.slice g16.1.1 g16.1.2.1 g16.1.2.2)) true), some (Ent.mk [(0, (pSl 1 (cSl 1 (cK .i64)) a_0))] (pSl 1 (cSl 1 (cK .i64)) a_0) true), some (Ent.mk [(22, (pSl 1 (cSl 1 (cK .i64)) a_0))] (pEq (.int .i64 (a_0.length : Int))) true), none, none, none]) (done := []) (mask := [true, true, true, true, false, false, false]) (γ := Option Addr) (p := fun a => pEq (.slice a ((a_0.length : Int)).toNat ((a_0.length : Int)).toNat)) (Ω' := fun a => [oSl 2 1 (cK .i64) a ((a_0.length : Int)).toNat ((a_0.length : Int)).toNat x17, oSS 22 2 1 (cK .i64) g16.1.1 g16.1.2.1 g16.1.2.2 g16.2 v15, oBlk b9 [(pEq (.slice g7.1.1 g7.1.2.1 g7.1.2.2)), (pEq (.slice g16.1.1 g16.1.2.1 g16.1.2.2))], oSS 22 2 1 (cK .i64) g7.1.1 g7.1.2.1 g7.1.2.2 g7.2 x6, oBlk b1 [(pEq (.slice none 0 0)), (pEq (.slice none 0 0))]]) (es' := fun o18 => [some (Ent.mk [(6, (pEq (.pointer (some ⟨b9, 0, none⟩))))] (pEq (.pointer (some ⟨b9, 1, none⟩))) true), some (Ent.mk [(20, (pEq (.pointer (some ⟨b9, 1, none⟩))))] (pEq (.slice g16.1.1 g16.1.2.1 g16.1.2.2)) true), some (Ent.mk [(0, (pSl 1 (cSl 1 (cK .i64)) a_0))] (pSl 1 (cSl 1 (cK .i64)) a_0) true), some (Ent.mk [(22, (pSl 1 (cSl 1 (cK .i64)) a_0))] (pEq (.int .i64 (a_0.length : Int))) true), some (Ent.mk [(23, (pEq (.int .i64 (a_0.length : Int))))] (pEq (.slice o18 ((a_0.length : Int)).toNat ((a_0.length : Int)).toNat)) true), none, none]) (Γc := [(23, (pEq (.int .i64 (a_0.length : Int))))]) 4 rfl rfl rfl (by kernel_rfl) ⟨.inr ⟨(OpJ.w (J_fieldAddrE rfl Try.underlying32 rfl sz27 (by decide) (Opd.tmp rfl) rfl)), ⟨rfl, trivial⟩, rfl, rfl⟩, ⟨.inr ⟨(W_load (i := 1) rfl Try.isAgg27 (Opd.tmp rfl) rfl rfl), ⟨rfl, trivial⟩, rfl, rfl⟩, ⟨.inr ⟨(OpJ.w (J_move rfl (Opd.tmp rfl))), ⟨rfl, trivial⟩, rfl, rfl⟩, ⟨.inr ⟨(OpJ.w (J_len rfl Try.underlying27 (Opd.tmp rfl) rfl)), ⟨rfl, trivial⟩, rfl, rfl⟩, trivial⟩⟩⟩⟩ rfl rfl ⟨rfl, trivial⟩ (fun _ => M_make rfl Try.underlying22 el2 (by decide) (Opd.tmp rfl) hx17) (fun o18 => ⟨rfl, ⟨rfl, ⟨rfl, ⟨rfl, trivial⟩⟩⟩⟩) (fun o18 => rfl) rfl fun o18 => ?_
        refine RD.step hD (es := [some (Ent.mk [(6, (pEq (.pointer (some ⟨b9, 0, none⟩))))] (pEq (.pointer (some ⟨b9, 1, none⟩))) true), some (Ent.mk [(20, (pEq (.pointer (some ⟨b9, 1, none⟩))))] (pEq (.slice g16.1.1 g16.1.2.1 g16.1.2.2)) true), some (Ent.mk [(0, (pSl 1 (cSl 1 (cK .i64)) a_0))] (pSl 1 (cSl 1 (cK .i64)) a_0) true), some (Ent.mk [(22, (pSl 1 (cSl 1 (cK .i64)) a_0))] (pEq (.int .i64 (a_0.length : Int))) true), some (Ent.mk [(23, (pEq (.int .i64 (a_0.length : Int))))] (pEq (.slice o18 ((a_0.length : Int)).toNat ((a_0.length : Int)).toNat)) true), none, none]) (done := [4]) (mask := [true, true, true, true, true, false, false]) (γ := Option Addr) (p := fun a => pEq (.slice a 1 1)) (Ω' := fun a => [oSl 22 1 cHdr a 1 1 [(o18, ((a_0.length : Int)).toNat, ((a_0.length : Int)).toNat)], oSl 2 1 (cK .i64) o18 ((a_0.length : Int)).toNat ((a_0.length : Int)).toNat x17, oSS 22 2 1 (cK .i64) g16.1.1 g16.1.2.1 g16.1.2.2 g16.2 v15, oBlk b9 [(pEq (.slice g7.1.1 g7.1.2.1 g7.1.2.2)), (pEq (.slice g16.1.1 g16.1.2.1 g16.1.2.2))], oSS 22 2 1 (cK .i64) g7.1.1 g7.1.2.1 g7.1.2.2 g7.2 x6, oBlk b1 [(pEq (.slice none 0 0)), (pEq (.slice none 0 0))]]) (es' := fun o20 => [some (Ent.mk [(6, (pEq (.pointer (some ⟨b9, 0, none⟩))))] (pEq (.pointer (some ⟨b9, 1, none⟩))) true), some (Ent.mk [(20, (pEq (.pointer (some ⟨b9, 1, none⟩))))] (pEq (.slice g16.1.1 g16.1.2.1 g16.1.2.2)) true), some (Ent.mk [(0, (pSl 1 (cSl 1 (cK .i64)) a_0))] (pSl 1 (cSl 1 (cK .i64)) a_0) true), some (Ent.mk [(22, (pSl 1 (cSl 1 (cK .i64)) a_0))] (pEq (.int .i64 (a_0.length : Int))) true), some (Ent.mk [(23, (pEq (.int .i64 (a_0.length : Int))))] (pEq (.slice o18 ((a_0.length : Int)).toNat ((a_0.length : Int)).toNat)) true), some (Ent.mk [(24, (pEq (.slice o18 ((a_0.length : Int)).toNat ((a_0.length : Int)).toNat)))] (pEq (.slice o20 1 1)) true), none]) (Γc := [(24, (pEq (.slice o18 ((a_0.length : Int)).toNat ((a_0.length : Int)).toNat)))]) 5 rfl rfl rfl (by kernel_rfl) ⟨.inr ⟨(OpJ.w (J_fieldAddrE rfl Try.underlying32 rfl sz27 (by decide) (Opd.tmp rfl) rfl)), ⟨rfl, trivial⟩, rfl, rfl⟩, ⟨.inr ⟨(W_load (i := 2) rfl Try.isAgg27 (Opd.tmp rfl) rfl rfl), ⟨rfl, trivial⟩, rfl, rfl⟩, ⟨.inr ⟨(OpJ.w (J_move rfl (Opd.tmp rfl))), ⟨rfl, trivial⟩, rfl, rfl⟩, ⟨.inr ⟨(OpJ.w (J_len rfl Try.underlying27 (Opd.tmp rfl) rfl)), ⟨rfl, trivial⟩, rfl, rfl⟩, ⟨.inl rfl, trivial⟩⟩⟩⟩⟩ rfl rfl ⟨rfl, trivial⟩ (fun _ => M_buildSlice (qss := [(0, cHdr (o18, ((a_0.length : Int)).toNat, ((a_0.length : Int)).toNat))]) rfl Try.underlying27 elh22 rfl (Parts.cons (Part.one (Opd.tmp rfl) OneC.slice) Parts.nil) rfl rfl) (fun o20 => ⟨rfl, ⟨rfl, ⟨rfl, ⟨rfl, ⟨rfl, trivial⟩⟩⟩⟩⟩) (fun o20 => rfl) rfl fun o20 => ?_
        refine RD.re (Ω2 := [oSS 22 2 1 (cK .i64) o20 1 1 [(o18, ((a_0.length : Int)).toNat, ((a_0.length : Int)).toNat)] [x17], oSS 22 2 1 (cK .i64) g16.1.1 g16.1.2.1 g16.1.2.2 g16.2 v15, oBlk b9 [(pEq (.slice g7.1.1 g7.1.2.1 g7.1.2.2)), (pEq (.slice g16.1.1 g16.1.2.1 g16.1.2.2))], oSS 22 2 1 (cK .i64) g7.1.1 g7.1.2.1 g7.1.2.2 g7.2 x6, oBlk b1 [(pEq (.slice none 0 0)), (pEq (.slice none 0 0))]]) (fun h => nest_one h) ?_
        replace h := bind_some h; obtain ⟨x22, hx22, h⟩ := h
        refine RD.re (Ω2 := [oSS 22 2 1 (cK .i64) g16.1.1 g16.1.2.1 g16.1.2.2 g16.2 v15, oSS 22 2 1 (cK .i64) o20 1 1 [(o18, ((a_0.length : Int)).toNat, ((a_0.length : Int)).toNat)] [x17], oBlk b9 [(pEq (.slice g7.1.1 g7.1.2.1 g7.1.2.2)), (pEq (.slice g16.1.1 g16.1.2.1 g16.1.2.2))], oSS 22 2 1 (cK .i64) g7.1.1 g7.1.2.1 g7.1.2.2 g7.2 x6, oBlk b1 [(pEq (.slice none 0 0)), (pEq (.slice none 0 0))]]) (fun h => SatO.pick 1 h) ?_
        refine RD.step hD (es := [some (Ent.mk [(6, (pEq (.pointer (some ⟨b9, 0, none⟩))))] (pEq (.pointer (some ⟨b9, 1, none⟩))) true), some (Ent.mk [(20, (pEq (.pointer (some ⟨b9, 1, none⟩))))] (pEq (.slice g16.1.1 g16.1.2.1 g16.1.2.2)) true), some (Ent.mk [(0, (pSl 1 (cSl 1 (cK .i64)) a_0))] (pSl 1 (cSl 1 (cK .i64)) a_0) true), some (Ent.mk [(22, (pSl 1 (cSl 1 (cK .i64)) a_0))] (pEq (.int .i64 (a_0.length : Int))) true), some (Ent.mk [(23, (pEq (.int .i64 (a_0.length : Int))))] (pEq (.slice o18 ((a_0.length : Int)).toNat ((a_0.length : Int)).toNat)) true), some (Ent.mk [(24, (pEq (.slice o18 ((a_0.length : Int)).toNat ((a_0.length : Int)).toNat)))] (pEq (.slice o20 1 1)) true), none]) (done := [5, 4]) (mask := [true, true, true, true, true, true, false]) (γ := (Option Addr × Nat) × List G3) (p := fun g => pEq (.slice g.1.1 x22.length g.1.2)) (Ω' := fun g => [oSS 22 2 1 (cK .i64) g.1.1 x22.length g.1.2 g.2 x22, oBlk b9 [(pEq (.slice g7.1.1 g7.1.2.1 g7.1.2.2)), (pEq (.slice g16.1.1 g16.1.2.1 g16.1.2.2))], oSS 22 2 1 (cK .i64) g7.1.1 g7.1.2.1 g7.1.2.2 g7.2 x6, oBlk b1 [(pEq (.slice none 0 0)), (pEq (.slice none 0 0))]]) (es' := fun g23 => [some (Ent.mk [(6, (pEq (.pointer (some ⟨b9, 0, none⟩))))] (pEq (.pointer (some ⟨b9, 1, none⟩))) true), some (Ent.mk [(20, (pEq (.pointer (some ⟨b9, 1, none⟩))))] (pEq (.slice g16.1.1 g16.1.2.1 g16.1.2.2)) true), some (Ent.mk [(0, (pSl 1 (cSl 1 (cK .i64)) a_0))] (pSl 1 (cSl 1 (cK .i64)) a_0) true), some (Ent.mk [(22, (pSl 1 (cSl 1 (cK .i64)) a_0))] (pEq (.int .i64 (a_0.length : Int))) true), some (Ent.mk [(23, (pEq (.int .i64 (a_0.length : Int))))] (pEq (.slice o18 ((a_0.length : Int)).toNat ((a_0.length : Int)).toNat)) true), some (Ent.mk [(24, (pEq (.slice o18 ((a_0.length : Int)).toNat ((a_0.length : Int)).toNat)))] (pEq (.slice o20 1 1)) true), some (Ent.mk [(21, (pEq (.slice g16.1.1 g16.1.2.1 g16.1.2.2))), (25, (pEq (.slice o20 1 1)))] (pEq (.slice g23.1.1 x22.length g23.1.2)) true)]) (Γc := [(21, (pEq (.slice g16.1.1 g16.1.2.1 g16.1.2.2))), (25, (pEq (.slice o20 1 1)))]) 6 rfl rfl rfl (by kernel_rfl) ⟨.inr ⟨(OpJ.w (J_fieldAddrE rfl Try.underlying32 rfl sz27 (by decide) (Opd.tmp rfl) rfl)), ⟨rfl, trivial⟩, rfl, rfl⟩, ⟨.inr ⟨(W_load (i := 2) rfl Try.isAgg27 (Opd.tmp rfl) rfl rfl), ⟨rfl, trivial⟩, rfl, rfl⟩, ⟨.inr ⟨(OpJ.w (J_move rfl (Opd.tmp rfl))), ⟨rfl, trivial⟩, rfl, rfl⟩, ⟨.inr ⟨(OpJ.w (J_len rfl Try.underlying27 (Opd.tmp rfl) rfl)), ⟨rfl, trivial⟩, rfl, rfl⟩, ⟨.inl rfl, ⟨.inl rfl, trivial⟩⟩⟩⟩⟩⟩ rfl rfl ⟨rfl, rfl, trivial⟩ (fun _ => M_nestAppend rfl Try.underlying27 elh22 (Opd.tmp rfl) (Opd.tmp rfl) hx22) (fun g23 => ⟨rfl, ⟨rfl, ⟨rfl, ⟨rfl, ⟨rfl, ⟨rfl, trivial⟩⟩⟩⟩⟩⟩) (fun g23 => rfl) rfl fun g23 => ?_
        refine RD.fin (es := [Ent.mk [(6, (pEq (.pointer (some ⟨b9, 0, none⟩))))] (pEq (.pointer (some ⟨b9, 1, none⟩))) true, Ent.mk [(20, (pEq (.pointer (some ⟨b9, 1, none⟩))))] (pEq (.slice g16.1.1 g16.1.2.1 g16.1.2.2)) true, Ent.mk [(0, (pSl 1 (cSl 1 (cK .i64)) a_0))] (pSl 1 (cSl 1 (cK .i64)) a_0) true, Ent.mk [(22, (pSl 1 (cSl 1 (cK .i64)) a_0))] (pEq (.int .i64 (a_0.length : Int))) true, Ent.mk [(23, (pEq (.int .i64 (a_0.length : Int))))] (pEq (.slice o18 ((a_0.length : Int)).toNat ((a_0.length : Int)).toNat)) true, Ent.mk [(24, (pEq (.slice o18 ((a_0.length : Int)).toNat ((a_0.length : Int)).toNat)))] (pEq (.slice o20 1 1)) true, Ent.mk [(21, (pEq (.slice g16.1.1 g16.1.2.1 g16.1.2.2))), (25, (pEq (.slice o20 1 1)))] (pEq (.slice g23.1.1 x22.length g23.1.2)) true]) (done := [6, 5, 4]) hD ⟨.inr ⟨(OpJ.w (J_fieldAddrE rfl Try.underlying32 rfl sz27 (by decide) (Opd.tmp rfl) rfl)), ⟨rfl, trivial⟩, rfl, rfl⟩, ⟨.inr ⟨(W_load (i := 1) rfl Try.isAgg27 (Opd.tmp rfl) rfl rfl), ⟨rfl, trivial⟩, rfl, rfl⟩, ⟨.inr ⟨(OpJ.w (J_move rfl (Opd.tmp rfl))), ⟨rfl, trivial⟩, rfl, rfl⟩, ⟨.inr ⟨(OpJ.w (J_len rfl Try.underlying27 (Opd.tmp rfl) rfl)), ⟨rfl, trivial⟩, rfl, rfl⟩, ⟨.inl rfl, ⟨.inl rfl, ⟨.inl rfl, trivial⟩⟩⟩⟩⟩⟩⟩ ?_
        refine RegL.pure (p := (pEq (.pointer (some ⟨b9, 1, none⟩)))) rfl rfl rfl (J_fieldAddrE rfl Try.underlying32 rfl sz27 (by decide) (Opd.tmp rfl) rfl) ?_
        refine RegL.re (Ω2 := [oBlk b9 [(pEq (.slice g7.1.1 g7.1.2.1 g7.1.2.2)), (pEq (.slice g16.1.1 g16.1.2.1 g16.1.2.2))], oSS 22 2 1 (cK .i64) g23.1.1 x22.length g23.1.2 g23.2 x22, oSS 22 2 1 (cK .i64) g7.1.1 g7.1.2.1 g7.1.2.2 g7.2 x6, oBlk b1 [(pEq (.slice none 0 0)), (pEq (.slice none 0 0))]]) (fun h => SatO.pick 1 h) ?_
        refine RegL.stepN (γ := Unit) (p := fun _ => pAny) (Ω' := fun _ => [oBlk b9 [(pEq (.slice g7.1.1 g7.1.2.1 g7.1.2.2)), (pEq (.slice g23.1.1 x22.length g23.1.2))], oSS 22 2 1 (cK .i64) g23.1.1 x22.length g23.1.2 g23.2 x22, oSS 22 2 1 (cK .i64) g7.1.1 g7.1.2.1 g7.1.2.2 g7.2 x6, oBlk b1 [(pEq (.slice none 0 0)), (pEq (.slice none 0 0))]]) rfl rfl (M_store rfl sz27 (Opd.tmp rfl) (Opd.tmp rfl) OneC.slice rfl rfl) fun g24 => ?_
        refine RegL.nil ?_
        refine Ct.blk_normal ?_
        refine Ct.then_tr ?_
        refine Tr.weak (Γ' := [(0, (pSl 1 (cSl 1 (cK .i64)) a_0)), (1, (pSl 1 (cSl 1 (cK .i64)) a_1)), (4, (pEq (.pointer (some ⟨b1, 0, none⟩)))), (6, (pEq (.pointer (some ⟨b9, 0, none⟩)))), (17, (pEq (.int .i64 (a_0.length : Int)))), (18, (pEq (.int .i64 v14)))]) ⟨rfl, rfl, rfl, rfl, rfl, rfl, trivial⟩ ?_
        refine Tr.region ?_
        refine RegL.pure (p := (pEq (.int .i64 (w64 (v14 + (1 : Int)))))) rfl rfl rfl (J_bin rfl (Opd.tmp rfl) Opd.con B_add) ?_
        refine RegL.pure (p := (pEq (.int .i64 (w64 (v14 + (1 : Int)))))) rfl rfl rfl (J_move rfl (Opd.tmp rfl)) ?_
        refine RegL.nil ?_
        refine Ct.re (Ω2 := [oBlk b1 [(pEq (.slice none 0 0)), (pEq (.slice none 0 0))], oBlk b9 [(pEq (.slice g7.1.1 g7.1.2.1 g7.1.2.2)), (pEq (.slice g23.1.1 x22.length g23.1.2))], oSS 22 2 1 (cK .i64) g23.1.1 x22.length g23.1.2 g23.2 x22, oSS 22 2 1 (cK .i64) g7.1.1 g7.1.2.1 g7.1.2.2 g7.2 x6]) (fun h => SatO.pick 3 h) ?_
        refine Ct.re (Ω2 := [oSS 22 2 1 (cK .i64) g7.1.1 g7.1.2.1 g7.1.2.2 g7.2 x6, oBlk b1 [(pEq (.slice none 0 0)), (pEq (.slice none 0 0))], oBlk b9 [(pEq (.slice g7.1.1 g7.1.2.1 g7.1.2.2)), (pEq (.slice g23.1.1 x22.length g23.1.2))], oSS 22 2 1 (cK .i64) g23.1.1 x22.length g23.1.2 g23.2 x22]) (fun h => SatO.pick 3 h) ?_
        refine Ct.re (Ω2 := [oBlk b9 [(pEq (.slice g7.1.1 g7.1.2.1 g7.1.2.2)), (pEq (.slice g23.1.1 x22.length g23.1.2))], oSS 22 2 1 (cK .i64) g7.1.1 g7.1.2.1 g7.1.2.2 g7.2 x6, oBlk b1 [(pEq (.slice none 0 0)), (pEq (.slice none 0 0))], oSS 22 2 1 (cK .i64) g23.1.1 x22.length g23.1.2 g23.2 x22]) (fun h => SatO.pick 2 h) ?_
        refine Ct.re (Ω2 := [oSS 22 2 1 (cK .i64) g23.1.1 x22.length g23.1.2 g23.2 x22, oBlk b9 [(pEq (.slice g7.1.1 g7.1.2.1 g7.1.2.2)), (pEq (.slice g23.1.1 x22.length g23.1.2))], oSS 22 2 1 (cK .i64) g7.1.1 g7.1.2.1 g7.1.2.2 g7.2 x6, oBlk b1 [(pEq (.slice none 0 0)), (pEq (.slice none 0 0))]]) (fun h => SatO.pick 3 h) ?_
        replace h := Option.some.inj h; subst h
        exact Ct.again ((g23.1.1, x22.length, g23.1.2), g23.2) rfl ⟨rfl, rfl, rfl, rfl, rfl, rfl, trivial⟩
      · replace h := bif_f hc h
        refine Tr.exit ?_
        refine Ct.then_exit ?_
        replace h := map_some h; obtain ⟨r1, h, rfl⟩ := h
        refine Ct.out_exit fun e => ?_
        subst e
        refine Ct.blk_exit ?_
        replace h := Option.some.inj h; subst h
        exact Ct.mid ((g16.1.1, g16.1.2.1, g16.1.2.2), g16.2) rfl ⟨rfl, rfl, rfl, trivial⟩
    · clear hx12
      refine Ct.then_tr ?_
      refine Tr.weak (Γ' := [(1, (pSl 1 (cSl 1 (cK .i64)) a_1)), (4, (pEq (.pointer (some ⟨b1, 0, none⟩)))), (6, (pEq (.pointer (some ⟨b9, 0, none⟩))))]) ⟨rfl, rfl, rfl, trivial⟩ ?_
      refine Tr.seq ?_
      refine Tr.seq ?_
      refine Tr.region ?_
      refine RegL.pure (p := (pSl 1 (cSl 1 (cK .i64)) a_1)) rfl rfl rfl (J_move rfl (Opd.tmp rfl)) ?_
      refine RegL.pure (p := (pEq (.int .i64 (a_1.length : Int)))) rfl rfl rfl (J_len rfl Try.underlying27 (Opd.tmp rfl) rfl) ?_
      refine RegL.pure (p := (pEq (.int .i64 (0 : Int)))) rfl rfl rfl (J_move rfl Opd.con) ?_
      refine RegL.nil ?_
      refine Ct.then_tr ?_
      refine Tr.weak (Γ' := [(4, (pEq (.pointer (some ⟨b1, 0, none⟩)))), (6, (pEq (.pointer (some ⟨b9, 0, none⟩)))), (29, (pSl 1 (cSl 1 (cK .i64)) a_1)), (30, (pEq (.int .i64 (a_1.length : Int)))), (31, (pEq (.int .i64 (0 : Int))))]) ⟨rfl, rfl, rfl, rfl, rfl, trivial⟩ ?_
      refine Tr.block ?_
      refine Tr.weak (Γ' := [(4, (pEq (.pointer (some ⟨b1, 0, none⟩)))), (6, (pEq (.pointer (some ⟨b9, 0, none⟩)))), (29, (pSl 1 (cSl 1 (cK .i64)) a_1)), (30, (pEq (.int .i64 (a_1.length : Int)))), (31, (pEq (.int .i64 (0 : Int))))]) ⟨rfl, rfl, rfl, rfl, rfl, trivial⟩ ?_
      refine Tr.loop (γ := (G3 × List G3)) (σ := (Int × (List (List Int)))) (Γσ := fun s g => [(4, (pEq (.pointer (some ⟨b1, 0, none⟩)))), (6, (pEq (.pointer (some ⟨b9, 0, none⟩)))), (29, (pSl 1 (cSl 1 (cK .i64)) a_1)), (30, (pEq (.int .i64 (a_1.length : Int)))), (31, (pEq (.int .i64 s.1)))]) (Ωσ := fun s g => [oSS 22 2 1 (cK .i64) g.1.1 g.1.2.1 g.1.2.2 g.2 s.2, oBlk b9 [(pEq (.slice g7.1.1 g7.1.2.1 g7.1.2.2)), (pEq (.slice g.1.1 g.1.2.1 g.1.2.2))], oSS 22 2 1 (cK .i64) g7.1.1 g7.1.2.1 g7.1.2.2 g7.2 x6, oBlk b1 [(pEq (.slice none 0 0)), (pEq (.slice none 0 0))]]) (g := ((g25.1.1, g25.1.2.1, g25.1.2.2), g25.2)) h ?_
      clear h
      rintro ⟨v27, v28⟩ g29 t h
      replace h : m_impl_MakeProblem_B26 a_1 x6 v27 v28 = some t := h
      unfold m_impl_MakeProblem_B26 at h
      refine Tr.weakO (Γ' := [(4, (pEq (.pointer (some ⟨b1, 0, none⟩)))), (6, (pEq (.pointer (some ⟨b9, 0, none⟩)))), (29, (pSl 1 (cSl 1 (cK .i64)) a_1)), (30, (pEq (.int .i64 (a_1.length : Int)))), (31, (pEq (.int .i64 v27)))]) (Ω' := [oSS 22 2 1 (cK .i64) g29.1.1 g29.1.2.1 g29.1.2.2 g29.2 v28, oBlk b9 [(pEq (.slice g7.1.1 g7.1.2.1 g7.1.2.2)), (pEq (.slice g29.1.1 g29.1.2.1 g29.1.2.2))], oSS 22 2 1 (cK .i64) g7.1.1 g7.1.2.1 g7.1.2.2 g7.2 x6, oBlk b1 [(pEq (.slice none 0 0)), (pEq (.slice none 0 0))]]) rfl ⟨rfl, rfl, rfl, rfl, rfl, trivial⟩ ?_
      refine Tr.seq ?_
      refine Tr.region ?_
      refine RegL.pure (p := (pEq (.bool (decide (v27 < (a_1.length : Int)))))) rfl rfl rfl (J_bin rfl (Opd.tmp rfl) (Opd.tmp rfl) B_lss) ?_
      refine RegL.nil ?_
      refine Ct.then_tr ?_
      refine Tr.weak (Γ' := [(4, (pEq (.pointer (some ⟨b1, 0, none⟩)))), (6, (pEq (.pointer (some ⟨b9, 0, none⟩)))), (29, (pSl 1 (cSl 1 (cK .i64)) a_1)), (30, (pEq (.int .i64 (a_1.length : Int)))), (31, (pEq (.int .i64 v27))), (32, (pEq (.bool (decide (v27 < (a_1.length : Int))))))]) ⟨rfl, rfl, rfl, rfl, rfl, rfl, trivial⟩ ?_
      refine Tr.seq ?_
      refine Tr.cond (Opd.tmp rfl) (fun hc => ?_) (fun hc => ?_)
      · replace h := bif_t hc h
        refine Tr.skip ?_
        refine Ct.then_tr ?_
        refine Tr.weak (Γ' := [(4, (pEq (.pointer (some ⟨b1, 0, none⟩)))), (6, (pEq (.pointer (some ⟨b9, 0, none⟩)))), (29, (pSl 1 (cSl 1 (cK .i64)) a_1)), (30, (pEq (.int .i64 (a_1.length : Int)))), (31, (pEq (.int .i64 v27)))]) ⟨rfl, rfl, rfl, rfl, rfl, trivial⟩ ?_
        refine Tr.seq ?_
        refine Tr.block ?_
        refine Tr.seq ?_
        refine Tr.region ?_
        replace h := bind_some h; obtain ⟨x30, hx30, h⟩ := h
        refine RegL.pure (p := (pPtr ((cSl 1 (cK .i64)) x30))) rfl rfl rfl (J_idx rfl Try.underlying27 sz22 (Opd.tmp rfl) (Opd.tmp rfl) hx30) ?_
        refine RegL.pure (p := (pSl 1 (cK .i64) x30)) rfl rfl rfl (J_load rfl Try.isAgg22 (Opd.tmp rfl)) ?_
        refine RegL.pure (p := (pSl 1 (cK .i64) x30)) rfl rfl rfl (J_assign rfl (Opd.tmp rfl)) ?_
        refine RegL.nil ?_
        refine Ct.then_tr ?_
        refine Tr.weak (Γ' := [(4, (pEq (.pointer (some ⟨b1, 0, none⟩)))), (6, (pEq (.pointer (some ⟨b9, 0, none⟩)))), (8, (pSl 1 (cK .i64) x30)), (29, (pSl 1 (cSl 1 (cK .i64)) a_1)), (30, (pEq (.int .i64 (a_1.length : Int)))), (31, (pEq (.int .i64 v27)))]) ⟨rfl, rfl, rfl, rfl, rfl, rfl, trivial⟩ ?_
        refine Tr.seq ?_
        refine Tr.seq ?_
        replace h := bind_some h; obtain ⟨x31, hx31, h⟩ := h
        refine Tr.cut (γ := Unit) (Γm := fun g => [(4, (pEq (.pointer (some ⟨b1, 0, none⟩)))), (6, (pEq (.pointer (some ⟨b9, 0, none⟩)))), (8, (pSl 1 (cK .i64) x30)), (29, (pSl 1 (cSl 1 (cK .i64)) a_1)), (30, (pEq (.int .i64 (a_1.length : Int)))), (31, (pEq (.int .i64 v27))), (69, (pEq (.bool x31)))]) (Ωm := fun g => [oSS 22 2 1 (cK .i64) g29.1.1 g29.1.2.1 g29.1.2.2 g29.2 v28, oBlk b9 [(pEq (.slice g7.1.1 g7.1.2.1 g7.1.2.2)), (pEq (.slice g29.1.1 g29.1.2.1 g29.1.2.2))], oSS 22 2 1 (cK .i64) g7.1.1 g7.1.2.1 g7.1.2.2 g7.2 x6, oBlk b1 [(pEq (.slice none 0 0)), (pEq (.slice none 0 0))]]) ?_ (fun g44 => ?_)
        · clear h
          have h := hx31
          clear hx31
          rcases Bool.eq_false_or_eq_true ((x30.length : Int) != (3 : Int)) with hc32 | hc32
          · replace h := bif_t hc32 h
            refine Tr.drawD (n := 84) (m := 35) (es := [some (Ent.mk [(8, (pSl 1 (cK .i64) x30))] (pSl 1 (cK .i64) x30) true), some (Ent.mk [(35, (pSl 1 (cK .i64) x30))] (pEq (.int .i64 (x30.length : Int))) true), some (Ent.mk [(36, (pEq (.int .i64 (x30.length : Int))))] (pEq (.bool ((x30.length : Int) != (3 : Int)))) true), some (Ent.mk [(37, (pEq (.bool ((x30.length : Int) != (3 : Int)))))] (pEq (.bool ((x30.length : Int) != (3 : Int)))) true), some (Ent.mk [(6, (pEq (.pointer (some ⟨b9, 0, none⟩))))] (pEq undef) false), some (Ent.mk [(8, (pSl 1 (cK .i64) x30))] (pEq undef) false), some (Ent.mk [(40, (pEq undef))] (pEq undef) false), some (Ent.mk [(41, (pEq undef))] (pEq undef) false), some (Ent.mk [(39, (pEq undef)), (42, (pEq undef))] (pEq undef) false), some (Ent.mk [(43, (pEq undef))] (pEq undef) false), some (Ent.mk [(38, (pEq (.bool ((x30.length : Int) != (3 : Int))))), (44, (pEq undef))] (pEq (.bool true)) true), some (Ent.mk [(45, (pEq (.bool true)))] (pEq (.bool true)) true), some (Ent.mk [(6, (pEq (.pointer (some ⟨b9, 0, none⟩))))] (pEq undef) false), some (Ent.mk [(8, (pSl 1 (cK .i64) x30))] (pEq undef) false), some (Ent.mk [(48, (pEq undef))] (pEq undef) false), some (Ent.mk [(49, (pEq undef))] (pEq undef) false), some (Ent.mk [(47, (pEq undef)), (50, (pEq undef))] (pEq undef) false), some (Ent.mk [(51, (pEq undef))] (pEq undef) false), some (Ent.mk [(46, (pEq (.bool true))), (52, (pEq undef))] (pEq (.bool true)) true), some (Ent.mk [(53, (pEq (.bool true)))] (pEq (.bool true)) true), some (Ent.mk [(8, (pSl 1 (cK .i64) x30))] (pEq undef) false), some (Ent.mk [(55, (pEq undef))] (pEq undef) false), some (Ent.mk [(56, (pEq undef))] (pEq undef) false), some (Ent.mk [(8, (pSl 1 (cK .i64) x30))] (pEq undef) false), some (Ent.mk [(58, (pEq undef))] (pEq undef) false), some (Ent.mk [(59, (pEq undef))] (pEq undef) false), some (Ent.mk [(57, (pEq undef)), (60, (pEq undef))] (pEq undef) false), some (Ent.mk [(54, (pEq (.bool true))), (61, (pEq undef))] (pEq (.bool true)) true), some (Ent.mk [(62, (pEq (.bool true)))] (pEq (.bool true)) true), some (Ent.mk [(8, (pSl 1 (cK .i64) x30))] (pEq undef) false), some (Ent.mk [(64, (pEq undef))] (pEq undef) false), some (Ent.mk [(65, (pEq undef))] (pEq undef) false), some (Ent.mk [(66, (pEq undef))] (pEq undef) false), some (Ent.mk [(67, (pEq undef))] (pEq undef) false), some (Ent.mk [(63, (pEq (.bool true))), (68, (pEq undef))] (pEq (.bool true)) true)]) (rd := [[8], [35], [36], [37], [6], [8], [40], [41], [39, 42], [43], [38, 44], [45], [6], [8], [48], [49], [47, 50], [51], [46, 52], [53], [8], [55], [56], [8], [58], [59], [57, 60], [54, 61], [62], [8], [64], [65], [66], [67], [63, 68]]) rfl hmix (by kernel_rfl) fun hD => ?_
            refine RD.fin (es := [Ent.mk [(8, (pSl 1 (cK .i64) x30))] (pSl 1 (cK .i64) x30) true, Ent.mk [(35, (pSl 1 (cK .i64) x30))] (pEq (.int .i64 (x30.length : Int))) true, Ent.mk [(36, (pEq (.int .i64 (x30.length : Int))))] (pEq (.bool ((x30.length : Int) != (3 : Int)))) true, Ent.mk [(37, (pEq (.bool ((x30.length : Int) != (3 : Int)))))] (pEq (.bool ((x30.length : Int) != (3 : Int)))) true, Ent.mk [(6, (pEq (.pointer (some ⟨b9, 0, none⟩))))] (pEq undef) false, Ent.mk [(8, (pSl 1 (cK .i64) x30))] (pEq undef) false, Ent.mk [(40, (pEq undef))] (pEq undef) false, Ent.mk [(41, (pEq undef))] (pEq undef) false, Ent.mk [(39, (pEq undef)), (42, (pEq undef))] (pEq undef) false, Ent.mk [(43, (pEq undef))] (pEq undef) false, Ent.mk [(38, (pEq (.bool ((x30.length : Int) != (3 : Int))))), (44, (pEq undef))] (pEq (.bool true)) true, Ent.mk [(45, (pEq (.bool true)))] (pEq (.bool true)) true, Ent.mk [(6, (pEq (.pointer (some ⟨b9, 0, none⟩))))] (pEq undef) false, Ent.mk [(8, (pSl 1 (cK .i64) x30))] (pEq undef) false, Ent.mk [(48, (pEq undef))] (pEq undef) false, Ent.mk [(49, (pEq undef))] (pEq undef) false, Ent.mk [(47, (pEq undef)), (50, (pEq undef))] (pEq undef) false, Ent.mk [(51, (pEq undef))] (pEq undef) false, Ent.mk [(46, (pEq (.bool true))), (52, (pEq undef))] (pEq (.bool true)) true, Ent.mk [(53, (pEq (.bool true)))] (pEq (.bool true)) true, Ent.mk [(8, (pSl 1 (cK .i64) x30))] (pEq undef) false, Ent.mk [(55, (pEq undef))] (pEq undef) false, Ent.mk [(56, (pEq undef))] (pEq undef) false, Ent.mk [(8, (pSl 1 (cK .i64) x30))] (pEq undef) false, Ent.mk [(58, (pEq undef))] (pEq undef) false, Ent.mk [(59, (pEq undef))] (pEq undef) false, Ent.mk [(57, (pEq undef)), (60, (pEq undef))] (pEq undef) false, Ent.mk [(54, (pEq (.bool true))), (61, (pEq undef))] (pEq (.bool true)) true, Ent.mk [(62, (pEq (.bool true)))] (pEq (.bool true)) true, Ent.mk [(8, (pSl 1 (cK .i64) x30))] (pEq undef) false, Ent.mk [(64, (pEq undef))] (pEq undef) false, Ent.mk [(65, (pEq undef))] (pEq undef) false, Ent.mk [(66, (pEq undef))] (pEq undef) false, Ent.mk [(67, (pEq undef))] (pEq undef) false, Ent.mk [(63, (pEq (.bool true))), (68, (pEq undef))] (pEq (.bool true)) true]) (done := []) hD ⟨.inr ⟨(OpJ.w (J_move rfl (Opd.tmp rfl))), ⟨rfl, trivial⟩, rfl, rfl⟩, ⟨.inr ⟨(OpJ.w (J_len rfl Try.underlying22 (Opd.tmp rfl) rfl)), ⟨rfl, trivial⟩, rfl, rfl⟩, ⟨.inr ⟨(OpJ.w (J_bin rfl (Opd.tmp rfl) Opd.con B_neq)), ⟨rfl, trivial⟩, rfl, rfl⟩, ⟨.inr ⟨(OpJ.w (J_move rfl (Opd.tmp rfl))), ⟨rfl, trivial⟩, rfl, rfl⟩, ⟨.inr ⟨rfl, ⟨rfl, trivial⟩, (.inl ⟨_, rfl, by simp [hc32]⟩), rfl⟩, ⟨.inr ⟨rfl, ⟨rfl, trivial⟩, (.inl ⟨_, rfl, by simp [hc32]⟩), rfl⟩, ⟨.inr ⟨rfl, ⟨rfl, trivial⟩, (.inl ⟨_, rfl, by simp [hc32]⟩), rfl⟩, ⟨.inr ⟨rfl, ⟨rfl, trivial⟩, (.inl ⟨_, rfl, by simp [hc32]⟩), rfl⟩, ⟨.inr ⟨rfl, ⟨rfl, rfl, trivial⟩, (.inl ⟨_, rfl, by simp [hc32]⟩), rfl⟩, ⟨.inr ⟨rfl, ⟨rfl, trivial⟩, (.inl ⟨_, rfl, by simp [hc32]⟩), rfl⟩, ⟨.inr ⟨(OpJ.w (J_pick rfl (Opd.tmp rfl) (fun _ => Opd.con) (fun hf => absurd (hc32.symm.trans hf) (by decide)))), ⟨rfl, rfl, trivial⟩, rfl, rfl⟩, ⟨.inr ⟨(OpJ.w (J_move rfl (Opd.tmp rfl))), ⟨rfl, trivial⟩, rfl, rfl⟩, ⟨.inr ⟨rfl, ⟨rfl, trivial⟩, (.inl ⟨_, rfl, rfl⟩), rfl⟩, ⟨.inr ⟨rfl, ⟨rfl, trivial⟩, (.inl ⟨_, rfl, rfl⟩), rfl⟩, ⟨.inr ⟨rfl, ⟨rfl, trivial⟩, (.inl ⟨_, rfl, rfl⟩), rfl⟩, ⟨.inr ⟨rfl, ⟨rfl, trivial⟩, (.inl ⟨_, rfl, rfl⟩), rfl⟩, ⟨.inr ⟨rfl, ⟨rfl, rfl, trivial⟩, (.inl ⟨_, rfl, rfl⟩), rfl⟩, ⟨.inr ⟨rfl, ⟨rfl, trivial⟩, (.inl ⟨_, rfl, rfl⟩), rfl⟩, ⟨.inr ⟨(OpJ.w (J_pick rfl (Opd.tmp rfl) (fun _ => Opd.con) (fun hf => absurd hf (by decide)))), ⟨rfl, rfl, trivial⟩, rfl, rfl⟩, ⟨.inr ⟨(OpJ.w (J_move rfl (Opd.tmp rfl))), ⟨rfl, trivial⟩, rfl, rfl⟩, ⟨.inr ⟨rfl, ⟨rfl, trivial⟩, (.inl ⟨_, rfl, rfl⟩), rfl⟩, ⟨.inr ⟨rfl, ⟨rfl, trivial⟩, (.inl ⟨_, rfl, rfl⟩), rfl⟩, ⟨.inr ⟨rfl, ⟨rfl, trivial⟩, (.inl ⟨_, rfl, rfl⟩), rfl⟩, ⟨.inr ⟨rfl, ⟨rfl, trivial⟩, (.inl ⟨_, rfl, rfl⟩), rfl⟩, ⟨.inr ⟨rfl, ⟨rfl, trivial⟩, (.inl ⟨_, rfl, rfl⟩), rfl⟩, ⟨.inr ⟨rfl, ⟨rfl, trivial⟩, (.inl ⟨_, rfl, rfl⟩), rfl⟩, ⟨.inr ⟨rfl, ⟨rfl, rfl, trivial⟩, (.inl ⟨_, rfl, rfl⟩), rfl⟩, ⟨.inr ⟨(OpJ.w (J_pick rfl (Opd.tmp rfl) (fun _ => Opd.con) (fun hf => absurd hf (by decide)))), ⟨rfl, rfl, trivial⟩, rfl, rfl⟩, ⟨.inr ⟨(OpJ.w (J_move rfl (Opd.tmp rfl))), ⟨rfl, trivial⟩, rfl, rfl⟩, ⟨.inr ⟨rfl, ⟨rfl, trivial⟩, (.inl ⟨_, rfl, rfl⟩), rfl⟩, ⟨.inr ⟨rfl, ⟨rfl, trivial⟩, (.inl ⟨_, rfl, rfl⟩), rfl⟩, ⟨.inr ⟨rfl, ⟨rfl, trivial⟩, (.inl ⟨_, rfl, rfl⟩), rfl⟩, ⟨.inr ⟨rfl, ⟨rfl, trivial⟩, (.inl ⟨_, rfl, rfl⟩), rfl⟩, ⟨.inr ⟨rfl, ⟨rfl, trivial⟩, (.inl ⟨_, rfl, rfl⟩), rfl⟩, ⟨.inr ⟨(OpJ.w (J_pick rfl (Opd.tmp rfl) (fun _ => Opd.con) (fun hf => absurd hf (by decide)))), ⟨rfl, rfl, trivial⟩, rfl, rfl⟩, trivial⟩⟩⟩⟩⟩⟩⟩⟩⟩⟩⟩⟩⟩⟩⟩⟩⟩⟩⟩⟩⟩⟩⟩⟩⟩⟩⟩⟩⟩⟩⟩⟩⟩⟩⟩ ?_
            refine RegL.nil ?_
            replace h := Option.some.inj h; subst h
            exact Ct.mid () rfl ⟨rfl, rfl, rfl, rfl, rfl, rfl, rfl, trivial⟩
          · replace h := bif_f hc32 h
            replace h := bind_some h; obtain ⟨x33, hx33, h⟩ := h
            replace h := bind_some h; obtain ⟨x34, hx34, h⟩ := h
            rcases Bool.eq_false_or_eq_true (!x34) with hc35 | hc35
            · replace h := bif_t hc35 h
              refine Tr.drawD (n := 84) (m := 35) (es := [some (Ent.mk [(8, (pSl 1 (cK .i64) x30))] (pSl 1 (cK .i64) x30) true), some (Ent.mk [(35, (pSl 1 (cK .i64) x30))] (pEq (.int .i64 (x30.length : Int))) true), some (Ent.mk [(36, (pEq (.int .i64 (x30.length : Int))))] (pEq (.bool ((x30.length : Int) != (3 : Int)))) true), some (Ent.mk [(37, (pEq (.bool ((x30.length : Int) != (3 : Int)))))] (pEq (.bool ((x30.length : Int) != (3 : Int)))) true), some (Ent.mk [(6, (pEq (.pointer (some ⟨b9, 0, none⟩))))] (pAgg [(pEq (.slice g7.1.1 g7.1.2.1 g7.1.2.2)), (pEq (.slice g29.1.1 g29.1.2.1 g29.1.2.2))]) true), some (Ent.mk [(8, (pSl 1 (cK .i64) x30))] (pSl 1 (cK .i64) x30) true), some (Ent.mk [(40, (pSl 1 (cK .i64) x30))] (pPtr ((cK .i64) x33)) true), some (Ent.mk [(41, (pPtr ((cK .i64) x33)))] (pEq (.int .i64 x33)) true), some (Ent.mk [(39, (pAgg [(pEq (.slice g7.1.1 g7.1.2.1 g7.1.2.2)), (pEq (.slice g29.1.1 g29.1.2.1 g29.1.2.2))])), (42, (pEq (.int .i64 x33)))] (pEq (.bool x34)) true), some (Ent.mk [(43, (pEq (.bool x34)))] (pEq (.bool (!x34))) true), some (Ent.mk [(38, (pEq (.bool ((x30.length : Int) != (3 : Int))))), (44, (pEq (.bool (!x34))))] (pEq (.bool (!x34))) true), some (Ent.mk [(45, (pEq (.bool (!x34))))] (pEq (.bool (!x34))) true), some (Ent.mk [(6, (pEq (.pointer (some ⟨b9, 0, none⟩))))] (pEq undef) false), some (Ent.mk [(8, (pSl 1 (cK .i64) x30))] (pEq undef) false), some (Ent.mk [(48, (pEq undef))] (pEq undef) false), some (Ent.mk [(49, (pEq undef))] (pEq undef) false), some (Ent.mk [(47, (pEq undef)), (50, (pEq undef))] (pEq undef) false), some (Ent.mk [(51, (pEq undef))] (pEq undef) false), some (Ent.mk [(46, (pEq (.bool (!x34)))), (52, (pEq undef))] (pEq (.bool true)) true), some (Ent.mk [(53, (pEq (.bool true)))] (pEq (.bool true)) true), some (Ent.mk [(8, (pSl 1 (cK .i64) x30))] (pEq undef) false), some (Ent.mk [(55, (pEq undef))] (pEq undef) false), some (Ent.mk [(56, (pEq undef))] (pEq undef) false), some (Ent.mk [(8, (pSl 1 (cK .i64) x30))] (pEq undef) false), some (Ent.mk [(58, (pEq undef))] (pEq undef) false), some (Ent.mk [(59, (pEq undef))] (pEq undef) false), some (Ent.mk [(57, (pEq undef)), (60, (pEq undef))] (pEq undef) false), some (Ent.mk [(54, (pEq (.bool true))), (61, (pEq undef))] (pEq (.bool true)) true), some (Ent.mk [(62, (pEq (.bool true)))] (pEq (.bool true)) true), some (Ent.mk [(8, (pSl 1 (cK .i64) x30))] (pEq undef) false), some (Ent.mk [(64, (pEq undef))] (pEq undef) false), some (Ent.mk [(65, (pEq undef))] (pEq undef) false), some (Ent.mk [(66, (pEq undef))] (pEq undef) false), some (Ent.mk [(67, (pEq undef))] (pEq undef) false), some (Ent.mk [(63, (pEq (.bool true))), (68, (pEq undef))] (pEq (.bool true)) true)]) (rd := [[8], [35], [36], [37], [6], [8], [40], [41], [39, 42], [43], [38, 44], [45], [6], [8], [48], [49], [47, 50], [51], [46, 52], [53], [8], [55], [56], [8], [58], [59], [57, 60], [54, 61], [62], [8], [64], [65], [66], [67], [63, 68]]) rfl hmix (by kernel_rfl) fun hD => ?_
              refine RD.fin (es := [Ent.mk [(8, (pSl 1 (cK .i64) x30))] (pSl 1 (cK .i64) x30) true, Ent.mk [(35, (pSl 1 (cK .i64) x30))] (pEq (.int .i64 (x30.length : Int))) true, Ent.mk [(36, (pEq (.int .i64 (x30.length : Int))))] (pEq (.bool ((x30.length : Int) != (3 : Int)))) true, Ent.mk [(37, (pEq (.bool ((x30.length : Int) != (3 : Int)))))] (pEq (.bool ((x30.length : Int) != (3 : Int)))) true, Ent.mk [(6, (pEq (.pointer (some ⟨b9, 0, none⟩))))] (pAgg [(pEq (.slice g7.1.1 g7.1.2.1 g7.1.2.2)), (pEq (.slice g29.1.1 g29.1.2.1 g29.1.2.2))]) true, Ent.mk [(8, (pSl 1 (cK .i64) x30))] (pSl 1 (cK .i64) x30) true, Ent.mk [(40, (pSl 1 (cK .i64) x30))] (pPtr ((cK .i64) x33)) true, Ent.mk [(41, (pPtr ((cK .i64) x33)))] (pEq (.int .i64 x33)) true, Ent.mk [(39, (pAgg [(pEq (.slice g7.1.1 g7.1.2.1 g7.1.2.2)), (pEq (.slice g29.1.1 g29.1.2.1 g29.1.2.2))])), (42, (pEq (.int .i64 x33)))] (pEq (.bool x34)) true, Ent.mk [(43, (pEq (.bool x34)))] (pEq (.bool (!x34))) true, Ent.mk [(38, (pEq (.bool ((x30.length : Int) != (3 : Int))))), (44, (pEq (.bool (!x34))))] (pEq (.bool (!x34))) true, Ent.mk [(45, (pEq (.bool (!x34))))] (pEq (.bool (!x34))) true, Ent.mk [(6, (pEq (.pointer (some ⟨b9, 0, none⟩))))] (pEq undef) false, Ent.mk [(8, (pSl 1 (cK .i64) x30))] (pEq undef) false, Ent.mk [(48, (pEq undef))] (pEq undef) false, Ent.mk [(49, (pEq undef))] (pEq undef) false, Ent.mk [(47, (pEq undef)), (50, (pEq undef))] (pEq undef) false, Ent.mk [(51, (pEq undef))] (pEq undef) false, Ent.mk [(46, (pEq (.bool (!x34)))), (52, (pEq undef))] (pEq (.bool true)) true, Ent.mk [(53, (pEq (.bool true)))] (pEq (.bool true)) true, Ent.mk [(8, (pSl 1 (cK .i64) x30))] (pEq undef) false, Ent.mk [(55, (pEq undef))] (pEq undef) false, Ent.mk [(56, (pEq undef))] (pEq undef) false, Ent.mk [(8, (pSl 1 (cK .i64) x30))] (pEq undef) false, Ent.mk [(58, (pEq undef))] (pEq undef) false, Ent.mk [(59, (pEq undef))] (pEq undef) false, Ent.mk [(57, (pEq undef)), (60, (pEq undef))] (pEq undef) false, Ent.mk [(54, (pEq (.bool true))), (61, (pEq undef))] (pEq (.bool true)) true, Ent.mk [(62, (pEq (.bool true)))] (pEq (.bool true)) true, Ent.mk [(8, (pSl 1 (cK .i64) x30))] (pEq undef) false, Ent.mk [(64, (pEq undef))] (pEq undef) false, Ent.mk [(65, (pEq undef))] (pEq undef) false, Ent.mk [(66, (pEq undef))] (pEq undef) false, Ent.mk [(67, (pEq undef))] (pEq undef) false, Ent.mk [(63, (pEq (.bool true))), (68, (pEq undef))] (pEq (.bool true)) true]) (done := []) hD ⟨.inr ⟨(OpJ.w (J_move rfl (Opd.tmp rfl))), ⟨rfl, trivial⟩, rfl, rfl⟩, ⟨.inr ⟨(OpJ.w (J_len rfl Try.underlying22 (Opd.tmp rfl) rfl)), ⟨rfl, trivial⟩, rfl, rfl⟩, ⟨.inr ⟨(OpJ.w (J_bin rfl (Opd.tmp rfl) Opd.con B_neq)), ⟨rfl, trivial⟩, rfl, rfl⟩, ⟨.inr ⟨(OpJ.w (J_move rfl (Opd.tmp rfl))), ⟨rfl, trivial⟩, rfl, rfl⟩, ⟨.inr ⟨(W_loadA (i := 1) rfl Try.isAgg32 sz32 (Opd.tmp rfl) rfl rfl), ⟨rfl, trivial⟩, (.inl ⟨_, rfl, by simp [hc32]⟩), rfl⟩, ⟨.inr ⟨(OpJ.w (J_move rfl (Opd.tmp rfl))), ⟨rfl, trivial⟩, (.inl ⟨_, rfl, by simp [hc32]⟩), rfl⟩, ⟨.inr ⟨(OpJ.w (J_idx rfl Try.underlying22 sz2 (Opd.tmp rfl) Opd.con hx33)), ⟨rfl, trivial⟩, (.inl ⟨_, rfl, by simp [hc32]⟩), rfl⟩, ⟨.inr ⟨(OpJ.w (J_load rfl Try.isAgg2 (Opd.tmp rfl))), ⟨rfl, trivial⟩, (.inl ⟨_, rfl, by simp [hc32]⟩), rfl⟩, ⟨.inr ⟨(W_call rfl Try.call66 (c_impl_Problem_hasItem hx34) (OpdsA.cons (OpdA.conv rfl (Conv.agg (Convs.cons (Conv.nest 2 (fun _ => rfl) rfl) (Convs.cons (Conv.nest 0 (fun _ => rfl) rfl) Convs.nil)))) (OpdsA.cons (OpdA.of (Opd.tmp rfl)) OpdsA.nil)) FreeP.eq), ⟨rfl, rfl, trivial⟩, (.inl ⟨_, rfl, by simp [hc32]⟩), rfl⟩, ⟨.inr ⟨(OpJ.w (J_not rfl (Opd.tmp rfl))), ⟨rfl, trivial⟩, (.inl ⟨_, rfl, by simp [hc32]⟩), rfl⟩, ⟨.inr ⟨(OpJ.w (J_pick rfl (Opd.tmp rfl) (fun hf => absurd (hc32.symm.trans hf) (by decide)) (fun _ => (Opd.tmp rfl)))), ⟨rfl, rfl, trivial⟩, rfl, rfl⟩, ⟨.inr ⟨(OpJ.w (J_move rfl (Opd.tmp rfl))), ⟨rfl, trivial⟩, rfl, rfl⟩, ⟨.inr ⟨rfl, ⟨rfl, trivial⟩, (.inl ⟨_, rfl, by simp [hc35]⟩), rfl⟩, ⟨.inr ⟨rfl, ⟨rfl, trivial⟩, (.inl ⟨_, rfl, by simp [hc35]⟩), rfl⟩, ⟨.inr ⟨rfl, ⟨rfl, trivial⟩, (.inl ⟨_, rfl, by simp [hc35]⟩), rfl⟩, ⟨.inr ⟨rfl, ⟨rfl, trivial⟩, (.inl ⟨_, rfl, by simp [hc35]⟩), rfl⟩, ⟨.inr ⟨rfl, ⟨rfl, rfl, trivial⟩, (.inl ⟨_, rfl, by simp [hc35]⟩), rfl⟩, ⟨.inr ⟨rfl, ⟨rfl, trivial⟩, (.inl ⟨_, rfl, by simp [hc35]⟩), rfl⟩, ⟨.inr ⟨(OpJ.w (J_pick rfl (Opd.tmp rfl) (fun _ => Opd.con) (fun hf => absurd (hc35.symm.trans hf) (by decide)))), ⟨rfl, rfl, trivial⟩, rfl, rfl⟩, ⟨.inr ⟨(OpJ.w (J_move rfl (Opd.tmp rfl))), ⟨rfl, trivial⟩, rfl, rfl⟩, ⟨.inr ⟨rfl, ⟨rfl, trivial⟩, (.inl ⟨_, rfl, rfl⟩), rfl⟩, ⟨.inr ⟨rfl, ⟨rfl, trivial⟩, (.inl ⟨_, rfl, rfl⟩), rfl⟩, ⟨.inr ⟨rfl, ⟨rfl, trivial⟩, (.inl ⟨_, rfl, rfl⟩), rfl⟩, ⟨.inr ⟨rfl, ⟨rfl, trivial⟩, (.inl ⟨_, rfl, rfl⟩), rfl⟩, ⟨.inr ⟨rfl, ⟨rfl, trivial⟩, (.inl ⟨_, rfl, rfl⟩), rfl⟩, ⟨.inr ⟨rfl, ⟨rfl, trivial⟩, (.inl ⟨_, rfl, rfl⟩), rfl⟩, ⟨.inr ⟨rfl, ⟨rfl, rfl, trivial⟩, (.inl ⟨_, rfl, rfl⟩), rfl⟩, ⟨.inr ⟨(OpJ.w (J_pick rfl (Opd.tmp rfl) (fun _ => Opd.con) (fun hf => absurd hf (by decide)))), ⟨rfl, rfl, trivial⟩, rfl, rfl⟩, ⟨.inr ⟨(OpJ.w (J_move rfl (Opd.tmp rfl))), ⟨rfl, trivial⟩, rfl, rfl⟩, ⟨.inr ⟨rfl, ⟨rfl, trivial⟩, (.inl ⟨_, rfl, rfl⟩), rfl⟩, ⟨.inr ⟨rfl, ⟨rfl, trivial⟩, (.inl ⟨_, rfl, rfl⟩), rfl⟩, ⟨.inr ⟨rfl, ⟨rfl, trivial⟩, (.inl ⟨_, rfl, rfl⟩), rfl⟩, ⟨.inr ⟨rfl, ⟨rfl, trivial⟩, (.inl ⟨_, rfl, rfl⟩), rfl⟩, ⟨.inr ⟨rfl, ⟨rfl, trivial⟩, (.inl ⟨_, rfl, rfl⟩), rfl⟩, ⟨.inr ⟨(OpJ.w (J_pick rfl (Opd.tmp rfl) (fun _ => Opd.con) (fun hf => absurd hf (by decide)))), ⟨rfl, rfl, trivial⟩, rfl, rfl⟩, trivial⟩⟩⟩⟩⟩⟩⟩⟩⟩⟩⟩⟩⟩⟩⟩⟩⟩⟩⟩⟩⟩⟩⟩⟩⟩⟩⟩⟩⟩⟩⟩⟩⟩⟩⟩ ?_
              refine RegL.nil ?_
              replace h := Option.some.inj h; subst h
              exact Ct.mid () rfl ⟨rfl, rfl, rfl, rfl, rfl, rfl, rfl, trivial⟩
            · replace h := bif_f hc35 h
              replace h := bind_some h; obtain ⟨x36, hx36, h⟩ := h
              replace h := bind_some h; obtain ⟨x37, hx37, h⟩ := h
              rcases Bool.eq_false_or_eq_true (!x37) with hc38 | hc38
              · replace h := bif_t hc38 h
                refine Tr.drawD (n := 84) (m := 35) (es := [some (Ent.mk [(8, (pSl 1 (cK .i64) x30))] (pSl 1 (cK .i64) x30) true), some (Ent.mk [(35, (pSl 1 (cK .i64) x30))] (pEq (.int .i64 (x30.length : Int))) true), some (Ent.mk [(36, (pEq (.int .i64 (x30.length : Int))))] (pEq (.bool ((x30.length : Int) != (3 : Int)))) true), some (Ent.mk [(37, (pEq (.bool ((x30.length : Int) != (3 : Int)))))] (pEq (.bool ((x30.length : Int) != (3 : Int)))) true), some (Ent.mk [(6, (pEq (.pointer (some ⟨b9, 0, none⟩))))] (pAgg [(pEq (.slice g7.1.1 g7.1.2.1 g7.1.2.2)), (pEq (.slice g29.1.1 g29.1.2.1 g29.1.2.2))]) true), some (Ent.mk [(8, (pSl 1 (cK .i64) x30))] (pSl 1 (cK .i64) x30) true), some (Ent.mk [(40, (pSl 1 (cK .i64) x30))] (pPtr ((cK .i64) x33)) true), some (Ent.mk [(41, (pPtr ((cK .i64) x33)))] (pEq (.int .i64 x33)) true), some (Ent.mk [(39, (pAgg [(pEq (.slice g7.1.1 g7.1.2.1 g7.1.2.2)), (pEq (.slice g29.1.1 g29.1.2.1 g29.1.2.2))])), (42, (pEq (.int .i64 x33)))] (pEq (.bool x34)) true), some (Ent.mk [(43, (pEq (.bool x34)))] (pEq (.bool (!x34))) true), some (Ent.mk [(38, (pEq (.bool ((x30.length : Int) != (3 : Int))))), (44, (pEq (.bool (!x34))))] (pEq (.bool (!x34))) true), some (Ent.mk [(45, (pEq (.bool (!x34))))] (pEq (.bool (!x34))) true), some (Ent.mk [(6, (pEq (.pointer (some ⟨b9, 0, none⟩))))] (pAgg [(pEq (.slice g7.1.1 g7.1.2.1 g7.1.2.2)), (pEq (.slice g29.1.1 g29.1.2.1 g29.1.2.2))]) true), some (Ent.mk [(8, (pSl 1 (cK .i64) x30))] (pSl 1 (cK .i64) x30) true), some (Ent.mk [(48, (pSl 1 (cK .i64) x30))] (pPtr ((cK .i64) x36)) true), some (Ent.mk [(49, (pPtr ((cK .i64) x36)))] (pEq (.int .i64 x36)) true), some (Ent.mk [(47, (pAgg [(pEq (.slice g7.1.1 g7.1.2.1 g7.1.2.2)), (pEq (.slice g29.1.1 g29.1.2.1 g29.1.2.2))])), (50, (pEq (.int .i64 x36)))] (pEq (.bool x37)) true), some (Ent.mk [(51, (pEq (.bool x37)))] (pEq (.bool (!x37))) true), some (Ent.mk [(46, (pEq (.bool (!x34)))), (52, (pEq (.bool (!x37))))] (pEq (.bool (!x37))) true), some (Ent.mk [(53, (pEq (.bool (!x37))))] (pEq (.bool (!x37))) true), some (Ent.mk [(8, (pSl 1 (cK .i64) x30))] (pEq undef) false), some (Ent.mk [(55, (pEq undef))] (pEq undef) false), some (Ent.mk [(56, (pEq undef))] (pEq undef) false), some (Ent.mk [(8, (pSl 1 (cK .i64) x30))] (pEq undef) false), some (Ent.mk [(58, (pEq undef))] (pEq undef) false), some (Ent.mk [(59, (pEq undef))] (pEq undef) false), some (Ent.mk [(57, (pEq undef)), (60, (pEq undef))] (pEq undef) false), some (Ent.mk [(54, (pEq (.bool (!x37)))), (61, (pEq undef))] (pEq (.bool true)) true), some (Ent.mk [(62, (pEq (.bool true)))] (pEq (.bool true)) true), some (Ent.mk [(8, (pSl 1 (cK .i64) x30))] (pEq undef) false), some (Ent.mk [(64, (pEq undef))] (pEq undef) false), some (Ent.mk [(65, (pEq undef))] (pEq undef) false), some (Ent.mk [(66, (pEq undef))] (pEq undef) false), some (Ent.mk [(67, (pEq undef))] (pEq undef) false), some (Ent.mk [(63, (pEq (.bool true))), (68, (pEq undef))] (pEq (.bool true)) true)]) (rd := [[8], [35], [36], [37], [6], [8], [40], [41], [39, 42], [43], [38, 44], [45], [6], [8], [48], [49], [47, 50], [51], [46, 52], [53], [8], [55], [56], [8], [58], [59], [57, 60], [54, 61], [62], [8], [64], [65], [66], [67], [63, 68]]) rfl hmix (by kernel_rfl) fun hD => ?_
                refine RD.fin (es := [Ent.mk [(8, (pSl 1 (cK .i64) x30))] (pSl 1 (cK .i64) x30) true, Ent.mk [(35, (pSl 1 (cK .i64) x30))] (pEq (.int .i64 (x30.length : Int))) true, Ent.mk [(36, (pEq (.int .i64 (x30.length : Int))))] (pEq (.bool ((x30.length : Int) != (3 : Int)))) true, Ent.mk [(37, (pEq (.bool ((x30.length : Int) != (3 : Int)))))] (pEq (.bool ((x30.length : Int) != (3 : Int)))) true, Ent.mk [(6, (pEq (.pointer (some ⟨b9, 0, none⟩))))] (pAgg [(pEq (.slice g7.1.1 g7.1.2.1 g7.1.2.2)), (pEq (.slice g29.1.1 g29.1.2.1 g29.1.2.2))]) true, Ent.mk [(8, (pSl 1 (cK .i64) x30))] (pSl 1 (cK .i64) x30) true, Ent.mk [(40, (pSl 1 (cK .i64) x30))] (pPtr ((cK .i64) x33)) true, Ent.mk [(41, (pPtr ((cK .i64) x33)))] (pEq (.int .i64 x33)) true, Ent.mk [(39, (pAgg [(pEq (.slice g7.1.1 g7.1.2.1 g7.1.2.2)), (pEq (.slice g29.1.1 g29.1.2.1 g29.1.2.2))])), (42, (pEq (.int .i64 x33)))] (pEq (.bool x34)) true, Ent.mk [(43, (pEq (.bool x34)))] (pEq (.bool (!x34))) true, Ent.mk [(38, (pEq (.bool ((x30.length : Int) != (3 : Int))))), (44, (pEq (.bool (!x34))))] (pEq (.bool (!x34))) true, Ent.mk [(45, (pEq (.bool (!x34))))] (pEq (.bool (!x34))) true, Ent.mk [(6, (pEq (.pointer (some ⟨b9, 0, none⟩))))] (pAgg [(pEq (.slice g7.1.1 g7.1.2.1 g7.1.2.2)), (pEq (.slice g29.1.1 g29.1.2.1 g29.1.2.2))]) true, Ent.mk [(8, (pSl 1 (cK .i64) x30))] (pSl 1 (cK .i64) x30) true, Ent.mk [(48, (pSl 1 (cK .i64) x30))] (pPtr ((cK .i64) x36)) true, Ent.mk [(49, (pPtr ((cK .i64) x36)))] (pEq (.int .i64 x36)) true, Ent.mk [(47, (pAgg [(pEq (.slice g7.1.1 g7.1.2.1 g7.1.2.2)), (pEq (.slice g29.1.1 g29.1.2.1 g29.1.2.2))])), (50, (pEq (.int .i64 x36)))] (pEq (.bool x37)) true, Ent.mk [(51, (pEq (.bool x37)))] (pEq (.bool (!x37))) true, Ent.mk [(46, (pEq (.bool (!x34)))), (52, (pEq (.bool (!x37))))] (pEq (.bool (!x37))) true, Ent.mk [(53, (pEq (.bool (!x37))))] (pEq (.bool (!x37))) true, Ent.mk [(8, (pSl 1 (cK .i64) x30))] (pEq undef) false, Ent.mk [(55, (pEq undef))] (pEq undef) false, Ent.mk [(56, (pEq undef))] (pEq undef) false, Ent.mk [(8, (pSl 1 (cK .i64) x30))] (pEq undef) false, Ent.mk [(58, (pEq undef))] (pEq undef) false, Ent.mk [(59, (pEq undef))] (pEq undef) false, Ent.mk [(57, (pEq undef)), (60, (pEq undef))] (pEq undef) false, Ent.mk [(54, (pEq (.bool (!x37)))), (61, (pEq undef))] (pEq (.bool true)) true, Ent.mk [(62, (pEq (.bool true)))] (pEq (.bool true)) true, Ent.mk [(8, (pSl 1 (cK .i64) x30))] (pEq undef) false, Ent.mk [(64, (pEq undef))] (pEq undef) false, Ent.mk [(65, (pEq undef))] (pEq undef) false, Ent.mk [(66, (pEq undef))] (pEq undef) false, Ent.mk [(67, (pEq undef))] (pEq undef) false, Ent.mk [(63, (pEq (.bool true))), (68, (pEq undef))] (pEq (.bool true)) true]) (done := []) hD ⟨.inr ⟨(OpJ.w (J_move rfl (Opd.tmp rfl))), ⟨rfl, trivial⟩, rfl, rfl⟩, ⟨.inr ⟨(OpJ.w (J_len rfl Try.underlying22 (Opd.tmp rfl) rfl)), ⟨rfl, trivial⟩, rfl, rfl⟩, ⟨.inr ⟨(OpJ.w (J_bin rfl (Opd.tmp rfl) Opd.con B_neq)), ⟨rfl, trivial⟩, rfl, rfl⟩, ⟨.inr ⟨(OpJ.w (J_move rfl (Opd.tmp rfl))), ⟨rfl, trivial⟩, rfl, rfl⟩, ⟨.inr ⟨(W_loadA (i := 1) rfl Try.isAgg32 sz32 (Opd.tmp rfl) rfl rfl), ⟨rfl, trivial⟩, (.inl ⟨_, rfl, by simp [hc32]⟩), rfl⟩, ⟨.inr ⟨(OpJ.w (J_move rfl (Opd.tmp rfl))), ⟨rfl, trivial⟩, (.inl ⟨_, rfl, by simp [hc32]⟩), rfl⟩, ⟨.inr ⟨(OpJ.w (J_idx rfl Try.underlying22 sz2 (Opd.tmp rfl) Opd.con hx33)), ⟨rfl, trivial⟩, (.inl ⟨_, rfl, by simp [hc32]⟩), rfl⟩, ⟨.inr ⟨(OpJ.w (J_load rfl Try.isAgg2 (Opd.tmp rfl))), ⟨rfl, trivial⟩, (.inl ⟨_, rfl, by simp [hc32]⟩), rfl⟩, ⟨.inr ⟨(W_call rfl Try.call66 (c_impl_Problem_hasItem hx34) (OpdsA.cons (OpdA.conv rfl (Conv.agg (Convs.cons (Conv.nest 2 (fun _ => rfl) rfl) (Convs.cons (Conv.nest 0 (fun _ => rfl) rfl) Convs.nil)))) (OpdsA.cons (OpdA.of (Opd.tmp rfl)) OpdsA.nil)) FreeP.eq), ⟨rfl, rfl, trivial⟩, (.inl ⟨_, rfl, by simp [hc32]⟩), rfl⟩, ⟨.inr ⟨(OpJ.w (J_not rfl (Opd.tmp rfl))), ⟨rfl, trivial⟩, (.inl ⟨_, rfl, by simp [hc32]⟩), rfl⟩, ⟨.inr ⟨(OpJ.w (J_pick rfl (Opd.tmp rfl) (fun hf => absurd (hc32.symm.trans hf) (by decide)) (fun _ => (Opd.tmp rfl)))), ⟨rfl, rfl, trivial⟩, rfl, rfl⟩, ⟨.inr ⟨(OpJ.w (J_move rfl (Opd.tmp rfl))), ⟨rfl, trivial⟩, rfl, rfl⟩, ⟨.inr ⟨(W_loadA (i := 1) rfl Try.isAgg32 sz32 (Opd.tmp rfl) rfl rfl), ⟨rfl, trivial⟩, (.inl ⟨_, rfl, by simp [hc35]⟩), rfl⟩, ⟨.inr ⟨(OpJ.w (J_move rfl (Opd.tmp rfl))), ⟨rfl, trivial⟩, (.inl ⟨_, rfl, by simp [hc35]⟩), rfl⟩, ⟨.inr ⟨(OpJ.w (J_idx rfl Try.underlying22 sz2 (Opd.tmp rfl) Opd.con hx36)), ⟨rfl, trivial⟩, (.inl ⟨_, rfl, by simp [hc35]⟩), rfl⟩, ⟨.inr ⟨(OpJ.w (J_load rfl Try.isAgg2 (Opd.tmp rfl))), ⟨rfl, trivial⟩, (.inl ⟨_, rfl, by simp [hc35]⟩), rfl⟩, ⟨.inr ⟨(W_call rfl Try.call66 (c_impl_Problem_hasItem hx37) (OpdsA.cons (OpdA.conv rfl (Conv.agg (Convs.cons (Conv.nest 2 (fun _ => rfl) rfl) (Convs.cons (Conv.nest 0 (fun _ => rfl) rfl) Convs.nil)))) (OpdsA.cons (OpdA.of (Opd.tmp rfl)) OpdsA.nil)) FreeP.eq), ⟨rfl, rfl, trivial⟩, (.inl ⟨_, rfl, by simp [hc35]⟩), rfl⟩, ⟨.inr ⟨(OpJ.w (J_not rfl (Opd.tmp rfl))), ⟨rfl, trivial⟩, (.inl ⟨_, rfl, by simp [hc35]⟩), rfl⟩, ⟨.inr ⟨(OpJ.w (J_pick rfl (Opd.tmp rfl) (fun hf => absurd (hc35.symm.trans hf) (by decide)) (fun _ => (Opd.tmp rfl)))), ⟨rfl, rfl, trivial⟩, rfl, rfl⟩, ⟨.inr ⟨(OpJ.w (J_move rfl (Opd.tmp rfl))), ⟨rfl, trivial⟩, rfl, rfl⟩, ⟨.inr ⟨rfl, ⟨rfl, trivial⟩, (.inl ⟨_, rfl, by simp [hc38]⟩), rfl⟩, ⟨.inr ⟨rfl, ⟨rfl, trivial⟩, (.inl ⟨_, rfl, by simp [hc38]⟩), rfl⟩, ⟨.inr ⟨rfl, ⟨rfl, trivial⟩, (.inl ⟨_, rfl, by simp [hc38]⟩), rfl⟩, ⟨.inr ⟨rfl, ⟨rfl, trivial⟩, (.inl ⟨_, rfl, by simp [hc38]⟩), rfl⟩, ⟨.inr ⟨rfl, ⟨rfl, trivial⟩, (.inl ⟨_, rfl, by simp [hc38]⟩), rfl⟩, ⟨.inr ⟨rfl, ⟨rfl, trivial⟩, (.inl ⟨_, rfl, by simp [hc38]⟩), rfl⟩, ⟨.inr ⟨rfl, ⟨rfl, rfl, trivial⟩, (.inl ⟨_, rfl, by simp [hc38]⟩), rfl⟩, ⟨.inr ⟨(OpJ.w (J_pick rfl (Opd.tmp rfl) (fun _ => Opd.con) (fun hf => absurd (hc38.symm.trans hf) (by decide)))), ⟨rfl, rfl, trivial⟩, rfl, rfl⟩, ⟨.inr ⟨(OpJ.w (J_move rfl (Opd.tmp rfl))), ⟨rfl, trivial⟩, rfl, rfl⟩, ⟨.inr ⟨rfl, ⟨rfl, trivial⟩, (.inl ⟨_, rfl, rfl⟩), rfl⟩, ⟨.inr ⟨rfl, ⟨rfl, trivial⟩, (.inl ⟨_, rfl, rfl⟩), rfl⟩, ⟨.inr ⟨rfl, ⟨rfl, trivial⟩, (.inl ⟨_, rfl, rfl⟩), rfl⟩, ⟨.inr ⟨rfl, ⟨rfl, trivial⟩, (.inl ⟨_, rfl, rfl⟩), rfl⟩, ⟨.inr ⟨rfl, ⟨rfl, trivial⟩, (.inl ⟨_, rfl, rfl⟩), rfl⟩, ⟨.inr ⟨(OpJ.w (J_pick rfl (Opd.tmp rfl) (fun _ => Opd.con) (fun hf => absurd hf (by decide)))), ⟨rfl, rfl, trivial⟩, rfl, rfl⟩, trivial⟩⟩⟩⟩⟩⟩⟩⟩⟩⟩⟩⟩⟩⟩⟩⟩⟩⟩⟩⟩⟩⟩⟩⟩⟩⟩⟩⟩⟩⟩⟩⟩⟩⟩⟩ ?_
                refine RegL.nil ?_
                replace h := Option.some.inj h; subst h
                exact Ct.mid () rfl ⟨rfl, rfl, rfl, rfl, rfl, rfl, rfl, trivial⟩
              · replace h := bif_f hc38 h
                replace h := bind_some h; obtain ⟨x39, hx39, h⟩ := h
                replace h := bind_some h; obtain ⟨x40, hx40, h⟩ := h
                rcases Bool.eq_false_or_eq_true (x39 == x40) with hc41 | hc41
                · replace h := bif_t hc41 h
                  refine Tr.drawD (n := 84) (m := 35) (es := [some (Ent.mk [(8, (pSl 1 (cK .i64) x30))] (pSl 1 (cK .i64) x30) true), some (Ent.mk [(35, (pSl 1 (cK .i64) x30))] (pEq (.int .i64 (x30.length : Int))) true), some (Ent.mk [(36, (pEq (.int .i64 (x30.length : Int))))] (pEq (.bool ((x30.length : Int) != (3 : Int)))) true), some (Ent.mk [(37, (pEq (.bool ((x30.length : Int) != (3 : Int)))))] (pEq (.bool ((x30.length : Int) != (3 : Int)))) true), some (Ent.mk [(6, (pEq (.pointer (some ⟨b9, 0, none⟩))))] (pAgg [(pEq (.slice g7.1.1 g7.1.2.1 g7.1.2.2)), (pEq (.slice g29.1.1 g29.1.2.1 g29.1.2.2))]) true), some (Ent.mk [(8, (pSl 1 (cK .i64) x30))] (pSl 1 (cK .i64) x30) true), some (Ent.mk [(40, (pSl 1 (cK .i64) x30))] (pPtr ((cK .i64) x33)) true), some (Ent.mk [(41, (pPtr ((cK .i64) x33)))] (pEq (.int .i64 x33)) true), some (Ent.mk [(39, (pAgg [(pEq (.slice g7.1.1 g7.1.2.1 g7.1.2.2)), (pEq (.slice g29.1.1 g29.1.2.1 g29.1.2.2))])), (42, (pEq (.int .i64 x33)))] (pEq (.bool x34)) true), some (Ent.mk [(43, (pEq (.bool x34)))] (pEq (.bool (!x34))) true), some (Ent.mk [(38, (pEq (.bool ((x30.length : Int) != (3 : Int))))), (44, (pEq (.bool (!x34))))] (pEq (.bool (!x34))) true), some (Ent.mk [(45, (pEq (.bool (!x34))))] (pEq (.bool (!x34))) true), some (Ent.mk [(6, (pEq (.pointer (some ⟨b9, 0, none⟩))))] (pAgg [(pEq (.slice g7.1.1 g7.1.2.1 g7.1.2.2)), (pEq (.slice g29.1.1 g29.1.2.1 g29.1.2.2))]) true), some (Ent.mk [(8, (pSl 1 (cK .i64) x30))] (pSl 1 (cK .i64) x30) true), some (Ent.mk [(48, (pSl 1 (cK .i64) x30))] (pPtr ((cK .i64) x36)) true), some (Ent.mk [(49, (pPtr ((cK .i64) x36)))] (pEq (.int .i64 x36)) true), some (Ent.mk [(47, (pAgg [(pEq (.slice g7.1.1 g7.1.2.1 g7.1.2.2)), (pEq (.slice g29.1.1 g29.1.2.1 g29.1.2.2))])), (50, (pEq (.int .i64 x36)))] (pEq (.bool x37)) true), some (Ent.mk [(51, (pEq (.bool x37)))] (pEq (.bool (!x37))) true), some (Ent.mk [(46, (pEq (.bool (!x34)))), (52, (pEq (.bool (!x37))))] (pEq (.bool (!x37))) true), some (Ent.mk [(53, (pEq (.bool (!x37))))] (pEq (.bool (!x37))) true), some (Ent.mk [(8, (pSl 1 (cK .i64) x30))] (pSl 1 (cK .i64) x30) true), some (Ent.mk [(55, (pSl 1 (cK .i64) x30))] (pPtr ((cK .i64) x39)) true), some (Ent.mk [(56, (pPtr ((cK .i64) x39)))] (pEq (.int .i64 x39)) true), some (Ent.mk [(8, (pSl 1 (cK .i64) x30))] (pSl 1 (cK .i64) x30) true), some (Ent.mk [(58, (pSl 1 (cK .i64) x30))] (pPtr ((cK .i64) x40)) true), some (Ent.mk [(59, (pPtr ((cK .i64) x40)))] (pEq (.int .i64 x40)) true), some (Ent.mk [(57, (pEq (.int .i64 x39))), (60, (pEq (.int .i64 x40)))] (pEq (.bool (x39 == x40))) true), some (Ent.mk [(54, (pEq (.bool (!x37)))), (61, (pEq (.bool (x39 == x40))))] (pEq (.bool (x39 == x40))) true), some (Ent.mk [(62, (pEq (.bool (x39 == x40))))] (pEq (.bool (x39 == x40))) true), some (Ent.mk [(8, (pSl 1 (cK .i64) x30))] (pEq undef) false), some (Ent.mk [(64, (pEq undef))] (pEq undef) false), some (Ent.mk [(65, (pEq undef))] (pEq undef) false), some (Ent.mk [(66, (pEq undef))] (pEq undef) false), some (Ent.mk [(67, (pEq undef))] (pEq undef) false), some (Ent.mk [(63, (pEq (.bool (x39 == x40)))), (68, (pEq undef))] (pEq (.bool true)) true)]) (rd := [[8], [35], [36], [37], [6], [8], [40], [41], [39, 42], [43], [38, 44], [45], [6], [8], [48], [49], [47, 50], [51], [46, 52], [53], [8], [55], [56], [8], [58], [59], [57, 60], [54, 61], [62], [8], [64], [65], [66], [67], [63, 68]]) rfl hmix (by kernel_rfl) fun hD => ?_
                  refine RD.fin (es := [Ent.mk [(8, (pSl 1 (cK .i64) x30))] (pSl 1 (cK .i64) x30) true, Ent.mk [(35, (pSl 1 (cK .i64) x30))] (pEq (.int .i64 (x30.length : Int))) true, Ent.mk [(36, (pEq (.int .i64 (x30.length : Int))))] (pEq (.bool ((x30.length : Int) != (3 : Int)))) true, Ent.mk [(37, (pEq (.bool ((x30.length : Int) != (3 : Int)))))] (pEq (.bool ((x30.length : Int) != (3 : Int)))) true, Ent.mk [(6, (pEq (.pointer (some ⟨b9, 0, none⟩))))] (pAgg [(pEq (.slice g7.1.1 g7.1.2.1 g7.1.2.2)), (pEq (.slice g29.1.1 g29.1.2.1 g29.1.2.2))]) true, Ent.mk [(8, (pSl 1 (cK .i64) x30))] (pSl 1 (cK .i64) x30) true, Ent.mk [(40, (pSl 1 (cK .i64) x30))] (pPtr ((cK .i64) x33)) true, Ent.mk [(41, (pPtr ((cK .i64) x33)))] (pEq (.int .i64 x33)) true, Ent.mk [(39, (pAgg [(pEq (.slice g7.1.1 g7.1.2.1 g7.1.2.2)), (pEq (.slice g29.1.1 g29.1.2.1 g29.1.2.2))])), (42, (pEq (.int .i64 x33)))] (pEq (.bool x34)) true, Ent.mk [(43, (pEq (.bool x34)))] (pEq (.bool (!x34))) true, Ent.mk [(38, (pEq (.bool ((x30.length : Int) != (3 : Int))))), (44, (pEq (.bool (!x34))))] (pEq (.bool (!x34))) true, Ent.mk [(45, (pEq (.bool (!x34))))] (pEq (.bool (!x34))) true, Ent.mk [(6, (pEq (.pointer (some ⟨b9, 0, none⟩))))] (pAgg [(pEq (.slice g7.1.1 g7.1.2.1 g7.1.2.2)), (pEq (.slice g29.1.1 g29.1.2.1 g29.1.2.2))]) true, Ent.mk [(8, (pSl 1 (cK .i64) x30))] (pSl 1 (cK .i64) x30) true, Ent.mk [(48, (pSl 1 (cK .i64) x30))] (pPtr ((cK .i64) x36)) true, Ent.mk [(49, (pPtr ((cK .i64) x36)))] (pEq (.int .i64 x36)) true, Ent.mk [(47, (pAgg [(pEq (.slice g7.1.1 g7.1.2.1 g7.1.2.2)), (pEq (.slice g29.1.1 g29.1.2.1 g29.1.2.2))])), (50, (pEq (.int .i64 x36)))] (pEq (.bool x37)) true, Ent.mk [(51, (pEq (.bool x37)))] (pEq (.bool (!x37))) true, Ent.mk [(46, (pEq (.bool (!x34)))), (52, (pEq (.bool (!x37))))] (pEq (.bool (!x37))) true, Ent.mk [(53, (pEq (.bool (!x37))))] (pEq (.bool (!x37))) true, Ent.mk [(8, (pSl 1 (cK .i64) x30))] (pSl 1 (cK .i64) x30) true, Ent.mk [(55, (pSl 1 (cK .i64) x30))] (pPtr ((cK .i64) x39)) true, Ent.mk [(56, (pPtr ((cK .i64) x39)))] (pEq (.int .i64 x39)) true, Ent.mk [(8, (pSl 1 (cK .i64) x30))] (pSl 1 (cK .i64) x30) true, Ent.mk [(58, (pSl 1 (cK .i64) x30))] (pPtr ((cK .i64) x40)) true, Ent.mk [(59, (pPtr ((cK .i64) x40)))] (pEq (.int .i64 x40)) true, Ent.mk [(57, (pEq (.int .i64 x39))), (60, (pEq (.int .i64 x40)))] (pEq (.bool (x39 == x40))) true, Ent.mk [(54, (pEq (.bool (!x37)))), (61, (pEq (.bool (x39 == x40))))] (pEq (.bool (x39 == x40))) true, Ent.mk [(62, (pEq (.bool (x39 == x40))))] (pEq (.bool (x39 == x40))) true, Ent.mk [(8, (pSl 1 (cK .i64) x30))] (pEq undef) false, Ent.mk [(64, (pEq undef))] (pEq undef) false, Ent.mk [(65, (pEq undef))] (pEq undef) false, Ent.mk [(66, (pEq undef))] (pEq undef) false, Ent.mk [(67, (pEq undef))] (pEq undef) false, Ent.mk [(63, (pEq (.bool (x39 == x40)))), (68, (pEq undef))] (pEq (.bool true)) true]) (done := []) hD ⟨.inr ⟨(OpJ.w (J_move rfl (Opd.tmp rfl))), ⟨rfl, trivial⟩, rfl, rfl⟩, ⟨.inr ⟨(OpJ.w (J_len rfl Try.underlying22 (Opd.tmp rfl) rfl)), ⟨rfl, trivial⟩, rfl, rfl⟩, ⟨.inr ⟨(OpJ.w (J_bin rfl (Opd.tmp rfl) Opd.con B_neq)), ⟨rfl, trivial⟩, rfl, rfl⟩, ⟨.inr ⟨(OpJ.w (J_move rfl (Opd.tmp rfl))), ⟨rfl, trivial⟩, rfl, rfl⟩, ⟨.inr ⟨(W_loadA (i := 1) rfl Try.isAgg32 sz32 (Opd.tmp rfl) rfl rfl), ⟨rfl, trivial⟩, (.inl ⟨_, rfl, by simp [hc32]⟩), rfl⟩, ⟨.inr ⟨(OpJ.w (J_move rfl (Opd.tmp rfl))), ⟨rfl, trivial⟩, (.inl ⟨_, rfl, by simp [hc32]⟩), rfl⟩, ⟨.inr ⟨(OpJ.w (J_idx rfl Try.underlying22 sz2 (Opd.tmp rfl) Opd.con hx33)), ⟨rfl, trivial⟩, (.inl ⟨_, rfl, by simp [hc32]⟩), rfl⟩, ⟨.inr ⟨(OpJ.w (J_load rfl Try.isAgg2 (Opd.tmp rfl))), ⟨rfl, trivial⟩, (.inl ⟨_, rfl, by simp [hc32]⟩), rfl⟩, ⟨.inr ⟨(W_call rfl Try.call66 (c_impl_Problem_hasItem hx34) (OpdsA.cons (OpdA.conv rfl (Conv.agg (Convs.cons (Conv.nest 2 (fun _ => rfl) rfl) (Convs.cons (Conv.nest 0 (fun _ => rfl) rfl) Convs.nil)))) (OpdsA.cons (OpdA.of (Opd.tmp rfl)) OpdsA.nil)) FreeP.eq), ⟨rfl, rfl, trivial⟩, (.inl ⟨_, rfl, by simp [hc32]⟩), rfl⟩, ⟨.inr ⟨(OpJ.w (J_not rfl (Opd.tmp rfl))), ⟨rfl, trivial⟩, (.inl ⟨_, rfl, by simp [hc32]⟩), rfl⟩, ⟨.inr ⟨(OpJ.w (J_pick rfl (Opd.tmp rfl) (fun hf => absurd (hc32.symm.trans hf) (by decide)) (fun _ => (Opd.tmp rfl)))), ⟨rfl, rfl, trivial⟩, rfl, rfl⟩, ⟨.inr ⟨(OpJ.w (J_move rfl (Opd.tmp rfl))), ⟨rfl, trivial⟩, rfl, rfl⟩, ⟨.inr ⟨(W_loadA (i := 1) rfl Try.isAgg32 sz32 (Opd.tmp rfl) rfl rfl), ⟨rfl, trivial⟩, (.inl ⟨_, rfl, by simp [hc35]⟩), rfl⟩, ⟨.inr ⟨(OpJ.w (J_move rfl (Opd.tmp rfl))), ⟨rfl, trivial⟩, (.inl ⟨_, rfl, by simp [hc35]⟩), rfl⟩, ⟨.inr ⟨(OpJ.w (J_idx rfl Try.underlying22 sz2 (Opd.tmp rfl) Opd.con hx36)), ⟨rfl, trivial⟩, (.inl ⟨_, rfl, by simp [hc35]⟩), rfl⟩, ⟨.inr ⟨(OpJ.w (J_load rfl Try.isAgg2 (Opd.tmp rfl))), ⟨rfl, trivial⟩, (.inl ⟨_, rfl, by simp [hc35]⟩), rfl⟩, ⟨.inr ⟨(W_call rfl Try.call66 (c_impl_Problem_hasItem hx37) (OpdsA.cons (OpdA.conv rfl (Conv.agg (Convs.cons (Conv.nest 2 (fun _ => rfl) rfl) (Convs.cons (Conv.nest 0 (fun _ => rfl) rfl) Convs.nil)))) (OpdsA.cons (OpdA.of (Opd.tmp rfl)) OpdsA.nil)) FreeP.eq), ⟨rfl, rfl, trivial⟩, (.inl ⟨_, rfl, by simp [hc35]⟩), rfl⟩, ⟨.inr ⟨(OpJ.w (J_not rfl (Opd.tmp rfl))), ⟨rfl, trivial⟩, (.inl ⟨_, rfl, by simp [hc35]⟩), rfl⟩, ⟨.inr ⟨(OpJ.w (J_pick rfl (Opd.tmp rfl) (fun hf => absurd (hc35.symm.trans hf) (by decide)) (fun _ => (Opd.tmp rfl)))), ⟨rfl, rfl, trivial⟩, rfl, rfl⟩, ⟨.inr ⟨(OpJ.w (J_move rfl (Opd.tmp rfl))), ⟨rfl, trivial⟩, rfl, rfl⟩, ⟨.inr ⟨(OpJ.w (J_move rfl (Opd.tmp rfl))), ⟨rfl, trivial⟩, (.inl ⟨_, rfl, by simp [hc38]⟩), rfl⟩, ⟨.inr ⟨(OpJ.w (J_idx rfl Try.underlying22 sz2 (Opd.tmp rfl) Opd.con hx39)), ⟨rfl, trivial⟩, (.inl ⟨_, rfl, by simp [hc38]⟩), rfl⟩, ⟨.inr ⟨(OpJ.w (J_load rfl Try.isAgg2 (Opd.tmp rfl))), ⟨rfl, trivial⟩, (.inl ⟨_, rfl, by simp [hc38]⟩), rfl⟩, ⟨.inr ⟨(OpJ.w (J_move rfl (Opd.tmp rfl))), ⟨rfl, trivial⟩, (.inl ⟨_, rfl, by simp [hc38]⟩), rfl⟩, ⟨.inr ⟨(OpJ.w (J_idx rfl Try.underlying22 sz2 (Opd.tmp rfl) Opd.con hx40)), ⟨rfl, trivial⟩, (.inl ⟨_, rfl, by simp [hc38]⟩), rfl⟩, ⟨.inr ⟨(OpJ.w (J_load rfl Try.isAgg2 (Opd.tmp rfl))), ⟨rfl, trivial⟩, (.inl ⟨_, rfl, by simp [hc38]⟩), rfl⟩, ⟨.inr ⟨(OpJ.w (J_bin rfl (Opd.tmp rfl) (Opd.tmp rfl) B_eql)), ⟨rfl, rfl, trivial⟩, (.inl ⟨_, rfl, by simp [hc38]⟩), rfl⟩, ⟨.inr ⟨(OpJ.w (J_pick rfl (Opd.tmp rfl) (fun hf => absurd (hc38.symm.trans hf) (by decide)) (fun _ => (Opd.tmp rfl)))), ⟨rfl, rfl, trivial⟩, rfl, rfl⟩, ⟨.inr ⟨(OpJ.w (J_move rfl (Opd.tmp rfl))), ⟨rfl, trivial⟩, rfl, rfl⟩, ⟨.inr ⟨rfl, ⟨rfl, trivial⟩, (.inl ⟨_, rfl, by simp [hc41]⟩), rfl⟩, ⟨.inr ⟨rfl, ⟨rfl, trivial⟩, (.inl ⟨_, rfl, by simp [hc41]⟩), rfl⟩, ⟨.inr ⟨rfl, ⟨rfl, trivial⟩, (.inl ⟨_, rfl, by simp [hc41]⟩), rfl⟩, ⟨.inr ⟨rfl, ⟨rfl, trivial⟩, (.inl ⟨_, rfl, by simp [hc41]⟩), rfl⟩, ⟨.inr ⟨rfl, ⟨rfl, trivial⟩, (.inl ⟨_, rfl, by simp [hc41]⟩), rfl⟩, ⟨.inr ⟨(OpJ.w (J_pick rfl (Opd.tmp rfl) (fun _ => Opd.con) (fun hf => absurd (hc41.symm.trans hf) (by decide)))), ⟨rfl, rfl, trivial⟩, rfl, rfl⟩, trivial⟩⟩⟩⟩⟩⟩⟩⟩⟩⟩⟩⟩⟩⟩⟩⟩⟩⟩⟩⟩⟩⟩⟩⟩⟩⟩⟩⟩⟩⟩⟩⟩⟩⟩⟩ ?_
                  refine RegL.nil ?_
                  replace h := Option.some.inj h; subst h
                  exact Ct.mid () rfl ⟨rfl, rfl, rfl, rfl, rfl, rfl, rfl, trivial⟩
                · replace h := bif_f hc41 h
                  replace h := bind_some h; obtain ⟨x42, hx42, h⟩ := h
                  replace h := bind_some h; obtain ⟨x43, hx43, h⟩ := h
                  refine Tr.drawD (n := 84) (m := 35) (es := [some (Ent.mk [(8, (pSl 1 (cK .i64) x30))] (pSl 1 (cK .i64) x30) true), some (Ent.mk [(35, (pSl 1 (cK .i64) x30))] (pEq (.int .i64 (x30.length : Int))) true), some (Ent.mk [(36, (pEq (.int .i64 (x30.length : Int))))] (pEq (.bool ((x30.length : Int) != (3 : Int)))) true), some (Ent.mk [(37, (pEq (.bool ((x30.length : Int) != (3 : Int)))))] (pEq (.bool ((x30.length : Int) != (3 : Int)))) true), some (Ent.mk [(6, (pEq (.pointer (some ⟨b9, 0, none⟩))))] (pAgg [(pEq (.slice g7.1.1 g7.1.2.1 g7.1.2.2)), (pEq (.slice g29.1.1 g29.1.2.1 g29.1.2.2))]) true), some (Ent.mk [(8, (pSl 1 (cK .i64) x30))] (pSl 1 (cK .i64) x30) true), some (Ent.mk [(40, (pSl 1 (cK .i64) x30))] (pPtr ((cK .i64) x33)) true), some (Ent.mk [(41, (pPtr ((cK .i64) x33)))] (pEq (.int .i64 x33)) true), some (Ent.mk [(39, (pAgg [(pEq (.slice g7.1.1 g7.1.2.1 g7.1.2.2)), (pEq (.slice g29.1.1 g29.1.2.1 g29.1.2.2))])), (42, (pEq (.int .i64 x33)))] (pEq (.bool x34)) true), some (Ent.mk [(43, (pEq (.bool x34)))] (pEq (.bool (!x34))) true), some (Ent.mk [(38, (pEq (.bool ((x30.length : Int) != (3 : Int))))), (44, (pEq (.bool (!x34))))] (pEq (.bool (!x34))) true), some (Ent.mk [(45, (pEq (.bool (!x34))))] (pEq (.bool (!x34))) true), some (Ent.mk [(6, (pEq (.pointer (some ⟨b9, 0, none⟩))))] (pAgg [(pEq (.slice g7.1.1 g7.1.2.1 g7.1.2.2)), (pEq (.slice g29.1.1 g29.1.2.1 g29.1.2.2))]) true), some (Ent.mk [(8, (pSl 1 (cK .i64) x30))] (pSl 1 (cK .i64) x30) true), some (Ent.mk [(48, (pSl 1 (cK .i64) x30))] (pPtr ((cK .i64) x36)) true), some (Ent.mk [(49, (pPtr ((cK .i64) x36)))] (pEq (.int .i64 x36)) true), some (Ent.mk [(47, (pAgg [(pEq (.slice g7.1.1 g7.1.2.1 g7.1.2.2)), (pEq (.slice g29.1.1 g29.1.2.1 g29.1.2.2))])), (50, (pEq (.int .i64 x36)))] (pEq (.bool x37)) true), some (Ent.mk [(51, (pEq (.bool x37)))] (pEq (.bool (!x37))) true), some (Ent.mk [(46, (pEq (.bool (!x34)))), (52, (pEq (.bool (!x37))))] (pEq (.bool (!x37))) true), some (Ent.mk [(53, (pEq (.bool (!x37))))] (pEq (.bool (!x37))) true), some (Ent.mk [(8, (pSl 1 (cK .i64) x30))] (pSl 1 (cK .i64) x30) true), some (Ent.mk [(55, (pSl 1 (cK .i64) x30))] (pPtr ((cK .i64) x39)) true), some (Ent.mk [(56, (pPtr ((cK .i64) x39)))] (pEq (.int .i64 x39)) true), some (Ent.mk [(8, (pSl 1 (cK .i64) x30))] (pSl 1 (cK .i64) x30) true), some (Ent.mk [(58, (pSl 1 (cK .i64) x30))] (pPtr ((cK .i64) x40)) true), some (Ent.mk [(59, (pPtr ((cK .i64) x40)))] (pEq (.int .i64 x40)) true), some (Ent.mk [(57, (pEq (.int .i64 x39))), (60, (pEq (.int .i64 x40)))] (pEq (.bool (x39 == x40))) true), some (Ent.mk [(54, (pEq (.bool (!x37)))), (61, (pEq (.bool (x39 == x40))))] (pEq (.bool (x39 == x40))) true), some (Ent.mk [(62, (pEq (.bool (x39 == x40))))] (pEq (.bool (x39 == x40))) true), some (Ent.mk [(8, (pSl 1 (cK .i64) x30))] (pSl 1 (cK .i64) x30) true), some (Ent.mk [(64, (pSl 1 (cK .i64) x30))] (pPtr ((cK .i64) x42)) true), some (Ent.mk [(65, (pPtr ((cK .i64) x42)))] (pEq (.int .i64 x42)) true), some (Ent.mk [(66, (pEq (.int .i64 x42)))] (pEq (.bool x43)) true), some (Ent.mk [(67, (pEq (.bool x43)))] (pEq (.bool (!x43))) true), some (Ent.mk [(63, (pEq (.bool (x39 == x40)))), (68, (pEq (.bool (!x43))))] (pEq (.bool (!x43))) true)]) (rd := [[8], [35], [36], [37], [6], [8], [40], [41], [39, 42], [43], [38, 44], [45], [6], [8], [48], [49], [47, 50], [51], [46, 52], [53], [8], [55], [56], [8], [58], [59], [57, 60], [54, 61], [62], [8], [64], [65], [66], [67], [63, 68]]) rfl hmix (by kernel_rfl) fun hD => ?_
                  refine RD.fin (es := [Ent.mk [(8, (pSl 1 (cK .i64) x30))] (pSl 1 (cK .i64) x30) true, Ent.mk [(35, (pSl 1 (cK .i64) x30))] (pEq (.int .i64 (x30.length : Int))) true, Ent.mk [(36, (pEq (.int .i64 (x30.length : Int))))] (pEq (.bool ((x30.length : Int) != (3 : Int)))) true, Ent.mk [(37, (pEq (.bool ((x30.length : Int) != (3 : Int)))))] (pEq (.bool ((x30.length : Int) != (3 : Int)))) true, Ent.mk [(6, (pEq (.pointer (some ⟨b9, 0, none⟩))))] (pAgg [(pEq (.slice g7.1.1 g7.1.2.1 g7.1.2.2)), (pEq (.slice g29.1.1 g29.1.2.1 g29.1.2.2))]) true, Ent.mk [(8, (pSl 1 (cK .i64) x30))] (pSl 1 (cK .i64) x30) true, Ent.mk [(40, (pSl 1 (cK .i64) x30))] (pPtr ((cK .i64) x33)) true, Ent.mk [(41, (pPtr ((cK .i64) x33)))] (pEq (.int .i64 x33)) true, Ent.mk [(39, (pAgg [(pEq (.slice g7.1.1 g7.1.2.1 g7.1.2.2)), (pEq (.slice g29.1.1 g29.1.2.1 g29.1.2.2))])), (42, (pEq (.int .i64 x33)))] (pEq (.bool x34)) true, Ent.mk [(43, (pEq (.bool x34)))] (pEq (.bool (!x34))) true, Ent.mk [(38, (pEq (.bool ((x30.length : Int) != (3 : Int))))), (44, (pEq (.bool (!x34))))] (pEq (.bool (!x34))) true, Ent.mk [(45, (pEq (.bool (!x34))))] (pEq (.bool (!x34))) true, Ent.mk [(6, (pEq (.pointer (some ⟨b9, 0, none⟩))))] (pAgg [(pEq (.slice g7.1.1 g7.1.2.1 g7.1.2.2)), (pEq (.slice g29.1.1 g29.1.2.1 g29.1.2.2))]) true, Ent.mk [(8, (pSl 1 (cK .i64) x30))] (pSl 1 (cK .i64) x30) true, Ent.mk [(48, (pSl 1 (cK .i64) x30))] (pPtr ((cK .i64) x36)) true, Ent.mk [(49, (pPtr ((cK .i64) x36)))] (pEq (.int .i64 x36)) true, Ent.mk [(47, (pAgg [(pEq (.slice g7.1.1 g7.1.2.1 g7.1.2.2)), (pEq (.slice g29.1.1 g29.1.2.1 g29.1.2.2))])), (50, (pEq (.int .i64 x36)))] (pEq (.bool x37)) true, Ent.mk [(51, (pEq (.bool x37)))] (pEq (.bool (!x37))) true, Ent.mk [(46, (pEq (.bool (!x34)))), (52, (pEq (.bool (!x37))))] (pEq (.bool (!x37))) true, Ent.mk [(53, (pEq (.bool (!x37))))] (pEq (.bool (!x37))) true, Ent.mk [(8, (pSl 1 (cK .i64) x30))] (pSl 1 (cK .i64) x30) true, Ent.mk [(55, (pSl 1 (cK .i64) x30))] (pPtr ((cK .i64) x39)) true, Ent.mk [(56, (pPtr ((cK .i64) x39)))] (pEq (.int .i64 x39)) true, Ent.mk [(8, (pSl 1 (cK .i64) x30))] (pSl 1 (cK .i64) x30) true, Ent.mk [(58, (pSl 1 (cK .i64) x30))] (pPtr ((cK .i64) x40)) true, Ent.mk [(59, (pPtr ((cK .i64) x40)))] (pEq (.int .i64 x40)) true, Ent.mk [(57, (pEq (.int .i64 x39))), (60, (pEq (.int .i64 x40)))] (pEq (.bool (x39 == x40))) true, Ent.mk [(54, (pEq (.bool (!x37)))), (61, (pEq (.bool (x39 == x40))))] (pEq (.bool (x39 == x40))) true, Ent.mk [(62, (pEq (.bool (x39 == x40))))] (pEq (.bool (x39 == x40))) true, Ent.mk [(8, (pSl 1 (cK .i64) x30))] (pSl 1 (cK .i64) x30) true, Ent.mk [(64, (pSl 1 (cK .i64) x30))] (pPtr ((cK .i64) x42)) true, Ent.mk [(65, (pPtr ((cK .i64) x42)))] (pEq (.int .i64 x42)) true, Ent.mk [(66, (pEq (.int .i64 x42)))] (pEq (.bool x43)) true, Ent.mk [(67, (pEq (.bool x43)))] (pEq (.bool (!x43))) true, Ent.mk [(63, (pEq (.bool (x39 == x40)))), (68, (pEq (.bool (!x43))))] (pEq (.bool (!x43))) true]) (done := []) hD ⟨.inr ⟨(OpJ.w (J_move rfl (Opd.tmp rfl))), ⟨rfl, trivial⟩, rfl, rfl⟩, ⟨.inr ⟨(OpJ.w (J_len rfl Try.underlying22 (Opd.tmp rfl) rfl)), ⟨rfl, trivial⟩, rfl, rfl⟩, ⟨.inr ⟨(OpJ.w (J_bin rfl (Opd.tmp rfl) Opd.con B_neq)), ⟨rfl, trivial⟩, rfl, rfl⟩, ⟨.inr ⟨(OpJ.w (J_move rfl (Opd.tmp rfl))), ⟨rfl, trivial⟩, rfl, rfl⟩, ⟨.inr ⟨(W_loadA (i := 1) rfl Try.isAgg32 sz32 (Opd.tmp rfl) rfl rfl), ⟨rfl, trivial⟩, (.inl ⟨_, rfl, by simp [hc32]⟩), rfl⟩, ⟨.inr ⟨(OpJ.w (J_move rfl (Opd.tmp rfl))), ⟨rfl, trivial⟩, (.inl ⟨_, rfl, by simp [hc32]⟩), rfl⟩, ⟨.inr ⟨(OpJ.w (J_idx rfl Try.underlying22 sz2 (Opd.tmp rfl) Opd.con hx33)), ⟨rfl, trivial⟩, (.inl ⟨_, rfl, by simp [hc32]⟩), rfl⟩, ⟨.inr ⟨(OpJ.w (J_load rfl Try.isAgg2 (Opd.tmp rfl))), ⟨rfl, trivial⟩, (.inl ⟨_, rfl, by simp [hc32]⟩), rfl⟩, ⟨.inr ⟨(W_call rfl Try.call66 (c_impl_Problem_hasItem hx34) (OpdsA.cons (OpdA.conv rfl (Conv.agg (Convs.cons (Conv.nest 2 (fun _ => rfl) rfl) (Convs.cons (Conv.nest 0 (fun _ => rfl) rfl) Convs.nil)))) (OpdsA.cons (OpdA.of (Opd.tmp rfl)) OpdsA.nil)) FreeP.eq), ⟨rfl, rfl, trivial⟩, (.inl ⟨_, rfl, by simp [hc32]⟩), rfl⟩, ⟨.inr ⟨(OpJ.w (J_not rfl (Opd.tmp rfl))), ⟨rfl, trivial⟩, (.inl ⟨_, rfl, by simp [hc32]⟩), rfl⟩, ⟨.inr ⟨(OpJ.w (J_pick rfl (Opd.tmp rfl) (fun hf => absurd (hc32.symm.trans hf) (by decide)) (fun _ => (Opd.tmp rfl)))), ⟨rfl, rfl, trivial⟩, rfl, rfl⟩, ⟨.inr ⟨(OpJ.w (J_move rfl (Opd.tmp rfl))), ⟨rfl, trivial⟩, rfl, rfl⟩, ⟨.inr ⟨(W_loadA (i := 1) rfl Try.isAgg32 sz32 (Opd.tmp rfl) rfl rfl), ⟨rfl, trivial⟩, (.inl ⟨_, rfl, by simp [hc35]⟩), rfl⟩, ⟨.inr ⟨(OpJ.w (J_move rfl (Opd.tmp rfl))), ⟨rfl, trivial⟩, (.inl ⟨_, rfl, by simp [hc35]⟩), rfl⟩, ⟨.inr ⟨(OpJ.w (J_idx rfl Try.underlying22 sz2 (Opd.tmp rfl) Opd.con hx36)), ⟨rfl, trivial⟩, (.inl ⟨_, rfl, by simp [hc35]⟩), rfl⟩, ⟨.inr ⟨(OpJ.w (J_load rfl Try.isAgg2 (Opd.tmp rfl))), ⟨rfl, trivial⟩, (.inl ⟨_, rfl, by simp [hc35]⟩), rfl⟩, ⟨.inr ⟨(W_call rfl Try.call66 (c_impl_Problem_hasItem hx37) (OpdsA.cons (OpdA.conv rfl (Conv.agg (Convs.cons (Conv.nest 2 (fun _ => rfl) rfl) (Convs.cons (Conv.nest 0 (fun _ => rfl) rfl) Convs.nil)))) (OpdsA.cons (OpdA.of (Opd.tmp rfl)) OpdsA.nil)) FreeP.eq), ⟨rfl, rfl, trivial⟩, (.inl ⟨_, rfl, by simp [hc35]⟩), rfl⟩, ⟨.inr ⟨(OpJ.w (J_not rfl (Opd.tmp rfl))), ⟨rfl, trivial⟩, (.inl ⟨_, rfl, by simp [hc35]⟩), rfl⟩, ⟨.inr ⟨(OpJ.w (J_pick rfl (Opd.tmp rfl) (fun hf => absurd (hc35.symm.trans hf) (by decide)) (fun _ => (Opd.tmp rfl)))), ⟨rfl, rfl, trivial⟩, rfl, rfl⟩, ⟨.inr ⟨(OpJ.w (J_move rfl (Opd.tmp rfl))), ⟨rfl, trivial⟩, rfl, rfl⟩, ⟨.inr ⟨(OpJ.w (J_move rfl (Opd.tmp rfl))), ⟨rfl, trivial⟩, (.inl ⟨_, rfl, by simp [hc38]⟩), rfl⟩, ⟨.inr ⟨(OpJ.w (J_idx rfl Try.underlying22 sz2 (Opd.tmp rfl) Opd.con hx39)), ⟨rfl, trivial⟩, (.inl ⟨_, rfl, by simp [hc38]⟩), rfl⟩, ⟨.inr ⟨(OpJ.w (J_load rfl Try.isAgg2 (Opd.tmp rfl))), ⟨rfl, trivial⟩, (.inl ⟨_, rfl, by simp [hc38]⟩), rfl⟩, ⟨.inr ⟨(OpJ.w (J_move rfl (Opd.tmp rfl))), ⟨rfl, trivial⟩, (.inl ⟨_, rfl, by simp [hc38]⟩), rfl⟩, ⟨.inr ⟨(OpJ.w (J_idx rfl Try.underlying22 sz2 (Opd.tmp rfl) Opd.con hx40)), ⟨rfl, trivial⟩, (.inl ⟨_, rfl, by simp [hc38]⟩), rfl⟩, ⟨.inr ⟨(OpJ.w (J_load rfl Try.isAgg2 (Opd.tmp rfl))), ⟨rfl, trivial⟩, (.inl ⟨_, rfl, by simp [hc38]⟩), rfl⟩, ⟨.inr ⟨(OpJ.w (J_bin rfl (Opd.tmp rfl) (Opd.tmp rfl) B_eql)), ⟨rfl, rfl, trivial⟩, (.inl ⟨_, rfl, by simp [hc38]⟩), rfl⟩, ⟨.inr ⟨(OpJ.w (J_pick rfl (Opd.tmp rfl) (fun hf => absurd (hc38.symm.trans hf) (by decide)) (fun _ => (Opd.tmp rfl)))), ⟨rfl, rfl, trivial⟩, rfl, rfl⟩, ⟨.inr ⟨(OpJ.w (J_move rfl (Opd.tmp rfl))), ⟨rfl, trivial⟩, rfl, rfl⟩, ⟨.inr ⟨(OpJ.w (J_move rfl (Opd.tmp rfl))), ⟨rfl, trivial⟩, (.inl ⟨_, rfl, by simp [hc41]⟩), rfl⟩, ⟨.inr ⟨(OpJ.w (J_idx rfl Try.underlying22 sz2 (Opd.tmp rfl) Opd.con hx42)), ⟨rfl, trivial⟩, (.inl ⟨_, rfl, by simp [hc41]⟩), rfl⟩, ⟨.inr ⟨(OpJ.w (J_load rfl Try.isAgg2 (Opd.tmp rfl))), ⟨rfl, trivial⟩, (.inl ⟨_, rfl, by simp [hc41]⟩), rfl⟩, ⟨.inr ⟨(OpJ.w (J_call rfl Try.call72 (c_impl_within hx43) (Opds.cons (Opd.tmp rfl) (Opds.cons Opd.con (Opds.cons Opd.con Opds.nil))))), ⟨rfl, trivial⟩, (.inl ⟨_, rfl, by simp [hc41]⟩), rfl⟩, ⟨.inr ⟨(OpJ.w (J_not rfl (Opd.tmp rfl))), ⟨rfl, trivial⟩, (.inl ⟨_, rfl, by simp [hc41]⟩), rfl⟩, ⟨.inr ⟨(OpJ.w (J_pick rfl (Opd.tmp rfl) (fun hf => absurd (hc41.symm.trans hf) (by decide)) (fun _ => (Opd.tmp rfl)))), ⟨rfl, rfl, trivial⟩, rfl, rfl⟩, trivial⟩⟩⟩⟩⟩⟩⟩⟩⟩⟩⟩⟩⟩⟩⟩⟩⟩⟩⟩⟩⟩⟩⟩⟩⟩⟩⟩⟩⟩⟩⟩⟩⟩⟩⟩ ?_
                  refine RegL.nil ?_
                  replace h := Option.some.inj h; subst h
                  exact Ct.mid () rfl ⟨rfl, rfl, rfl, rfl, rfl, rfl, rfl, trivial⟩
        · clear hx31
          refine Ct.then_tr ?_
          refine Tr.weak (Γ' := [(4, (pEq (.pointer (some ⟨b1, 0, none⟩)))), (6, (pEq (.pointer (some ⟨b9, 0, none⟩)))), (8, (pSl 1 (cK .i64) x30)), (29, (pSl 1 (cSl 1 (cK .i64)) a_1)), (30, (pEq (.int .i64 (a_1.length : Int)))), (31, (pEq (.int .i64 v27))), (69, (pEq (.bool x31)))]) ⟨rfl, rfl, rfl, rfl, rfl, rfl, rfl, trivial⟩ ?_
          refine Tr.cond (Opd.tmp rfl) (fun hc => ?_) (fun hc => ?_)
          · replace h := bif_t hc h
            refine Tr.seq ?_
            refine Tr.region ?_
            refine RegL.pure (p := (pAgg [(pEq (.slice none 0 0)), (pEq (.slice none 0 0))])) rfl rfl rfl (J_build (qss := []) rfl bl32 bz32o Parts.nil rfl) ?_
            refine RegL.re (Ω2 := [oBlk b1 [(pEq (.slice none 0 0)), (pEq (.slice none 0 0))], oSS 22 2 1 (cK .i64) g29.1.1 g29.1.2.1 g29.1.2.2 g29.2 v28, oBlk b9 [(pEq (.slice g7.1.1 g7.1.2.1 g7.1.2.2)), (pEq (.slice g29.1.1 g29.1.2.1 g29.1.2.2))], oSS 22 2 1 (cK .i64) g7.1.1 g7.1.2.1 g7.1.2.2 g7.2 x6]) (fun h => SatO.pick 3 h) ?_
            refine RegL.stepN (γ := Unit) (p := fun _ => pAny) (Ω' := fun _ => [oBlk b1 [(pEq (.slice none 0 0)), (pEq (.slice none 0 0))], oSS 22 2 1 (cK .i64) g29.1.1 g29.1.2.1 g29.1.2.2 g29.2 v28, oBlk b9 [(pEq (.slice g7.1.1 g7.1.2.1 g7.1.2.2)), (pEq (.slice g29.1.1 g29.1.2.1 g29.1.2.2))], oSS 22 2 1 (cK .i64) g7.1.1 g7.1.2.1 g7.1.2.2 g7.2 x6]) rfl rfl (M_storeA rfl sz32 (Opd.tmp rfl) (Opd.tmp rfl) (fun _ _ _ h => ones_of ((OneCs.cons OneC.slice (OneCs.cons OneC.slice OneCs.nil))) h) rfl rfl) fun g45 => ?_
            refine RegL.pure (p := (pEq (.int .i64 (2 : Int)))) rfl rfl rfl (J_assign rfl Opd.con) ?_
            refine RegL.nil ?_
            refine Ct.then_tr ?_
            refine Tr.weak (Γ' := [(4, (pEq (.pointer (some ⟨b1, 0, none⟩)))), (5, (pEq (.int .i64 (2 : Int))))]) ⟨rfl, rfl, trivial⟩ ?_
            refine Tr.ret ?_
            refine Ct.then_ret ?_
            refine Ct.blk_ret ?_
            refine Ct.then_ret ?_
            replace h := map_some h; obtain ⟨r1, h, rfl⟩ := h
            refine Ct.out_ret fun e => ?_
            subst e
            refine Ct.blk_ret ?_
            refine Ct.then_ret ?_
            refine Ct.re (Ω2 := [oSS 22 2 1 (cK .i64) none 0 0 [] ([] : (List (List Int))), oBlk b1 [(pEq (.slice none 0 0)), (pEq (.slice none 0 0))], oSS 22 2 1 (cK .i64) g29.1.1 g29.1.2.1 g29.1.2.2 g29.2 v28, oBlk b9 [(pEq (.slice g7.1.1 g7.1.2.1 g7.1.2.2)), (pEq (.slice g29.1.1 g29.1.2.1 g29.1.2.2))], oSS 22 2 1 (cK .i64) g7.1.1 g7.1.2.1 g7.1.2.2 g7.2 x6]) (fun h => nest_nil h) ?_
            refine Ct.re (Ω2 := [oSS 22 2 1 (cK .i64) none 0 0 [] ([] : (List (List Int))), oSS 22 2 1 (cK .i64) none 0 0 [] ([] : (List (List Int))), oBlk b1 [(pEq (.slice none 0 0)), (pEq (.slice none 0 0))], oSS 22 2 1 (cK .i64) g29.1.1 g29.1.2.1 g29.1.2.2 g29.2 v28, oBlk b9 [(pEq (.slice g7.1.1 g7.1.2.1 g7.1.2.2)), (pEq (.slice g29.1.1 g29.1.2.1 g29.1.2.2))], oSS 22 2 1 (cK .i64) g7.1.1 g7.1.2.1 g7.1.2.2 g7.2 x6]) (fun h => nest_nil h) ?_
            refine Ct.re (Ω2 := [oSS 22 2 1 (cK .i64) none 0 0 [] ([] : (List (List Int))), oSS 22 2 1 (cK .i64) none 0 0 [] ([] : (List (List Int))), oBlk b1 [(pEq (.slice none 0 0)), (pEq (.slice none 0 0))], oSS 22 2 1 (cK .i64) g29.1.1 g29.1.2.1 g29.1.2.2 g29.2 v28, oBlk b9 [(pEq (.slice g7.1.1 g7.1.2.1 g7.1.2.2)), (pEq (.slice g29.1.1 g29.1.2.1 g29.1.2.2))], oSS 22 2 1 (cK .i64) g7.1.1 g7.1.2.1 g7.1.2.2 g7.2 x6]) (fun h => SatO.pick 1 h) ?_
            refine Ct.re (Ω2 := [oSS 22 2 1 (cK .i64) g7.1.1 g7.1.2.1 g7.1.2.2 g7.2 x6, oSS 22 2 1 (cK .i64) none 0 0 [] ([] : (List (List Int))), oSS 22 2 1 (cK .i64) none 0 0 [] ([] : (List (List Int))), oBlk b1 [(pEq (.slice none 0 0)), (pEq (.slice none 0 0))], oSS 22 2 1 (cK .i64) g29.1.1 g29.1.2.1 g29.1.2.2 g29.2 v28, oBlk b9 [(pEq (.slice g7.1.1 g7.1.2.1 g7.1.2.2)), (pEq (.slice g29.1.1 g29.1.2.1 g29.1.2.2))]]) (fun h => SatO.pick 5 h) ?_
            refine Ct.re (Ω2 := [oBlk b9 [(pEq (.slice g7.1.1 g7.1.2.1 g7.1.2.2)), (pEq (.slice g29.1.1 g29.1.2.1 g29.1.2.2))], oSS 22 2 1 (cK .i64) g7.1.1 g7.1.2.1 g7.1.2.2 g7.2 x6, oSS 22 2 1 (cK .i64) none 0 0 [] ([] : (List (List Int))), oSS 22 2 1 (cK .i64) none 0 0 [] ([] : (List (List Int))), oBlk b1 [(pEq (.slice none 0 0)), (pEq (.slice none 0 0))], oSS 22 2 1 (cK .i64) g29.1.1 g29.1.2.1 g29.1.2.2 g29.2 v28]) (fun h => SatO.pick 5 h) ?_
            refine Ct.re (Ω2 := [oSS 22 2 1 (cK .i64) g29.1.1 g29.1.2.1 g29.1.2.2 g29.2 v28, oBlk b9 [(pEq (.slice g7.1.1 g7.1.2.1 g7.1.2.2)), (pEq (.slice g29.1.1 g29.1.2.1 g29.1.2.2))], oSS 22 2 1 (cK .i64) g7.1.1 g7.1.2.1 g7.1.2.2 g7.2 x6, oSS 22 2 1 (cK .i64) none 0 0 [] ([] : (List (List Int))), oSS 22 2 1 (cK .i64) none 0 0 [] ([] : (List (List Int))), oBlk b1 [(pEq (.slice none 0 0)), (pEq (.slice none 0 0))]]) (fun h => SatO.pick 5 h) ?_
            refine Ct.re (Ω2 := [oBlk b1 [(pEq (.slice none 0 0)), (pEq (.slice none 0 0))], oSS 22 2 1 (cK .i64) g29.1.1 g29.1.2.1 g29.1.2.2 g29.2 v28, oBlk b9 [(pEq (.slice g7.1.1 g7.1.2.1 g7.1.2.2)), (pEq (.slice g29.1.1 g29.1.2.1 g29.1.2.2))], oSS 22 2 1 (cK .i64) g7.1.1 g7.1.2.1 g7.1.2.2 g7.2 x6, oSS 22 2 1 (cK .i64) none 0 0 [] ([] : (List (List Int))), oSS 22 2 1 (cK .i64) none 0 0 [] ([] : (List (List Int)))]) (fun h => SatO.pick 5 h) ?_
            replace h := Option.some.inj h; subst h
            exact Ct.retH2 (Ωx := [oBlk b1 [(pEq (.slice none 0 0)), (pEq (.slice none 0 0))], oSS 22 2 1 (cK .i64) g29.1.1 g29.1.2.1 g29.1.2.2 g29.2 v28, oBlk b9 [(pEq (.slice g7.1.1 g7.1.2.1 g7.1.2.2)), (pEq (.slice g29.1.1 g29.1.2.1 g29.1.2.2))], oSS 22 2 1 (cK .i64) g7.1.1 g7.1.2.1 g7.1.2.2 g7.2 x6]) (((none, 0, 0), []), ((none, 0, 0), [])) rfl (RvOk.cellA (i := 0) Try.isAgg32 sz32 rfl rfl rfl) (RvOk.tmp rfl) rfl rfl
          · replace h := bif_f hc h
            refine Tr.skip ?_
            refine Ct.then_tr ?_
            refine Tr.weak (Γ' := [(4, (pEq (.pointer (some ⟨b1, 0, none⟩)))), (6, (pEq (.pointer (some ⟨b9, 0, none⟩)))), (8, (pSl 1 (cK .i64) x30)), (29, (pSl 1 (cSl 1 (cK .i64)) a_1)), (30, (pEq (.int .i64 (a_1.length : Int)))), (31, (pEq (.int .i64 v27)))]) ⟨rfl, rfl, rfl, rfl, rfl, rfl, trivial⟩ ?_
            replace h := bind_some h; obtain ⟨x48, hx48, h⟩ := h
            replace h := bind_some h; obtain ⟨x49, hx49, h⟩ := h
            replace h := bind_some h; obtain ⟨x50, hx50, h⟩ := h
            refine Tr.drawD (n := 84) (m := 11) (es := [some (Ent.mk [(6, (pEq (.pointer (some ⟨b9, 0, none⟩))))] (pAgg [(pEq (.slice g7.1.1 g7.1.2.1 g7.1.2.2)), (pEq (.slice g29.1.1 g29.1.2.1 g29.1.2.2))]) true), some (Ent.mk [(8, (pSl 1 (cK .i64) x30))] (pSl 1 (cK .i64) x30) true), some (Ent.mk [(72, (pSl 1 (cK .i64) x30))] (pPtr ((cK .i64) x48)) true), some (Ent.mk [(73, (pPtr ((cK .i64) x48)))] (pEq (.int .i64 x48)) true), some (Ent.mk [(8, (pSl 1 (cK .i64) x30))] (pSl 1 (cK .i64) x30) true), some (Ent.mk [(75, (pSl 1 (cK .i64) x30))] (pPtr ((cK .i64) x49)) true), some (Ent.mk [(76, (pPtr ((cK .i64) x49)))] (pEq (.int .i64 x49)) true), some (Ent.mk [(8, (pSl 1 (cK .i64) x30))] (pSl 1 (cK .i64) x30) true), some (Ent.mk [(78, (pSl 1 (cK .i64) x30))] (pPtr ((cK .i64) x50)) true), some (Ent.mk [(79, (pPtr ((cK .i64) x50)))] (pEq (.int .i64 x50)) true), none]) (rd := [[6], [8], [72], [73], [8], [75], [76], [8], [78], [79], [71, 74, 77, 80]]) rfl hmix (by kernel_rfl) fun hD => ?_
            replace h := bind_some h; obtain ⟨x51, hx51, h⟩ := h
            refine RD.step hD (es := [some (Ent.mk [(6, (pEq (.pointer (some ⟨b9, 0, none⟩))))] (pAgg [(pEq (.slice g7.1.1 g7.1.2.1 g7.1.2.2)), (pEq (.slice g29.1.1 g29.1.2.1 g29.1.2.2))]) true), some (Ent.mk [(8, (pSl 1 (cK .i64) x30))] (pSl 1 (cK .i64) x30) true), some (Ent.mk [(72, (pSl 1 (cK .i64) x30))] (pPtr ((cK .i64) x48)) true), some (Ent.mk [(73, (pPtr ((cK .i64) x48)))] (pEq (.int .i64 x48)) true), some (Ent.mk [(8, (pSl 1 (cK .i64) x30))] (pSl 1 (cK .i64) x30) true), some (Ent.mk [(75, (pSl 1 (cK .i64) x30))] (pPtr ((cK .i64) x49)) true), some (Ent.mk [(76, (pPtr ((cK .i64) x49)))] (pEq (.int .i64 x49)) true), some (Ent.mk [(8, (pSl 1 (cK .i64) x30))] (pSl 1 (cK .i64) x30) true), some (Ent.mk [(78, (pSl 1 (cK .i64) x30))] (pPtr ((cK .i64) x50)) true), some (Ent.mk [(79, (pPtr ((cK .i64) x50)))] (pEq (.int .i64 x50)) true), none]) (done := []) (mask := [true, true, true, true, true, true, true, true, true, true, false]) (γ := Unit) (p := fun g => (pTup [])) (Ω' := fun g => [oSS 22 2 1 (cK .i64) g29.1.1 g29.1.2.1 g29.1.2.2 g29.2 x51, oBlk b9 [(pEq (.slice g7.1.1 g7.1.2.1 g7.1.2.2)), (pEq (.slice g29.1.1 g29.1.2.1 g29.1.2.2))], oSS 22 2 1 (cK .i64) g7.1.1 g7.1.2.1 g7.1.2.2 g7.2 x6, oBlk b1 [(pEq (.slice none 0 0)), (pEq (.slice none 0 0))]]) (es' := fun g52 => [some (Ent.mk [(6, (pEq (.pointer (some ⟨b9, 0, none⟩))))] (pAgg [(pEq (.slice g7.1.1 g7.1.2.1 g7.1.2.2)), (pEq (.slice g29.1.1 g29.1.2.1 g29.1.2.2))]) true), some (Ent.mk [(8, (pSl 1 (cK .i64) x30))] (pSl 1 (cK .i64) x30) true), some (Ent.mk [(72, (pSl 1 (cK .i64) x30))] (pPtr ((cK .i64) x48)) true), some (Ent.mk [(73, (pPtr ((cK .i64) x48)))] (pEq (.int .i64 x48)) true), some (Ent.mk [(8, (pSl 1 (cK .i64) x30))] (pSl 1 (cK .i64) x30) true), some (Ent.mk [(75, (pSl 1 (cK .i64) x30))] (pPtr ((cK .i64) x49)) true), some (Ent.mk [(76, (pPtr ((cK .i64) x49)))] (pEq (.int .i64 x49)) true), some (Ent.mk [(8, (pSl 1 (cK .i64) x30))] (pSl 1 (cK .i64) x30) true), some (Ent.mk [(78, (pSl 1 (cK .i64) x30))] (pPtr ((cK .i64) x50)) true), some (Ent.mk [(79, (pPtr ((cK .i64) x50)))] (pEq (.int .i64 x50)) true), some (Ent.mk [(71, (pAgg [(pEq (.slice g7.1.1 g7.1.2.1 g7.1.2.2)), (pEq (.slice g29.1.1 g29.1.2.1 g29.1.2.2))])), (74, (pEq (.int .i64 x48))), (77, (pEq (.int .i64 x49))), (80, (pEq (.int .i64 x50)))] (pTup []) true)]) (Γc := [(71, (pAgg [(pEq (.slice g7.1.1 g7.1.2.1 g7.1.2.2)), (pEq (.slice g29.1.1 g29.1.2.1 g29.1.2.2))])), (74, (pEq (.int .i64 x48))), (77, (pEq (.int .i64 x49))), (80, (pEq (.int .i64 x50)))]) 10 rfl rfl rfl (by kernel_rfl) ⟨.inr ⟨(W_loadA (i := 1) rfl Try.isAgg32 sz32 (Opd.tmp rfl) rfl rfl), ⟨rfl, trivial⟩, rfl, rfl⟩, ⟨.inr ⟨(OpJ.w (J_move rfl (Opd.tmp rfl))), ⟨rfl, trivial⟩, rfl, rfl⟩, ⟨.inr ⟨(OpJ.w (J_idx rfl Try.underlying22 sz2 (Opd.tmp rfl) Opd.con hx48)), ⟨rfl, trivial⟩, rfl, rfl⟩, ⟨.inr ⟨(OpJ.w (J_load rfl Try.isAgg2 (Opd.tmp rfl))), ⟨rfl, trivial⟩, rfl, rfl⟩, ⟨.inr ⟨(OpJ.w (J_move rfl (Opd.tmp rfl))), ⟨rfl, trivial⟩, rfl, rfl⟩, ⟨.inr ⟨(OpJ.w (J_idx rfl Try.underlying22 sz2 (Opd.tmp rfl) Opd.con hx49)), ⟨rfl, trivial⟩, rfl, rfl⟩, ⟨.inr ⟨(OpJ.w (J_load rfl Try.isAgg2 (Opd.tmp rfl))), ⟨rfl, trivial⟩, rfl, rfl⟩, ⟨.inr ⟨(OpJ.w (J_move rfl (Opd.tmp rfl))), ⟨rfl, trivial⟩, rfl, rfl⟩, ⟨.inr ⟨(OpJ.w (J_idx rfl Try.underlying22 sz2 (Opd.tmp rfl) Opd.con hx50)), ⟨rfl, trivial⟩, rfl, rfl⟩, ⟨.inr ⟨(OpJ.w (J_load rfl Try.isAgg2 (Opd.tmp rfl))), ⟨rfl, trivial⟩, rfl, rfl⟩, trivial⟩⟩⟩⟩⟩⟩⟩⟩⟩⟩ rfl rfl ⟨rfl, rfl, rfl, rfl, trivial⟩ (fun _ => M_callHB (Ωi := [oSS 22 2 1 (cK .i64) g29.1.1 g29.1.2.1 g29.1.2.2 g29.2 v28]) rfl Try.call73 (o_impl_Problem_tighten hx51) (OpdsA.cons (OpdA.conv rfl (Conv.agg (Convs.cons (Conv.nest 1 (fun _ => rfl) rfl) (Convs.cons Conv.refl Convs.nil)))) (OpdsA.cons (OpdA.of (Opd.tmp rfl)) (OpdsA.cons (OpdA.of (Opd.tmp rfl)) (OpdsA.cons (OpdA.of (Opd.tmp rfl)) OpdsA.nil)))) (fun _ => (FreeP.tup trivial)) (fun _ => ⟨(FreeO.nest (fun _ => ⟨FreeP.eq, trivial⟩)), trivial⟩)) (fun g52 => ⟨rfl, ⟨rfl, ⟨rfl, ⟨rfl, ⟨rfl, ⟨rfl, ⟨rfl, ⟨rfl, ⟨rfl, ⟨rfl, trivial⟩⟩⟩⟩⟩⟩⟩⟩⟩⟩) (fun g52 => rfl) rfl fun g52 => ?_
            refine RD.fin (es := [Ent.mk [(6, (pEq (.pointer (some ⟨b9, 0, none⟩))))] (pAgg [(pEq (.slice g7.1.1 g7.1.2.1 g7.1.2.2)), (pEq (.slice g29.1.1 g29.1.2.1 g29.1.2.2))]) true, Ent.mk [(8, (pSl 1 (cK .i64) x30))] (pSl 1 (cK .i64) x30) true, Ent.mk [(72, (pSl 1 (cK .i64) x30))] (pPtr ((cK .i64) x48)) true, Ent.mk [(73, (pPtr ((cK .i64) x48)))] (pEq (.int .i64 x48)) true, Ent.mk [(8, (pSl 1 (cK .i64) x30))] (pSl 1 (cK .i64) x30) true, Ent.mk [(75, (pSl 1 (cK .i64) x30))] (pPtr ((cK .i64) x49)) true, Ent.mk [(76, (pPtr ((cK .i64) x49)))] (pEq (.int .i64 x49)) true, Ent.mk [(8, (pSl 1 (cK .i64) x30))] (pSl 1 (cK .i64) x30) true, Ent.mk [(78, (pSl 1 (cK .i64) x30))] (pPtr ((cK .i64) x50)) true, Ent.mk [(79, (pPtr ((cK .i64) x50)))] (pEq (.int .i64 x50)) true, Ent.mk [(71, (pAgg [(pEq (.slice g7.1.1 g7.1.2.1 g7.1.2.2)), (pEq (.slice g29.1.1 g29.1.2.1 g29.1.2.2))])), (74, (pEq (.int .i64 x48))), (77, (pEq (.int .i64 x49))), (80, (pEq (.int .i64 x50)))] (pTup []) true]) (done := [10]) hD ⟨.inr ⟨(W_loadA (i := 1) rfl Try.isAgg32 sz32 (Opd.tmp rfl) rfl rfl), ⟨rfl, trivial⟩, rfl, rfl⟩, ⟨.inr ⟨(OpJ.w (J_move rfl (Opd.tmp rfl))), ⟨rfl, trivial⟩, rfl, rfl⟩, ⟨.inr ⟨(OpJ.w (J_idx rfl Try.underlying22 sz2 (Opd.tmp rfl) Opd.con hx48)), ⟨rfl, trivial⟩, rfl, rfl⟩, ⟨.inr ⟨(OpJ.w (J_load rfl Try.isAgg2 (Opd.tmp rfl))), ⟨rfl, trivial⟩, rfl, rfl⟩, ⟨.inr ⟨(OpJ.w (J_move rfl (Opd.tmp rfl))), ⟨rfl, trivial⟩, rfl, rfl⟩, ⟨.inr ⟨(OpJ.w (J_idx rfl Try.underlying22 sz2 (Opd.tmp rfl) Opd.con hx49)), ⟨rfl, trivial⟩, rfl, rfl⟩, ⟨.inr ⟨(OpJ.w (J_load rfl Try.isAgg2 (Opd.tmp rfl))), ⟨rfl, trivial⟩, rfl, rfl⟩, ⟨.inr ⟨(OpJ.w (J_move rfl (Opd.tmp rfl))), ⟨rfl, trivial⟩, rfl, rfl⟩, ⟨.inr ⟨(OpJ.w (J_idx rfl Try.underlying22 sz2 (Opd.tmp rfl) Opd.con hx50)), ⟨rfl, trivial⟩, rfl, rfl⟩, ⟨.inr ⟨(OpJ.w (J_load rfl Try.isAgg2 (Opd.tmp rfl))), ⟨rfl, trivial⟩, rfl, rfl⟩, ⟨.inl rfl, trivial⟩⟩⟩⟩⟩⟩⟩⟩⟩⟩⟩ ?_
            refine RegL.nil ?_
            refine Ct.blk_normal ?_
            refine Ct.then_tr ?_
            refine Tr.weak (Γ' := [(4, (pEq (.pointer (some ⟨b1, 0, none⟩)))), (6, (pEq (.pointer (some ⟨b9, 0, none⟩)))), (29, (pSl 1 (cSl 1 (cK .i64)) a_1)), (30, (pEq (.int .i64 (a_1.length : Int)))), (31, (pEq (.int .i64 v27)))]) ⟨rfl, rfl, rfl, rfl, rfl, trivial⟩ ?_
            refine Tr.region ?_
            refine RegL.pure (p := (pEq (.int .i64 (w64 (v27 + (1 : Int)))))) rfl rfl rfl (J_bin rfl (Opd.tmp rfl) Opd.con B_add) ?_
            refine RegL.pure (p := (pEq (.int .i64 (w64 (v27 + (1 : Int)))))) rfl rfl rfl (J_move rfl (Opd.tmp rfl)) ?_
            refine RegL.nil ?_
            replace h := Option.some.inj h; subst h
            exact Ct.again ((g29.1.1, g29.1.2.1, g29.1.2.2), g29.2) rfl ⟨rfl, rfl, rfl, rfl, rfl, trivial⟩
      · replace h := bif_f hc h
        refine Tr.exit ?_
        refine Ct.then_exit ?_
        replace h := map_some h; obtain ⟨r1, h, rfl⟩ := h
        refine Ct.out_exit fun e => ?_
        subst e
        refine Ct.blk_exit ?_
        refine Ct.then_tr ?_
        refine Tr.weak (Γ' := [(4, (pEq (.pointer (some ⟨b1, 0, none⟩)))), (6, (pEq (.pointer (some ⟨b9, 0, none⟩))))]) ⟨rfl, rfl, trivial⟩ ?_
        refine Tr.seq ?_
        refine Tr.region ?_
        refine RegL.pureW (p := (pAgg [(pEq (.slice g7.1.1 g7.1.2.1 g7.1.2.2)), (pEq (.slice g29.1.1 g29.1.2.1 g29.1.2.2))])) rfl rfl rfl (W_loadA (i := 1) rfl Try.isAgg32 sz32 (Opd.tmp rfl) rfl rfl) ?_
        refine RegL.re (Ω2 := [oBlk b1 [(pEq (.slice none 0 0)), (pEq (.slice none 0 0))], oSS 22 2 1 (cK .i64) g29.1.1 g29.1.2.1 g29.1.2.2 g29.2 v28, oBlk b9 [(pEq (.slice g7.1.1 g7.1.2.1 g7.1.2.2)), (pEq (.slice g29.1.1 g29.1.2.1 g29.1.2.2))], oSS 22 2 1 (cK .i64) g7.1.1 g7.1.2.1 g7.1.2.2 g7.2 x6]) (fun h => SatO.pick 3 h) ?_
        refine RegL.stepN (γ := Unit) (p := fun _ => pAny) (Ω' := fun _ => [oBlk b1 [(pEq (.slice g7.1.1 g7.1.2.1 g7.1.2.2)), (pEq (.slice g29.1.1 g29.1.2.1 g29.1.2.2))], oSS 22 2 1 (cK .i64) g29.1.1 g29.1.2.1 g29.1.2.2 g29.2 v28, oBlk b9 [(pEq (.slice g7.1.1 g7.1.2.1 g7.1.2.2)), (pEq (.slice g29.1.1 g29.1.2.1 g29.1.2.2))], oSS 22 2 1 (cK .i64) g7.1.1 g7.1.2.1 g7.1.2.2 g7.2 x6]) rfl rfl (M_storeA rfl sz32 (Opd.tmp rfl) (Opd.tmp rfl) (fun _ _ _ h => ones_of ((OneCs.cons OneC.slice (OneCs.cons OneC.slice OneCs.nil))) h) rfl rfl) fun g53 => ?_
        refine RegL.pure (p := (pEq (.int .i64 (0 : Int)))) rfl rfl rfl (J_assign rfl Opd.con) ?_
        refine RegL.nil ?_
        refine Ct.then_tr ?_
        refine Tr.weak (Γ' := [(4, (pEq (.pointer (some ⟨b1, 0, none⟩)))), (5, (pEq (.int .i64 (0 : Int))))]) ⟨rfl, rfl, trivial⟩ ?_
        refine Tr.ret ?_
        refine Ct.re (Ω2 := [oSS 22 2 1 (cK .i64) g29.1.1 g29.1.2.1 g29.1.2.2 g29.2 v28, oBlk b1 [(pEq (.slice g7.1.1 g7.1.2.1 g7.1.2.2)), (pEq (.slice g29.1.1 g29.1.2.1 g29.1.2.2))], oBlk b9 [(pEq (.slice g7.1.1 g7.1.2.1 g7.1.2.2)), (pEq (.slice g29.1.1 g29.1.2.1 g29.1.2.2))], oSS 22 2 1 (cK .i64) g7.1.1 g7.1.2.1 g7.1.2.2 g7.2 x6]) (fun h => SatO.pick 1 h) ?_
        refine Ct.re (Ω2 := [oSS 22 2 1 (cK .i64) g7.1.1 g7.1.2.1 g7.1.2.2 g7.2 x6, oSS 22 2 1 (cK .i64) g29.1.1 g29.1.2.1 g29.1.2.2 g29.2 v28, oBlk b1 [(pEq (.slice g7.1.1 g7.1.2.1 g7.1.2.2)), (pEq (.slice g29.1.1 g29.1.2.1 g29.1.2.2))], oBlk b9 [(pEq (.slice g7.1.1 g7.1.2.1 g7.1.2.2)), (pEq (.slice g29.1.1 g29.1.2.1 g29.1.2.2))]]) (fun h => SatO.pick 3 h) ?_
        refine Ct.re (Ω2 := [oBlk b9 [(pEq (.slice g7.1.1 g7.1.2.1 g7.1.2.2)), (pEq (.slice g29.1.1 g29.1.2.1 g29.1.2.2))], oSS 22 2 1 (cK .i64) g7.1.1 g7.1.2.1 g7.1.2.2 g7.2 x6, oSS 22 2 1 (cK .i64) g29.1.1 g29.1.2.1 g29.1.2.2 g29.2 v28, oBlk b1 [(pEq (.slice g7.1.1 g7.1.2.1 g7.1.2.2)), (pEq (.slice g29.1.1 g29.1.2.1 g29.1.2.2))]]) (fun h => SatO.pick 3 h) ?_
        refine Ct.re (Ω2 := [oBlk b1 [(pEq (.slice g7.1.1 g7.1.2.1 g7.1.2.2)), (pEq (.slice g29.1.1 g29.1.2.1 g29.1.2.2))], oBlk b9 [(pEq (.slice g7.1.1 g7.1.2.1 g7.1.2.2)), (pEq (.slice g29.1.1 g29.1.2.1 g29.1.2.2))], oSS 22 2 1 (cK .i64) g7.1.1 g7.1.2.1 g7.1.2.2 g7.2 x6, oSS 22 2 1 (cK .i64) g29.1.1 g29.1.2.1 g29.1.2.2 g29.2 v28]) (fun h => SatO.pick 3 h) ?_
        replace h := Option.some.inj h; subst h
        exact Ct.retH2 (Ωx := [oBlk b1 [(pEq (.slice g7.1.1 g7.1.2.1 g7.1.2.2)), (pEq (.slice g29.1.1 g29.1.2.1 g29.1.2.2))], oBlk b9 [(pEq (.slice g7.1.1 g7.1.2.1 g7.1.2.2)), (pEq (.slice g29.1.1 g29.1.2.1 g29.1.2.2))]]) (((g7.1.1, g7.1.2.1, g7.1.2.2), g7.2), ((g29.1.1, g29.1.2.1, g29.1.2.2), g29.2)) rfl (RvOk.cellA (i := 0) Try.isAgg32 sz32 rfl rfl rfl) (RvOk.tmp rfl) rfl rfl

theorem c_impl_MakeProblem {a_0 : (List (List Int))} {a_1 : (List (List Int))} {r : (GProblem × Int)} (h : m_impl_MakeProblem a_0 a_1 = some r) : CallJ Try.prog 31 [(pSl 1 (cSl 1 (cK .i64)) a_0), (pSl 1 (cSl 1 (cK .i64)) a_1)] (pTup [(pAgg (cGProblem r.1)), (pEq (.int .i64 r.2))]) :=
  CallH.frozen (o_impl_MakeProblem h) (fun g => (Conv.tup (Convs.cons (Conv.agg (Convs.cons (Conv.nest 0 (fun _ => rfl) rfl) (Convs.cons (Conv.nest 1 (fun _ => rfl) rfl) Convs.nil))) (Convs.cons Conv.refl Convs.nil))))

theorem c_laws_eqInt64S {a_0 : (List Int)} {b_1 : (List Int)} {r : Bool} (h : m_laws_eqInt64S a_0 b_1 = some r) : CallJ Try.prog 18 [(pSl 1 (cK .i64) a_0), (pSl 1 (cK .i64) b_1)] (pEq (.bool r)) := by
  unfold m_laws_eqInt64S at h
  refine CallJ.enterH Try.func18 rfl Try.ntmps18 rfl fun W I0 H => ?_
  refine Tr.weak (Γ' := [(0, (pSl 1 (cK .i64) a_0)), (1, (pSl 1 (cK .i64) b_1))]) ⟨rfl, rfl, trivial⟩ ?_
  refine Tr.seq ?_
  refine Tr.region ?_
  refine RegL.pure (p := (pEq (.bool false))) rfl rfl rfl (J_assign rfl Opd.con) ?_
  refine RegL.nil ?_
  refine Ct.then_tr ?_
  refine Tr.weak (Γ' := [(0, (pSl 1 (cK .i64) a_0)), (1, (pSl 1 (cK .i64) b_1))]) ⟨rfl, rfl, trivial⟩ ?_
  refine Tr.seq ?_
  refine Tr.seq ?_
  refine Tr.region ?_
  refine RegL.pure (p := (pSl 1 (cK .i64) a_0)) rfl rfl rfl (J_move rfl (Opd.tmp rfl)) ?_
  refine RegL.pure (p := (pEq (.int .i64 (a_0.length : Int)))) rfl rfl rfl (J_len rfl Try.underlying22 (Opd.tmp rfl) rfl) ?_
  refine RegL.pure (p := (pSl 1 (cK .i64) b_1)) rfl rfl rfl (J_move rfl (Opd.tmp rfl)) ?_
  refine RegL.pure (p := (pEq (.int .i64 (b_1.length : Int)))) rfl rfl rfl (J_len rfl Try.underlying22 (Opd.tmp rfl) rfl) ?_
  refine RegL.pure (p := (pEq (.bool ((a_0.length : Int) != (b_1.length : Int))))) rfl rfl rfl (J_bin rfl (Opd.tmp rfl) (Opd.tmp rfl) B_neq) ?_
  refine RegL.nil ?_
  refine Ct.then_tr ?_
  refine Tr.weak (Γ' := [(0, (pSl 1 (cK .i64) a_0)), (1, (pSl 1 (cK .i64) b_1)), (10, (pEq (.bool ((a_0.length : Int) != (b_1.length : Int)))))]) ⟨rfl, rfl, rfl, trivial⟩ ?_
  refine Tr.cond (Opd.tmp rfl) (fun hc => ?_) (fun hc => ?_)
  · replace h := bif_t hc h
    refine Tr.seq ?_
    refine Tr.region ?_
    refine RegL.pure (p := (pEq (.bool false))) rfl rfl rfl (J_assign rfl Opd.con) ?_
    refine RegL.nil ?_
    refine Ct.then_tr ?_
    refine Tr.weak (Γ' := [(4, (pEq (.bool false)))]) ⟨rfl, trivial⟩ ?_
    refine Tr.ret ?_
    refine Ct.then_ret ?_
    replace h := Option.some.inj h; subst h
    exact Ct.retH1 (Ωx := []) () rfl (RvOk.tmp rfl) rfl
  · replace h := bif_f hc h
    refine Tr.skip ?_
    refine Ct.then_tr ?_
    refine Tr.weak (Γ' := [(0, (pSl 1 (cK .i64) a_0)), (1, (pSl 1 (cK .i64) b_1))]) ⟨rfl, rfl, trivial⟩ ?_
    refine Tr.seq ?_
    refine Tr.seq ?_
    refine Tr.region ?_
    refine RegL.pure (p := (pEq (.int .i64 (0 : Int)))) rfl rfl rfl (J_assign rfl Opd.con) ?_
    refine RegL.nil ?_
    refine Ct.then_tr ?_
    refine Tr.weak (Γ' := [(0, (pSl 1 (cK .i64) a_0)), (1, (pSl 1 (cK .i64) b_1)), (5, (pEq (.int .i64 (0 : Int))))]) ⟨rfl, rfl, rfl, trivial⟩ ?_
    refine Tr.block ?_
    refine Tr.weak (Γ' := [(0, (pSl 1 (cK .i64) a_0)), (1, (pSl 1 (cK .i64) b_1)), (5, (pEq (.int .i64 (0 : Int))))]) ⟨rfl, rfl, rfl, trivial⟩ ?_
    refine Tr.loop (γ := Unit) (σ := Int) (Γσ := fun s g => [(0, (pSl 1 (cK .i64) a_0)), (1, (pSl 1 (cK .i64) b_1)), (5, (pEq (.int .i64 s)))]) (Ωσ := fun s g => []) (g := ()) h ?_
    clear h
    rintro v2 g3 t h
    replace h : m_laws_eqInt64S_B1 a_0 b_1 v2 = some t := h
    unfold m_laws_eqInt64S_B1 at h
    refine Tr.weakO (Γ' := [(0, (pSl 1 (cK .i64) a_0)), (1, (pSl 1 (cK .i64) b_1)), (5, (pEq (.int .i64 v2)))]) (Ω' := []) rfl ⟨rfl, rfl, rfl, trivial⟩ ?_
    refine Tr.seq ?_
    refine Tr.seq ?_
    refine Tr.region ?_
    refine RegL.pure (p := (pEq (.int .i64 v2))) rfl rfl rfl (J_move rfl (Opd.tmp rfl)) ?_
    refine RegL.pure (p := (pSl 1 (cK .i64) a_0)) rfl rfl rfl (J_move rfl (Opd.tmp rfl)) ?_
    refine RegL.pure (p := (pEq (.int .i64 (a_0.length : Int)))) rfl rfl rfl (J_len rfl Try.underlying22 (Opd.tmp rfl) rfl) ?_
    refine RegL.pure (p := (pEq (.bool (decide (v2 < (a_0.length : Int)))))) rfl rfl rfl (J_bin rfl (Opd.tmp rfl) (Opd.tmp rfl) B_lss) ?_
    refine RegL.nil ?_
    refine Ct.then_tr ?_
    refine Tr.weak (Γ' := [(0, (pSl 1 (cK .i64) a_0)), (1, (pSl 1 (cK .i64) b_1)), (5, (pEq (.int .i64 v2))), (14, (pEq (.bool (decide (v2 < (a_0.length : Int))))))]) ⟨rfl, rfl, rfl, rfl, trivial⟩ ?_
    refine Tr.cond (Opd.tmp rfl) (fun hc => ?_) (fun hc => ?_)
    · replace h := bif_t hc h
      refine Tr.skip ?_
      refine Ct.then_tr ?_
      refine Tr.weak (Γ' := [(0, (pSl 1 (cK .i64) a_0)), (1, (pSl 1 (cK .i64) b_1)), (5, (pEq (.int .i64 v2)))]) ⟨rfl, rfl, rfl, trivial⟩ ?_
      refine Tr.seq ?_
      refine Tr.block ?_
      refine Tr.seq ?_
      replace h := bind_some h; obtain ⟨x4, hx4, h⟩ := h
      replace h := bind_some h; obtain ⟨x5, hx5, h⟩ := h
      refine Tr.drawD (n := 26) (m := 9) (es := [some (Ent.mk [(0, (pSl 1 (cK .i64) a_0))] (pSl 1 (cK .i64) a_0) true), some (Ent.mk [(5, (pEq (.int .i64 v2)))] (pEq (.int .i64 v2)) true), some (Ent.mk [(17, (pSl 1 (cK .i64) a_0)), (18, (pEq (.int .i64 v2)))] (pPtr ((cK .i64) x4)) true), some (Ent.mk [(19, (pPtr ((cK .i64) x4)))] (pEq (.int .i64 x4)) true), some (Ent.mk [(1, (pSl 1 (cK .i64) b_1))] (pSl 1 (cK .i64) b_1) true), some (Ent.mk [(5, (pEq (.int .i64 v2)))] (pEq (.int .i64 v2)) true), some (Ent.mk [(21, (pSl 1 (cK .i64) b_1)), (22, (pEq (.int .i64 v2)))] (pPtr ((cK .i64) x5)) true), some (Ent.mk [(23, (pPtr ((cK .i64) x5)))] (pEq (.int .i64 x5)) true), some (Ent.mk [(20, (pEq (.int .i64 x4))), (24, (pEq (.int .i64 x5)))] (pEq (.bool (x4 != x5))) true)]) (rd := [[0], [5], [17, 18], [19], [1], [5], [21, 22], [23], [20, 24]]) rfl hmix (by kernel_rfl) fun hD => ?_
      refine RD.fin (es := [Ent.mk [(0, (pSl 1 (cK .i64) a_0))] (pSl 1 (cK .i64) a_0) true, Ent.mk [(5, (pEq (.int .i64 v2)))] (pEq (.int .i64 v2)) true, Ent.mk [(17, (pSl 1 (cK .i64) a_0)), (18, (pEq (.int .i64 v2)))] (pPtr ((cK .i64) x4)) true, Ent.mk [(19, (pPtr ((cK .i64) x4)))] (pEq (.int .i64 x4)) true, Ent.mk [(1, (pSl 1 (cK .i64) b_1))] (pSl 1 (cK .i64) b_1) true, Ent.mk [(5, (pEq (.int .i64 v2)))] (pEq (.int .i64 v2)) true, Ent.mk [(21, (pSl 1 (cK .i64) b_1)), (22, (pEq (.int .i64 v2)))] (pPtr ((cK .i64) x5)) true, Ent.mk [(23, (pPtr ((cK .i64) x5)))] (pEq (.int .i64 x5)) true, Ent.mk [(20, (pEq (.int .i64 x4))), (24, (pEq (.int .i64 x5)))] (pEq (.bool (x4 != x5))) true]) (done := []) hD ⟨.inr ⟨(OpJ.w (J_move rfl (Opd.tmp rfl))), ⟨rfl, trivial⟩, rfl, rfl⟩, ⟨.inr ⟨(OpJ.w (J_move rfl (Opd.tmp rfl))), ⟨rfl, trivial⟩, rfl, rfl⟩, ⟨.inr ⟨(OpJ.w (J_idx rfl Try.underlying22 sz2 (Opd.tmp rfl) (Opd.tmp rfl) hx4)), ⟨rfl, rfl, trivial⟩, rfl, rfl⟩, ⟨.inr ⟨(OpJ.w (J_load rfl Try.isAgg2 (Opd.tmp rfl))), ⟨rfl, trivial⟩, rfl, rfl⟩, ⟨.inr ⟨(OpJ.w (J_move rfl (Opd.tmp rfl))), ⟨rfl, trivial⟩, rfl, rfl⟩, ⟨.inr ⟨(OpJ.w (J_move rfl (Opd.tmp rfl))), ⟨rfl, trivial⟩, rfl, rfl⟩, ⟨.inr ⟨(OpJ.w (J_idx rfl Try.underlying22 sz2 (Opd.tmp rfl) (Opd.tmp rfl) hx5)), ⟨rfl, rfl, trivial⟩, rfl, rfl⟩, ⟨.inr ⟨(OpJ.w (J_load rfl Try.isAgg2 (Opd.tmp rfl))), ⟨rfl, trivial⟩, rfl, rfl⟩, ⟨.inr ⟨(OpJ.w (J_bin rfl (Opd.tmp rfl) (Opd.tmp rfl) B_neq)), ⟨rfl, rfl, trivial⟩, rfl, rfl⟩, trivial⟩⟩⟩⟩⟩⟩⟩⟩⟩ ?_
      refine RegL.nil ?_
      refine Ct.then_tr ?_
      refine Tr.weak (Γ' := [(0, (pSl 1 (cK .i64) a_0)), (1, (pSl 1 (cK .i64) b_1)), (5, (pEq (.int .i64 v2))), (25, (pEq (.bool (x4 != x5))))]) ⟨rfl, rfl, rfl, rfl, trivial⟩ ?_
      refine Tr.cond (Opd.tmp rfl) (fun hc => ?_) (fun hc => ?_)
      · replace h := bif_t hc h
        refine Tr.seq ?_
        refine Tr.region ?_
        refine RegL.pure (p := (pEq (.bool false))) rfl rfl rfl (J_assign rfl Opd.con) ?_
        refine RegL.nil ?_
        refine Ct.then_tr ?_
        refine Tr.weak (Γ' := [(4, (pEq (.bool false)))]) ⟨rfl, trivial⟩ ?_
        refine Tr.ret ?_
        refine Ct.blk_ret ?_
        refine Ct.then_ret ?_
        replace h := map_some h; obtain ⟨r1, h, rfl⟩ := h
        refine Ct.out_ret fun e => ?_
        subst e
        refine Ct.blk_ret ?_
        refine Ct.then_ret ?_
        replace h := Option.some.inj h; subst h
        exact Ct.retH1 (Ωx := []) () rfl (RvOk.tmp rfl) rfl
      · replace h := bif_f hc h
        refine Tr.skip ?_
        refine Ct.blk_normal ?_
        refine Ct.then_tr ?_
        refine Tr.weak (Γ' := [(0, (pSl 1 (cK .i64) a_0)), (1, (pSl 1 (cK .i64) b_1)), (5, (pEq (.int .i64 v2)))]) ⟨rfl, rfl, rfl, trivial⟩ ?_
        refine Tr.region ?_
        refine RegL.pure (p := (pEq (.int .i64 v2))) rfl rfl rfl (J_move rfl (Opd.tmp rfl)) ?_
        refine RegL.pure (p := (pEq (.int .i64 (w64 (v2 + (1 : Int)))))) rfl rfl rfl (J_bin rfl (Opd.tmp rfl) Opd.con B_add) ?_
        refine RegL.pure (p := (pEq (.int .i64 (w64 (v2 + (1 : Int)))))) rfl rfl rfl (J_assign rfl (Opd.tmp rfl)) ?_
        refine RegL.nil ?_
        replace h := Option.some.inj h; subst h
        exact Ct.again () rfl ⟨rfl, rfl, rfl, trivial⟩
    · replace h := bif_f hc h
      refine Tr.exit ?_
      refine Ct.then_exit ?_
      replace h := map_some h; obtain ⟨r1, h, rfl⟩ := h
      refine Ct.out_exit fun e => ?_
      subst e
      refine Ct.blk_exit ?_
      refine Ct.then_tr ?_
      refine Tr.weak (Γ' := []) trivial ?_
      refine Tr.seq ?_
      refine Tr.region ?_
      refine RegL.pure (p := (pEq (.bool true))) rfl rfl rfl (J_assign rfl Opd.con) ?_
      refine RegL.nil ?_
      refine Ct.then_tr ?_
      refine Tr.weak (Γ' := [(4, (pEq (.bool true)))]) ⟨rfl, trivial⟩ ?_
      refine Tr.ret ?_
      replace h := Option.some.inj h; subst h
      exact Ct.retH1 (Ωx := []) () rfl (RvOk.tmp rfl) rfl

theorem c_laws_eqInt64SS {a_0 : (List (List Int))} {b_1 : (List (List Int))} {r : Bool} (h : m_laws_eqInt64SS a_0 b_1 = some r) : CallJ Try.prog 32 [(pSl 1 (cSl 1 (cK .i64)) a_0), (pSl 1 (cSl 1 (cK .i64)) b_1)] (pEq (.bool r)) := by
  unfold m_laws_eqInt64SS at h
  refine CallJ.enterH Try.func32 rfl Try.ntmps32 rfl fun W I0 H => ?_
  refine Tr.weak (Γ' := [(0, (pSl 1 (cSl 1 (cK .i64)) a_0)), (1, (pSl 1 (cSl 1 (cK .i64)) b_1))]) ⟨rfl, rfl, trivial⟩ ?_
  refine Tr.seq ?_
  refine Tr.region ?_
  refine RegL.pure (p := (pEq (.bool false))) rfl rfl rfl (J_assign rfl Opd.con) ?_
  refine RegL.nil ?_
  refine Ct.then_tr ?_
  refine Tr.weak (Γ' := [(0, (pSl 1 (cSl 1 (cK .i64)) a_0)), (1, (pSl 1 (cSl 1 (cK .i64)) b_1))]) ⟨rfl, rfl, trivial⟩ ?_
  refine Tr.seq ?_
  refine Tr.seq ?_
  refine Tr.region ?_
  refine RegL.pure (p := (pSl 1 (cSl 1 (cK .i64)) a_0)) rfl rfl rfl (J_move rfl (Opd.tmp rfl)) ?_
  refine RegL.pure (p := (pEq (.int .i64 (a_0.length : Int)))) rfl rfl rfl (J_len rfl Try.underlying27 (Opd.tmp rfl) rfl) ?_
  refine RegL.pure (p := (pSl 1 (cSl 1 (cK .i64)) b_1)) rfl rfl rfl (J_move rfl (Opd.tmp rfl)) ?_
  refine RegL.pure (p := (pEq (.int .i64 (b_1.length : Int)))) rfl rfl rfl (J_len rfl Try.underlying27 (Opd.tmp rfl) rfl) ?_
  refine RegL.pure (p := (pEq (.bool ((a_0.length : Int) != (b_1.length : Int))))) rfl rfl rfl (J_bin rfl (Opd.tmp rfl) (Opd.tmp rfl) B_neq) ?_
  refine RegL.nil ?_
  refine Ct.then_tr ?_
  refine Tr.weak (Γ' := [(0, (pSl 1 (cSl 1 (cK .i64)) a_0)), (1, (pSl 1 (cSl 1 (cK .i64)) b_1)), (10, (pEq (.bool ((a_0.length : Int) != (b_1.length : Int)))))]) ⟨rfl, rfl, rfl, trivial⟩ ?_
  refine Tr.cond (Opd.tmp rfl) (fun hc => ?_) (fun hc => ?_)
  · replace h := bif_t hc h
    refine Tr.seq ?_
    refine Tr.region ?_
    refine RegL.pure (p := (pEq (.bool false))) rfl rfl rfl (J_assign rfl Opd.con) ?_
    refine RegL.nil ?_
    refine Ct.then_tr ?_
    refine Tr.weak (Γ' := [(4, (pEq (.bool false)))]) ⟨rfl, trivial⟩ ?_
    refine Tr.ret ?_
    refine Ct.then_ret ?_
    replace h := Option.some.inj h; subst h
    exact Ct.retH1 (Ωx := []) () rfl (RvOk.tmp rfl) rfl
  · replace h := bif_f hc h
    refine Tr.skip ?_
    refine Ct.then_tr ?_
    refine Tr.weak (Γ' := [(0, (pSl 1 (cSl 1 (cK .i64)) a_0)), (1, (pSl 1 (cSl 1 (cK .i64)) b_1))]) ⟨rfl, rfl, trivial⟩ ?_
    refine Tr.seq ?_
    refine Tr.seq ?_
    refine Tr.region ?_
    refine RegL.pure (p := (pEq (.int .i64 (0 : Int)))) rfl rfl rfl (J_assign rfl Opd.con) ?_
    refine RegL.nil ?_
    refine Ct.then_tr ?_
    refine Tr.weak (Γ' := [(0, (pSl 1 (cSl 1 (cK .i64)) a_0)), (1, (pSl 1 (cSl 1 (cK .i64)) b_1)), (5, (pEq (.int .i64 (0 : Int))))]) ⟨rfl, rfl, rfl, trivial⟩ ?_
    refine Tr.block ?_
    refine Tr.weak (Γ' := [(0, (pSl 1 (cSl 1 (cK .i64)) a_0)), (1, (pSl 1 (cSl 1 (cK .i64)) b_1)), (5, (pEq (.int .i64 (0 : Int))))]) ⟨rfl, rfl, rfl, trivial⟩ ?_
    refine Tr.loop (γ := Unit) (σ := Int) (Γσ := fun s g => [(0, (pSl 1 (cSl 1 (cK .i64)) a_0)), (1, (pSl 1 (cSl 1 (cK .i64)) b_1)), (5, (pEq (.int .i64 s)))]) (Ωσ := fun s g => []) (g := ()) h ?_
    clear h
    rintro v2 g3 t h
    replace h : m_laws_eqInt64SS_B1 a_0 b_1 v2 = some t := h
    unfold m_laws_eqInt64SS_B1 at h
    refine Tr.weakO (Γ' := [(0, (pSl 1 (cSl 1 (cK .i64)) a_0)), (1, (pSl 1 (cSl 1 (cK .i64)) b_1)), (5, (pEq (.int .i64 v2)))]) (Ω' := []) rfl ⟨rfl, rfl, rfl, trivial⟩ ?_
    refine Tr.seq ?_
    refine Tr.seq ?_
    refine Tr.region ?_
    refine RegL.pure (p := (pEq (.int .i64 v2))) rfl rfl rfl (J_move rfl (Opd.tmp rfl)) ?_
    refine RegL.pure (p := (pSl 1 (cSl 1 (cK .i64)) a_0)) rfl rfl rfl (J_move rfl (Opd.tmp rfl)) ?_
    refine RegL.pure (p := (pEq (.int .i64 (a_0.length : Int)))) rfl rfl rfl (J_len rfl Try.underlying27 (Opd.tmp rfl) rfl) ?_
    refine RegL.pure (p := (pEq (.bool (decide (v2 < (a_0.length : Int)))))) rfl rfl rfl (J_bin rfl (Opd.tmp rfl) (Opd.tmp rfl) B_lss) ?_
    refine RegL.nil ?_
    refine Ct.then_tr ?_
    refine Tr.weak (Γ' := [(0, (pSl 1 (cSl 1 (cK .i64)) a_0)), (1, (pSl 1 (cSl 1 (cK .i64)) b_1)), (5, (pEq (.int .i64 v2))), (14, (pEq (.bool (decide (v2 < (a_0.length : Int))))))]) ⟨rfl, rfl, rfl, rfl, trivial⟩ ?_
    refine Tr.cond (Opd.tmp rfl) (fun hc => ?_) (fun hc => ?_)
    · replace h := bif_t hc h
      refine Tr.skip ?_
      refine Ct.then_tr ?_
      refine Tr.weak (Γ' := [(0, (pSl 1 (cSl 1 (cK .i64)) a_0)), (1, (pSl 1 (cSl 1 (cK .i64)) b_1)), (5, (pEq (.int .i64 v2)))]) ⟨rfl, rfl, rfl, trivial⟩ ?_
      refine Tr.seq ?_
      refine Tr.block ?_
      refine Tr.seq ?_
      replace h := bind_some h; obtain ⟨x4, hx4, h⟩ := h
      replace h := bind_some h; obtain ⟨x5, hx5, h⟩ := h
      replace h := bind_some h; obtain ⟨x6, hx6, h⟩ := h
      refine Tr.drawD (n := 27) (m := 10) (es := [some (Ent.mk [(0, (pSl 1 (cSl 1 (cK .i64)) a_0))] (pSl 1 (cSl 1 (cK .i64)) a_0) true), some (Ent.mk [(5, (pEq (.int .i64 v2)))] (pEq (.int .i64 v2)) true), some (Ent.mk [(17, (pSl 1 (cSl 1 (cK .i64)) a_0)), (18, (pEq (.int .i64 v2)))] (pPtr ((cSl 1 (cK .i64)) x4)) true), some (Ent.mk [(19, (pPtr ((cSl 1 (cK .i64)) x4)))] (pSl 1 (cK .i64) x4) true), some (Ent.mk [(1, (pSl 1 (cSl 1 (cK .i64)) b_1))] (pSl 1 (cSl 1 (cK .i64)) b_1) true), some (Ent.mk [(5, (pEq (.int .i64 v2)))] (pEq (.int .i64 v2)) true), some (Ent.mk [(21, (pSl 1 (cSl 1 (cK .i64)) b_1)), (22, (pEq (.int .i64 v2)))] (pPtr ((cSl 1 (cK .i64)) x5)) true), some (Ent.mk [(23, (pPtr ((cSl 1 (cK .i64)) x5)))] (pSl 1 (cK .i64) x5) true), some (Ent.mk [(20, (pSl 1 (cK .i64) x4)), (24, (pSl 1 (cK .i64) x5))] (pEq (.bool x6)) true), some (Ent.mk [(25, (pEq (.bool x6)))] (pEq (.bool (!x6))) true)]) (rd := [[0], [5], [17, 18], [19], [1], [5], [21, 22], [23], [20, 24], [25]]) rfl hmix (by kernel_rfl) fun hD => ?_
      refine RD.fin (es := [Ent.mk [(0, (pSl 1 (cSl 1 (cK .i64)) a_0))] (pSl 1 (cSl 1 (cK .i64)) a_0) true, Ent.mk [(5, (pEq (.int .i64 v2)))] (pEq (.int .i64 v2)) true, Ent.mk [(17, (pSl 1 (cSl 1 (cK .i64)) a_0)), (18, (pEq (.int .i64 v2)))] (pPtr ((cSl 1 (cK .i64)) x4)) true, Ent.mk [(19, (pPtr ((cSl 1 (cK .i64)) x4)))] (pSl 1 (cK .i64) x4) true, Ent.mk [(1, (pSl 1 (cSl 1 (cK .i64)) b_1))] (pSl 1 (cSl 1 (cK .i64)) b_1) true, Ent.mk [(5, (pEq (.int .i64 v2)))] (pEq (.int .i64 v2)) true, Ent.mk [(21, (pSl 1 (cSl 1 (cK .i64)) b_1)), (22, (pEq (.int .i64 v2)))] (pPtr ((cSl 1 (cK .i64)) x5)) true, Ent.mk [(23, (pPtr ((cSl 1 (cK .i64)) x5)))] (pSl 1 (cK .i64) x5) true, Ent.mk [(20, (pSl 1 (cK .i64) x4)), (24, (pSl 1 (cK .i64) x5))] (pEq (.bool x6)) true, Ent.mk [(25, (pEq (.bool x6)))] (pEq (.bool (!x6))) true]) (done := []) hD ⟨.inr ⟨(OpJ.w (J_move rfl (Opd.tmp rfl))), ⟨rfl, trivial⟩, rfl, rfl⟩, ⟨.inr ⟨(OpJ.w (J_move rfl (Opd.tmp rfl))), ⟨rfl, trivial⟩, rfl, rfl⟩, ⟨.inr ⟨(OpJ.w (J_idx rfl Try.underlying27 sz22 (Opd.tmp rfl) (Opd.tmp rfl) hx4)), ⟨rfl, rfl, trivial⟩, rfl, rfl⟩, ⟨.inr ⟨(OpJ.w (J_load rfl Try.isAgg22 (Opd.tmp rfl))), ⟨rfl, trivial⟩, rfl, rfl⟩, ⟨.inr ⟨(OpJ.w (J_move rfl (Opd.tmp rfl))), ⟨rfl, trivial⟩, rfl, rfl⟩, ⟨.inr ⟨(OpJ.w (J_move rfl (Opd.tmp rfl))), ⟨rfl, trivial⟩, rfl, rfl⟩, ⟨.inr ⟨(OpJ.w (J_idx rfl Try.underlying27 sz22 (Opd.tmp rfl) (Opd.tmp rfl) hx5)), ⟨rfl, rfl, trivial⟩, rfl, rfl⟩, ⟨.inr ⟨(OpJ.w (J_load rfl Try.isAgg22 (Opd.tmp rfl))), ⟨rfl, trivial⟩, rfl, rfl⟩, ⟨.inr ⟨(OpJ.w (J_call rfl Try.call18 (c_laws_eqInt64S hx6) (Opds.cons (Opd.tmp rfl) (Opds.cons (Opd.tmp rfl) Opds.nil)))), ⟨rfl, rfl, trivial⟩, rfl, rfl⟩, ⟨.inr ⟨(OpJ.w (J_not rfl (Opd.tmp rfl))), ⟨rfl, trivial⟩, rfl, rfl⟩, trivial⟩⟩⟩⟩⟩⟩⟩⟩⟩⟩ ?_
      refine RegL.nil ?_
      refine Ct.then_tr ?_
      refine Tr.weak (Γ' := [(0, (pSl 1 (cSl 1 (cK .i64)) a_0)), (1, (pSl 1 (cSl 1 (cK .i64)) b_1)), (5, (pEq (.int .i64 v2))), (26, (pEq (.bool (!x6))))]) ⟨rfl, rfl, rfl, rfl, trivial⟩ ?_
      refine Tr.cond (Opd.tmp rfl) (fun hc => ?_) (fun hc => ?_)
      · replace h := bif_t hc h
        refine Tr.seq ?_
        refine Tr.region ?_
        refine RegL.pure (p := (pEq (.bool false))) rfl rfl rfl (J_assign rfl Opd.con) ?_
        refine RegL.nil ?_
        refine Ct.then_tr ?_
        refine Tr.weak (Γ' := [(4, (pEq (.bool false)))]) ⟨rfl, trivial⟩ ?_
        refine Tr.ret ?_
        refine Ct.blk_ret ?_
        refine Ct.then_ret ?_
        replace h := map_some h; obtain ⟨r1, h, rfl⟩ := h
        refine Ct.out_ret fun e => ?_
        subst e
        refine Ct.blk_ret ?_
        refine Ct.then_ret ?_
        replace h := Option.some.inj h; subst h
        exact Ct.retH1 (Ωx := []) () rfl (RvOk.tmp rfl) rfl
      · replace h := bif_f hc h
        refine Tr.skip ?_
        refine Ct.blk_normal ?_
        refine Ct.then_tr ?_
        refine Tr.weak (Γ' := [(0, (pSl 1 (cSl 1 (cK .i64)) a_0)), (1, (pSl 1 (cSl 1 (cK .i64)) b_1)), (5, (pEq (.int .i64 v2)))]) ⟨rfl, rfl, rfl, trivial⟩ ?_
        refine Tr.region ?_
        refine RegL.pure (p := (pEq (.int .i64 v2))) rfl rfl rfl (J_move rfl (Opd.tmp rfl)) ?_
        refine RegL.pure (p := (pEq (.int .i64 (w64 (v2 + (1 : Int)))))) rfl rfl rfl (J_bin rfl (Opd.tmp rfl) Opd.con B_add) ?_
        refine RegL.pure (p := (pEq (.int .i64 (w64 (v2 + (1 : Int)))))) rfl rfl rfl (J_assign rfl (Opd.tmp rfl)) ?_
        refine RegL.nil ?_
        replace h := Option.some.inj h; subst h
        exact Ct.again () rfl ⟨rfl, rfl, rfl, trivial⟩
    · replace h := bif_f hc h
      refine Tr.exit ?_
      refine Ct.then_exit ?_
      replace h := map_some h; obtain ⟨r1, h, rfl⟩ := h
      refine Ct.out_exit fun e => ?_
      subst e
      refine Ct.blk_exit ?_
      refine Ct.then_tr ?_
      refine Tr.weak (Γ' := []) trivial ?_
      refine Tr.seq ?_
      refine Tr.region ?_
      refine RegL.pure (p := (pEq (.bool true))) rfl rfl rfl (J_assign rfl Opd.con) ?_
      refine RegL.nil ?_
      refine Ct.then_tr ?_
      refine Tr.weak (Γ' := [(4, (pEq (.bool true)))]) ⟨rfl, trivial⟩ ?_
      refine Tr.ret ?_
      replace h := Option.some.inj h; subst h
      exact Ct.retH1 (Ωx := []) () rfl (RvOk.tmp rfl) rfl

theorem c_laws_eqProblem {a_0 : GProblem} {b_1 : GProblem} {r : Bool} (h : m_laws_eqProblem a_0 b_1 = some r) : CallJ Try.prog 23 [(pAgg (cGProblem a_0)), (pAgg (cGProblem b_1))] (pEq (.bool r)) := by
  unfold m_laws_eqProblem at h
  refine CallJ.enterH Try.func23 rfl Try.ntmps23 rfl fun W I0 H => ?_
  refine Tr.weak (Γ' := [(0, (pAgg (cGProblem a_0))), (1, (pAgg (cGProblem b_1)))]) ⟨rfl, rfl, trivial⟩ ?_
  refine Tr.seq ?_
  refine Tr.region ?_
  refine RegL.pure (p := (pPtr (cGProblem a_0))) rfl rfl rfl (J_boxA rfl (Opd.tmp rfl)) ?_
  refine RegL.pure (p := (pPtr (cGProblem b_1))) rfl rfl rfl (J_boxA rfl (Opd.tmp rfl)) ?_
  refine RegL.pure (p := (pEq (.bool false))) rfl rfl rfl (J_assign rfl Opd.con) ?_
  refine RegL.nil ?_
  refine Ct.then_tr ?_
  refine Tr.weak (Γ' := [(2, (pPtr (cGProblem a_0))), (3, (pPtr (cGProblem b_1)))]) ⟨rfl, rfl, trivial⟩ ?_
  refine Tr.seq ?_
  refine Tr.seq ?_
  refine Tr.region ?_
  refine RegL.pure (p := (pPtr ((cSl 1 (cSl 1 (cK .i64))) a_0.Domains))) rfl rfl rfl (J_fieldAddr rfl Try.underlying32 rfl sz27 (by decide) (Opd.tmp rfl) rfl) ?_
  refine RegL.pure (p := (pSl 1 (cSl 1 (cK .i64)) a_0.Domains)) rfl rfl rfl (J_load rfl Try.isAgg27 (Opd.tmp rfl)) ?_
  refine RegL.pure (p := (pPtr ((cSl 1 (cSl 1 (cK .i64))) b_1.Domains))) rfl rfl rfl (J_fieldAddr rfl Try.underlying32 rfl sz27 (by decide) (Opd.tmp rfl) rfl) ?_
  refine RegL.pure (p := (pSl 1 (cSl 1 (cK .i64)) b_1.Domains)) rfl rfl rfl (J_load rfl Try.isAgg27 (Opd.tmp rfl)) ?_
  replace h := bind_some h; obtain ⟨x1, hx1, h⟩ := h
  refine RegL.pure (p := (pEq (.bool x1))) rfl rfl rfl (J_call rfl Try.call32 (c_laws_eqInt64SS hx1) (Opds.cons (Opd.tmp rfl) (Opds.cons (Opd.tmp rfl) Opds.nil))) ?_
  refine RegL.pure (p := (pEq (.bool (!x1)))) rfl rfl rfl (J_not rfl (Opd.tmp rfl)) ?_
  refine RegL.nil ?_
  refine Ct.then_tr ?_
  refine Tr.weak (Γ' := [(2, (pPtr (cGProblem a_0))), (3, (pPtr (cGProblem b_1))), (10, (pEq (.bool (!x1))))]) ⟨rfl, rfl, rfl, trivial⟩ ?_
  refine Tr.cond (Opd.tmp rfl) (fun hc => ?_) (fun hc => ?_)
  · replace h := bif_t hc h
    refine Tr.seq ?_
    refine Tr.region ?_
    refine RegL.pure (p := (pEq (.bool false))) rfl rfl rfl (J_assign rfl Opd.con) ?_
    refine RegL.nil ?_
    refine Ct.then_tr ?_
    refine Tr.weak (Γ' := [(4, (pEq (.bool false)))]) ⟨rfl, trivial⟩ ?_
    refine Tr.ret ?_
    refine Ct.then_ret ?_
    replace h := Option.some.inj h; subst h
    exact Ct.retH1 (Ωx := []) () rfl (RvOk.tmp rfl) rfl
  · replace h := bif_f hc h
    refine Tr.skip ?_
    refine Ct.then_tr ?_
    refine Tr.weak (Γ' := [(2, (pPtr (cGProblem a_0))), (3, (pPtr (cGProblem b_1)))]) ⟨rfl, rfl, trivial⟩ ?_
    refine Tr.seq ?_
    refine Tr.seq ?_
    refine Tr.region ?_
    refine RegL.pure (p := (pPtr ((cSl 1 (cSl 1 (cK .i64))) a_0.Apart))) rfl rfl rfl (J_fieldAddr rfl Try.underlying32 rfl sz27 (by decide) (Opd.tmp rfl) rfl) ?_
    refine RegL.pure (p := (pSl 1 (cSl 1 (cK .i64)) a_0.Apart)) rfl rfl rfl (J_load rfl Try.isAgg27 (Opd.tmp rfl)) ?_
    refine RegL.pure (p := (pPtr ((cSl 1 (cSl 1 (cK .i64))) b_1.Apart))) rfl rfl rfl (J_fieldAddr rfl Try.underlying32 rfl sz27 (by decide) (Opd.tmp rfl) rfl) ?_
    refine RegL.pure (p := (pSl 1 (cSl 1 (cK .i64)) b_1.Apart)) rfl rfl rfl (J_load rfl Try.isAgg27 (Opd.tmp rfl)) ?_
    replace h := bind_some h; obtain ⟨x2, hx2, h⟩ := h
    refine RegL.pure (p := (pEq (.bool x2))) rfl rfl rfl (J_call rfl Try.call32 (c_laws_eqInt64SS hx2) (Opds.cons (Opd.tmp rfl) (Opds.cons (Opd.tmp rfl) Opds.nil))) ?_
    refine RegL.pure (p := (pEq (.bool (!x2)))) rfl rfl rfl (J_not rfl (Opd.tmp rfl)) ?_
    refine RegL.nil ?_
    refine Ct.then_tr ?_
    refine Tr.weak (Γ' := [(16, (pEq (.bool (!x2))))]) ⟨rfl, trivial⟩ ?_
    refine Tr.cond (Opd.tmp rfl) (fun hc => ?_) (fun hc => ?_)
    · replace h := bif_t hc h
      refine Tr.seq ?_
      refine Tr.region ?_
      refine RegL.pure (p := (pEq (.bool false))) rfl rfl rfl (J_assign rfl Opd.con) ?_
      refine RegL.nil ?_
      refine Ct.then_tr ?_
      refine Tr.weak (Γ' := [(4, (pEq (.bool false)))]) ⟨rfl, trivial⟩ ?_
      refine Tr.ret ?_
      refine Ct.then_ret ?_
      replace h := Option.some.inj h; subst h
      exact Ct.retH1 (Ωx := []) () rfl (RvOk.tmp rfl) rfl
    · replace h := bif_f hc h
      refine Tr.skip ?_
      refine Ct.then_tr ?_
      refine Tr.weak (Γ' := []) trivial ?_
      refine Tr.seq ?_
      refine Tr.region ?_
      refine RegL.pure (p := (pEq (.bool true))) rfl rfl rfl (J_assign rfl Opd.con) ?_
      refine RegL.nil ?_
      refine Ct.then_tr ?_
      refine Tr.weak (Γ' := [(4, (pEq (.bool true)))]) ⟨rfl, trivial⟩ ?_
      refine Tr.ret ?_
      replace h := Option.some.inj h; subst h
      exact Ct.retH1 (Ωx := []) () rfl (RvOk.tmp rfl) rfl

theorem o_laws_markInt64S {a_0 : (List Int)} {k_1 : Int} {ho0 : Option Addr} {hn0 hc0 : Nat} {r : (Int × (List Int))} (h : m_laws_markInt64S a_0 k_1 = some r) : CallH Try.prog 38 [(pEq (.slice ho0 hn0 hc0)), (pEq (.int .i64 k_1))] [oSl 2 1 (cK .i64) ho0 hn0 hc0 a_0] (fun g : Unit => (pEq (.int .i64 r.1))) (fun g : Unit => [oSl 2 1 (cK .i64) ho0 hn0 hc0 r.2]) := by
  unfold m_laws_markInt64S at h
  refine CallH.enter Try.func38 rfl Try.ntmps38 rfl fun W I0 H => ?_
  refine Tr.weak (Γ' := [(0, (pEq (.slice ho0 hn0 hc0))), (1, (pEq (.int .i64 k_1)))]) ⟨rfl, rfl, trivial⟩ ?_
  refine Tr.seq ?_
  refine Tr.region ?_
  refine RegL.pure (p := (pEq (.int .i64 (0 : Int)))) rfl rfl rfl (J_assign rfl Opd.con) ?_
  refine RegL.nil ?_
  refine Ct.then_tr ?_
  refine Tr.weak (Γ' := [(0, (pEq (.slice ho0 hn0 hc0))), (1, (pEq (.int .i64 k_1)))]) ⟨rfl, rfl, trivial⟩ ?_
  refine Tr.seq ?_
  refine Tr.seq ?_
  refine Tr.region ?_
  refine RegL.pure (p := (pEq (.int .i64 (0 : Int)))) rfl rfl rfl (J_assign rfl Opd.con) ?_
  refine RegL.nil ?_
  refine Ct.then_tr ?_
  refine Tr.weak (Γ' := [(0, (pEq (.slice ho0 hn0 hc0))), (1, (pEq (.int .i64 k_1))), (5, (pEq (.int .i64 (0 : Int))))]) ⟨rfl, rfl, rfl, trivial⟩ ?_
  replace h := bind_some h; obtain ⟨x2, hx2, h⟩ := h
  refine Tr.cut (γ := Unit) (Γm := fun g => [(1, (pEq (.int .i64 x2.1)))]) (Ωm := fun g => [oSl 2 1 (cK .i64) ho0 hn0 hc0 x2.2]) ?_ (fun g10 => ?_)
  · clear h
    have h := hx2
    clear hx2
    refine Tr.block ?_
    refine Tr.weak (Γ' := [(0, (pEq (.slice ho0 hn0 hc0))), (1, (pEq (.int .i64 k_1))), (5, (pEq (.int .i64 (0 : Int))))]) ⟨rfl, rfl, rfl, trivial⟩ ?_
    refine Tr.loop (γ := Unit) (σ := (Int × Int × (List Int))) (Γσ := fun s g => [(0, (pEq (.slice ho0 hn0 hc0))), (1, (pEq (.int .i64 s.1))), (5, (pEq (.int .i64 s.2.1)))]) (Ωσ := fun s g => [oSl 2 1 (cK .i64) ho0 hn0 hc0 s.2.2]) (g := ()) h ?_
    clear h
    rintro ⟨v4, v5, v6⟩ g7 t h
    replace h : m_laws_markInt64S_B3  v4 v5 v6 = some t := h
    unfold m_laws_markInt64S_B3 at h
    refine Tr.weakO (Γ' := [(0, (pEq (.slice ho0 hn0 hc0))), (1, (pEq (.int .i64 v4))), (5, (pEq (.int .i64 v5)))]) (Ω' := [oSl 2 1 (cK .i64) ho0 hn0 hc0 v6]) rfl ⟨rfl, rfl, rfl, trivial⟩ ?_
    refine Tr.seq ?_
    refine Tr.seq ?_
    refine Tr.region ?_
    refine RegL.pure (p := (pEq (.int .i64 v5))) rfl rfl rfl (J_move rfl (Opd.tmp rfl)) ?_
    refine RegL.pure (p := (pEq (.slice ho0 hn0 hc0))) rfl rfl rfl (J_move rfl (Opd.tmp rfl)) ?_
    refine RegL.pureW (p := (pEq (.int .i64 (v6.length : Int)))) rfl rfl rfl (W_rowLen (j := 0) rfl Try.underlying22 (Opd.tmp rfl) rfl) ?_
    refine RegL.pure (p := (pEq (.bool (decide (v5 < (v6.length : Int)))))) rfl rfl rfl (J_bin rfl (Opd.tmp rfl) (Opd.tmp rfl) B_lss) ?_
    refine RegL.nil ?_
    refine Ct.then_tr ?_
    refine Tr.weak (Γ' := [(0, (pEq (.slice ho0 hn0 hc0))), (1, (pEq (.int .i64 v4))), (5, (pEq (.int .i64 v5))), (9, (pEq (.bool (decide (v5 < (v6.length : Int))))))]) ⟨rfl, rfl, rfl, rfl, trivial⟩ ?_
    refine Tr.cond (Opd.tmp rfl) (fun hc => ?_) (fun hc => ?_)
    · replace h := bif_t hc h
      refine Tr.skip ?_
      refine Ct.then_tr ?_
      refine Tr.weak (Γ' := [(0, (pEq (.slice ho0 hn0 hc0))), (1, (pEq (.int .i64 v4))), (5, (pEq (.int .i64 v5)))]) ⟨rfl, rfl, rfl, trivial⟩ ?_
      refine Tr.seq ?_
      refine Tr.block ?_
      refine Tr.seq ?_
      refine Tr.region ?_
      refine RegL.pure (p := (pEq (.slice ho0 hn0 hc0))) rfl rfl rfl (J_move rfl (Opd.tmp rfl)) ?_
      refine RegL.pure (p := (pEq (.int .i64 v5))) rfl rfl rfl (J_move rfl (Opd.tmp rfl)) ?_
      refine RegL.pure (p := (pEq (.int .i64 v4))) rfl rfl rfl (J_move rfl (Opd.tmp rfl)) ?_
      replace h := bind_some h; obtain ⟨u8, hu8, h⟩ := h
      refine RegL.pureW (p := (pEq (.pointer (some ⟨blk ho0, (v5).toNat * 1, none⟩)))) rfl rfl rfl (W_rowIdx (j := 0) rfl Try.underlying22 sz2 (Opd.tmp rfl) (Opd.tmp rfl) rfl (inB_some hu8)) ?_
      refine RegL.stepN (γ := Unit) (p := fun _ => pAny) (Ω' := fun _ => [oSl 2 1 (cK .i64) ho0 hn0 hc0 (v6.set (v5).toNat v4)]) rfl rfl (M_rowStore rfl sz2 (fun _ => rfl) (Opd.tmp rfl) (Opd.tmp rfl) rfl OneC.int (setL_of (inB_some hu8))) fun g9 => ?_
      refine RegL.nil ?_
      refine Ct.then_tr ?_
      refine Tr.weak (Γ' := [(0, (pEq (.slice ho0 hn0 hc0))), (1, (pEq (.int .i64 v4))), (5, (pEq (.int .i64 v5)))]) ⟨rfl, rfl, rfl, trivial⟩ ?_
      refine Tr.region ?_
      refine RegL.pure (p := (pEq (.int .i64 v4))) rfl rfl rfl (J_move rfl (Opd.tmp rfl)) ?_
      refine RegL.pure (p := (pEq (.int .i64 (w64 (v4 + (1 : Int)))))) rfl rfl rfl (J_bin rfl (Opd.tmp rfl) Opd.con B_add) ?_
      refine RegL.pure (p := (pEq (.int .i64 (w64 (v4 + (1 : Int)))))) rfl rfl rfl (J_assign rfl (Opd.tmp rfl)) ?_
      refine RegL.nil ?_
      refine Ct.blk_normal ?_
      refine Ct.then_tr ?_
      refine Tr.weak (Γ' := [(0, (pEq (.slice ho0 hn0 hc0))), (1, (pEq (.int .i64 (w64 (v4 + (1 : Int)))))), (5, (pEq (.int .i64 v5)))]) ⟨rfl, rfl, rfl, trivial⟩ ?_
      refine Tr.region ?_
      refine RegL.pure (p := (pEq (.int .i64 v5))) rfl rfl rfl (J_move rfl (Opd.tmp rfl)) ?_
      refine RegL.pure (p := (pEq (.int .i64 (w64 (v5 + (1 : Int)))))) rfl rfl rfl (J_bin rfl (Opd.tmp rfl) Opd.con B_add) ?_
      refine RegL.pure (p := (pEq (.int .i64 (w64 (v5 + (1 : Int)))))) rfl rfl rfl (J_assign rfl (Opd.tmp rfl)) ?_
      refine RegL.nil ?_
      replace h := Option.some.inj h; subst h
      exact Ct.again () rfl ⟨rfl, rfl, rfl, trivial⟩
    · replace h := bif_f hc h
      refine Tr.exit ?_
      refine Ct.then_exit ?_
      replace h := map_some h; obtain ⟨r1, h, rfl⟩ := h
      refine Ct.out_exit fun e => ?_
      subst e
      refine Ct.blk_exit ?_
      replace h := Option.some.inj h; subst h
      exact Ct.mid () rfl ⟨rfl, trivial⟩
  · clear hx2
    refine Ct.then_tr ?_
    refine Tr.weak (Γ' := [(1, (pEq (.int .i64 x2.1)))]) ⟨rfl, trivial⟩ ?_
    refine Tr.seq ?_
    refine Tr.region ?_
    refine RegL.pure (p := (pEq (.int .i64 x2.1))) rfl rfl rfl (J_move rfl (Opd.tmp rfl)) ?_
    refine RegL.pure (p := (pEq (.int .i64 x2.1))) rfl rfl rfl (J_assign rfl (Opd.tmp rfl)) ?_
    refine RegL.nil ?_
    refine Ct.then_tr ?_
    refine Tr.weak (Γ' := [(4, (pEq (.int .i64 x2.1)))]) ⟨rfl, trivial⟩ ?_
    refine Tr.ret ?_
    replace h := Option.some.inj h; subst h
    exact Ct.retH1 (Ωx := []) () rfl (RvOk.tmp rfl) rfl

theorem o_laws_markInt64SS {a_0 : (List (List Int))} {k_1 : Int} {ho0 : Option Addr} {hn0 hc0 : Nat} {hh0 : List G3} {r : (Int × (List (List Int)))} (h : m_laws_markInt64SS a_0 k_1 = some r) : CallH Try.prog 33 [(pEq (.slice ho0 hn0 hc0)), (pEq (.int .i64 k_1))] [oSS 22 2 1 (cK .i64) ho0 hn0 hc0 hh0 a_0] (fun g : Unit => (pEq (.int .i64 r.1))) (fun g : Unit => [oSS 22 2 1 (cK .i64) ho0 hn0 hc0 hh0 r.2]) := by
  unfold m_laws_markInt64SS at h
  refine CallH.enter Try.func33 rfl Try.ntmps33 rfl fun W I0 H => ?_
  refine Tr.weak (Γ' := [(0, (pEq (.slice ho0 hn0 hc0))), (1, (pEq (.int .i64 k_1)))]) ⟨rfl, rfl, trivial⟩ ?_
  refine Tr.seq ?_
  refine Tr.region ?_
  refine RegL.pure (p := (pEq (.int .i64 (0 : Int)))) rfl rfl rfl (J_assign rfl Opd.con) ?_
  refine RegL.nil ?_
  refine Ct.then_tr ?_
  refine Tr.weak (Γ' := [(0, (pEq (.slice ho0 hn0 hc0))), (1, (pEq (.int .i64 k_1)))]) ⟨rfl, rfl, trivial⟩ ?_
  refine Tr.seq ?_
  refine Tr.seq ?_
  refine Tr.region ?_
  refine RegL.pure (p := (pEq (.int .i64 (0 : Int)))) rfl rfl rfl (J_assign rfl Opd.con) ?_
  refine RegL.nil ?_
  refine Ct.then_tr ?_
  refine Tr.weak (Γ' := [(0, (pEq (.slice ho0 hn0 hc0))), (1, (pEq (.int .i64 k_1))), (5, (pEq (.int .i64 (0 : Int))))]) ⟨rfl, rfl, rfl, trivial⟩ ?_
  replace h := bind_some h; obtain ⟨x2, hx2, h⟩ := h
  refine Tr.cut (γ := Unit) (Γm := fun g => [(1, (pEq (.int .i64 x2.1)))]) (Ωm := fun g => [oSS 22 2 1 (cK .i64) ho0 hn0 hc0 hh0 x2.2]) ?_ (fun g12 => ?_)
  · clear h
    have h := hx2
    clear hx2
    refine Tr.block ?_
    refine Tr.weak (Γ' := [(0, (pEq (.slice ho0 hn0 hc0))), (1, (pEq (.int .i64 k_1))), (5, (pEq (.int .i64 (0 : Int))))]) ⟨rfl, rfl, rfl, trivial⟩ ?_
    refine Tr.loop (γ := Unit) (σ := (Int × Int × (List (List Int)))) (Γσ := fun s g => [(0, (pEq (.slice ho0 hn0 hc0))), (1, (pEq (.int .i64 s.1))), (5, (pEq (.int .i64 s.2.1)))]) (Ωσ := fun s g => [oSS 22 2 1 (cK .i64) ho0 hn0 hc0 hh0 s.2.2]) (g := ()) h ?_
    clear h
    rintro ⟨v4, v5, v6⟩ g7 t h
    replace h : m_laws_markInt64SS_B3  v4 v5 v6 = some t := h
    unfold m_laws_markInt64SS_B3 at h
    refine Tr.weakO (Γ' := [(0, (pEq (.slice ho0 hn0 hc0))), (1, (pEq (.int .i64 v4))), (5, (pEq (.int .i64 v5)))]) (Ω' := [oSS 22 2 1 (cK .i64) ho0 hn0 hc0 hh0 v6]) rfl ⟨rfl, rfl, rfl, trivial⟩ ?_
    refine Tr.seq ?_
    refine Tr.seq ?_
    refine Tr.region ?_
    refine RegL.pure (p := (pEq (.int .i64 v5))) rfl rfl rfl (J_move rfl (Opd.tmp rfl)) ?_
    refine RegL.pure (p := (pEq (.slice ho0 hn0 hc0))) rfl rfl rfl (J_move rfl (Opd.tmp rfl)) ?_
    refine RegL.pureW (p := (pEq (.int .i64 (v6.length : Int)))) rfl rfl rfl (W_nestLen (j := 0) rfl Try.underlying27 (Opd.tmp rfl) rfl) ?_
    refine RegL.pure (p := (pEq (.bool (decide (v5 < (v6.length : Int)))))) rfl rfl rfl (J_bin rfl (Opd.tmp rfl) (Opd.tmp rfl) B_lss) ?_
    refine RegL.nil ?_
    refine Ct.then_tr ?_
    refine Tr.weak (Γ' := [(0, (pEq (.slice ho0 hn0 hc0))), (1, (pEq (.int .i64 v4))), (5, (pEq (.int .i64 v5))), (9, (pEq (.bool (decide (v5 < (v6.length : Int))))))]) ⟨rfl, rfl, rfl, rfl, trivial⟩ ?_
    refine Tr.cond (Opd.tmp rfl) (fun hc => ?_) (fun hc => ?_)
    · replace h := bif_t hc h
      refine Tr.skip ?_
      refine Ct.then_tr ?_
      refine Tr.weak (Γ' := [(0, (pEq (.slice ho0 hn0 hc0))), (1, (pEq (.int .i64 v4))), (5, (pEq (.int .i64 v5)))]) ⟨rfl, rfl, rfl, trivial⟩ ?_
      refine Tr.seq ?_
      refine Tr.block ?_
      refine Tr.region ?_
      refine RegL.pure (p := (pEq (.slice ho0 hn0 hc0))) rfl rfl rfl (J_move rfl (Opd.tmp rfl)) ?_
      refine RegL.pure (p := (pEq (.int .i64 v5))) rfl rfl rfl (J_move rfl (Opd.tmp rfl)) ?_
      replace h := bind_some h; obtain ⟨x8, hx8, h⟩ := h
      refine RegL.pureW (p := (pEq (.pointer (some ⟨blk ho0, (v5).toNat * 1, none⟩)))) rfl rfl rfl (W_nestIdx (j := 0) rfl Try.underlying27 sz22 (Opd.tmp rfl) (Opd.tmp rfl) rfl (idx_lt hx8)) ?_
      refine RegL.pureW (p := (pEq (hdrV (gd hh0 v5)))) rfl rfl rfl (W_nestLoad (j := 0) rfl Try.isAgg22 (Opd.tmp rfl) rfl hx8) ?_
      refine RegL.pure (p := (pEq (.int .i64 v4))) rfl rfl rfl (J_move rfl (Opd.tmp rfl)) ?_
      replace h := bind_some h; obtain ⟨x10, hx10, h⟩ := h
      refine RegL.re (Ω2 := [oSl 2 1 (cK .i64) (gd hh0 v5).1 (gd hh0 v5).2.1 (gd hh0 v5).2.2 x8, oHole 22 2 1 (cK .i64) ho0 hn0 hc0 hh0 v6 v5]) (fun h => nest_focus hx8 h) ?_
      refine RegL.step (γ := Unit) (p := fun g => (pEq (.int .i64 x10.1))) (Ω' := fun g => [oSl 2 1 (cK .i64) (gd hh0 v5).1 (gd hh0 v5).2.1 (gd hh0 v5).2.2 x10.2, oHole 22 2 1 (cK .i64) ho0 hn0 hc0 hh0 v6 v5]) rfl rfl rfl (M_callH (Ωi := [oSl 2 1 (cK .i64) (gd hh0 v5).1 (gd hh0 v5).2.1 (gd hh0 v5).2.2 x8]) rfl Try.call38 (o_laws_markInt64S hx10) (Opds.cons (Opd.tmp rfl) (Opds.cons (Opd.tmp rfl) Opds.nil))) fun g11 => ?_
      refine RegL.re (Ω2 := [oSS 22 2 1 (cK .i64) ho0 hn0 hc0 hh0 (v6.set (v5).toNat x10.2)]) (fun h => nest_unfocus hx8 h) ?_
      refine RegL.pure (p := (pEq (.int .i64 x10.1))) rfl rfl rfl (J_assign rfl (Opd.tmp rfl)) ?_
      refine RegL.nil ?_
      refine Ct.blk_normal ?_
      refine Ct.then_tr ?_
      refine Tr.weak (Γ' := [(0, (pEq (.slice ho0 hn0 hc0))), (1, (pEq (.int .i64 x10.1))), (5, (pEq (.int .i64 v5)))]) ⟨rfl, rfl, rfl, trivial⟩ ?_
      refine Tr.region ?_
      refine RegL.pure (p := (pEq (.int .i64 v5))) rfl rfl rfl (J_move rfl (Opd.tmp rfl)) ?_
      refine RegL.pure (p := (pEq (.int .i64 (w64 (v5 + (1 : Int)))))) rfl rfl rfl (J_bin rfl (Opd.tmp rfl) Opd.con B_add) ?_
      refine RegL.pure (p := (pEq (.int .i64 (w64 (v5 + (1 : Int)))))) rfl rfl rfl (J_assign rfl (Opd.tmp rfl)) ?_
      refine RegL.nil ?_
      replace h := Option.some.inj h; subst h
      exact Ct.again () rfl ⟨rfl, rfl, rfl, trivial⟩
    · replace h := bif_f hc h
      refine Tr.exit ?_
      refine Ct.then_exit ?_
      replace h := map_some h; obtain ⟨r1, h, rfl⟩ := h
      refine Ct.out_exit fun e => ?_
      subst e
      refine Ct.blk_exit ?_
      replace h := Option.some.inj h; subst h
      exact Ct.mid () rfl ⟨rfl, trivial⟩
  · clear hx2
    refine Ct.then_tr ?_
    refine Tr.weak (Γ' := [(1, (pEq (.int .i64 x2.1)))]) ⟨rfl, trivial⟩ ?_
    refine Tr.seq ?_
    refine Tr.region ?_
    refine RegL.pure (p := (pEq (.int .i64 x2.1))) rfl rfl rfl (J_move rfl (Opd.tmp rfl)) ?_
    refine RegL.pure (p := (pEq (.int .i64 x2.1))) rfl rfl rfl (J_assign rfl (Opd.tmp rfl)) ?_
    refine RegL.nil ?_
    refine Ct.then_tr ?_
    refine Tr.weak (Γ' := [(4, (pEq (.int .i64 x2.1)))]) ⟨rfl, trivial⟩ ?_
    refine Tr.ret ?_
    replace h := Option.some.inj h; subst h
    exact Ct.retH1 (Ωx := []) () rfl (RvOk.tmp rfl) rfl

theorem o_laws_markProblem {a_0 : GProblem} {k_1 : Int} {ho0_0 : Option Addr} {hn0_0 hc0_0 : Nat} {hh0_0 : List G3} {ho0_1 : Option Addr} {hn0_1 hc0_1 : Nat} {hh0_1 : List G3} {r : (Int × (List (List Int)) × (List (List Int)))} (h : m_laws_markProblem a_0 k_1 = some r) : CallH Try.prog 34 [(pAgg [(pEq (.slice ho0_0 hn0_0 hc0_0)), (pEq (.slice ho0_1 hn0_1 hc0_1))]), (pEq (.int .i64 k_1))] [oSS 22 2 1 (cK .i64) ho0_0 hn0_0 hc0_0 hh0_0 a_0.Domains, oSS 22 2 1 (cK .i64) ho0_1 hn0_1 hc0_1 hh0_1 a_0.Apart] (fun g : Unit => (pEq (.int .i64 r.1))) (fun g : Unit => [oSS 22 2 1 (cK .i64) ho0_0 hn0_0 hc0_0 hh0_0 r.2.1, oSS 22 2 1 (cK .i64) ho0_1 hn0_1 hc0_1 hh0_1 r.2.2]) := by
  unfold m_laws_markProblem at h
  refine CallH.enter Try.func34 rfl Try.ntmps34 rfl fun W I0 H => ?_
  refine Tr.weak (Γ' := [(0, (pAgg [(pEq (.slice ho0_0 hn0_0 hc0_0)), (pEq (.slice ho0_1 hn0_1 hc0_1))])), (1, (pEq (.int .i64 k_1)))]) ⟨rfl, rfl, trivial⟩ ?_
  refine Tr.seq ?_
  refine Tr.region ?_
  refine RegL.step (γ := Nat) (p := fun b => pEq (.pointer (some ⟨b, 0, none⟩))) (Ω' := fun b => [oBlk b [(pEq (.slice ho0_0 hn0_0 hc0_0)), (pEq (.slice ho0_1 hn0_1 hc0_1))], oSS 22 2 1 (cK .i64) ho0_0 hn0_0 hc0_0 hh0_0 a_0.Domains, oSS 22 2 1 (cK .i64) ho0_1 hn0_1 hc0_1 hh0_1 a_0.Apart]) rfl rfl rfl (M_boxA rfl (Opd.tmp rfl)) fun b3 => ?_
  refine RegL.pure (p := (pEq (.int .i64 (0 : Int)))) rfl rfl rfl (J_assign rfl Opd.con) ?_
  refine RegL.nil ?_
  refine Ct.then_tr ?_
  refine Tr.weak (Γ' := [(1, (pEq (.int .i64 k_1))), (2, (pEq (.pointer (some ⟨b3, 0, none⟩))))]) ⟨rfl, rfl, trivial⟩ ?_
  refine Tr.seq ?_
  refine Tr.region ?_
  refine RegL.pure (p := (pEq (.pointer (some ⟨b3, 0, none⟩)))) rfl rfl rfl (J_fieldAddrE rfl Try.underlying32 rfl sz27 (by decide) (Opd.tmp rfl) rfl) ?_
  refine RegL.pureW (p := (pEq (.slice ho0_0 hn0_0 hc0_0))) rfl rfl rfl (W_load (i := 0) rfl Try.isAgg27 (Opd.tmp rfl) rfl rfl) ?_
  refine RegL.pure (p := (pEq (.int .i64 k_1))) rfl rfl rfl (J_move rfl (Opd.tmp rfl)) ?_
  replace h := bind_some h; obtain ⟨x4, hx4, h⟩ := h
  refine RegL.re (Ω2 := [oSS 22 2 1 (cK .i64) ho0_0 hn0_0 hc0_0 hh0_0 a_0.Domains, oBlk b3 [(pEq (.slice ho0_0 hn0_0 hc0_0)), (pEq (.slice ho0_1 hn0_1 hc0_1))], oSS 22 2 1 (cK .i64) ho0_1 hn0_1 hc0_1 hh0_1 a_0.Apart]) (fun h => SatO.pick 1 h) ?_
  refine RegL.step (γ := Unit) (p := fun g => (pEq (.int .i64 x4.1))) (Ω' := fun g => [oSS 22 2 1 (cK .i64) ho0_0 hn0_0 hc0_0 hh0_0 x4.2, oBlk b3 [(pEq (.slice ho0_0 hn0_0 hc0_0)), (pEq (.slice ho0_1 hn0_1 hc0_1))], oSS 22 2 1 (cK .i64) ho0_1 hn0_1 hc0_1 hh0_1 a_0.Apart]) rfl rfl rfl (M_callH (Ωi := [oSS 22 2 1 (cK .i64) ho0_0 hn0_0 hc0_0 hh0_0 a_0.Domains]) rfl Try.call33 (o_laws_markInt64SS hx4) (Opds.cons (Opd.tmp rfl) (Opds.cons (Opd.tmp rfl) Opds.nil))) fun g5 => ?_
  refine RegL.pure (p := (pEq (.int .i64 x4.1))) rfl rfl rfl (J_assign rfl (Opd.tmp rfl)) ?_
  refine RegL.nil ?_
  refine Ct.then_tr ?_
  refine Tr.weak (Γ' := [(1, (pEq (.int .i64 x4.1))), (2, (pEq (.pointer (some ⟨b3, 0, none⟩))))]) ⟨rfl, rfl, trivial⟩ ?_
  refine Tr.seq ?_
  refine Tr.region ?_
  refine RegL.pure (p := (pEq (.pointer (some ⟨b3, 1, none⟩)))) rfl rfl rfl (J_fieldAddrE rfl Try.underlying32 rfl sz27 (by decide) (Opd.tmp rfl) rfl) ?_
  refine RegL.pureW (p := (pEq (.slice ho0_1 hn0_1 hc0_1))) rfl rfl rfl (W_load (i := 1) rfl Try.isAgg27 (Opd.tmp rfl) rfl rfl) ?_
  refine RegL.pure (p := (pEq (.int .i64 x4.1))) rfl rfl rfl (J_move rfl (Opd.tmp rfl)) ?_
  replace h := bind_some h; obtain ⟨x6, hx6, h⟩ := h
  refine RegL.re (Ω2 := [oSS 22 2 1 (cK .i64) ho0_1 hn0_1 hc0_1 hh0_1 a_0.Apart, oSS 22 2 1 (cK .i64) ho0_0 hn0_0 hc0_0 hh0_0 x4.2, oBlk b3 [(pEq (.slice ho0_0 hn0_0 hc0_0)), (pEq (.slice ho0_1 hn0_1 hc0_1))]]) (fun h => SatO.pick 2 h) ?_
  refine RegL.step (γ := Unit) (p := fun g => (pEq (.int .i64 x6.1))) (Ω' := fun g => [oSS 22 2 1 (cK .i64) ho0_1 hn0_1 hc0_1 hh0_1 x6.2, oSS 22 2 1 (cK .i64) ho0_0 hn0_0 hc0_0 hh0_0 x4.2, oBlk b3 [(pEq (.slice ho0_0 hn0_0 hc0_0)), (pEq (.slice ho0_1 hn0_1 hc0_1))]]) rfl rfl rfl (M_callH (Ωi := [oSS 22 2 1 (cK .i64) ho0_1 hn0_1 hc0_1 hh0_1 a_0.Apart]) rfl Try.call33 (o_laws_markInt64SS hx6) (Opds.cons (Opd.tmp rfl) (Opds.cons (Opd.tmp rfl) Opds.nil))) fun g7 => ?_
  refine RegL.pure (p := (pEq (.int .i64 x6.1))) rfl rfl rfl (J_assign rfl (Opd.tmp rfl)) ?_
  refine RegL.nil ?_
  refine Ct.then_tr ?_
  refine Tr.weak (Γ' := [(1, (pEq (.int .i64 x6.1)))]) ⟨rfl, trivial⟩ ?_
  refine Tr.seq ?_
  refine Tr.region ?_
  refine RegL.pure (p := (pEq (.int .i64 x6.1))) rfl rfl rfl (J_move rfl (Opd.tmp rfl)) ?_
  refine RegL.pure (p := (pEq (.int .i64 x6.1))) rfl rfl rfl (J_assign rfl (Opd.tmp rfl)) ?_
  refine RegL.nil ?_
  refine Ct.then_tr ?_
  refine Tr.weak (Γ' := [(4, (pEq (.int .i64 x6.1)))]) ⟨rfl, trivial⟩ ?_
  refine Tr.ret ?_
  refine Ct.re (Ω2 := [oSS 22 2 1 (cK .i64) ho0_0 hn0_0 hc0_0 hh0_0 x4.2, oSS 22 2 1 (cK .i64) ho0_1 hn0_1 hc0_1 hh0_1 x6.2, oBlk b3 [(pEq (.slice ho0_0 hn0_0 hc0_0)), (pEq (.slice ho0_1 hn0_1 hc0_1))]]) (fun h => SatO.pick 1 h) ?_
  refine Ct.re (Ω2 := [oBlk b3 [(pEq (.slice ho0_0 hn0_0 hc0_0)), (pEq (.slice ho0_1 hn0_1 hc0_1))], oSS 22 2 1 (cK .i64) ho0_0 hn0_0 hc0_0 hh0_0 x4.2, oSS 22 2 1 (cK .i64) ho0_1 hn0_1 hc0_1 hh0_1 x6.2]) (fun h => SatO.pick 2 h) ?_
  replace h := Option.some.inj h; subst h
  exact Ct.retH1 (Ωx := [oBlk b3 [(pEq (.slice ho0_0 hn0_0 hc0_0)), (pEq (.slice ho0_1 hn0_1 hc0_1))]]) () rfl (RvOk.tmp rfl) rfl

theorem c_laws_heldInt64S {a_0 : (List Int)} {k_1 : Int} {r : Int} (h : m_laws_heldInt64S a_0 k_1 = some r) : CallJ Try.prog 48 [(pSl 1 (cK .i64) a_0), (pEq (.int .i64 k_1))] (pEq (.int .i64 r)) := by
  unfold m_laws_heldInt64S at h
  refine CallJ.enterH Try.func48 rfl Try.ntmps48 rfl fun W I0 H => ?_
  refine Tr.weak (Γ' := [(0, (pSl 1 (cK .i64) a_0)), (1, (pEq (.int .i64 k_1)))]) ⟨rfl, rfl, trivial⟩ ?_
  refine Tr.seq ?_
  refine Tr.region ?_
  refine RegL.pure (p := (pEq (.int .i64 (0 : Int)))) rfl rfl rfl (J_assign rfl Opd.con) ?_
  refine RegL.nil ?_
  refine Ct.then_tr ?_
  refine Tr.weak (Γ' := [(0, (pSl 1 (cK .i64) a_0)), (1, (pEq (.int .i64 k_1)))]) ⟨rfl, rfl, trivial⟩ ?_
  refine Tr.seq ?_
  refine Tr.seq ?_
  refine Tr.region ?_
  refine RegL.pure (p := (pEq (.int .i64 (0 : Int)))) rfl rfl rfl (J_assign rfl Opd.con) ?_
  refine RegL.nil ?_
  refine Ct.then_tr ?_
  refine Tr.weak (Γ' := [(0, (pSl 1 (cK .i64) a_0)), (1, (pEq (.int .i64 k_1))), (5, (pEq (.int .i64 (0 : Int))))]) ⟨rfl, rfl, rfl, trivial⟩ ?_
  refine Tr.block ?_
  refine Tr.weak (Γ' := [(0, (pSl 1 (cK .i64) a_0)), (1, (pEq (.int .i64 k_1))), (5, (pEq (.int .i64 (0 : Int))))]) ⟨rfl, rfl, rfl, trivial⟩ ?_
  refine Tr.loop (γ := Unit) (σ := (Int × Int)) (Γσ := fun s g => [(0, (pSl 1 (cK .i64) a_0)), (1, (pEq (.int .i64 s.1))), (5, (pEq (.int .i64 s.2)))]) (Ωσ := fun s g => []) (g := ()) h ?_
  clear h
  rintro ⟨v2, v3⟩ g4 t h
  replace h : m_laws_heldInt64S_B1 a_0 v2 v3 = some t := h
  unfold m_laws_heldInt64S_B1 at h
  refine Tr.weakO (Γ' := [(0, (pSl 1 (cK .i64) a_0)), (1, (pEq (.int .i64 v2))), (5, (pEq (.int .i64 v3)))]) (Ω' := []) rfl ⟨rfl, rfl, rfl, trivial⟩ ?_
  refine Tr.seq ?_
  refine Tr.seq ?_
  refine Tr.region ?_
  refine RegL.pure (p := (pEq (.int .i64 v3))) rfl rfl rfl (J_move rfl (Opd.tmp rfl)) ?_
  refine RegL.pure (p := (pSl 1 (cK .i64) a_0)) rfl rfl rfl (J_move rfl (Opd.tmp rfl)) ?_
  refine RegL.pure (p := (pEq (.int .i64 (a_0.length : Int)))) rfl rfl rfl (J_len rfl Try.underlying22 (Opd.tmp rfl) rfl) ?_
  refine RegL.pure (p := (pEq (.bool (decide (v3 < (a_0.length : Int)))))) rfl rfl rfl (J_bin rfl (Opd.tmp rfl) (Opd.tmp rfl) B_lss) ?_
  refine RegL.nil ?_
  refine Ct.then_tr ?_
  refine Tr.weak (Γ' := [(0, (pSl 1 (cK .i64) a_0)), (1, (pEq (.int .i64 v2))), (5, (pEq (.int .i64 v3))), (9, (pEq (.bool (decide (v3 < (a_0.length : Int))))))]) ⟨rfl, rfl, rfl, rfl, trivial⟩ ?_
  refine Tr.cond (Opd.tmp rfl) (fun hc => ?_) (fun hc => ?_)
  · replace h := bif_t hc h
    refine Tr.skip ?_
    refine Ct.then_tr ?_
    refine Tr.weak (Γ' := [(0, (pSl 1 (cK .i64) a_0)), (1, (pEq (.int .i64 v2))), (5, (pEq (.int .i64 v3)))]) ⟨rfl, rfl, rfl, trivial⟩ ?_
    refine Tr.seq ?_
    refine Tr.block ?_
    refine Tr.seq ?_
    refine Tr.seq ?_
    refine Tr.region ?_
    refine RegL.pure (p := (pSl 1 (cK .i64) a_0)) rfl rfl rfl (J_move rfl (Opd.tmp rfl)) ?_
    refine RegL.pure (p := (pEq (.int .i64 v3))) rfl rfl rfl (J_move rfl (Opd.tmp rfl)) ?_
    replace h := bind_some h; obtain ⟨x5, hx5, h⟩ := h
    refine RegL.pure (p := (pPtr ((cK .i64) x5))) rfl rfl rfl (J_idx rfl Try.underlying22 sz2 (Opd.tmp rfl) (Opd.tmp rfl) hx5) ?_
    refine RegL.pure (p := (pEq (.int .i64 x5))) rfl rfl rfl (J_load rfl Try.isAgg2 (Opd.tmp rfl)) ?_
    refine RegL.pure (p := (pEq (.int .i64 v2))) rfl rfl rfl (J_move rfl (Opd.tmp rfl)) ?_
    refine RegL.pure (p := (pEq (.bool (x5 != v2)))) rfl rfl rfl (J_bin rfl (Opd.tmp rfl) (Opd.tmp rfl) B_neq) ?_
    refine RegL.nil ?_
    refine Ct.then_tr ?_
    refine Tr.weak (Γ' := [(0, (pSl 1 (cK .i64) a_0)), (1, (pEq (.int .i64 v2))), (5, (pEq (.int .i64 v3))), (17, (pEq (.bool (x5 != v2))))]) ⟨rfl, rfl, rfl, rfl, trivial⟩ ?_
    refine Tr.cond (Opd.tmp rfl) (fun hc => ?_) (fun hc => ?_)
    · replace h := bif_t hc h
      refine Tr.seq ?_
      refine Tr.region ?_
      refine RegL.pure (p := (pEq (.int .i64 (-1 : Int)))) rfl rfl rfl (J_assign rfl Opd.con) ?_
      refine RegL.nil ?_
      refine Ct.then_tr ?_
      refine Tr.weak (Γ' := [(4, (pEq (.int .i64 (-1 : Int))))]) ⟨rfl, trivial⟩ ?_
      refine Tr.ret ?_
      refine Ct.then_ret ?_
      refine Ct.blk_ret ?_
      refine Ct.then_ret ?_
      replace h := map_some h; obtain ⟨r1, h, rfl⟩ := h
      refine Ct.out_ret fun e => ?_
      subst e
      refine Ct.blk_ret ?_
      refine Ct.then_ret ?_
      replace h := Option.some.inj h; subst h
      exact Ct.retH1 (Ωx := []) () rfl (RvOk.tmp rfl) rfl
    · replace h := bif_f hc h
      refine Tr.skip ?_
      refine Ct.then_tr ?_
      refine Tr.weak (Γ' := [(0, (pSl 1 (cK .i64) a_0)), (1, (pEq (.int .i64 v2))), (5, (pEq (.int .i64 v3)))]) ⟨rfl, rfl, rfl, trivial⟩ ?_
      refine Tr.region ?_
      refine RegL.pure (p := (pEq (.int .i64 v2))) rfl rfl rfl (J_move rfl (Opd.tmp rfl)) ?_
      refine RegL.pure (p := (pEq (.int .i64 (w64 (v2 + (1 : Int)))))) rfl rfl rfl (J_bin rfl (Opd.tmp rfl) Opd.con B_add) ?_
      refine RegL.pure (p := (pEq (.int .i64 (w64 (v2 + (1 : Int)))))) rfl rfl rfl (J_assign rfl (Opd.tmp rfl)) ?_
      refine RegL.nil ?_
      refine Ct.blk_normal ?_
      refine Ct.then_tr ?_
      refine Tr.weak (Γ' := [(0, (pSl 1 (cK .i64) a_0)), (1, (pEq (.int .i64 (w64 (v2 + (1 : Int)))))), (5, (pEq (.int .i64 v3)))]) ⟨rfl, rfl, rfl, trivial⟩ ?_
      refine Tr.region ?_
      refine RegL.pure (p := (pEq (.int .i64 v3))) rfl rfl rfl (J_move rfl (Opd.tmp rfl)) ?_
      refine RegL.pure (p := (pEq (.int .i64 (w64 (v3 + (1 : Int)))))) rfl rfl rfl (J_bin rfl (Opd.tmp rfl) Opd.con B_add) ?_
      refine RegL.pure (p := (pEq (.int .i64 (w64 (v3 + (1 : Int)))))) rfl rfl rfl (J_assign rfl (Opd.tmp rfl)) ?_
      refine RegL.nil ?_
      replace h := Option.some.inj h; subst h
      exact Ct.again () rfl ⟨rfl, rfl, rfl, trivial⟩
  · replace h := bif_f hc h
    refine Tr.exit ?_
    refine Ct.then_exit ?_
    replace h := map_some h; obtain ⟨r1, h, rfl⟩ := h
    refine Ct.out_exit fun e => ?_
    subst e
    refine Ct.blk_exit ?_
    refine Ct.then_tr ?_
    refine Tr.weak (Γ' := [(1, (pEq (.int .i64 v2)))]) ⟨rfl, trivial⟩ ?_
    refine Tr.seq ?_
    refine Tr.region ?_
    refine RegL.pure (p := (pEq (.int .i64 v2))) rfl rfl rfl (J_move rfl (Opd.tmp rfl)) ?_
    refine RegL.pure (p := (pEq (.int .i64 v2))) rfl rfl rfl (J_assign rfl (Opd.tmp rfl)) ?_
    refine RegL.nil ?_
    refine Ct.then_tr ?_
    refine Tr.weak (Γ' := [(4, (pEq (.int .i64 v2)))]) ⟨rfl, trivial⟩ ?_
    refine Tr.ret ?_
    replace h := Option.some.inj h; subst h
    exact Ct.retH1 (Ωx := []) () rfl (RvOk.tmp rfl) rfl

theorem c_laws_heldInt64SS {a_0 : (List (List Int))} {k_1 : Int} {r : Int} (h : m_laws_heldInt64SS a_0 k_1 = some r) : CallJ Try.prog 43 [(pSl 1 (cSl 1 (cK .i64)) a_0), (pEq (.int .i64 k_1))] (pEq (.int .i64 r)) := by
  unfold m_laws_heldInt64SS at h
  refine CallJ.enterH Try.func43 rfl Try.ntmps43 rfl fun W I0 H => ?_
  refine Tr.weak (Γ' := [(0, (pSl 1 (cSl 1 (cK .i64)) a_0)), (1, (pEq (.int .i64 k_1)))]) ⟨rfl, rfl, trivial⟩ ?_
  refine Tr.seq ?_
  refine Tr.region ?_
  refine RegL.pure (p := (pEq (.int .i64 (0 : Int)))) rfl rfl rfl (J_assign rfl Opd.con) ?_
  refine RegL.nil ?_
  refine Ct.then_tr ?_
  refine Tr.weak (Γ' := [(0, (pSl 1 (cSl 1 (cK .i64)) a_0)), (1, (pEq (.int .i64 k_1)))]) ⟨rfl, rfl, trivial⟩ ?_
  refine Tr.seq ?_
  refine Tr.seq ?_
  refine Tr.region ?_
  refine RegL.pure (p := (pEq (.int .i64 (0 : Int)))) rfl rfl rfl (J_assign rfl Opd.con) ?_
  refine RegL.nil ?_
  refine Ct.then_tr ?_
  refine Tr.weak (Γ' := [(0, (pSl 1 (cSl 1 (cK .i64)) a_0)), (1, (pEq (.int .i64 k_1))), (5, (pEq (.int .i64 (0 : Int))))]) ⟨rfl, rfl, rfl, trivial⟩ ?_
  refine Tr.block ?_
  refine Tr.weak (Γ' := [(0, (pSl 1 (cSl 1 (cK .i64)) a_0)), (1, (pEq (.int .i64 k_1))), (5, (pEq (.int .i64 (0 : Int))))]) ⟨rfl, rfl, rfl, trivial⟩ ?_
  refine Tr.loop (γ := Unit) (σ := (Int × Int)) (Γσ := fun s g => [(0, (pSl 1 (cSl 1 (cK .i64)) a_0)), (1, (pEq (.int .i64 s.1))), (5, (pEq (.int .i64 s.2)))]) (Ωσ := fun s g => []) (g := ()) h ?_
  clear h
  rintro ⟨v2, v3⟩ g4 t h
  replace h : m_laws_heldInt64SS_B1 a_0 v2 v3 = some t := h
  unfold m_laws_heldInt64SS_B1 at h
  refine Tr.weakO (Γ' := [(0, (pSl 1 (cSl 1 (cK .i64)) a_0)), (1, (pEq (.int .i64 v2))), (5, (pEq (.int .i64 v3)))]) (Ω' := []) rfl ⟨rfl, rfl, rfl, trivial⟩ ?_
  refine Tr.seq ?_
  refine Tr.seq ?_
  refine Tr.region ?_
  refine RegL.pure (p := (pEq (.int .i64 v3))) rfl rfl rfl (J_move rfl (Opd.tmp rfl)) ?_
  refine RegL.pure (p := (pSl 1 (cSl 1 (cK .i64)) a_0)) rfl rfl rfl (J_move rfl (Opd.tmp rfl)) ?_
  refine RegL.pure (p := (pEq (.int .i64 (a_0.length : Int)))) rfl rfl rfl (J_len rfl Try.underlying27 (Opd.tmp rfl) rfl) ?_
  refine RegL.pure (p := (pEq (.bool (decide (v3 < (a_0.length : Int)))))) rfl rfl rfl (J_bin rfl (Opd.tmp rfl) (Opd.tmp rfl) B_lss) ?_
  refine RegL.nil ?_
  refine Ct.then_tr ?_
  refine Tr.weak (Γ' := [(0, (pSl 1 (cSl 1 (cK .i64)) a_0)), (1, (pEq (.int .i64 v2))), (5, (pEq (.int .i64 v3))), (9, (pEq (.bool (decide (v3 < (a_0.length : Int))))))]) ⟨rfl, rfl, rfl, rfl, trivial⟩ ?_
  refine Tr.cond (Opd.tmp rfl) (fun hc => ?_) (fun hc => ?_)
  · replace h := bif_t hc h
    refine Tr.skip ?_
    refine Ct.then_tr ?_
    refine Tr.weak (Γ' := [(0, (pSl 1 (cSl 1 (cK .i64)) a_0)), (1, (pEq (.int .i64 v2))), (5, (pEq (.int .i64 v3)))]) ⟨rfl, rfl, rfl, trivial⟩ ?_
    refine Tr.seq ?_
    refine Tr.block ?_
    refine Tr.seq ?_
    refine Tr.region ?_
    refine RegL.pure (p := (pSl 1 (cSl 1 (cK .i64)) a_0)) rfl rfl rfl (J_move rfl (Opd.tmp rfl)) ?_
    refine RegL.pure (p := (pEq (.int .i64 v3))) rfl rfl rfl (J_move rfl (Opd.tmp rfl)) ?_
    replace h := bind_some h; obtain ⟨x5, hx5, h⟩ := h
    refine RegL.pure (p := (pPtr ((cSl 1 (cK .i64)) x5))) rfl rfl rfl (J_idx rfl Try.underlying27 sz22 (Opd.tmp rfl) (Opd.tmp rfl) hx5) ?_
    refine RegL.pure (p := (pSl 1 (cK .i64) x5)) rfl rfl rfl (J_load rfl Try.isAgg22 (Opd.tmp rfl)) ?_
    refine RegL.pure (p := (pEq (.int .i64 v2))) rfl rfl rfl (J_move rfl (Opd.tmp rfl)) ?_
    replace h := bind_some h; obtain ⟨x6, hx6, h⟩ := h
    refine RegL.pure (p := (pEq (.int .i64 x6))) rfl rfl rfl (J_call rfl Try.call48 (c_laws_heldInt64S hx6) (Opds.cons (Opd.tmp rfl) (Opds.cons (Opd.tmp rfl) Opds.nil))) ?_
    refine RegL.pure (p := (pEq (.int .i64 x6))) rfl rfl rfl (J_assign rfl (Opd.tmp rfl)) ?_
    refine RegL.nil ?_
    refine Ct.then_tr ?_
    refine Tr.weak (Γ' := [(0, (pSl 1 (cSl 1 (cK .i64)) a_0)), (1, (pEq (.int .i64 x6))), (5, (pEq (.int .i64 v3)))]) ⟨rfl, rfl, rfl, trivial⟩ ?_
    refine Tr.seq ?_
    refine Tr.region ?_
    refine RegL.pure (p := (pEq (.int .i64 x6))) rfl rfl rfl (J_move rfl (Opd.tmp rfl)) ?_
    refine RegL.pure (p := (pEq (.bool (decide (x6 < (0 : Int)))))) rfl rfl rfl (J_bin rfl (Opd.tmp rfl) Opd.con B_lss) ?_
    refine RegL.nil ?_
    refine Ct.then_tr ?_
    refine Tr.weak (Γ' := [(0, (pSl 1 (cSl 1 (cK .i64)) a_0)), (1, (pEq (.int .i64 x6))), (5, (pEq (.int .i64 v3))), (19, (pEq (.bool (decide (x6 < (0 : Int))))))]) ⟨rfl, rfl, rfl, rfl, trivial⟩ ?_
    refine Tr.cond (Opd.tmp rfl) (fun hc => ?_) (fun hc => ?_)
    · replace h := bif_t hc h
      refine Tr.seq ?_
      refine Tr.region ?_
      refine RegL.pure (p := (pEq (.int .i64 (-1 : Int)))) rfl rfl rfl (J_assign rfl Opd.con) ?_
      refine RegL.nil ?_
      refine Ct.then_tr ?_
      refine Tr.weak (Γ' := [(4, (pEq (.int .i64 (-1 : Int))))]) ⟨rfl, trivial⟩ ?_
      refine Tr.ret ?_
      refine Ct.blk_ret ?_
      refine Ct.then_ret ?_
      replace h := map_some h; obtain ⟨r1, h, rfl⟩ := h
      refine Ct.out_ret fun e => ?_
      subst e
      refine Ct.blk_ret ?_
      refine Ct.then_ret ?_
      replace h := Option.some.inj h; subst h
      exact Ct.retH1 (Ωx := []) () rfl (RvOk.tmp rfl) rfl
    · replace h := bif_f hc h
      refine Tr.skip ?_
      refine Ct.blk_normal ?_
      refine Ct.then_tr ?_
      refine Tr.weak (Γ' := [(0, (pSl 1 (cSl 1 (cK .i64)) a_0)), (1, (pEq (.int .i64 x6))), (5, (pEq (.int .i64 v3)))]) ⟨rfl, rfl, rfl, trivial⟩ ?_
      refine Tr.region ?_
      refine RegL.pure (p := (pEq (.int .i64 v3))) rfl rfl rfl (J_move rfl (Opd.tmp rfl)) ?_
      refine RegL.pure (p := (pEq (.int .i64 (w64 (v3 + (1 : Int)))))) rfl rfl rfl (J_bin rfl (Opd.tmp rfl) Opd.con B_add) ?_
      refine RegL.pure (p := (pEq (.int .i64 (w64 (v3 + (1 : Int)))))) rfl rfl rfl (J_assign rfl (Opd.tmp rfl)) ?_
      refine RegL.nil ?_
      replace h := Option.some.inj h; subst h
      exact Ct.again () rfl ⟨rfl, rfl, rfl, trivial⟩
  · replace h := bif_f hc h
    refine Tr.exit ?_
    refine Ct.then_exit ?_
    replace h := map_some h; obtain ⟨r1, h, rfl⟩ := h
    refine Ct.out_exit fun e => ?_
    subst e
    refine Ct.blk_exit ?_
    refine Ct.then_tr ?_
    refine Tr.weak (Γ' := [(1, (pEq (.int .i64 v2)))]) ⟨rfl, trivial⟩ ?_
    refine Tr.seq ?_
    refine Tr.region ?_
    refine RegL.pure (p := (pEq (.int .i64 v2))) rfl rfl rfl (J_move rfl (Opd.tmp rfl)) ?_
    refine RegL.pure (p := (pEq (.int .i64 v2))) rfl rfl rfl (J_assign rfl (Opd.tmp rfl)) ?_
    refine RegL.nil ?_
    refine Ct.then_tr ?_
    refine Tr.weak (Γ' := [(4, (pEq (.int .i64 v2)))]) ⟨rfl, trivial⟩ ?_
    refine Tr.ret ?_
    replace h := Option.some.inj h; subst h
    exact Ct.retH1 (Ωx := []) () rfl (RvOk.tmp rfl) rfl

theorem c_laws_heldProblem {a_0 : GProblem} {k_1 : Int} {r : Int} (h : m_laws_heldProblem a_0 k_1 = some r) : CallJ Try.prog 35 [(pAgg (cGProblem a_0)), (pEq (.int .i64 k_1))] (pEq (.int .i64 r)) := by
  unfold m_laws_heldProblem at h
  refine CallJ.enterH Try.func35 rfl Try.ntmps35 rfl fun W I0 H => ?_
  refine Tr.weak (Γ' := [(0, (pAgg (cGProblem a_0))), (1, (pEq (.int .i64 k_1)))]) ⟨rfl, rfl, trivial⟩ ?_
  refine Tr.seq ?_
  refine Tr.region ?_
  refine RegL.pure (p := (pPtr (cGProblem a_0))) rfl rfl rfl (J_boxA rfl (Opd.tmp rfl)) ?_
  refine RegL.pure (p := (pEq (.int .i64 (0 : Int)))) rfl rfl rfl (J_assign rfl Opd.con) ?_
  refine RegL.nil ?_
  refine Ct.then_tr ?_
  refine Tr.weak (Γ' := [(1, (pEq (.int .i64 k_1))), (2, (pPtr (cGProblem a_0)))]) ⟨rfl, rfl, trivial⟩ ?_
  refine Tr.seq ?_
  refine Tr.region ?_
  refine RegL.pure (p := (pPtr ((cSl 1 (cSl 1 (cK .i64))) a_0.Domains))) rfl rfl rfl (J_fieldAddr rfl Try.underlying32 rfl sz27 (by decide) (Opd.tmp rfl) rfl) ?_
  refine RegL.pure (p := (pSl 1 (cSl 1 (cK .i64)) a_0.Domains)) rfl rfl rfl (J_load rfl Try.isAgg27 (Opd.tmp rfl)) ?_
  refine RegL.pure (p := (pEq (.int .i64 k_1))) rfl rfl rfl (J_move rfl (Opd.tmp rfl)) ?_
  replace h := bind_some h; obtain ⟨x1, hx1, h⟩ := h
  refine RegL.pure (p := (pEq (.int .i64 x1))) rfl rfl rfl (J_call rfl Try.call43 (c_laws_heldInt64SS hx1) (Opds.cons (Opd.tmp rfl) (Opds.cons (Opd.tmp rfl) Opds.nil))) ?_
  refine RegL.pure (p := (pEq (.int .i64 x1))) rfl rfl rfl (J_assign rfl (Opd.tmp rfl)) ?_
  refine RegL.nil ?_
  refine Ct.then_tr ?_
  refine Tr.weak (Γ' := [(1, (pEq (.int .i64 x1))), (2, (pPtr (cGProblem a_0)))]) ⟨rfl, rfl, trivial⟩ ?_
  refine Tr.seq ?_
  refine Tr.seq ?_
  refine Tr.region ?_
  refine RegL.pure (p := (pEq (.int .i64 x1))) rfl rfl rfl (J_move rfl (Opd.tmp rfl)) ?_
  refine RegL.pure (p := (pEq (.bool (decide (x1 < (0 : Int)))))) rfl rfl rfl (J_bin rfl (Opd.tmp rfl) Opd.con B_lss) ?_
  refine RegL.nil ?_
  refine Ct.then_tr ?_
  refine Tr.weak (Γ' := [(1, (pEq (.int .i64 x1))), (2, (pPtr (cGProblem a_0))), (10, (pEq (.bool (decide (x1 < (0 : Int))))))]) ⟨rfl, rfl, rfl, trivial⟩ ?_
  refine Tr.cond (Opd.tmp rfl) (fun hc => ?_) (fun hc => ?_)
  · replace h := bif_t hc h
    refine Tr.seq ?_
    refine Tr.region ?_
    refine RegL.pure (p := (pEq (.int .i64 (-1 : Int)))) rfl rfl rfl (J_assign rfl Opd.con) ?_
    refine RegL.nil ?_
    refine Ct.then_tr ?_
    refine Tr.weak (Γ' := [(4, (pEq (.int .i64 (-1 : Int))))]) ⟨rfl, trivial⟩ ?_
    refine Tr.ret ?_
    refine Ct.then_ret ?_
    replace h := Option.some.inj h; subst h
    exact Ct.retH1 (Ωx := []) () rfl (RvOk.tmp rfl) rfl
  · replace h := bif_f hc h
    refine Tr.skip ?_
    refine Ct.then_tr ?_
    refine Tr.weak (Γ' := [(1, (pEq (.int .i64 x1))), (2, (pPtr (cGProblem a_0)))]) ⟨rfl, rfl, trivial⟩ ?_
    refine Tr.seq ?_
    refine Tr.region ?_
    refine RegL.pure (p := (pPtr ((cSl 1 (cSl 1 (cK .i64))) a_0.Apart))) rfl rfl rfl (J_fieldAddr rfl Try.underlying32 rfl sz27 (by decide) (Opd.tmp rfl) rfl) ?_
    refine RegL.pure (p := (pSl 1 (cSl 1 (cK .i64)) a_0.Apart)) rfl rfl rfl (J_load rfl Try.isAgg27 (Opd.tmp rfl)) ?_
    refine RegL.pure (p := (pEq (.int .i64 x1))) rfl rfl rfl (J_move rfl (Opd.tmp rfl)) ?_
    replace h := bind_some h; obtain ⟨x2, hx2, h⟩ := h
    refine RegL.pure (p := (pEq (.int .i64 x2))) rfl rfl rfl (J_call rfl Try.call43 (c_laws_heldInt64SS hx2) (Opds.cons (Opd.tmp rfl) (Opds.cons (Opd.tmp rfl) Opds.nil))) ?_
    refine RegL.pure (p := (pEq (.int .i64 x2))) rfl rfl rfl (J_assign rfl (Opd.tmp rfl)) ?_
    refine RegL.nil ?_
    refine Ct.then_tr ?_
    refine Tr.weak (Γ' := [(1, (pEq (.int .i64 x2)))]) ⟨rfl, trivial⟩ ?_
    refine Tr.seq ?_
    refine Tr.seq ?_
    refine Tr.region ?_
    refine RegL.pure (p := (pEq (.int .i64 x2))) rfl rfl rfl (J_move rfl (Opd.tmp rfl)) ?_
    refine RegL.pure (p := (pEq (.bool (decide (x2 < (0 : Int)))))) rfl rfl rfl (J_bin rfl (Opd.tmp rfl) Opd.con B_lss) ?_
    refine RegL.nil ?_
    refine Ct.then_tr ?_
    refine Tr.weak (Γ' := [(1, (pEq (.int .i64 x2))), (16, (pEq (.bool (decide (x2 < (0 : Int))))))]) ⟨rfl, rfl, trivial⟩ ?_
    refine Tr.cond (Opd.tmp rfl) (fun hc => ?_) (fun hc => ?_)
    · replace h := bif_t hc h
      refine Tr.seq ?_
      refine Tr.region ?_
      refine RegL.pure (p := (pEq (.int .i64 (-1 : Int)))) rfl rfl rfl (J_assign rfl Opd.con) ?_
      refine RegL.nil ?_
      refine Ct.then_tr ?_
      refine Tr.weak (Γ' := [(4, (pEq (.int .i64 (-1 : Int))))]) ⟨rfl, trivial⟩ ?_
      refine Tr.ret ?_
      refine Ct.then_ret ?_
      replace h := Option.some.inj h; subst h
      exact Ct.retH1 (Ωx := []) () rfl (RvOk.tmp rfl) rfl
    · replace h := bif_f hc h
      refine Tr.skip ?_
      refine Ct.then_tr ?_
      refine Tr.weak (Γ' := [(1, (pEq (.int .i64 x2)))]) ⟨rfl, trivial⟩ ?_
      refine Tr.seq ?_
      refine Tr.region ?_
      refine RegL.pure (p := (pEq (.int .i64 x2))) rfl rfl rfl (J_move rfl (Opd.tmp rfl)) ?_
      refine RegL.pure (p := (pEq (.int .i64 x2))) rfl rfl rfl (J_assign rfl (Opd.tmp rfl)) ?_
      refine RegL.nil ?_
      refine Ct.then_tr ?_
      refine Tr.weak (Γ' := [(4, (pEq (.int .i64 x2)))]) ⟨rfl, trivial⟩ ?_
      refine Tr.ret ?_
      replace h := Option.some.inj h; subst h
      exact Ct.retH1 (Ωx := []) () rfl (RvOk.tmp rfl) rfl

theorem c_laws_FnExactMakeProblem {a_0 : (List (List Int))} {a_1 : (List (List Int))} {r : Bool} (h : m_laws_FnExactMakeProblem a_0 a_1 = some r) : CallJ Try.prog 7 [(pSl 1 (cSl 1 (cK .i64)) a_0), (pSl 1 (cSl 1 (cK .i64)) a_1)] (pEq (.bool r)) := by
  unfold m_laws_FnExactMakeProblem at h
  refine CallJ.enterH Try.func7 rfl Try.ntmps7 rfl fun W I0 H => ?_
  refine Tr.weak (Γ' := [(0, (pSl 1 (cSl 1 (cK .i64)) a_0)), (1, (pSl 1 (cSl 1 (cK .i64)) a_1))]) ⟨rfl, rfl, trivial⟩ ?_
  refine Tr.seq ?_
  refine Tr.region ?_
  refine RegL.pure (p := (pEq (.bool false))) rfl rfl rfl (J_assign rfl Opd.con) ?_
  refine RegL.nil ?_
  refine Ct.then_tr ?_
  refine Tr.weak (Γ' := [(0, (pSl 1 (cSl 1 (cK .i64)) a_0)), (1, (pSl 1 (cSl 1 (cK .i64)) a_1))]) ⟨rfl, rfl, trivial⟩ ?_
  refine Tr.seq ?_
  refine Tr.region ?_
  refine RegL.pure (p := (pEq (.int .i64 (1048576 : Int)))) rfl rfl rfl (J_assign rfl Opd.con) ?_
  refine RegL.nil ?_
  refine Ct.then_tr ?_
  refine Tr.weak (Γ' := [(0, (pSl 1 (cSl 1 (cK .i64)) a_0)), (1, (pSl 1 (cSl 1 (cK .i64)) a_1)), (5, (pEq (.int .i64 (1048576 : Int))))]) ⟨rfl, rfl, rfl, trivial⟩ ?_
  refine Tr.seq ?_
  refine Tr.region ?_
  refine RegL.pure (p := (pSl 1 (cSl 1 (cK .i64)) a_0)) rfl rfl rfl (J_move rfl (Opd.tmp rfl)) ?_
  refine RegL.pure (p := (pEq (.int .i64 (1048576 : Int)))) rfl rfl rfl (J_move rfl (Opd.tmp rfl)) ?_
  replace h := bind_some h; obtain ⟨x1, hx1, h⟩ := h
  refine RegL.pure (p := (pEq (.int .i64 x1))) rfl rfl rfl (J_call rfl Try.call28 (c_laws_szInt64SS hx1) (Opds.cons (Opd.tmp rfl) (Opds.cons (Opd.tmp rfl) Opds.nil))) ?_
  refine RegL.pure (p := (pEq (.int .i64 x1))) rfl rfl rfl (J_assign rfl (Opd.tmp rfl)) ?_
  refine RegL.nil ?_
  refine Ct.then_tr ?_
  refine Tr.weak (Γ' := [(0, (pSl 1 (cSl 1 (cK .i64)) a_0)), (1, (pSl 1 (cSl 1 (cK .i64)) a_1)), (5, (pEq (.int .i64 x1)))]) ⟨rfl, rfl, rfl, trivial⟩ ?_
  refine Tr.seq ?_
  refine Tr.seq ?_
  refine Tr.region ?_
  refine RegL.pure (p := (pEq (.int .i64 x1))) rfl rfl rfl (J_move rfl (Opd.tmp rfl)) ?_
  refine RegL.pure (p := (pEq (.bool (decide (x1 < (0 : Int)))))) rfl rfl rfl (J_bin rfl (Opd.tmp rfl) Opd.con B_lss) ?_
  refine RegL.nil ?_
  refine Ct.then_tr ?_
  refine Tr.weak (Γ' := [(0, (pSl 1 (cSl 1 (cK .i64)) a_0)), (1, (pSl 1 (cSl 1 (cK .i64)) a_1)), (5, (pEq (.int .i64 x1))), (21, (pEq (.bool (decide (x1 < (0 : Int))))))]) ⟨rfl, rfl, rfl, rfl, trivial⟩ ?_
  refine Tr.cond (Opd.tmp rfl) (fun hc => ?_) (fun hc => ?_)
  · replace h := bif_t hc h
    refine Tr.seq ?_
    refine Tr.region ?_
    refine RegL.pure (p := (pEq (.bool true))) rfl rfl rfl (J_assign rfl Opd.con) ?_
    refine RegL.nil ?_
    refine Ct.then_tr ?_
    refine Tr.weak (Γ' := [(4, (pEq (.bool true)))]) ⟨rfl, trivial⟩ ?_
    refine Tr.ret ?_
    refine Ct.then_ret ?_
    replace h := Option.some.inj h; subst h
    exact Ct.retH1 (Ωx := []) () rfl (RvOk.tmp rfl) rfl
  · replace h := bif_f hc h
    refine Tr.skip ?_
    refine Ct.then_tr ?_
    refine Tr.weak (Γ' := [(0, (pSl 1 (cSl 1 (cK .i64)) a_0)), (1, (pSl 1 (cSl 1 (cK .i64)) a_1)), (5, (pEq (.int .i64 x1)))]) ⟨rfl, rfl, rfl, trivial⟩ ?_
    refine Tr.seq ?_
    refine Tr.region ?_
    refine RegL.pure (p := (pSl 1 (cSl 1 (cK .i64)) a_1)) rfl rfl rfl (J_move rfl (Opd.tmp rfl)) ?_
    refine RegL.pure (p := (pEq (.int .i64 x1))) rfl rfl rfl (J_move rfl (Opd.tmp rfl)) ?_
    replace h := bind_some h; obtain ⟨x2, hx2, h⟩ := h
    refine RegL.pure (p := (pEq (.int .i64 x2))) rfl rfl rfl (J_call rfl Try.call28 (c_laws_szInt64SS hx2) (Opds.cons (Opd.tmp rfl) (Opds.cons (Opd.tmp rfl) Opds.nil))) ?_
    refine RegL.pure (p := (pEq (.int .i64 x2))) rfl rfl rfl (J_assign rfl (Opd.tmp rfl)) ?_
    refine RegL.nil ?_
    refine Ct.then_tr ?_
    refine Tr.weak (Γ' := [(0, (pSl 1 (cSl 1 (cK .i64)) a_0)), (1, (pSl 1 (cSl 1 (cK .i64)) a_1)), (5, (pEq (.int .i64 x2)))]) ⟨rfl, rfl, rfl, trivial⟩ ?_
    refine Tr.seq ?_
    refine Tr.seq ?_
    refine Tr.region ?_
    refine RegL.pure (p := (pEq (.int .i64 x2))) rfl rfl rfl (J_move rfl (Opd.tmp rfl)) ?_
    refine RegL.pure (p := (pEq (.bool (decide (x2 < (0 : Int)))))) rfl rfl rfl (J_bin rfl (Opd.tmp rfl) Opd.con B_lss) ?_
    refine RegL.nil ?_
    refine Ct.then_tr ?_
    refine Tr.weak (Γ' := [(0, (pSl 1 (cSl 1 (cK .i64)) a_0)), (1, (pSl 1 (cSl 1 (cK .i64)) a_1)), (26, (pEq (.bool (decide (x2 < (0 : Int))))))]) ⟨rfl, rfl, rfl, trivial⟩ ?_
    refine Tr.cond (Opd.tmp rfl) (fun hc => ?_) (fun hc => ?_)
    · replace h := bif_t hc h
      refine Tr.seq ?_
      refine Tr.region ?_
      refine RegL.pure (p := (pEq (.bool true))) rfl rfl rfl (J_assign rfl Opd.con) ?_
      refine RegL.nil ?_
      refine Ct.then_tr ?_
      refine Tr.weak (Γ' := [(4, (pEq (.bool true)))]) ⟨rfl, trivial⟩ ?_
      refine Tr.ret ?_
      refine Ct.then_ret ?_
      replace h := Option.some.inj h; subst h
      exact Ct.retH1 (Ωx := []) () rfl (RvOk.tmp rfl) rfl
    · replace h := bif_f hc h
      refine Tr.skip ?_
      refine Ct.then_tr ?_
      refine Tr.weak (Γ' := [(0, (pSl 1 (cSl 1 (cK .i64)) a_0)), (1, (pSl 1 (cSl 1 (cK .i64)) a_1))]) ⟨rfl, rfl, trivial⟩ ?_
      refine Tr.seq ?_
      refine Tr.region ?_
      refine RegL.pure (p := (pSl 1 (cSl 1 (cK .i64)) a_0)) rfl rfl rfl (J_move rfl (Opd.tmp rfl)) ?_
      replace h := bind_some h; obtain ⟨x3, hx3, h⟩ := h
      refine RegL.pure (p := (pSl 1 (cSl 1 (cK .i64)) x3)) rfl rfl rfl (J_call rfl Try.call30 (c_laws_toInt64SS hx3) (Opds.cons (Opd.tmp rfl) Opds.nil)) ?_
      refine RegL.pure (p := (pSl 1 (cSl 1 (cK .i64)) a_1)) rfl rfl rfl (J_move rfl (Opd.tmp rfl)) ?_
      replace h := bind_some h; obtain ⟨x4, hx4, h⟩ := h
      refine RegL.pure (p := (pSl 1 (cSl 1 (cK .i64)) x4)) rfl rfl rfl (J_call rfl Try.call30 (c_laws_toInt64SS hx4) (Opds.cons (Opd.tmp rfl) Opds.nil)) ?_
      replace h := bind_some h; obtain ⟨x5, hx5, h⟩ := h
      refine RegL.pure (p := (pTup [(pAgg (cGProblem x5.1)), (pEq (.int .i64 x5.2))])) rfl rfl rfl (J_call rfl Try.call29 (c_spec_MakeProblem hx5) (Opds.cons (Opd.tmp rfl) (Opds.cons (Opd.tmp rfl) Opds.nil))) ?_
      refine RegL.pure (p := (pTup [(pAgg (cGProblem x5.1)), (pEq (.int .i64 x5.2))])) rfl rfl rfl (J_move rfl (Opd.tmp rfl)) ?_
      refine RegL.pure (p := (pAgg (cGProblem x5.1))) rfl rfl rfl (J_extract rfl (Opd.tmp rfl) rfl) ?_
      refine RegL.pure (p := (pEq (.int .i64 x5.2))) rfl rfl rfl (J_extract rfl (Opd.tmp rfl) rfl) ?_
      refine RegL.step (γ := Nat) (p := fun b => pEq (.pointer (some ⟨b, 0, none⟩))) (Ω' := fun b => [oBlk b [(pEq (.slice none 0 0)), (pEq (.slice none 0 0))]]) rfl rfl rfl (M_alloc rfl zero32) fun b6 => ?_
      refine RegL.stepN (γ := Unit) (p := fun _ => pAny) (Ω' := fun _ => [oBlk b6 [(pSl 1 (cSl 1 (cK .i64)) x5.1.Domains), (pSl 1 (cSl 1 (cK .i64)) x5.1.Apart)]]) rfl rfl (M_storeA rfl sz32 (Opd.tmp rfl) (Opd.tmp rfl) (fun _ _ _ h => ones_of ((OneCs.cons OneC.sl (OneCs.cons OneC.sl OneCs.nil))) h) rfl rfl) fun g7 => ?_
      refine RegL.freeze (s := 6) rfl ?_
      refine RegL.pure (p := (pEq (.int .i64 x5.2))) rfl rfl rfl (J_assign rfl (Opd.tmp rfl)) ?_
      refine RegL.nil ?_
      refine Ct.then_tr ?_
      refine Tr.weak (Γ' := [(0, (pSl 1 (cSl 1 (cK .i64)) a_0)), (1, (pSl 1 (cSl 1 (cK .i64)) a_1)), (6, (pPtr (cGProblem x5.1))), (7, (pEq (.int .i64 x5.2)))]) ⟨rfl, rfl, rfl, rfl, trivial⟩ ?_
      refine Tr.seq ?_
      refine Tr.region ?_
      refine RegL.pure (p := (pSl 1 (cSl 1 (cK .i64)) a_0)) rfl rfl rfl (J_move rfl (Opd.tmp rfl)) ?_
      replace h := bind_some h; obtain ⟨x8, hx8, h⟩ := h
      refine RegL.step (γ := (G3 × List G3)) (p := fun g => (pEq (.slice g.1.1 g.1.2.1 g.1.2.2))) (Ω' := fun g => [oSS 22 2 1 (cK .i64) g.1.1 g.1.2.1 g.1.2.2 g.2 x8]) rfl rfl rfl (M_callH (Ωi := []) rfl Try.call30 (o_laws_toInt64SS hx8) (Opds.cons (Opd.tmp rfl) Opds.nil)) fun g9 => ?_
      refine RegL.pure (p := (pEq (.slice g9.1.1 g9.1.2.1 g9.1.2.2))) rfl rfl rfl (J_assign rfl (Opd.tmp rfl)) ?_
      refine RegL.nil ?_
      refine Ct.then_tr ?_
      refine Tr.weak (Γ' := [(0, (pSl 1 (cSl 1 (cK .i64)) a_0)), (1, (pSl 1 (cSl 1 (cK .i64)) a_1)), (6, (pPtr (cGProblem x5.1))), (7, (pEq (.int .i64 x5.2))), (8, (pEq (.slice g9.1.1 g9.1.2.1 g9.1.2.2)))]) ⟨rfl, rfl, rfl, rfl, rfl, trivial⟩ ?_
      refine Tr.seq ?_
      refine Tr.region ?_
      refine RegL.pure (p := (pSl 1 (cSl 1 (cK .i64)) a_1)) rfl rfl rfl (J_move rfl (Opd.tmp rfl)) ?_
      replace h := bind_some h; obtain ⟨x11, hx11, h⟩ := h
      refine RegL.step (γ := (G3 × List G3)) (p := fun g => (pEq (.slice g.1.1 g.1.2.1 g.1.2.2))) (Ω' := fun g => [oSS 22 2 1 (cK .i64) g.1.1 g.1.2.1 g.1.2.2 g.2 x11, oSS 22 2 1 (cK .i64) g9.1.1 g9.1.2.1 g9.1.2.2 g9.2 x8]) rfl rfl rfl (M_callH (Ωi := []) rfl Try.call30 (o_laws_toInt64SS hx11) (Opds.cons (Opd.tmp rfl) Opds.nil)) fun g12 => ?_
      refine RegL.pure (p := (pEq (.slice g12.1.1 g12.1.2.1 g12.1.2.2))) rfl rfl rfl (J_assign rfl (Opd.tmp rfl)) ?_
      refine RegL.nil ?_
      refine Ct.then_tr ?_
      refine Tr.weak (Γ' := [(0, (pSl 1 (cSl 1 (cK .i64)) a_0)), (1, (pSl 1 (cSl 1 (cK .i64)) a_1)), (6, (pPtr (cGProblem x5.1))), (7, (pEq (.int .i64 x5.2))), (8, (pEq (.slice g9.1.1 g9.1.2.1 g9.1.2.2))), (9, (pEq (.slice g12.1.1 g12.1.2.1 g12.1.2.2)))]) ⟨rfl, rfl, rfl, rfl, rfl, rfl, trivial⟩ ?_
      refine Tr.seq ?_
      refine Tr.region ?_
      refine RegL.pure (p := (pEq (.slice g9.1.1 g9.1.2.1 g9.1.2.2))) rfl rfl rfl (J_move rfl (Opd.tmp rfl)) ?_
      refine RegL.pure (p := (pEq (.slice g12.1.1 g12.1.2.1 g12.1.2.2))) rfl rfl rfl (J_move rfl (Opd.tmp rfl)) ?_
      replace h := bind_some h; obtain ⟨x14, hx14, h⟩ := h
      refine RegL.step (γ := ((G3 × List G3) × (G3 × List G3))) (p := fun g => (pTup [(pAgg [(pEq (.slice g.1.1.1 g.1.1.2.1 g.1.1.2.2)), (pEq (.slice g.2.1.1 g.2.1.2.1 g.2.1.2.2))]), (pEq (.int .i64 x14.2))])) (Ω' := fun g => [oSS 22 2 1 (cK .i64) g.1.1.1 g.1.1.2.1 g.1.1.2.2 g.1.2 x14.1.Domains, oSS 22 2 1 (cK .i64) g.2.1.1 g.2.1.2.1 g.2.1.2.2 g.2.2 x14.1.Apart, oSS 22 2 1 (cK .i64) g12.1.1 g12.1.2.1 g12.1.2.2 g12.2 x11, oSS 22 2 1 (cK .i64) g9.1.1 g9.1.2.1 g9.1.2.2 g9.2 x8]) rfl rfl rfl (M_callHB (Ωi := []) rfl Try.call31 (o_impl_MakeProblem hx14) (OpdsA.cons (OpdA.conv rfl (Conv.nest 1 (fun _ => rfl) rfl)) (OpdsA.cons (OpdA.conv rfl (Conv.nest 0 (fun _ => rfl) rfl)) OpdsA.nil)) (fun _ => (FreeP.tup ⟨(FreeP.agg ⟨FreeP.eq, ⟨FreeP.eq, trivial⟩⟩), ⟨FreeP.eq, trivial⟩⟩)) (fun _ => ⟨(FreeO.nest (fun _ => ⟨FreeP.eq, trivial⟩)), ⟨(FreeO.nest (fun _ => ⟨FreeP.eq, trivial⟩)), trivial⟩⟩)) fun g15 => ?_
      refine RegL.pure (p := (pTup [(pAgg [(pEq (.slice g15.1.1.1 g15.1.1.2.1 g15.1.1.2.2)), (pEq (.slice g15.2.1.1 g15.2.1.2.1 g15.2.1.2.2))]), (pEq (.int .i64 x14.2))])) rfl rfl rfl (J_move rfl (Opd.tmp rfl)) ?_
      refine RegL.pure (p := (pAgg [(pEq (.slice g15.1.1.1 g15.1.1.2.1 g15.1.1.2.2)), (pEq (.slice g15.2.1.1 g15.2.1.2.1 g15.2.1.2.2))])) rfl rfl rfl (J_extract rfl (Opd.tmp rfl) rfl) ?_
      refine RegL.pure (p := (pEq (.int .i64 x14.2))) rfl rfl rfl (J_extract rfl (Opd.tmp rfl) rfl) ?_
      refine RegL.step (γ := Nat) (p := fun b => pEq (.pointer (some ⟨b, 0, none⟩))) (Ω' := fun b => [oBlk b [(pEq (.slice none 0 0)), (pEq (.slice none 0 0))], oSS 22 2 1 (cK .i64) g15.1.1.1 g15.1.1.2.1 g15.1.1.2.2 g15.1.2 x14.1.Domains, oSS 22 2 1 (cK .i64) g15.2.1.1 g15.2.1.2.1 g15.2.1.2.2 g15.2.2 x14.1.Apart, oSS 22 2 1 (cK .i64) g12.1.1 g12.1.2.1 g12.1.2.2 g12.2 x11, oSS 22 2 1 (cK .i64) g9.1.1 g9.1.2.1 g9.1.2.2 g9.2 x8]) rfl rfl rfl (M_alloc rfl zero32) fun b18 => ?_
      refine RegL.stepN (γ := Unit) (p := fun _ => pAny) (Ω' := fun _ => [oBlk b18 [(pEq (.slice g15.1.1.1 g15.1.1.2.1 g15.1.1.2.2)), (pEq (.slice g15.2.1.1 g15.2.1.2.1 g15.2.1.2.2))], oSS 22 2 1 (cK .i64) g15.1.1.1 g15.1.1.2.1 g15.1.1.2.2 g15.1.2 x14.1.Domains, oSS 22 2 1 (cK .i64) g15.2.1.1 g15.2.1.2.1 g15.2.1.2.2 g15.2.2 x14.1.Apart, oSS 22 2 1 (cK .i64) g12.1.1 g12.1.2.1 g12.1.2.2 g12.2 x11, oSS 22 2 1 (cK .i64) g9.1.1 g9.1.2.1 g9.1.2.2 g9.2 x8]) rfl rfl (M_storeA rfl sz32 (Opd.tmp rfl) (Opd.tmp rfl) (fun _ _ _ h => ones_of ((OneCs.cons OneC.slice (OneCs.cons OneC.slice OneCs.nil))) h) rfl rfl) fun g19 => ?_
      refine RegL.pure (p := (pEq (.int .i64 x14.2))) rfl rfl rfl (J_assign rfl (Opd.tmp rfl)) ?_
      refine RegL.nil ?_
      refine Ct.then_tr ?_
      refine Tr.weak (Γ' := [(0, (pSl 1 (cSl 1 (cK .i64)) a_0)), (1, (pSl 1 (cSl 1 (cK .i64)) a_1)), (6, (pPtr (cGProblem x5.1))), (7, (pEq (.int .i64 x5.2))), (8, (pEq (.slice g9.1.1 g9.1.2.1 g9.1.2.2))), (9, (pEq (.slice g12.1.1 g12.1.2.1 g12.1.2.2))), (10, (pEq (.pointer (some ⟨b18, 0, none⟩)))), (11, (pEq (.int .i64 x14.2)))]) ⟨rfl, rfl, rfl, rfl, rfl, rfl, rfl, rfl, trivial⟩ ?_
      refine Tr.seq ?_
      refine Tr.seq ?_
      replace h := bind_some h; obtain ⟨x20, hx20, h⟩ := h
      refine Tr.cut (γ := Unit) (Γm := fun g => [(0, (pSl 1 (cSl 1 (cK .i64)) a_0)), (1, (pSl 1 (cSl 1 (cK .i64)) a_1)), (6, (pPtr (cGProblem x5.1))), (7, (pEq (.int .i64 x5.2))), (8, (pEq (.slice g9.1.1 g9.1.2.1 g9.1.2.2))), (9, (pEq (.slice g12.1.1 g12.1.2.1 g12.1.2.2))), (10, (pEq (.pointer (some ⟨b18, 0, none⟩)))), (11, (pEq (.int .i64 x14.2))), (53, (pEq (.bool x20)))]) (Ωm := fun g => [oBlk b18 [(pEq (.slice g15.1.1.1 g15.1.1.2.1 g15.1.1.2.2)), (pEq (.slice g15.2.1.1 g15.2.1.2.1 g15.2.1.2.2))], oSS 22 2 1 (cK .i64) g15.1.1.1 g15.1.1.2.1 g15.1.1.2.2 g15.1.2 x14.1.Domains, oSS 22 2 1 (cK .i64) g15.2.1.1 g15.2.1.2.1 g15.2.1.2.2 g15.2.2 x14.1.Apart, oSS 22 2 1 (cK .i64) g12.1.1 g12.1.2.1 g12.1.2.2 g12.2 x11, oSS 22 2 1 (cK .i64) g9.1.1 g9.1.2.1 g9.1.2.2 g9.2 x8]) ?_ (fun g23 => ?_)
      · clear h
        have h := hx20
        clear hx20
        refine Tr.region ?_
        refine RegL.pureW (p := (pAgg [(pEq (.slice g15.1.1.1 g15.1.1.2.1 g15.1.1.2.2)), (pEq (.slice g15.2.1.1 g15.2.1.2.1 g15.2.1.2.2))])) rfl rfl rfl (W_loadA (i := 0) rfl Try.isAgg32 sz32 (Opd.tmp rfl) rfl rfl) ?_
        refine RegL.pure (p := (pAgg (cGProblem x5.1))) rfl rfl rfl (J_loadA rfl Try.isAgg32 sz32 (Opd.tmp rfl) rfl) ?_
        replace h := bind_some h; obtain ⟨x21, hx21, h⟩ := h
        refine RegL.pureW (p := (pEq (.bool x21))) rfl rfl rfl (W_call rfl Try.call23 (c_laws_eqProblem hx21) (OpdsA.cons (OpdA.conv rfl (Conv.agg (Convs.cons (Conv.nest 1 (fun _ => rfl) rfl) (Convs.cons (Conv.nest 2 (fun _ => rfl) rfl) Convs.nil)))) (OpdsA.cons (OpdA.of (Opd.tmp rfl)) OpdsA.nil)) FreeP.eq) ?_
        refine RegL.pure (p := (pEq (.bool (!x21)))) rfl rfl rfl (J_not rfl (Opd.tmp rfl)) ?_
        refine RegL.pure (p := (pEq (.bool (!x21)))) rfl rfl rfl (J_move rfl (Opd.tmp rfl)) ?_
        rcases Bool.eq_false_or_eq_true (!x21) with hc22 | hc22
        · replace h := bif_t hc22 h
          refine RegL.skipG rfl rfl rfl hc22 rfl rfl ?_
          refine RegL.skipG rfl rfl rfl hc22 rfl rfl ?_
          refine RegL.skipG rfl rfl rfl hc22 rfl rfl ?_
          refine RegL.pure (p := (pEq (.bool true))) rfl rfl rfl (J_pick rfl (Opd.tmp rfl) (fun _ => Opd.con) (fun hf => absurd (hc22.symm.trans hf) (by decide))) ?_
          refine RegL.nil ?_
          replace h := Option.some.inj h; subst h
          exact Ct.mid () rfl ⟨rfl, rfl, rfl, rfl, rfl, rfl, rfl, rfl, rfl, trivial⟩
        · replace h := bif_f hc22 h
          refine RegL.pureG (p := (pEq (.int .i64 x14.2))) rfl rfl rfl hc22 rfl rfl (J_move rfl (Opd.tmp rfl)) ?_
          refine RegL.pureG (p := (pEq (.int .i64 x5.2))) rfl rfl rfl hc22 rfl rfl (J_move rfl (Opd.tmp rfl)) ?_
          refine RegL.pureG (p := (pEq (.bool (x14.2 != x5.2)))) rfl rfl rfl hc22 rfl rfl (J_bin rfl (Opd.tmp rfl) (Opd.tmp rfl) B_neq) ?_
          refine RegL.pure (p := (pEq (.bool (x14.2 != x5.2)))) rfl rfl rfl (J_pick rfl (Opd.tmp rfl) (fun hf => absurd (hc22.symm.trans hf) (by decide)) (fun _ => (Opd.tmp rfl))) ?_
          refine RegL.nil ?_
          replace h := Option.some.inj h; subst h
          exact Ct.mid () rfl ⟨rfl, rfl, rfl, rfl, rfl, rfl, rfl, rfl, rfl, trivial⟩
      · clear hx20
        refine Ct.then_tr ?_
        refine Tr.weak (Γ' := [(0, (pSl 1 (cSl 1 (cK .i64)) a_0)), (1, (pSl 1 (cSl 1 (cK .i64)) a_1)), (6, (pPtr (cGProblem x5.1))), (7, (pEq (.int .i64 x5.2))), (8, (pEq (.slice g9.1.1 g9.1.2.1 g9.1.2.2))), (9, (pEq (.slice g12.1.1 g12.1.2.1 g12.1.2.2))), (10, (pEq (.pointer (some ⟨b18, 0, none⟩)))), (11, (pEq (.int .i64 x14.2))), (53, (pEq (.bool x20)))]) ⟨rfl, rfl, rfl, rfl, rfl, rfl, rfl, rfl, rfl, trivial⟩ ?_
        refine Tr.cond (Opd.tmp rfl) (fun hc => ?_) (fun hc => ?_)
        · replace h := bif_t hc h
          refine Tr.seq ?_
          refine Tr.region ?_
          refine RegL.pure (p := (pEq (.bool false))) rfl rfl rfl (J_assign rfl Opd.con) ?_
          refine RegL.nil ?_
          refine Ct.then_tr ?_
          refine Tr.weak (Γ' := [(4, (pEq (.bool false)))]) ⟨rfl, trivial⟩ ?_
          refine Tr.ret ?_
          refine Ct.then_ret ?_
          replace h := Option.some.inj h; subst h
          exact Ct.retH1 (Ωx := [oBlk b18 [(pEq (.slice g15.1.1.1 g15.1.1.2.1 g15.1.1.2.2)), (pEq (.slice g15.2.1.1 g15.2.1.2.1 g15.2.1.2.2))], oSS 22 2 1 (cK .i64) g15.1.1.1 g15.1.1.2.1 g15.1.1.2.2 g15.1.2 x14.1.Domains, oSS 22 2 1 (cK .i64) g15.2.1.1 g15.2.1.2.1 g15.2.1.2.2 g15.2.2 x14.1.Apart, oSS 22 2 1 (cK .i64) g12.1.1 g12.1.2.1 g12.1.2.2 g12.2 x11, oSS 22 2 1 (cK .i64) g9.1.1 g9.1.2.1 g9.1.2.2 g9.2 x8]) () rfl (RvOk.tmp rfl) rfl
        · replace h := bif_f hc h
          refine Tr.skip ?_
          refine Ct.then_tr ?_
          refine Tr.weak (Γ' := [(0, (pSl 1 (cSl 1 (cK .i64)) a_0)), (1, (pSl 1 (cSl 1 (cK .i64)) a_1)), (6, (pPtr (cGProblem x5.1))), (7, (pEq (.int .i64 x5.2))), (8, (pEq (.slice g9.1.1 g9.1.2.1 g9.1.2.2))), (9, (pEq (.slice g12.1.1 g12.1.2.1 g12.1.2.2))), (10, (pEq (.pointer (some ⟨b18, 0, none⟩)))), (11, (pEq (.int .i64 x14.2)))]) ⟨rfl, rfl, rfl, rfl, rfl, rfl, rfl, rfl, trivial⟩ ?_
          refine Tr.seq ?_
          refine Tr.seq ?_
          refine Tr.region ?_
          refine RegL.pure (p := (pEq (.slice g9.1.1 g9.1.2.1 g9.1.2.2))) rfl rfl rfl (J_move rfl (Opd.tmp rfl)) ?_
          refine RegL.pure (p := (pSl 1 (cSl 1 (cK .i64)) a_0)) rfl rfl rfl (J_move rfl (Opd.tmp rfl)) ?_
          replace h := bind_some h; obtain ⟨x24, hx24, h⟩ := h
          refine RegL.pure (p := (pSl 1 (cSl 1 (cK .i64)) x24)) rfl rfl rfl (J_call rfl Try.call30 (c_laws_toInt64SS hx24) (Opds.cons (Opd.tmp rfl) Opds.nil)) ?_
          replace h := bind_some h; obtain ⟨x25, hx25, h⟩ := h
          refine RegL.pureW (p := (pEq (.bool x25))) rfl rfl rfl (W_call rfl Try.call32 (c_laws_eqInt64SS hx25) (OpdsA.cons (OpdA.conv rfl (Conv.nest 4 (fun _ => rfl) rfl)) (OpdsA.cons (OpdA.of (Opd.tmp rfl)) OpdsA.nil)) FreeP.eq) ?_
          refine RegL.pure (p := (pEq (.bool (!x25)))) rfl rfl rfl (J_not rfl (Opd.tmp rfl)) ?_
          refine RegL.nil ?_
          refine Ct.then_tr ?_
          refine Tr.weak (Γ' := [(0, (pSl 1 (cSl 1 (cK .i64)) a_0)), (1, (pSl 1 (cSl 1 (cK .i64)) a_1)), (6, (pPtr (cGProblem x5.1))), (7, (pEq (.int .i64 x5.2))), (8, (pEq (.slice g9.1.1 g9.1.2.1 g9.1.2.2))), (9, (pEq (.slice g12.1.1 g12.1.2.1 g12.1.2.2))), (10, (pEq (.pointer (some ⟨b18, 0, none⟩)))), (11, (pEq (.int .i64 x14.2))), (58, (pEq (.bool (!x25))))]) ⟨rfl, rfl, rfl, rfl, rfl, rfl, rfl, rfl, rfl, trivial⟩ ?_
          refine Tr.cond (Opd.tmp rfl) (fun hc => ?_) (fun hc => ?_)
          · replace h := bif_t hc h
            refine Tr.seq ?_
            refine Tr.region ?_
            refine RegL.pure (p := (pEq (.bool false))) rfl rfl rfl (J_assign rfl Opd.con) ?_
            refine RegL.nil ?_
            refine Ct.then_tr ?_
            refine Tr.weak (Γ' := [(4, (pEq (.bool false)))]) ⟨rfl, trivial⟩ ?_
            refine Tr.ret ?_
            refine Ct.then_ret ?_
            replace h := Option.some.inj h; subst h
            exact Ct.retH1 (Ωx := [oBlk b18 [(pEq (.slice g15.1.1.1 g15.1.1.2.1 g15.1.1.2.2)), (pEq (.slice g15.2.1.1 g15.2.1.2.1 g15.2.1.2.2))], oSS 22 2 1 (cK .i64) g15.1.1.1 g15.1.1.2.1 g15.1.1.2.2 g15.1.2 x14.1.Domains, oSS 22 2 1 (cK .i64) g15.2.1.1 g15.2.1.2.1 g15.2.1.2.2 g15.2.2 x14.1.Apart, oSS 22 2 1 (cK .i64) g12.1.1 g12.1.2.1 g12.1.2.2 g12.2 x11, oSS 22 2 1 (cK .i64) g9.1.1 g9.1.2.1 g9.1.2.2 g9.2 x8]) () rfl (RvOk.tmp rfl) rfl
          · replace h := bif_f hc h
            refine Tr.skip ?_
            refine Ct.then_tr ?_
            refine Tr.weak (Γ' := [(0, (pSl 1 (cSl 1 (cK .i64)) a_0)), (1, (pSl 1 (cSl 1 (cK .i64)) a_1)), (6, (pPtr (cGProblem x5.1))), (7, (pEq (.int .i64 x5.2))), (8, (pEq (.slice g9.1.1 g9.1.2.1 g9.1.2.2))), (9, (pEq (.slice g12.1.1 g12.1.2.1 g12.1.2.2))), (10, (pEq (.pointer (some ⟨b18, 0, none⟩)))), (11, (pEq (.int .i64 x14.2)))]) ⟨rfl, rfl, rfl, rfl, rfl, rfl, rfl, rfl, trivial⟩ ?_
            refine Tr.seq ?_
            refine Tr.seq ?_
            refine Tr.region ?_
            refine RegL.pure (p := (pEq (.slice g12.1.1 g12.1.2.1 g12.1.2.2))) rfl rfl rfl (J_move rfl (Opd.tmp rfl)) ?_
            refine RegL.pure (p := (pSl 1 (cSl 1 (cK .i64)) a_1)) rfl rfl rfl (J_move rfl (Opd.tmp rfl)) ?_
            replace h := bind_some h; obtain ⟨x26, hx26, h⟩ := h
            refine RegL.pure (p := (pSl 1 (cSl 1 (cK .i64)) x26)) rfl rfl rfl (J_call rfl Try.call30 (c_laws_toInt64SS hx26) (Opds.cons (Opd.tmp rfl) Opds.nil)) ?_
            replace h := bind_some h; obtain ⟨x27, hx27, h⟩ := h
            refine RegL.pureW (p := (pEq (.bool x27))) rfl rfl rfl (W_call rfl Try.call32 (c_laws_eqInt64SS hx27) (OpdsA.cons (OpdA.conv rfl (Conv.nest 3 (fun _ => rfl) rfl)) (OpdsA.cons (OpdA.of (Opd.tmp rfl)) OpdsA.nil)) FreeP.eq) ?_
            refine RegL.pure (p := (pEq (.bool (!x27)))) rfl rfl rfl (J_not rfl (Opd.tmp rfl)) ?_
            refine RegL.nil ?_
            refine Ct.then_tr ?_
            refine Tr.weak (Γ' := [(0, (pSl 1 (cSl 1 (cK .i64)) a_0)), (1, (pSl 1 (cSl 1 (cK .i64)) a_1)), (6, (pPtr (cGProblem x5.1))), (7, (pEq (.int .i64 x5.2))), (8, (pEq (.slice g9.1.1 g9.1.2.1 g9.1.2.2))), (9, (pEq (.slice g12.1.1 g12.1.2.1 g12.1.2.2))), (10, (pEq (.pointer (some ⟨b18, 0, none⟩)))), (11, (pEq (.int .i64 x14.2))), (63, (pEq (.bool (!x27))))]) ⟨rfl, rfl, rfl, rfl, rfl, rfl, rfl, rfl, rfl, trivial⟩ ?_
            refine Tr.cond (Opd.tmp rfl) (fun hc => ?_) (fun hc => ?_)
            · replace h := bif_t hc h
              refine Tr.seq ?_
              refine Tr.region ?_
              refine RegL.pure (p := (pEq (.bool false))) rfl rfl rfl (J_assign rfl Opd.con) ?_
              refine RegL.nil ?_
              refine Ct.then_tr ?_
              refine Tr.weak (Γ' := [(4, (pEq (.bool false)))]) ⟨rfl, trivial⟩ ?_
              refine Tr.ret ?_
              refine Ct.then_ret ?_
              replace h := Option.some.inj h; subst h
              exact Ct.retH1 (Ωx := [oBlk b18 [(pEq (.slice g15.1.1.1 g15.1.1.2.1 g15.1.1.2.2)), (pEq (.slice g15.2.1.1 g15.2.1.2.1 g15.2.1.2.2))], oSS 22 2 1 (cK .i64) g15.1.1.1 g15.1.1.2.1 g15.1.1.2.2 g15.1.2 x14.1.Domains, oSS 22 2 1 (cK .i64) g15.2.1.1 g15.2.1.2.1 g15.2.1.2.2 g15.2.2 x14.1.Apart, oSS 22 2 1 (cK .i64) g12.1.1 g12.1.2.1 g12.1.2.2 g12.2 x11, oSS 22 2 1 (cK .i64) g9.1.1 g9.1.2.1 g9.1.2.2 g9.2 x8]) () rfl (RvOk.tmp rfl) rfl
            · replace h := bif_f hc h
              refine Tr.skip ?_
              refine Ct.then_tr ?_
              refine Tr.weak (Γ' := [(0, (pSl 1 (cSl 1 (cK .i64)) a_0)), (1, (pSl 1 (cSl 1 (cK .i64)) a_1)), (6, (pPtr (cGProblem x5.1))), (7, (pEq (.int .i64 x5.2))), (8, (pEq (.slice g9.1.1 g9.1.2.1 g9.1.2.2))), (9, (pEq (.slice g12.1.1 g12.1.2.1 g12.1.2.2))), (10, (pEq (.pointer (some ⟨b18, 0, none⟩)))), (11, (pEq (.int .i64 x14.2)))]) ⟨rfl, rfl, rfl, rfl, rfl, rfl, rfl, rfl, trivial⟩ ?_
              refine Tr.seq ?_
              refine Tr.region ?_
              refine RegL.pure (p := (pEq (.int .i64 (1 : Int)))) rfl rfl rfl (J_assign rfl Opd.con) ?_
              refine RegL.nil ?_
              refine Ct.then_tr ?_
              refine Tr.weak (Γ' := [(0, (pSl 1 (cSl 1 (cK .i64)) a_0)), (1, (pSl 1 (cSl 1 (cK .i64)) a_1)), (6, (pPtr (cGProblem x5.1))), (7, (pEq (.int .i64 x5.2))), (8, (pEq (.slice g9.1.1 g9.1.2.1 g9.1.2.2))), (9, (pEq (.slice g12.1.1 g12.1.2.1 g12.1.2.2))), (10, (pEq (.pointer (some ⟨b18, 0, none⟩)))), (11, (pEq (.int .i64 x14.2))), (12, (pEq (.int .i64 (1 : Int))))]) ⟨rfl, rfl, rfl, rfl, rfl, rfl, rfl, rfl, rfl, trivial⟩ ?_
              refine Tr.seq ?_
              refine Tr.region ?_
              refine RegL.pure (p := (pEq (.slice g9.1.1 g9.1.2.1 g9.1.2.2))) rfl rfl rfl (J_move rfl (Opd.tmp rfl)) ?_
              refine RegL.pure (p := (pEq (.int .i64 (1 : Int)))) rfl rfl rfl (J_move rfl (Opd.tmp rfl)) ?_
              replace h := bind_some h; obtain ⟨x28, hx28, h⟩ := h
              refine RegL.re (Ω2 := [oSS 22 2 1 (cK .i64) g9.1.1 g9.1.2.1 g9.1.2.2 g9.2 x8, oBlk b18 [(pEq (.slice g15.1.1.1 g15.1.1.2.1 g15.1.1.2.2)), (pEq (.slice g15.2.1.1 g15.2.1.2.1 g15.2.1.2.2))], oSS 22 2 1 (cK .i64) g15.1.1.1 g15.1.1.2.1 g15.1.1.2.2 g15.1.2 x14.1.Domains, oSS 22 2 1 (cK .i64) g15.2.1.1 g15.2.1.2.1 g15.2.1.2.2 g15.2.2 x14.1.Apart, oSS 22 2 1 (cK .i64) g12.1.1 g12.1.2.1 g12.1.2.2 g12.2 x11]) (fun h => SatO.pick 4 h) ?_
              refine RegL.step (γ := Unit) (p := fun g => (pEq (.int .i64 x28.1))) (Ω' := fun g => [oSS 22 2 1 (cK .i64) g9.1.1 g9.1.2.1 g9.1.2.2 g9.2 x28.2, oBlk b18 [(pEq (.slice g15.1.1.1 g15.1.1.2.1 g15.1.1.2.2)), (pEq (.slice g15.2.1.1 g15.2.1.2.1 g15.2.1.2.2))], oSS 22 2 1 (cK .i64) g15.1.1.1 g15.1.1.2.1 g15.1.1.2.2 g15.1.2 x14.1.Domains, oSS 22 2 1 (cK .i64) g15.2.1.1 g15.2.1.2.1 g15.2.1.2.2 g15.2.2 x14.1.Apart, oSS 22 2 1 (cK .i64) g12.1.1 g12.1.2.1 g12.1.2.2 g12.2 x11]) rfl rfl rfl (M_callH (Ωi := [oSS 22 2 1 (cK .i64) g9.1.1 g9.1.2.1 g9.1.2.2 g9.2 x8]) rfl Try.call33 (o_laws_markInt64SS hx28) (Opds.cons (Opd.tmp rfl) (Opds.cons (Opd.tmp rfl) Opds.nil))) fun g29 => ?_
              refine RegL.pure (p := (pEq (.int .i64 x28.1))) rfl rfl rfl (J_assign rfl (Opd.tmp rfl)) ?_
              refine RegL.nil ?_
              refine Ct.then_tr ?_
              refine Tr.weak (Γ' := [(0, (pSl 1 (cSl 1 (cK .i64)) a_0)), (1, (pSl 1 (cSl 1 (cK .i64)) a_1)), (6, (pPtr (cGProblem x5.1))), (7, (pEq (.int .i64 x5.2))), (9, (pEq (.slice g12.1.1 g12.1.2.1 g12.1.2.2))), (10, (pEq (.pointer (some ⟨b18, 0, none⟩)))), (11, (pEq (.int .i64 x14.2))), (12, (pEq (.int .i64 x28.1)))]) ⟨rfl, rfl, rfl, rfl, rfl, rfl, rfl, rfl, trivial⟩ ?_
              refine Tr.seq ?_
              refine Tr.region ?_
              refine RegL.pure (p := (pEq (.slice g12.1.1 g12.1.2.1 g12.1.2.2))) rfl rfl rfl (J_move rfl (Opd.tmp rfl)) ?_
              refine RegL.pure (p := (pEq (.int .i64 x28.1))) rfl rfl rfl (J_move rfl (Opd.tmp rfl)) ?_
              replace h := bind_some h; obtain ⟨x30, hx30, h⟩ := h
              refine RegL.re (Ω2 := [oSS 22 2 1 (cK .i64) g12.1.1 g12.1.2.1 g12.1.2.2 g12.2 x11, oSS 22 2 1 (cK .i64) g9.1.1 g9.1.2.1 g9.1.2.2 g9.2 x28.2, oBlk b18 [(pEq (.slice g15.1.1.1 g15.1.1.2.1 g15.1.1.2.2)), (pEq (.slice g15.2.1.1 g15.2.1.2.1 g15.2.1.2.2))], oSS 22 2 1 (cK .i64) g15.1.1.1 g15.1.1.2.1 g15.1.1.2.2 g15.1.2 x14.1.Domains, oSS 22 2 1 (cK .i64) g15.2.1.1 g15.2.1.2.1 g15.2.1.2.2 g15.2.2 x14.1.Apart]) (fun h => SatO.pick 4 h) ?_
              refine RegL.step (γ := Unit) (p := fun g => (pEq (.int .i64 x30.1))) (Ω' := fun g => [oSS 22 2 1 (cK .i64) g12.1.1 g12.1.2.1 g12.1.2.2 g12.2 x30.2, oSS 22 2 1 (cK .i64) g9.1.1 g9.1.2.1 g9.1.2.2 g9.2 x28.2, oBlk b18 [(pEq (.slice g15.1.1.1 g15.1.1.2.1 g15.1.1.2.2)), (pEq (.slice g15.2.1.1 g15.2.1.2.1 g15.2.1.2.2))], oSS 22 2 1 (cK .i64) g15.1.1.1 g15.1.1.2.1 g15.1.1.2.2 g15.1.2 x14.1.Domains, oSS 22 2 1 (cK .i64) g15.2.1.1 g15.2.1.2.1 g15.2.1.2.2 g15.2.2 x14.1.Apart]) rfl rfl rfl (M_callH (Ωi := [oSS 22 2 1 (cK .i64) g12.1.1 g12.1.2.1 g12.1.2.2 g12.2 x11]) rfl Try.call33 (o_laws_markInt64SS hx30) (Opds.cons (Opd.tmp rfl) (Opds.cons (Opd.tmp rfl) Opds.nil))) fun g31 => ?_
              refine RegL.pure (p := (pEq (.int .i64 x30.1))) rfl rfl rfl (J_assign rfl (Opd.tmp rfl)) ?_
              refine RegL.nil ?_
              refine Ct.then_tr ?_
              refine Tr.weak (Γ' := [(0, (pSl 1 (cSl 1 (cK .i64)) a_0)), (1, (pSl 1 (cSl 1 (cK .i64)) a_1)), (6, (pPtr (cGProblem x5.1))), (7, (pEq (.int .i64 x5.2))), (10, (pEq (.pointer (some ⟨b18, 0, none⟩)))), (11, (pEq (.int .i64 x14.2))), (12, (pEq (.int .i64 x30.1)))]) ⟨rfl, rfl, rfl, rfl, rfl, rfl, rfl, trivial⟩ ?_
              refine Tr.seq ?_
              refine Tr.seq ?_
              replace h := bind_some h; obtain ⟨x32, hx32, h⟩ := h
              refine Tr.cut (γ := Unit) (Γm := fun g => [(0, (pSl 1 (cSl 1 (cK .i64)) a_0)), (1, (pSl 1 (cSl 1 (cK .i64)) a_1)), (6, (pPtr (cGProblem x5.1))), (7, (pEq (.int .i64 x5.2))), (10, (pEq (.pointer (some ⟨b18, 0, none⟩)))), (82, (pEq (.bool x32)))]) (Ωm := fun g => [oBlk b18 [(pEq (.slice g15.1.1.1 g15.1.1.2.1 g15.1.1.2.2)), (pEq (.slice g15.2.1.1 g15.2.1.2.1 g15.2.1.2.2))], oSS 22 2 1 (cK .i64) g15.1.1.1 g15.1.1.2.1 g15.1.1.2.2 g15.1.2 x14.1.Domains, oSS 22 2 1 (cK .i64) g15.2.1.1 g15.2.1.2.1 g15.2.1.2.2 g15.2.2 x14.1.Apart]) ?_ (fun g36 => ?_)
              · clear h
                have h := hx32
                clear hx32
                refine Tr.region ?_
                refine RegL.pure (p := (pEq (.int .i64 x30.1))) rfl rfl rfl (J_move rfl (Opd.tmp rfl)) ?_
                refine RegL.pure (p := (pEq (.bool (decide (x30.1 < (0 : Int)))))) rfl rfl rfl (J_bin rfl (Opd.tmp rfl) Opd.con B_lss) ?_
                refine RegL.pure (p := (pEq (.bool (decide (x30.1 < (0 : Int)))))) rfl rfl rfl (J_move rfl (Opd.tmp rfl)) ?_
                rcases Bool.eq_false_or_eq_true (decide (x30.1 < (0 : Int))) with hc33 | hc33
                · replace h := bif_t hc33 h
                  refine RegL.skipG rfl rfl rfl hc33 rfl rfl ?_
                  refine RegL.skipG rfl rfl rfl hc33 rfl rfl ?_
                  refine RegL.skipG rfl rfl rfl hc33 rfl rfl ?_
                  refine RegL.skipG rfl rfl rfl hc33 rfl rfl ?_
                  refine RegL.pure (p := (pEq (.bool true))) rfl rfl rfl (J_pick rfl (Opd.tmp rfl) (fun _ => Opd.con) (fun hf => absurd (hc33.symm.trans hf) (by decide))) ?_
                  refine RegL.pure (p := (pEq (.bool true))) rfl rfl rfl (J_move rfl (Opd.tmp rfl)) ?_
                  refine RegL.skipG rfl rfl rfl rfl rfl rfl ?_
                  refine RegL.skipG rfl rfl rfl rfl rfl rfl ?_
                  refine RegL.skipG rfl rfl rfl rfl rfl rfl ?_
                  refine RegL.pure (p := (pEq (.bool true))) rfl rfl rfl (J_pick rfl (Opd.tmp rfl) (fun _ => Opd.con) (fun hf => absurd hf (by decide))) ?_
                  refine RegL.nil ?_
                  refine Ct.re (Ω2 := [oSS 22 2 1 (cK .i64) g9.1.1 g9.1.2.1 g9.1.2.2 g9.2 x28.2, oBlk b18 [(pEq (.slice g15.1.1.1 g15.1.1.2.1 g15.1.1.2.2)), (pEq (.slice g15.2.1.1 g15.2.1.2.1 g15.2.1.2.2))], oSS 22 2 1 (cK .i64) g15.1.1.1 g15.1.1.2.1 g15.1.1.2.2 g15.1.2 x14.1.Domains, oSS 22 2 1 (cK .i64) g15.2.1.1 g15.2.1.2.1 g15.2.1.2.2 g15.2.2 x14.1.Apart]) (fun h => SatO.rest h) ?_
                  refine Ct.re (Ω2 := [oBlk b18 [(pEq (.slice g15.1.1.1 g15.1.1.2.1 g15.1.1.2.2)), (pEq (.slice g15.2.1.1 g15.2.1.2.1 g15.2.1.2.2))], oSS 22 2 1 (cK .i64) g15.1.1.1 g15.1.1.2.1 g15.1.1.2.2 g15.1.2 x14.1.Domains, oSS 22 2 1 (cK .i64) g15.2.1.1 g15.2.1.2.1 g15.2.1.2.2 g15.2.2 x14.1.Apart]) (fun h => SatO.rest h) ?_
                  replace h := Option.some.inj h; subst h
                  exact Ct.mid () rfl ⟨rfl, rfl, rfl, rfl, rfl, rfl, trivial⟩
                · replace h := bif_f hc33 h
                  refine RegL.pureGW (p := (pAgg [(pEq (.slice g15.1.1.1 g15.1.1.2.1 g15.1.1.2.2)), (pEq (.slice g15.2.1.1 g15.2.1.2.1 g15.2.1.2.2))])) rfl rfl rfl hc33 rfl rfl (W_loadA (i := 2) rfl Try.isAgg32 sz32 (Opd.tmp rfl) rfl rfl) ?_
                  refine RegL.pureG (p := (pAgg (cGProblem x5.1))) rfl rfl rfl hc33 rfl rfl (J_loadA rfl Try.isAgg32 sz32 (Opd.tmp rfl) rfl) ?_
                  replace h := bind_some h; obtain ⟨x34, hx34, h⟩ := h
                  refine RegL.pureGW (p := (pEq (.bool x34))) rfl rfl rfl hc33 rfl rfl (W_call rfl Try.call23 (c_laws_eqProblem hx34) (OpdsA.cons (OpdA.conv rfl (Conv.agg (Convs.cons (Conv.nest 3 (fun _ => rfl) rfl) (Convs.cons (Conv.nest 4 (fun _ => rfl) rfl) Convs.nil)))) (OpdsA.cons (OpdA.of (Opd.tmp rfl)) OpdsA.nil)) FreeP.eq) ?_
                  refine RegL.pureG (p := (pEq (.bool (!x34)))) rfl rfl rfl hc33 rfl rfl (J_not rfl (Opd.tmp rfl)) ?_
                  refine RegL.pure (p := (pEq (.bool (!x34)))) rfl rfl rfl (J_pick rfl (Opd.tmp rfl) (fun hf => absurd (hc33.symm.trans hf) (by decide)) (fun _ => (Opd.tmp rfl))) ?_
                  refine RegL.pure (p := (pEq (.bool (!x34)))) rfl rfl rfl (J_move rfl (Opd.tmp rfl)) ?_
                  rcases Bool.eq_false_or_eq_true (!x34) with hc35 | hc35
                  · replace h := bif_t hc35 h
                    refine RegL.skipG rfl rfl rfl hc35 rfl rfl ?_
                    refine RegL.skipG rfl rfl rfl hc35 rfl rfl ?_
                    refine RegL.skipG rfl rfl rfl hc35 rfl rfl ?_
                    refine RegL.pure (p := (pEq (.bool true))) rfl rfl rfl (J_pick rfl (Opd.tmp rfl) (fun _ => Opd.con) (fun hf => absurd (hc35.symm.trans hf) (by decide))) ?_
                    refine RegL.nil ?_
                    refine Ct.re (Ω2 := [oSS 22 2 1 (cK .i64) g9.1.1 g9.1.2.1 g9.1.2.2 g9.2 x28.2, oBlk b18 [(pEq (.slice g15.1.1.1 g15.1.1.2.1 g15.1.1.2.2)), (pEq (.slice g15.2.1.1 g15.2.1.2.1 g15.2.1.2.2))], oSS 22 2 1 (cK .i64) g15.1.1.1 g15.1.1.2.1 g15.1.1.2.2 g15.1.2 x14.1.Domains, oSS 22 2 1 (cK .i64) g15.2.1.1 g15.2.1.2.1 g15.2.1.2.2 g15.2.2 x14.1.Apart]) (fun h => SatO.rest h) ?_
                    refine Ct.re (Ω2 := [oBlk b18 [(pEq (.slice g15.1.1.1 g15.1.1.2.1 g15.1.1.2.2)), (pEq (.slice g15.2.1.1 g15.2.1.2.1 g15.2.1.2.2))], oSS 22 2 1 (cK .i64) g15.1.1.1 g15.1.1.2.1 g15.1.1.2.2 g15.1.2 x14.1.Domains, oSS 22 2 1 (cK .i64) g15.2.1.1 g15.2.1.2.1 g15.2.1.2.2 g15.2.2 x14.1.Apart]) (fun h => SatO.rest h) ?_
                    replace h := Option.some.inj h; subst h
                    exact Ct.mid () rfl ⟨rfl, rfl, rfl, rfl, rfl, rfl, trivial⟩
                  · replace h := bif_f hc35 h
                    refine RegL.pureG (p := (pEq (.int .i64 x14.2))) rfl rfl rfl hc35 rfl rfl (J_move rfl (Opd.tmp rfl)) ?_
                    refine RegL.pureG (p := (pEq (.int .i64 x5.2))) rfl rfl rfl hc35 rfl rfl (J_move rfl (Opd.tmp rfl)) ?_
                    refine RegL.pureG (p := (pEq (.bool (x14.2 != x5.2)))) rfl rfl rfl hc35 rfl rfl (J_bin rfl (Opd.tmp rfl) (Opd.tmp rfl) B_neq) ?_
                    refine RegL.pure (p := (pEq (.bool (x14.2 != x5.2)))) rfl rfl rfl (J_pick rfl (Opd.tmp rfl) (fun hf => absurd (hc35.symm.trans hf) (by decide)) (fun _ => (Opd.tmp rfl))) ?_
                    refine RegL.nil ?_
                    refine Ct.re (Ω2 := [oSS 22 2 1 (cK .i64) g9.1.1 g9.1.2.1 g9.1.2.2 g9.2 x28.2, oBlk b18 [(pEq (.slice g15.1.1.1 g15.1.1.2.1 g15.1.1.2.2)), (pEq (.slice g15.2.1.1 g15.2.1.2.1 g15.2.1.2.2))], oSS 22 2 1 (cK .i64) g15.1.1.1 g15.1.1.2.1 g15.1.1.2.2 g15.1.2 x14.1.Domains, oSS 22 2 1 (cK .i64) g15.2.1.1 g15.2.1.2.1 g15.2.1.2.2 g15.2.2 x14.1.Apart]) (fun h => SatO.rest h) ?_
                    refine Ct.re (Ω2 := [oBlk b18 [(pEq (.slice g15.1.1.1 g15.1.1.2.1 g15.1.1.2.2)), (pEq (.slice g15.2.1.1 g15.2.1.2.1 g15.2.1.2.2))], oSS 22 2 1 (cK .i64) g15.1.1.1 g15.1.1.2.1 g15.1.1.2.2 g15.1.2 x14.1.Domains, oSS 22 2 1 (cK .i64) g15.2.1.1 g15.2.1.2.1 g15.2.1.2.2 g15.2.2 x14.1.Apart]) (fun h => SatO.rest h) ?_
                    replace h := Option.some.inj h; subst h
                    exact Ct.mid () rfl ⟨rfl, rfl, rfl, rfl, rfl, rfl, trivial⟩
              · clear hx32
                refine Ct.then_tr ?_
                refine Tr.weak (Γ' := [(0, (pSl 1 (cSl 1 (cK .i64)) a_0)), (1, (pSl 1 (cSl 1 (cK .i64)) a_1)), (6, (pPtr (cGProblem x5.1))), (7, (pEq (.int .i64 x5.2))), (10, (pEq (.pointer (some ⟨b18, 0, none⟩)))), (82, (pEq (.bool x32)))]) ⟨rfl, rfl, rfl, rfl, rfl, rfl, trivial⟩ ?_
                refine Tr.cond (Opd.tmp rfl) (fun hc => ?_) (fun hc => ?_)
                · replace h := bif_t hc h
                  refine Tr.seq ?_
                  refine Tr.region ?_
                  refine RegL.pure (p := (pEq (.bool false))) rfl rfl rfl (J_assign rfl Opd.con) ?_
                  refine RegL.nil ?_
                  refine Ct.then_tr ?_
                  refine Tr.weak (Γ' := [(4, (pEq (.bool false)))]) ⟨rfl, trivial⟩ ?_
                  refine Tr.ret ?_
                  refine Ct.then_ret ?_
                  replace h := Option.some.inj h; subst h
                  exact Ct.retH1 (Ωx := [oBlk b18 [(pEq (.slice g15.1.1.1 g15.1.1.2.1 g15.1.1.2.2)), (pEq (.slice g15.2.1.1 g15.2.1.2.1 g15.2.1.2.2))], oSS 22 2 1 (cK .i64) g15.1.1.1 g15.1.1.2.1 g15.1.1.2.2 g15.1.2 x14.1.Domains, oSS 22 2 1 (cK .i64) g15.2.1.1 g15.2.1.2.1 g15.2.1.2.2 g15.2.2 x14.1.Apart]) () rfl (RvOk.tmp rfl) rfl
                · replace h := bif_f hc h
                  refine Tr.skip ?_
                  refine Ct.then_tr ?_
                  refine Tr.weak (Γ' := [(0, (pSl 1 (cSl 1 (cK .i64)) a_0)), (1, (pSl 1 (cSl 1 (cK .i64)) a_1)), (6, (pPtr (cGProblem x5.1))), (7, (pEq (.int .i64 x5.2))), (10, (pEq (.pointer (some ⟨b18, 0, none⟩))))]) ⟨rfl, rfl, rfl, rfl, rfl, trivial⟩ ?_
                  refine Tr.seq ?_
                  refine Tr.region ?_
                  refine RegL.pure (p := (pEq (.int .i64 (1 : Int)))) rfl rfl rfl (J_assign rfl Opd.con) ?_
                  refine RegL.nil ?_
                  refine Ct.then_tr ?_
                  refine Tr.weak (Γ' := [(0, (pSl 1 (cSl 1 (cK .i64)) a_0)), (1, (pSl 1 (cSl 1 (cK .i64)) a_1)), (6, (pPtr (cGProblem x5.1))), (7, (pEq (.int .i64 x5.2))), (10, (pEq (.pointer (some ⟨b18, 0, none⟩)))), (13, (pEq (.int .i64 (1 : Int))))]) ⟨rfl, rfl, rfl, rfl, rfl, rfl, trivial⟩ ?_
                  refine Tr.seq ?_
                  refine Tr.region ?_
                  refine RegL.pureW (p := (pAgg [(pEq (.slice g15.1.1.1 g15.1.1.2.1 g15.1.1.2.2)), (pEq (.slice g15.2.1.1 g15.2.1.2.1 g15.2.1.2.2))])) rfl rfl rfl (W_loadA (i := 0) rfl Try.isAgg32 sz32 (Opd.tmp rfl) rfl rfl) ?_
                  refine RegL.pure (p := (pEq (.int .i64 (1 : Int)))) rfl rfl rfl (J_move rfl (Opd.tmp rfl)) ?_
                  replace h := bind_some h; obtain ⟨x37, hx37, h⟩ := h
                  refine RegL.re (Ω2 := [oSS 22 2 1 (cK .i64) g15.2.1.1 g15.2.1.2.1 g15.2.1.2.2 g15.2.2 x14.1.Apart, oBlk b18 [(pEq (.slice g15.1.1.1 g15.1.1.2.1 g15.1.1.2.2)), (pEq (.slice g15.2.1.1 g15.2.1.2.1 g15.2.1.2.2))], oSS 22 2 1 (cK .i64) g15.1.1.1 g15.1.1.2.1 g15.1.1.2.2 g15.1.2 x14.1.Domains]) (fun h => SatO.pick 2 h) ?_
                  refine RegL.re (Ω2 := [oSS 22 2 1 (cK .i64) g15.1.1.1 g15.1.1.2.1 g15.1.1.2.2 g15.1.2 x14.1.Domains, oSS 22 2 1 (cK .i64) g15.2.1.1 g15.2.1.2.1 g15.2.1.2.2 g15.2.2 x14.1.Apart, oBlk b18 [(pEq (.slice g15.1.1.1 g15.1.1.2.1 g15.1.1.2.2)), (pEq (.slice g15.2.1.1 g15.2.1.2.1 g15.2.1.2.2))]]) (fun h => SatO.pick 2 h) ?_
                  refine RegL.step (γ := Unit) (p := fun g => (pEq (.int .i64 x37.1))) (Ω' := fun g => [oSS 22 2 1 (cK .i64) g15.1.1.1 g15.1.1.2.1 g15.1.1.2.2 g15.1.2 x37.2.1, oSS 22 2 1 (cK .i64) g15.2.1.1 g15.2.1.2.1 g15.2.1.2.2 g15.2.2 x37.2.2, oBlk b18 [(pEq (.slice g15.1.1.1 g15.1.1.2.1 g15.1.1.2.2)), (pEq (.slice g15.2.1.1 g15.2.1.2.1 g15.2.1.2.2))]]) rfl rfl rfl (M_callH (Ωi := [oSS 22 2 1 (cK .i64) g15.1.1.1 g15.1.1.2.1 g15.1.1.2.2 g15.1.2 x14.1.Domains, oSS 22 2 1 (cK .i64) g15.2.1.1 g15.2.1.2.1 g15.2.1.2.2 g15.2.2 x14.1.Apart]) rfl Try.call34 (o_laws_markProblem hx37) (Opds.cons (Opd.tmp rfl) (Opds.cons (Opd.tmp rfl) Opds.nil))) fun g38 => ?_
                  refine RegL.pure (p := (pEq (.int .i64 x37.1))) rfl rfl rfl (J_assign rfl (Opd.tmp rfl)) ?_
                  refine RegL.nil ?_
                  refine Ct.then_tr ?_
                  refine Tr.weak (Γ' := [(0, (pSl 1 (cSl 1 (cK .i64)) a_0)), (1, (pSl 1 (cSl 1 (cK .i64)) a_1)), (6, (pPtr (cGProblem x5.1))), (7, (pEq (.int .i64 x5.2))), (10, (pEq (.pointer (some ⟨b18, 0, none⟩)))), (13, (pEq (.int .i64 x37.1)))]) ⟨rfl, rfl, rfl, rfl, rfl, rfl, trivial⟩ ?_
                  refine Tr.seq ?_
                  refine Tr.region ?_
                  refine RegL.pure (p := (pEq (.int .i64 (1 : Int)))) rfl rfl rfl (J_assign rfl Opd.con) ?_
                  refine RegL.nil ?_
                  refine Ct.then_tr ?_
                  refine Tr.weak (Γ' := [(0, (pSl 1 (cSl 1 (cK .i64)) a_0)), (1, (pSl 1 (cSl 1 (cK .i64)) a_1)), (6, (pPtr (cGProblem x5.1))), (7, (pEq (.int .i64 x5.2))), (10, (pEq (.pointer (some ⟨b18, 0, none⟩)))), (13, (pEq (.int .i64 x37.1))), (14, (pEq (.int .i64 (1 : Int))))]) ⟨rfl, rfl, rfl, rfl, rfl, rfl, rfl, trivial⟩ ?_
                  refine Tr.seq ?_
                  refine Tr.region ?_
                  refine RegL.pureW (p := (pAgg [(pEq (.slice g15.1.1.1 g15.1.1.2.1 g15.1.1.2.2)), (pEq (.slice g15.2.1.1 g15.2.1.2.1 g15.2.1.2.2))])) rfl rfl rfl (W_loadA (i := 2) rfl Try.isAgg32 sz32 (Opd.tmp rfl) rfl rfl) ?_
                  refine RegL.pure (p := (pEq (.int .i64 (1 : Int)))) rfl rfl rfl (J_move rfl (Opd.tmp rfl)) ?_
                  replace h := bind_some h; obtain ⟨x39, hx39, h⟩ := h
                  refine RegL.pureW (p := (pEq (.int .i64 x39))) rfl rfl rfl (W_call rfl Try.call35 (c_laws_heldProblem hx39) (OpdsA.cons (OpdA.conv rfl (Conv.agg (Convs.cons (Conv.nest 0 (fun _ => rfl) rfl) (Convs.cons (Conv.nest 1 (fun _ => rfl) rfl) Convs.nil)))) (OpdsA.cons (OpdA.of (Opd.tmp rfl)) OpdsA.nil)) FreeP.eq) ?_
                  refine RegL.pure (p := (pEq (.int .i64 x39))) rfl rfl rfl (J_assign rfl (Opd.tmp rfl)) ?_
                  refine RegL.nil ?_
                  refine Ct.then_tr ?_
                  refine Tr.weak (Γ' := [(0, (pSl 1 (cSl 1 (cK .i64)) a_0)), (1, (pSl 1 (cSl 1 (cK .i64)) a_1)), (6, (pPtr (cGProblem x5.1))), (7, (pEq (.int .i64 x5.2))), (10, (pEq (.pointer (some ⟨b18, 0, none⟩)))), (13, (pEq (.int .i64 x37.1))), (14, (pEq (.int .i64 x39)))]) ⟨rfl, rfl, rfl, rfl, rfl, rfl, rfl, trivial⟩ ?_
                  refine Tr.seq ?_
                  refine Tr.seq ?_
                  refine Tr.region ?_
                  refine RegL.pure (p := (pEq (.int .i64 x39))) rfl rfl rfl (J_move rfl (Opd.tmp rfl)) ?_
                  refine RegL.pure (p := (pEq (.bool (decide (x39 < (0 : Int)))))) rfl rfl rfl (J_bin rfl (Opd.tmp rfl) Opd.con B_lss) ?_
                  refine RegL.nil ?_
                  refine Ct.then_tr ?_
                  refine Tr.weak (Γ' := [(0, (pSl 1 (cSl 1 (cK .i64)) a_0)), (1, (pSl 1 (cSl 1 (cK .i64)) a_1)), (6, (pPtr (cGProblem x5.1))), (7, (pEq (.int .i64 x5.2))), (10, (pEq (.pointer (some ⟨b18, 0, none⟩)))), (13, (pEq (.int .i64 x37.1))), (14, (pEq (.int .i64 x39))), (90, (pEq (.bool (decide (x39 < (0 : Int))))))]) ⟨rfl, rfl, rfl, rfl, rfl, rfl, rfl, rfl, trivial⟩ ?_
                  refine Tr.cond (Opd.tmp rfl) (fun hc => ?_) (fun hc => ?_)
                  · replace h := bif_t hc h
                    refine Tr.seq ?_
                    refine Tr.region ?_
                    refine RegL.pure (p := (pEq (.bool false))) rfl rfl rfl (J_assign rfl Opd.con) ?_
                    refine RegL.nil ?_
                    refine Ct.then_tr ?_
                    refine Tr.weak (Γ' := [(4, (pEq (.bool false)))]) ⟨rfl, trivial⟩ ?_
                    refine Tr.ret ?_
                    refine Ct.then_ret ?_
                    replace h := Option.some.inj h; subst h
                    exact Ct.retH1 (Ωx := [oSS 22 2 1 (cK .i64) g15.1.1.1 g15.1.1.2.1 g15.1.1.2.2 g15.1.2 x37.2.1, oSS 22 2 1 (cK .i64) g15.2.1.1 g15.2.1.2.1 g15.2.1.2.2 g15.2.2 x37.2.2, oBlk b18 [(pEq (.slice g15.1.1.1 g15.1.1.2.1 g15.1.1.2.2)), (pEq (.slice g15.2.1.1 g15.2.1.2.1 g15.2.1.2.2))]]) () rfl (RvOk.tmp rfl) rfl
                  · replace h := bif_f hc h
                    refine Tr.skip ?_
                    refine Ct.then_tr ?_
                    refine Tr.weak (Γ' := [(0, (pSl 1 (cSl 1 (cK .i64)) a_0)), (1, (pSl 1 (cSl 1 (cK .i64)) a_1)), (6, (pPtr (cGProblem x5.1))), (7, (pEq (.int .i64 x5.2))), (10, (pEq (.pointer (some ⟨b18, 0, none⟩)))), (13, (pEq (.int .i64 x37.1))), (14, (pEq (.int .i64 x39)))]) ⟨rfl, rfl, rfl, rfl, rfl, rfl, rfl, trivial⟩ ?_
                    refine Tr.seq ?_
                    refine Tr.seq ?_
                    refine Tr.region ?_
                    refine RegL.pure (p := (pEq (.int .i64 x39))) rfl rfl rfl (J_move rfl (Opd.tmp rfl)) ?_
                    refine RegL.pure (p := (pEq (.int .i64 x37.1))) rfl rfl rfl (J_move rfl (Opd.tmp rfl)) ?_
                    refine RegL.pure (p := (pEq (.bool (x39 != x37.1)))) rfl rfl rfl (J_bin rfl (Opd.tmp rfl) (Opd.tmp rfl) B_neq) ?_
                    refine RegL.nil ?_
                    refine Ct.then_tr ?_
                    refine Tr.weak (Γ' := [(0, (pSl 1 (cSl 1 (cK .i64)) a_0)), (1, (pSl 1 (cSl 1 (cK .i64)) a_1)), (6, (pPtr (cGProblem x5.1))), (7, (pEq (.int .i64 x5.2))), (10, (pEq (.pointer (some ⟨b18, 0, none⟩)))), (13, (pEq (.int .i64 x37.1))), (93, (pEq (.bool (x39 != x37.1))))]) ⟨rfl, rfl, rfl, rfl, rfl, rfl, rfl, trivial⟩ ?_
                    refine Tr.cond (Opd.tmp rfl) (fun hc => ?_) (fun hc => ?_)
                    · replace h := bif_t hc h
                      refine Tr.seq ?_
                      refine Tr.region ?_
                      refine RegL.pure (p := (pEq (.bool false))) rfl rfl rfl (J_assign rfl Opd.con) ?_
                      refine RegL.nil ?_
                      refine Ct.then_tr ?_
                      refine Tr.weak (Γ' := [(4, (pEq (.bool false)))]) ⟨rfl, trivial⟩ ?_
                      refine Tr.ret ?_
                      refine Ct.then_ret ?_
                      replace h := Option.some.inj h; subst h
                      exact Ct.retH1 (Ωx := [oSS 22 2 1 (cK .i64) g15.1.1.1 g15.1.1.2.1 g15.1.1.2.2 g15.1.2 x37.2.1, oSS 22 2 1 (cK .i64) g15.2.1.1 g15.2.1.2.1 g15.2.1.2.2 g15.2.2 x37.2.2, oBlk b18 [(pEq (.slice g15.1.1.1 g15.1.1.2.1 g15.1.1.2.2)), (pEq (.slice g15.2.1.1 g15.2.1.2.1 g15.2.1.2.2))]]) () rfl (RvOk.tmp rfl) rfl
                    · replace h := bif_f hc h
                      refine Tr.skip ?_
                      refine Ct.then_tr ?_
                      refine Tr.weak (Γ' := [(0, (pSl 1 (cSl 1 (cK .i64)) a_0)), (1, (pSl 1 (cSl 1 (cK .i64)) a_1)), (6, (pPtr (cGProblem x5.1))), (7, (pEq (.int .i64 x5.2))), (10, (pEq (.pointer (some ⟨b18, 0, none⟩)))), (13, (pEq (.int .i64 x37.1)))]) ⟨rfl, rfl, rfl, rfl, rfl, rfl, trivial⟩ ?_
                      refine Tr.seq ?_
                      refine Tr.region ?_
                      refine RegL.pure (p := (pSl 1 (cSl 1 (cK .i64)) a_0)) rfl rfl rfl (J_move rfl (Opd.tmp rfl)) ?_
                      replace h := bind_some h; obtain ⟨x40, hx40, h⟩ := h
                      refine RegL.pure (p := (pSl 1 (cSl 1 (cK .i64)) x40)) rfl rfl rfl (J_call rfl Try.call30 (c_laws_toInt64SS hx40) (Opds.cons (Opd.tmp rfl) Opds.nil)) ?_
                      refine RegL.pure (p := (pSl 1 (cSl 1 (cK .i64)) a_1)) rfl rfl rfl (J_move rfl (Opd.tmp rfl)) ?_
                      replace h := bind_some h; obtain ⟨x41, hx41, h⟩ := h
                      refine RegL.pure (p := (pSl 1 (cSl 1 (cK .i64)) x41)) rfl rfl rfl (J_call rfl Try.call30 (c_laws_toInt64SS hx41) (Opds.cons (Opd.tmp rfl) Opds.nil)) ?_
                      replace h := bind_some h; obtain ⟨x42, hx42, h⟩ := h
                      refine RegL.pure (p := (pTup [(pAgg (cGProblem x42.1)), (pEq (.int .i64 x42.2))])) rfl rfl rfl (J_call rfl Try.call31 (c_impl_MakeProblem hx42) (Opds.cons (Opd.tmp rfl) (Opds.cons (Opd.tmp rfl) Opds.nil))) ?_
                      refine RegL.pure (p := (pTup [(pAgg (cGProblem x42.1)), (pEq (.int .i64 x42.2))])) rfl rfl rfl (J_move rfl (Opd.tmp rfl)) ?_
                      refine RegL.pure (p := (pAgg (cGProblem x42.1))) rfl rfl rfl (J_extract rfl (Opd.tmp rfl) rfl) ?_
                      refine RegL.pure (p := (pEq (.int .i64 x42.2))) rfl rfl rfl (J_extract rfl (Opd.tmp rfl) rfl) ?_
                      refine RegL.step (γ := Nat) (p := fun b => pEq (.pointer (some ⟨b, 0, none⟩))) (Ω' := fun b => [oBlk b [(pEq (.slice none 0 0)), (pEq (.slice none 0 0))], oSS 22 2 1 (cK .i64) g15.1.1.1 g15.1.1.2.1 g15.1.1.2.2 g15.1.2 x37.2.1, oSS 22 2 1 (cK .i64) g15.2.1.1 g15.2.1.2.1 g15.2.1.2.2 g15.2.2 x37.2.2, oBlk b18 [(pEq (.slice g15.1.1.1 g15.1.1.2.1 g15.1.1.2.2)), (pEq (.slice g15.2.1.1 g15.2.1.2.1 g15.2.1.2.2))]]) rfl rfl rfl (M_alloc rfl zero32) fun b43 => ?_
                      refine RegL.stepN (γ := Unit) (p := fun _ => pAny) (Ω' := fun _ => [oBlk b43 [(pSl 1 (cSl 1 (cK .i64)) x42.1.Domains), (pSl 1 (cSl 1 (cK .i64)) x42.1.Apart)], oSS 22 2 1 (cK .i64) g15.1.1.1 g15.1.1.2.1 g15.1.1.2.2 g15.1.2 x37.2.1, oSS 22 2 1 (cK .i64) g15.2.1.1 g15.2.1.2.1 g15.2.1.2.2 g15.2.2 x37.2.2, oBlk b18 [(pEq (.slice g15.1.1.1 g15.1.1.2.1 g15.1.1.2.2)), (pEq (.slice g15.2.1.1 g15.2.1.2.1 g15.2.1.2.2))]]) rfl rfl (M_storeA rfl sz32 (Opd.tmp rfl) (Opd.tmp rfl) (fun _ _ _ h => ones_of ((OneCs.cons OneC.sl (OneCs.cons OneC.sl OneCs.nil))) h) rfl rfl) fun g44 => ?_
                      refine RegL.freeze (s := 15) rfl ?_
                      refine RegL.pure (p := (pEq (.int .i64 x42.2))) rfl rfl rfl (J_assign rfl (Opd.tmp rfl)) ?_
                      refine RegL.nil ?_
                      refine Ct.then_tr ?_
                      refine Tr.weak (Γ' := [(6, (pPtr (cGProblem x5.1))), (7, (pEq (.int .i64 x5.2))), (10, (pEq (.pointer (some ⟨b18, 0, none⟩)))), (13, (pEq (.int .i64 x37.1))), (15, (pPtr (cGProblem x42.1))), (16, (pEq (.int .i64 x42.2)))]) ⟨rfl, rfl, rfl, rfl, rfl, rfl, trivial⟩ ?_
                      refine Tr.seq ?_
                      refine Tr.seq ?_
                      replace h := bind_some h; obtain ⟨x45, hx45, h⟩ := h
                      refine Tr.cut (γ := Unit) (Γm := fun g => [(10, (pEq (.pointer (some ⟨b18, 0, none⟩)))), (13, (pEq (.int .i64 x37.1))), (110, (pEq (.bool x45)))]) (Ωm := fun g => [oSS 22 2 1 (cK .i64) g15.1.1.1 g15.1.1.2.1 g15.1.1.2.2 g15.1.2 x37.2.1, oSS 22 2 1 (cK .i64) g15.2.1.1 g15.2.1.2.1 g15.2.1.2.2 g15.2.2 x37.2.2, oBlk b18 [(pEq (.slice g15.1.1.1 g15.1.1.2.1 g15.1.1.2.2)), (pEq (.slice g15.2.1.1 g15.2.1.2.1 g15.2.1.2.2))]]) ?_ (fun g48 => ?_)
                      · clear h
                        have h := hx45
                        clear hx45
                        refine Tr.region ?_
                        refine RegL.pure (p := (pAgg (cGProblem x42.1))) rfl rfl rfl (J_loadA rfl Try.isAgg32 sz32 (Opd.tmp rfl) rfl) ?_
                        refine RegL.pure (p := (pAgg (cGProblem x5.1))) rfl rfl rfl (J_loadA rfl Try.isAgg32 sz32 (Opd.tmp rfl) rfl) ?_
                        replace h := bind_some h; obtain ⟨x46, hx46, h⟩ := h
                        refine RegL.pure (p := (pEq (.bool x46))) rfl rfl rfl (J_call rfl Try.call23 (c_laws_eqProblem hx46) (Opds.cons (Opd.tmp rfl) (Opds.cons (Opd.tmp rfl) Opds.nil))) ?_
                        refine RegL.pure (p := (pEq (.bool (!x46)))) rfl rfl rfl (J_not rfl (Opd.tmp rfl)) ?_
                        refine RegL.pure (p := (pEq (.bool (!x46)))) rfl rfl rfl (J_move rfl (Opd.tmp rfl)) ?_
                        rcases Bool.eq_false_or_eq_true (!x46) with hc47 | hc47
                        · replace h := bif_t hc47 h
                          refine RegL.skipG rfl rfl rfl hc47 rfl rfl ?_
                          refine RegL.skipG rfl rfl rfl hc47 rfl rfl ?_
                          refine RegL.skipG rfl rfl rfl hc47 rfl rfl ?_
                          refine RegL.pure (p := (pEq (.bool true))) rfl rfl rfl (J_pick rfl (Opd.tmp rfl) (fun _ => Opd.con) (fun hf => absurd (hc47.symm.trans hf) (by decide))) ?_
                          refine RegL.nil ?_
                          replace h := Option.some.inj h; subst h
                          exact Ct.mid () rfl ⟨rfl, rfl, rfl, trivial⟩
                        · replace h := bif_f hc47 h
                          refine RegL.pureG (p := (pEq (.int .i64 x42.2))) rfl rfl rfl hc47 rfl rfl (J_move rfl (Opd.tmp rfl)) ?_
                          refine RegL.pureG (p := (pEq (.int .i64 x5.2))) rfl rfl rfl hc47 rfl rfl (J_move rfl (Opd.tmp rfl)) ?_
                          refine RegL.pureG (p := (pEq (.bool (x42.2 != x5.2)))) rfl rfl rfl hc47 rfl rfl (J_bin rfl (Opd.tmp rfl) (Opd.tmp rfl) B_neq) ?_
                          refine RegL.pure (p := (pEq (.bool (x42.2 != x5.2)))) rfl rfl rfl (J_pick rfl (Opd.tmp rfl) (fun hf => absurd (hc47.symm.trans hf) (by decide)) (fun _ => (Opd.tmp rfl))) ?_
                          refine RegL.nil ?_
                          replace h := Option.some.inj h; subst h
                          exact Ct.mid () rfl ⟨rfl, rfl, rfl, trivial⟩
                      · clear hx45
                        refine Ct.then_tr ?_
                        refine Tr.weak (Γ' := [(10, (pEq (.pointer (some ⟨b18, 0, none⟩)))), (13, (pEq (.int .i64 x37.1))), (110, (pEq (.bool x45)))]) ⟨rfl, rfl, rfl, trivial⟩ ?_
                        refine Tr.cond (Opd.tmp rfl) (fun hc => ?_) (fun hc => ?_)
                        · replace h := bif_t hc h
                          refine Tr.seq ?_
                          refine Tr.region ?_
                          refine RegL.pure (p := (pEq (.bool false))) rfl rfl rfl (J_assign rfl Opd.con) ?_
                          refine RegL.nil ?_
                          refine Ct.then_tr ?_
                          refine Tr.weak (Γ' := [(4, (pEq (.bool false)))]) ⟨rfl, trivial⟩ ?_
                          refine Tr.ret ?_
                          refine Ct.then_ret ?_
                          replace h := Option.some.inj h; subst h
                          exact Ct.retH1 (Ωx := [oSS 22 2 1 (cK .i64) g15.1.1.1 g15.1.1.2.1 g15.1.1.2.2 g15.1.2 x37.2.1, oSS 22 2 1 (cK .i64) g15.2.1.1 g15.2.1.2.1 g15.2.1.2.2 g15.2.2 x37.2.2, oBlk b18 [(pEq (.slice g15.1.1.1 g15.1.1.2.1 g15.1.1.2.2)), (pEq (.slice g15.2.1.1 g15.2.1.2.1 g15.2.1.2.2))]]) () rfl (RvOk.tmp rfl) rfl
                        · replace h := bif_f hc h
                          refine Tr.skip ?_
                          refine Ct.then_tr ?_
                          refine Tr.weak (Γ' := [(10, (pEq (.pointer (some ⟨b18, 0, none⟩)))), (13, (pEq (.int .i64 x37.1)))]) ⟨rfl, rfl, trivial⟩ ?_
                          refine Tr.seq ?_
                          refine Tr.region ?_
                          refine RegL.pure (p := (pEq (.int .i64 (1 : Int)))) rfl rfl rfl (J_assign rfl Opd.con) ?_
                          refine RegL.nil ?_
                          refine Ct.then_tr ?_
                          refine Tr.weak (Γ' := [(10, (pEq (.pointer (some ⟨b18, 0, none⟩)))), (13, (pEq (.int .i64 x37.1))), (14, (pEq (.int .i64 (1 : Int))))]) ⟨rfl, rfl, rfl, trivial⟩ ?_
                          refine Tr.seq ?_
                          refine Tr.region ?_
                          refine RegL.pureW (p := (pAgg [(pEq (.slice g15.1.1.1 g15.1.1.2.1 g15.1.1.2.2)), (pEq (.slice g15.2.1.1 g15.2.1.2.1 g15.2.1.2.2))])) rfl rfl rfl (W_loadA (i := 2) rfl Try.isAgg32 sz32 (Opd.tmp rfl) rfl rfl) ?_
                          refine RegL.pure (p := (pEq (.int .i64 (1 : Int)))) rfl rfl rfl (J_move rfl (Opd.tmp rfl)) ?_
                          replace h := bind_some h; obtain ⟨x49, hx49, h⟩ := h
                          refine RegL.pureW (p := (pEq (.int .i64 x49))) rfl rfl rfl (W_call rfl Try.call35 (c_laws_heldProblem hx49) (OpdsA.cons (OpdA.conv rfl (Conv.agg (Convs.cons (Conv.nest 0 (fun _ => rfl) rfl) (Convs.cons (Conv.nest 1 (fun _ => rfl) rfl) Convs.nil)))) (OpdsA.cons (OpdA.of (Opd.tmp rfl)) OpdsA.nil)) FreeP.eq) ?_
                          refine RegL.pure (p := (pEq (.int .i64 x49))) rfl rfl rfl (J_assign rfl (Opd.tmp rfl)) ?_
                          refine RegL.nil ?_
                          refine Ct.then_tr ?_
                          refine Tr.weak (Γ' := [(13, (pEq (.int .i64 x37.1))), (14, (pEq (.int .i64 x49)))]) ⟨rfl, rfl, trivial⟩ ?_
                          refine Tr.seq ?_
                          refine Tr.seq ?_
                          refine Tr.region ?_
                          refine RegL.pure (p := (pEq (.int .i64 x49))) rfl rfl rfl (J_move rfl (Opd.tmp rfl)) ?_
                          refine RegL.pure (p := (pEq (.bool (decide (x49 < (0 : Int)))))) rfl rfl rfl (J_bin rfl (Opd.tmp rfl) Opd.con B_lss) ?_
                          refine RegL.nil ?_
                          refine Ct.then_tr ?_
                          refine Tr.weak (Γ' := [(13, (pEq (.int .i64 x37.1))), (14, (pEq (.int .i64 x49))), (115, (pEq (.bool (decide (x49 < (0 : Int))))))]) ⟨rfl, rfl, rfl, trivial⟩ ?_
                          refine Tr.cond (Opd.tmp rfl) (fun hc => ?_) (fun hc => ?_)
                          · replace h := bif_t hc h
                            refine Tr.seq ?_
                            refine Tr.region ?_
                            refine RegL.pure (p := (pEq (.bool false))) rfl rfl rfl (J_assign rfl Opd.con) ?_
                            refine RegL.nil ?_
                            refine Ct.then_tr ?_
                            refine Tr.weak (Γ' := [(4, (pEq (.bool false)))]) ⟨rfl, trivial⟩ ?_
                            refine Tr.ret ?_
                            refine Ct.then_ret ?_
                            replace h := Option.some.inj h; subst h
                            exact Ct.retH1 (Ωx := [oSS 22 2 1 (cK .i64) g15.1.1.1 g15.1.1.2.1 g15.1.1.2.2 g15.1.2 x37.2.1, oSS 22 2 1 (cK .i64) g15.2.1.1 g15.2.1.2.1 g15.2.1.2.2 g15.2.2 x37.2.2, oBlk b18 [(pEq (.slice g15.1.1.1 g15.1.1.2.1 g15.1.1.2.2)), (pEq (.slice g15.2.1.1 g15.2.1.2.1 g15.2.1.2.2))]]) () rfl (RvOk.tmp rfl) rfl
                          · replace h := bif_f hc h
                            refine Tr.skip ?_
                            refine Ct.then_tr ?_
                            refine Tr.weak (Γ' := [(13, (pEq (.int .i64 x37.1))), (14, (pEq (.int .i64 x49)))]) ⟨rfl, rfl, trivial⟩ ?_
                            refine Tr.seq ?_
                            refine Tr.seq ?_
                            refine Tr.region ?_
                            refine RegL.pure (p := (pEq (.int .i64 x49))) rfl rfl rfl (J_move rfl (Opd.tmp rfl)) ?_
                            refine RegL.pure (p := (pEq (.int .i64 x37.1))) rfl rfl rfl (J_move rfl (Opd.tmp rfl)) ?_
                            refine RegL.pure (p := (pEq (.bool (x49 != x37.1)))) rfl rfl rfl (J_bin rfl (Opd.tmp rfl) (Opd.tmp rfl) B_neq) ?_
                            refine RegL.nil ?_
                            refine Ct.then_tr ?_
                            refine Tr.weak (Γ' := [(118, (pEq (.bool (x49 != x37.1))))]) ⟨rfl, trivial⟩ ?_
                            refine Tr.cond (Opd.tmp rfl) (fun hc => ?_) (fun hc => ?_)
                            · replace h := bif_t hc h
                              refine Tr.seq ?_
                              refine Tr.region ?_
                              refine RegL.pure (p := (pEq (.bool false))) rfl rfl rfl (J_assign rfl Opd.con) ?_
                              refine RegL.nil ?_
                              refine Ct.then_tr ?_
                              refine Tr.weak (Γ' := [(4, (pEq (.bool false)))]) ⟨rfl, trivial⟩ ?_
                              refine Tr.ret ?_
                              refine Ct.then_ret ?_
                              replace h := Option.some.inj h; subst h
                              exact Ct.retH1 (Ωx := [oSS 22 2 1 (cK .i64) g15.1.1.1 g15.1.1.2.1 g15.1.1.2.2 g15.1.2 x37.2.1, oSS 22 2 1 (cK .i64) g15.2.1.1 g15.2.1.2.1 g15.2.1.2.2 g15.2.2 x37.2.2, oBlk b18 [(pEq (.slice g15.1.1.1 g15.1.1.2.1 g15.1.1.2.2)), (pEq (.slice g15.2.1.1 g15.2.1.2.1 g15.2.1.2.2))]]) () rfl (RvOk.tmp rfl) rfl
                            · replace h := bif_f hc h
                              refine Tr.skip ?_
                              refine Ct.then_tr ?_
                              refine Tr.weak (Γ' := []) trivial ?_
                              refine Tr.seq ?_
                              refine Tr.region ?_
                              refine RegL.pure (p := (pEq (.bool true))) rfl rfl rfl (J_assign rfl Opd.con) ?_
                              refine RegL.nil ?_
                              refine Ct.then_tr ?_
                              refine Tr.weak (Γ' := [(4, (pEq (.bool true)))]) ⟨rfl, trivial⟩ ?_
                              refine Tr.ret ?_
                              replace h := Option.some.inj h; subst h
                              exact Ct.retH1 (Ωx := [oSS 22 2 1 (cK .i64) g15.1.1.1 g15.1.1.2.1 g15.1.1.2.2 g15.1.2 x37.2.1, oSS 22 2 1 (cK .i64) g15.2.1.1 g15.2.1.2.1 g15.2.1.2.2 g15.2.2 x37.2.2, oBlk b18 [(pEq (.slice g15.1.1.1 g15.1.1.2.1 g15.1.1.2.2)), (pEq (.slice g15.2.1.1 g15.2.1.2.1 g15.2.1.2.2))]]) () rfl (RvOk.tmp rfl) rfl

end Go.Proofs.Ytmaahfokhfmmnaa.fnExactMakeProblemW
