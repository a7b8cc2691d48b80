/-
  Less.
-/
import Derived.Test.YtbkniippobnbpaaOrdW5
namespace Go.Proofs.Ytbkniippobnbpaa
open Go.Ae
set_option linter.unusedSimpArgs false
variable {H : Hooks}
attribute [local go_sem] opV_move opV_assign opV_pick opV_alloc opV_box opV_build opV_buildSlice opV_load opV_store opV_nilCheck opV_unOp opV_binOp opV_makeInterface opV_makeFunc opV_makeSlice opV_slice opV_fieldAddr opV_field opV_indexAddr opV_index opV_extract opV_call oCall_value oCall_builtin oCallV_func bin_add bin_sub bin_mul bin_lss bin_leq bin_gtr bin_geq bin_eql bin_neq bins_lss bins_leq bins_gtr bins_geq bins_eql bins_neq binb_eql ret1_some ret2_some retU_some oBin_some oUn_some oPick_some oLoad_some oStore_some oBox_some oIndexAddr_some oIndex_some oExtract_some un_not un_neg cond_true cond_false beq_ft beq_tf Bool.not_true Bool.not_false wantedV opd_tmp opd_c opd ofV Fr.get_put_ne Fr.get_put_eq Fr.get_put_none Fr.put_n ne_eq not_false_eq_true Fr.only_get fr_get fr_n argsT T.get_set T.get_nil oField oFunc oNil oAlloc oBuild oBuildSlice mapO pairs okI_eq fnat_eq fint_eq List.getElem?_toArray List.getElem?_cons_zero List.getElem?_cons_succ Option.bind_some List.map List.length_cons List.length_nil Nat.reduceEqDiff Nat.reduceLT Nat.reduceAdd Nat.reduceMul Nat.zero_add Nat.add_zero Nat.max_def Nat.reduceLeDiff Nat.reduceLT and_true and_false true_and false_and if_true if_false ite_true ite_false Option.some.injEq reduceCtorEq decide_true decide_false bne_self_eq_false beq_self_eq_true seqQ List.append_nil List.nil_append List.cons_append newVar_eq cellsOf St.box_nx Option.map_some

theorem less_ok (hH : Free H) (a b : K) (v : CV) (l : List Int) (hl : l.length < 9223372036854775808) (s : St) (hv : IntSl s v l) (Q : CV → St → Prop) (hQ : ∀ s', s.le s' → Q (.bool (decide (cmpK a b l < 0))) s') : callW Try.prog H 12 [a.cv, b.cv, v] s Q := by
  have hA : Ae.lds ((s.box a.cells 25).box b.cells 25) s.nx 0 6 = some a.cells := by
    rw [St.le.lds (St.box_le _ _ _) (by simp only [St.box_nx]; omega)]
    exact St.box_lds s a.cells 25
  have hB : Ae.lds ((s.box a.cells 25).box b.cells 25) (s.nx + 1) 0 6 = some b.cells := St.box_lds (s.box a.cells 25) b.cells 25
  refine callW_enter (fn := Try.f12) (hH _ _ _ (by decide)) Try.func12 rfl ?_
  simp only [Try.ntmps12, K.cv]
  repeat (first | refine codeW_seq ?_ | refine codeW_skip ?_ | refine codeW_label ?_ | refine codeW_exit ?_ | refine codeW_ret ?_ | refine codeW_block ?_ | refine codeW_region ?_ | refine opsW_nil ?_ | refine drawE_nil ?_ | (refine codeW_drawE ?_ ?_; (focus kernel_rfl)) | (apply drawE_val; (focus rfl); (first | exact wantedV_none rfl | (focus (simp only [go_sem, hA, hB, load25, callF_25]; done))); (focus (intro s_ hs_; simp only [go_sem, hA, hB, load25, callF_25, hs_] <;> rfl))) | (apply drawE_call; (focus rfl); (first | exact wantedV_none rfl | (focus (simp only [go_sem, hA, hB, load25, callF_25]; done))); (focus (simp only [go_sem, hA, hB, load25, callF_25] <;> rfl))) | (apply drawE_skip; (focus (simp only [go_sem, hA, hB, load25, callF_25]; done)); (focus assumption)) | (apply opsW_val; (first | exact wantedV_none rfl | (focus (simp only [go_sem, hA, hB, load25, callF_25]; done))); (focus (simp only [go_sem, hA, hB, load25, callF_25] <;> rfl))) | (apply opsW_call; (first | exact wantedV_none rfl | (focus (simp only [go_sem, hA, hB, load25, callF_25]; done))); (focus (simp only [go_sem, hA, hB, load25, callF_25] <;> rfl))) | (apply opsW_skip; (focus (simp only [go_sem, hA, hB, load25, callF_25]; done))) | refine blockQ_eq ?_ | (refine blockQ_ne ?_ ?_; (focus decide)) | refine compare_ok hH a b v l hl _ (hv.le (le_box2 _ _ _ _ _)) _ fun s2 hs2 => ?_)
  refine end_ret rfl (by simp only [go_sem] <;> rfl) (hQ _ (St.le_trans (le_box2 _ _ _ _ _) hs2))
end Go.Proofs.Ytbkniippobnbpaa
