/-
  The table of comparisons, and what tells whether a number is a criterion.
-/
import Derived.Test.YtbkniippobnbpaaOrdW2
namespace Go.Proofs.Ytbkniippobnbpaa
open Go.Ae
set_option linter.unusedSimpArgs false
variable {H : Hooks}
attribute [local go_sem] opV_move opV_assign opV_pick opV_alloc opV_box opV_build opV_buildSlice opV_load opV_store opV_nilCheck opV_unOp opV_binOp opV_makeInterface opV_makeFunc opV_makeSlice opV_slice opV_fieldAddr opV_field opV_indexAddr opV_index opV_extract opV_call oCall_value oCall_builtin oCallV_func bin_add bin_sub bin_mul bin_lss bin_leq bin_gtr bin_geq bin_eql bin_neq bins_lss bins_leq bins_gtr bins_geq bins_eql bins_neq binb_eql ret1_some ret2_some retU_some oBin_some oUn_some oPick_some oLoad_some oStore_some oBox_some oIndexAddr_some oIndex_some oExtract_some un_not un_neg cond_true cond_false beq_ft beq_tf Bool.not_true Bool.not_false wantedV opd_tmp opd_c opd ofV Fr.get_put_ne Fr.get_put_eq Fr.get_put_none Fr.put_n ne_eq not_false_eq_true Fr.only_get fr_get fr_n argsT T.get_set T.get_nil oField oFunc oNil oAlloc oBuild oBuildSlice mapO pairs okI_eq fnat_eq fint_eq List.getElem?_toArray List.getElem?_cons_zero List.getElem?_cons_succ Option.bind_some List.map List.length_cons List.length_nil Nat.reduceEqDiff Nat.reduceLT Nat.reduceAdd Nat.reduceMul Nat.zero_add Nat.add_zero Nat.max_def Nat.reduceLeDiff Nat.reduceLT and_true and_false true_and false_and if_true if_false ite_true ite_false Option.some.injEq reduceCtorEq decide_true decide_false bne_self_eq_false beq_self_eq_true seqQ List.append_nil List.nil_append List.cons_append newVar_eq cellsOf St.box_nx Option.map_some

def fn (f : Nat) : CV := .func (.func f) [] []
def tab : List CV := [fn 32, fn 33, fn 35, fn 36, fn 38, fn 39]
def noFn : List CV := [.nilFunc, .nilFunc, .nilFunc, .nilFunc, .nilFunc, .nilFunc]

theorem zero43 : Ae.zeroOf Try.prog 43 = some (.agg noFn) := by kernel_rfl
theorem build43 : Ae.buildV Try.prog 43 [(0, .func (.func 32) [] []), (1, .func (.func 33) [] []), (2, .func (.func 35) [] []), (3, .func (.func 36) [] []), (4, .func (.func 38) [] []), (5, .func (.func 39) [] [])] = some (.agg tab) := by kernel_rfl
theorem agg43 : Ae.isAgg Try.prog 43 = true := by kernel_rfl
theorem load43 (s : St) (b o : Nat) : Ae.loadVar Try.prog s 43 b o = (Ae.lds s b o 6).map CV.agg := by
  simp only [Ae.loadVar, agg43, sz43]
theorem store43 (s : St) (b o : Nat) : Ae.storeVar Try.prog s 43 b o (.agg tab) = Ae.stos s b o tab := by
  have h : Nat.beq (cellsOf (.agg tab)).length 6 = true := rfl
  simp only [Ae.storeVar, sz43, h]
  rfl

theorem asked_ok (hH : Free H) (s : St) (Q : CV → St → Prop) (hQ : ∀ s', s.le s' → Q (.agg tab) s') : callW Try.prog H 20 [] s Q := by
  obtain ⟨s₂, h1, h2, h3⟩ := (Has.box s noFn 43).stos (vs := tab) (o := 0) (by decide) (by decide) (by decide)
  have h4 : Ae.lds s₂ s.nx 0 6 = some tab := h2.lds (by decide)
  refine callW_enter (fn := Try.f20) (hH _ _ _ (by decide)) Try.func20 rfl ?_
  simp only [Try.ntmps20]
  repeat (first | refine codeW_seq ?_ | refine codeW_skip ?_ | refine codeW_label ?_ | refine codeW_exit ?_ | refine codeW_ret ?_ | refine codeW_block ?_ | refine codeW_region ?_ | refine opsW_nil ?_ | refine drawE_nil ?_ | (refine codeW_drawE ?_ ?_; (focus kernel_rfl)) | (apply drawE_val; (focus rfl); (first | exact wantedV_none rfl | (focus (simp only [go_sem, zero43, build43, store43, h1]; done))); (focus (intro s_ hs_; simp only [go_sem, zero43, build43, store43, h1, hs_] <;> rfl))) | (apply drawE_call; (focus rfl); (first | exact wantedV_none rfl | (focus (simp only [go_sem, zero43, build43, store43, h1]; done))); (focus (simp only [go_sem, zero43, build43, store43, h1] <;> rfl))) | (apply drawE_skip; (focus (simp only [go_sem, zero43, build43, store43, h1]; done)); (focus assumption)) | (apply opsW_val; (first | exact wantedV_none rfl | (focus (simp only [go_sem, zero43, build43, store43, h1]; done))); (focus (simp only [go_sem, zero43, build43, store43, h1] <;> rfl))) | (apply opsW_call; (first | exact wantedV_none rfl | (focus (simp only [go_sem, zero43, build43, store43, h1]; done))); (focus (simp only [go_sem, zero43, build43, store43, h1] <;> rfl))) | (apply opsW_skip; (focus (simp only [go_sem, zero43, build43, store43, h1]; done))) | refine blockQ_eq ?_ | (refine blockQ_ne ?_ ?_; (focus decide)))
  refine ⟨.agg tab, ?_, hQ _ (h3.le (St.box_le _ _ _) (Nat.le_refl _))⟩
  have h5 : Try.f20.results = #[.cell 0 43] := rfl
  simp only [Ae.results, h5, mapO, go_sem, load43, h4]

def isOne (n : Int) : Bool := decide (n ≠ 0 ∧ n < 6 ∧ n > -6)

theorem one_ok (hH : Free H) (n : Int) (s : St) (Q : CV → St → Prop) (hQ : ∀ s', s.le s' → Q (.bool (isOne n)) s') : callW Try.prog H 23 [.int .i64 n] s Q := by
  refine callW_enter (fn := Try.f23) (hH _ _ _ (by decide)) Try.func23 rfl ?_
  simp only [Try.ntmps23]
  by_cases h0 : n = 0
  · subst h0
    repeat (first | refine codeW_seq ?_ | refine codeW_skip ?_ | refine codeW_label ?_ | refine codeW_exit ?_ | refine codeW_ret ?_ | refine codeW_block ?_ | refine codeW_region ?_ | refine opsW_nil ?_ | refine drawE_nil ?_ | (refine codeW_drawE ?_ ?_; (focus kernel_rfl)) | (apply drawE_val; (focus rfl); (first | exact wantedV_none rfl | (focus (simp only [go_sem, callF_20, agg3]; done))); (focus (intro s_ hs_; simp only [go_sem, callF_20, agg3, hs_] <;> rfl))) | (apply drawE_call; (focus rfl); (first | exact wantedV_none rfl | (focus (simp only [go_sem, callF_20, agg3]; done))); (focus (simp only [go_sem, callF_20, agg3] <;> rfl))) | (apply drawE_skip; (focus (simp only [go_sem, callF_20, agg3]; done)); (focus assumption)) | (apply opsW_val; (first | exact wantedV_none rfl | (focus (simp only [go_sem, callF_20, agg3]; done))); (focus (simp only [go_sem, callF_20, agg3] <;> rfl))) | (apply opsW_call; (first | exact wantedV_none rfl | (focus (simp only [go_sem, callF_20, agg3]; done))); (focus (simp only [go_sem, callF_20, agg3] <;> rfl))) | (apply opsW_skip; (focus (simp only [go_sem, callF_20, agg3]; done))) | refine blockQ_eq ?_ | (refine blockQ_ne ?_ ?_; (focus decide)))
    refine end_ret rfl (by simp only [go_sem] <;> rfl) (hQ _ (St.le_refl _))
  have g0 : (n != 0) = true := by simpa using h0
  have gw : IntKind.i64.wrap (0 - 6) = -6 := by decide
  by_cases h1 : n < 6
  · have g1 : decide (n < 6) = true := by simpa using h1
    repeat (first | refine codeW_seq ?_ | refine codeW_skip ?_ | refine codeW_label ?_ | refine codeW_exit ?_ | refine codeW_ret ?_ | refine codeW_block ?_ | refine codeW_region ?_ | refine opsW_nil ?_ | refine drawE_nil ?_ | (refine codeW_drawE ?_ ?_; (focus kernel_rfl)) | (apply drawE_val; (focus rfl); (first | exact wantedV_none rfl | (focus (simp only [go_sem, callF_20, agg3, g0, g1]; done))); (focus (intro s_ hs_; simp only [go_sem, callF_20, agg3, g0, g1, hs_] <;> rfl))) | (apply drawE_call; (focus rfl); (first | exact wantedV_none rfl | (focus (simp only [go_sem, callF_20, agg3, g0, g1]; done))); (focus (simp only [go_sem, callF_20, agg3, g0, g1] <;> rfl))) | (apply drawE_skip; (focus (simp only [go_sem, callF_20, agg3, g0, g1]; done)); (focus assumption)) | (apply opsW_val; (first | exact wantedV_none rfl | (focus (simp only [go_sem, callF_20, agg3, g0, g1]; done))); (focus (simp only [go_sem, callF_20, agg3, g0, g1] <;> rfl))) | (apply opsW_call; (first | exact wantedV_none rfl | (focus (simp only [go_sem, callF_20, agg3, g0, g1]; done))); (focus (simp only [go_sem, callF_20, agg3, g0, g1] <;> rfl))) | (apply opsW_skip; (focus (simp only [go_sem, callF_20, agg3, g0, g1]; done))) | refine blockQ_eq ?_ | (refine blockQ_ne ?_ ?_; (focus decide)) | refine asked_ok hH _ _ fun s1 hs1 => ?_)
    refine end_ret rfl (by simp only [go_sem] <;> rfl) ?_
    have e : decide (n > IntKind.i64.wrap (0 - 6)) = isOne n := by
      rw [gw, isOne]
      exact decide_eq_decide.2 ⟨fun h => ⟨h0, h1, h⟩, fun h => h.2.2⟩
    rw [e]
    exact hQ _ (St.le_trans (by assumption) (by assumption))
  · have g1 : decide (n < 6) = false := by simpa using h1
    repeat (first | refine codeW_seq ?_ | refine codeW_skip ?_ | refine codeW_label ?_ | refine codeW_exit ?_ | refine codeW_ret ?_ | refine codeW_block ?_ | refine codeW_region ?_ | refine opsW_nil ?_ | refine drawE_nil ?_ | (refine codeW_drawE ?_ ?_; (focus kernel_rfl)) | (apply drawE_val; (focus rfl); (first | exact wantedV_none rfl | (focus (simp only [go_sem, callF_20, agg3, g0, g1]; done))); (focus (intro s_ hs_; simp only [go_sem, callF_20, agg3, g0, g1, hs_] <;> rfl))) | (apply drawE_call; (focus rfl); (first | exact wantedV_none rfl | (focus (simp only [go_sem, callF_20, agg3, g0, g1]; done))); (focus (simp only [go_sem, callF_20, agg3, g0, g1] <;> rfl))) | (apply drawE_skip; (focus (simp only [go_sem, callF_20, agg3, g0, g1]; done)); (focus assumption)) | (apply opsW_val; (first | exact wantedV_none rfl | (focus (simp only [go_sem, callF_20, agg3, g0, g1]; done))); (focus (simp only [go_sem, callF_20, agg3, g0, g1] <;> rfl))) | (apply opsW_call; (first | exact wantedV_none rfl | (focus (simp only [go_sem, callF_20, agg3, g0, g1]; done))); (focus (simp only [go_sem, callF_20, agg3, g0, g1] <;> rfl))) | (apply opsW_skip; (focus (simp only [go_sem, callF_20, agg3, g0, g1]; done))) | refine blockQ_eq ?_ | (refine blockQ_ne ?_ ?_; (focus decide)) | refine asked_ok hH _ _ fun s1 hs1 => ?_)
    refine end_ret rfl (by simp only [go_sem] <;> rfl) ?_
    have e : false = isOne n := by
      rw [isOne]
      exact (decide_eq_false fun h => h1 h.2.1).symm
    rw [e]
    exact hQ _ (by assumption)
end Go.Proofs.Ytbkniippobnbpaa
