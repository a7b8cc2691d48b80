/-
  Comparing two numbers and two strings.
-/
import Derived.Test.YtbkniippobnbpaaAeOpEq
import Derived.Test.YtbkniippobnbpaaProg
import Derived.KernelRfl
import Derived.Tactics
namespace Go.Proofs.Ytbkniippobnbpaa
open Go.Ae
set_option linter.unusedSimpArgs false
variable {H : Hooks}

theorem fr_get (t : T CV) (n i : Nat) : (⟨t, n⟩ : Fr).get i = t.get i := rfl
theorem fr_n (t : T CV) (n : Nat) : (⟨t, n⟩ : Fr).n = n := rfl
theorem T.get_nil (i : Nat) : (T.nil : T CV).get i = none := rfl
theorem opd_tmp (τ : Fr) (t : Nat) : opd Try.prog τ (.tmp t) = τ.get t := rfl
theorem opd_c (τ : Fr) (k : IntKind) (n : Int) : opd Try.prog τ (.const (.int k n)) = some (.int k n) := rfl
theorem opd_b (τ : Fr) (b : Bool) : opd Try.prog τ (.const (.bool b)) = some (.bool b) := rfl
theorem opd_f (τ : Fr) (f : Nat) : opd Try.prog τ (.func f) = some (.func (.func f) [] []) := rfl

attribute [local go_sem] opV_move opV_assign opV_pick opV_alloc opV_box opV_build opV_buildSlice opV_load opV_store opV_nilCheck opV_unOp opV_binOp opV_makeInterface opV_makeFunc opV_makeSlice opV_slice opV_fieldAddr opV_field opV_indexAddr opV_index opV_extract opV_call oCall_value oCall_builtin oCallV_func bin_add bin_sub bin_mul bin_lss bin_leq bin_gtr bin_geq bin_eql bin_neq bins_lss bins_leq bins_gtr bins_geq bins_eql bins_neq binb_eql ret1_some ret2_some retU_some oBin_some oUn_some oPick_some oLoad_some oStore_some oBox_some oIndexAddr_some oIndex_some oExtract_some un_not un_neg cond_true cond_false beq_ft beq_tf Bool.not_true Bool.not_false wantedV opd_tmp opd_c opd ofV Fr.get_put_ne Fr.get_put_eq Fr.get_put_none Fr.put_n ne_eq not_false_eq_true Fr.only_get fr_get fr_n argsT T.get_set T.get_nil oField oFunc oNil oAlloc oBuild oBuildSlice mapO pairs okI_eq fnat_eq fint_eq List.getElem?_toArray List.getElem?_cons_zero List.getElem?_cons_succ Option.bind_some List.map List.length_cons List.length_nil Nat.reduceEqDiff Nat.reduceLT Nat.reduceAdd Nat.reduceMul Nat.zero_add Nat.add_zero Nat.max_def Nat.reduceLeDiff Nat.reduceLT and_true and_false true_and false_and if_true if_false ite_true ite_false Option.some.injEq reduceCtorEq decide_true decide_false bne_self_eq_false beq_self_eq_true seqQ List.append_nil List.nil_append List.cons_append newVar_eq cellsOf St.box_nx Option.map_some

theorem agg3 : Ae.isAgg Try.prog 3 = false := by kernel_rfl
theorem agg4 : Ae.isAgg Try.prog 4 = false := by kernel_rfl
theorem agg9 : Ae.isAgg Try.prog 9 = false := by kernel_rfl
theorem agg25 : Ae.isAgg Try.prog 25 = true := by kernel_rfl
theorem sz25 : Ae.szOf Try.prog 25 = some 6 := by kernel_rfl
theorem sz3 : Ae.szOf Try.prog 3 = some 1 := by kernel_rfl

theorem result_tmp {fn : Func} {t : Nat} {τ : Fr} {s : St} {v : CV} (h : fn.results = #[.tmp t]) (hv : τ.get t = some v) : Ae.results Try.prog fn τ s = some v := by
  simp only [Ae.results, h, mapO, hv]

theorem end_ret {fn : Func} {Q : CV → St → Prop} {t : Nat} {τ : Fr} {s : St} {v : CV} (h : fn.results = #[.tmp t]) (hv : τ.get t = some v) (hQ : Q v s) : bodyQ Try.prog fn Q .ret τ s :=
  ⟨v, result_tmp h hv, hQ⟩
theorem end_norm {fn : Func} {Q : CV → St → Prop} {t : Nat} {τ : Fr} {s : St} {v : CV} (h : fn.results = #[.tmp t]) (hv : τ.get t = some v) (hQ : Q v s) : bodyQ Try.prog fn Q .norm τ s :=
  ⟨v, result_tmp h hv, hQ⟩

def cmpI (a b : Int) : Int := if a < b then -1 else if a > b then 1 else 0
def cmpS (a b : List Nat) : Int := if natsLess a b = true then -1 else if (natsLess a b || natsEq a b) = true then 0 else 1

/-- No hook stands before these functions. -/
def Free (H : Hooks) : Prop := ∀ f a s, f ≠ 8 → H f a s = none

theorem isNaN_ok (hH : Free H) (a : Int) (s : St) (Q : CV → St → Prop) (hQ : Q (.bool false) s) : callW Try.prog H 42 [.int .i64 a] s Q := by
  refine callW_enter (fn := Try.f42) (hH _ _ _ (by decide)) Try.func42 rfl ?_
  simp only [Try.ntmps42]
  repeat (first | refine codeW_seq ?_ | refine codeW_skip ?_ | refine codeW_label ?_ | refine codeW_exit ?_ | refine codeW_ret ?_ | refine codeW_block ?_ | refine codeW_region ?_ | refine opsW_nil ?_ | refine drawE_nil ?_ | (refine codeW_drawE ?_ ?_; (focus kernel_rfl)) | (apply drawE_val; (focus rfl); (first | exact wantedV_none rfl | (focus (simp only [go_sem, agg3]; done))); (focus (intro s_ hs_; simp only [go_sem, agg3, hs_] <;> rfl))) | (apply drawE_call; (focus rfl); (first | exact wantedV_none rfl | (focus (simp only [go_sem, agg3]; done))); (focus (simp only [go_sem, agg3] <;> rfl))) | (apply drawE_skip; (focus (simp only [go_sem, agg3]; done)); (focus assumption)) | (apply opsW_val; (first | exact wantedV_none rfl | (focus (simp only [go_sem, agg3]; done))); (focus (simp only [go_sem, agg3] <;> rfl))) | (apply opsW_call; (first | exact wantedV_none rfl | (focus (simp only [go_sem, agg3]; done))); (focus (simp only [go_sem, agg3] <;> rfl))) | (apply opsW_skip; (focus (simp only [go_sem, agg3]; done))) | refine blockQ_eq ?_ | (refine blockQ_ne ?_ ?_; (focus decide)))
  exact end_ret rfl (by simp only [go_sem]) hQ

theorem isNaNs_ok (hH : Free H) (a : List Nat) (s : St) (Q : CV → St → Prop) (hQ : Q (.bool false) s) : callW Try.prog H 43 [.str a] s Q := by
  have h1 : natsEq a a = true := (natsEq_iff a a).2 rfl
  refine callW_enter (fn := Try.f43) (hH _ _ _ (by decide)) Try.func43 rfl ?_
  simp only [Try.ntmps43]
  repeat (first | refine codeW_seq ?_ | refine codeW_skip ?_ | refine codeW_label ?_ | refine codeW_exit ?_ | refine codeW_ret ?_ | refine codeW_block ?_ | refine codeW_region ?_ | refine opsW_nil ?_ | refine drawE_nil ?_ | (refine codeW_drawE ?_ ?_; (focus kernel_rfl)) | (apply drawE_val; (focus rfl); (first | exact wantedV_none rfl | (focus (simp only [go_sem, agg3, h1, Bool.not_true]; done))); (focus (intro s_ hs_; simp only [go_sem, agg3, h1, Bool.not_true, hs_] <;> rfl))) | (apply drawE_call; (focus rfl); (first | exact wantedV_none rfl | (focus (simp only [go_sem, agg3, h1, Bool.not_true]; done))); (focus (simp only [go_sem, agg3, h1, Bool.not_true] <;> rfl))) | (apply drawE_skip; (focus (simp only [go_sem, agg3, h1, Bool.not_true]; done)); (focus assumption)) | (apply opsW_val; (first | exact wantedV_none rfl | (focus (simp only [go_sem, agg3, h1, Bool.not_true]; done))); (focus (simp only [go_sem, agg3, h1, Bool.not_true] <;> rfl))) | (apply opsW_call; (first | exact wantedV_none rfl | (focus (simp only [go_sem, agg3, h1, Bool.not_true]; done))); (focus (simp only [go_sem, agg3, h1, Bool.not_true] <;> rfl))) | (apply opsW_skip; (focus (simp only [go_sem, agg3, h1, Bool.not_true]; done))) | refine blockQ_eq ?_ | (refine blockQ_ne ?_ ?_; (focus decide)))
  exact end_ret rfl (by simp only [go_sem]) hQ

theorem callF_of {f : Nat} {fn : Func} {c : Code} {args : List CV} {s : St} (hf : Try.prog.funcs[f]? = some fn) (hn : decide (fn.name = "runtime.NumGoroutine") = false) (hb : fn.body = some c) : callF Try.prog f args s = some (.enter f args s) := by
  simp only [callF, hf, hn, hb]

theorem callF_8 (args : List CV) (s : St) : callF Try.prog 8 args s = some (.enter 8 args s) := callF_of Try.func8 (by decide) rfl
theorem callF_9 (args : List CV) (s : St) : callF Try.prog 9 args s = some (.enter 9 args s) := callF_of Try.func9 (by decide) rfl
theorem callF_10 (args : List CV) (s : St) : callF Try.prog 10 args s = some (.enter 10 args s) := callF_of Try.func10 (by decide) rfl
theorem callF_11 (args : List CV) (s : St) : callF Try.prog 11 args s = some (.enter 11 args s) := callF_of Try.func11 (by decide) rfl
theorem callF_12 (args : List CV) (s : St) : callF Try.prog 12 args s = some (.enter 12 args s) := callF_of Try.func12 (by decide) rfl
theorem callF_13 (args : List CV) (s : St) : callF Try.prog 13 args s = some (.enter 13 args s) := callF_of Try.func13 (by decide) rfl
theorem callF_14 (args : List CV) (s : St) : callF Try.prog 14 args s = some (.enter 14 args s) := callF_of Try.func14 (by decide) rfl
theorem callF_15 (args : List CV) (s : St) : callF Try.prog 15 args s = some (.enter 15 args s) := callF_of Try.func15 (by decide) rfl
theorem callF_16 (args : List CV) (s : St) : callF Try.prog 16 args s = some (.enter 16 args s) := callF_of Try.func16 (by decide) rfl
theorem callF_17 (args : List CV) (s : St) : callF Try.prog 17 args s = some (.enter 17 args s) := callF_of Try.func17 (by decide) rfl
theorem callF_18 (args : List CV) (s : St) : callF Try.prog 18 args s = some (.enter 18 args s) := callF_of Try.func18 (by decide) rfl
theorem callF_19 (args : List CV) (s : St) : callF Try.prog 19 args s = some (.enter 19 args s) := callF_of Try.func19 (by decide) rfl
theorem callF_20 (args : List CV) (s : St) : callF Try.prog 20 args s = some (.enter 20 args s) := callF_of Try.func20 (by decide) rfl
theorem callF_21 (args : List CV) (s : St) : callF Try.prog 21 args s = some (.enter 21 args s) := callF_of Try.func21 (by decide) rfl
theorem callF_22 (args : List CV) (s : St) : callF Try.prog 22 args s = some (.enter 22 args s) := callF_of Try.func22 (by decide) rfl
theorem callF_23 (args : List CV) (s : St) : callF Try.prog 23 args s = some (.enter 23 args s) := callF_of Try.func23 (by decide) rfl
theorem callF_24 (args : List CV) (s : St) : callF Try.prog 24 args s = some (.enter 24 args s) := callF_of Try.func24 (by decide) rfl
theorem callF_25 (args : List CV) (s : St) : callF Try.prog 25 args s = some (.enter 25 args s) := callF_of Try.func25 (by decide) rfl
theorem callF_26 (args : List CV) (s : St) : callF Try.prog 26 args s = some (.enter 26 args s) := callF_of Try.func26 (by decide) rfl
theorem callF_27 (args : List CV) (s : St) : callF Try.prog 27 args s = some (.enter 27 args s) := callF_of Try.func27 (by decide) rfl
theorem callF_28 (args : List CV) (s : St) : callF Try.prog 28 args s = some (.enter 28 args s) := callF_of Try.func28 (by decide) rfl
theorem callF_29 (args : List CV) (s : St) : callF Try.prog 29 args s = some (.enter 29 args s) := callF_of Try.func29 (by decide) rfl
theorem callF_30 (args : List CV) (s : St) : callF Try.prog 30 args s = some (.enter 30 args s) := callF_of Try.func30 (by decide) rfl
theorem callF_31 (args : List CV) (s : St) : callF Try.prog 31 args s = some (.enter 31 args s) := callF_of Try.func31 (by decide) rfl
theorem callF_32 (args : List CV) (s : St) : callF Try.prog 32 args s = some (.enter 32 args s) := callF_of Try.func32 (by decide) rfl
theorem callF_33 (args : List CV) (s : St) : callF Try.prog 33 args s = some (.enter 33 args s) := callF_of Try.func33 (by decide) rfl
theorem callF_34 (args : List CV) (s : St) : callF Try.prog 34 args s = some (.enter 34 args s) := callF_of Try.func34 (by decide) rfl
theorem callF_35 (args : List CV) (s : St) : callF Try.prog 35 args s = some (.enter 35 args s) := callF_of Try.func35 (by decide) rfl
theorem callF_36 (args : List CV) (s : St) : callF Try.prog 36 args s = some (.enter 36 args s) := callF_of Try.func36 (by decide) rfl
theorem callF_37 (args : List CV) (s : St) : callF Try.prog 37 args s = some (.enter 37 args s) := callF_of Try.func37 (by decide) rfl
theorem callF_38 (args : List CV) (s : St) : callF Try.prog 38 args s = some (.enter 38 args s) := callF_of Try.func38 (by decide) rfl
theorem callF_39 (args : List CV) (s : St) : callF Try.prog 39 args s = some (.enter 39 args s) := callF_of Try.func39 (by decide) rfl
theorem callF_40 (args : List CV) (s : St) : callF Try.prog 40 args s = some (.enter 40 args s) := callF_of Try.func40 (by decide) rfl
theorem callF_41 (args : List CV) (s : St) : callF Try.prog 41 args s = some (.enter 41 args s) := callF_of Try.func41 (by decide) rfl
theorem callF_42 (args : List CV) (s : St) : callF Try.prog 42 args s = some (.enter 42 args s) := callF_of Try.func42 (by decide) rfl
theorem callF_43 (args : List CV) (s : St) : callF Try.prog 43 args s = some (.enter 43 args s) := callF_of Try.func43 (by decide) rfl
theorem callF_44 (args : List CV) (s : St) : callF Try.prog 44 args s = some (.enter 44 args s) := callF_of Try.func44 (by decide) rfl
theorem callF_45 (args : List CV) (s : St) : callF Try.prog 45 args s = some (.enter 45 args s) := callF_of Try.func45 (by decide) rfl
theorem callF_46 (args : List CV) (s : St) : callF Try.prog 46 args s = some (.enter 46 args s) := callF_of Try.func46 (by decide) rfl
theorem callF_47 (args : List CV) (s : St) : callF Try.prog 47 args s = some (.enter 47 args s) := callF_of Try.func47 (by decide) rfl

theorem compareI_ok (hH : Free H) (a b : Int) (s : St) (Q : CV → St → Prop) (hQ : Q (.int .i64 (cmpI a b)) s) : callW Try.prog H 34 [.int .i64 a, .int .i64 b] s Q := by
  refine callW_enter (fn := Try.f34) (hH _ _ _ (by decide)) Try.func34 rfl ?_
  simp only [Try.ntmps34]
  repeat (first | refine codeW_seq ?_ | refine codeW_skip ?_ | refine codeW_label ?_ | refine codeW_exit ?_ | refine codeW_ret ?_ | refine codeW_block ?_ | refine codeW_region ?_ | refine opsW_nil ?_ | refine drawE_nil ?_ | (refine codeW_drawE ?_ ?_; (focus kernel_rfl)) | (apply drawE_val; (focus rfl); (first | exact wantedV_none rfl | (focus (simp only [go_sem, agg3, callF_42]; done))); (focus (intro s_ hs_; simp only [go_sem, agg3, callF_42, hs_] <;> rfl))) | (apply drawE_call; (focus rfl); (first | exact wantedV_none rfl | (focus (simp only [go_sem, agg3, callF_42]; done))); (focus (simp only [go_sem, agg3, callF_42] <;> rfl))) | (apply drawE_skip; (focus (simp only [go_sem, agg3, callF_42]; done)); (focus assumption)) | (apply opsW_val; (first | exact wantedV_none rfl | (focus (simp only [go_sem, agg3, callF_42]; done))); (focus (simp only [go_sem, agg3, callF_42] <;> rfl))) | (apply opsW_call; (first | exact wantedV_none rfl | (focus (simp only [go_sem, agg3, callF_42]; done))); (focus (simp only [go_sem, agg3, callF_42] <;> rfl))) | (apply opsW_skip; (focus (simp only [go_sem, agg3, callF_42]; done))) | refine blockQ_eq ?_ | (refine blockQ_ne ?_ ?_; (focus decide)) | refine isNaN_ok hH _ _ _ ?_)
  refine codeW_if (b := _) (by simp only [go_sem, agg3]; rfl) ?_ ?_
  · intro h; cases h
  intro _
  repeat (first | refine codeW_seq ?_ | refine codeW_skip ?_ | refine codeW_label ?_ | refine codeW_exit ?_ | refine codeW_ret ?_ | refine codeW_block ?_ | refine codeW_region ?_ | refine opsW_nil ?_ | refine drawE_nil ?_ | (refine codeW_drawE ?_ ?_; (focus kernel_rfl)) | (apply drawE_val; (focus rfl); (first | exact wantedV_none rfl | (focus (simp only [go_sem, agg3]; done))); (focus (intro s_ hs_; simp only [go_sem, agg3, hs_] <;> rfl))) | (apply drawE_call; (focus rfl); (first | exact wantedV_none rfl | (focus (simp only [go_sem, agg3]; done))); (focus (simp only [go_sem, agg3] <;> rfl))) | (apply drawE_skip; (focus (simp only [go_sem, agg3]; done)); (focus assumption)) | (apply opsW_val; (first | exact wantedV_none rfl | (focus (simp only [go_sem, agg3]; done))); (focus (simp only [go_sem, agg3] <;> rfl))) | (apply opsW_call; (first | exact wantedV_none rfl | (focus (simp only [go_sem, agg3]; done))); (focus (simp only [go_sem, agg3] <;> rfl))) | (apply opsW_skip; (focus (simp only [go_sem, agg3]; done))) | refine blockQ_eq ?_ | (refine blockQ_ne ?_ ?_; (focus decide)))
  refine codeW_if (b := _) (by simp only [go_sem, agg3]; rfl) ?_ ?_
  · intro h; cases h
  intro _
  repeat (first | refine codeW_seq ?_ | refine codeW_skip ?_ | refine codeW_label ?_ | refine codeW_exit ?_ | refine codeW_ret ?_ | refine codeW_block ?_ | refine codeW_region ?_ | refine opsW_nil ?_ | refine drawE_nil ?_ | (refine codeW_drawE ?_ ?_; (focus kernel_rfl)) | (apply drawE_val; (focus rfl); (first | exact wantedV_none rfl | (focus (simp only [go_sem, agg3]; done))); (focus (intro s_ hs_; simp only [go_sem, agg3, hs_] <;> rfl))) | (apply drawE_call; (focus rfl); (first | exact wantedV_none rfl | (focus (simp only [go_sem, agg3]; done))); (focus (simp only [go_sem, agg3] <;> rfl))) | (apply drawE_skip; (focus (simp only [go_sem, agg3]; done)); (focus assumption)) | (apply opsW_val; (first | exact wantedV_none rfl | (focus (simp only [go_sem, agg3]; done))); (focus (simp only [go_sem, agg3] <;> rfl))) | (apply opsW_call; (first | exact wantedV_none rfl | (focus (simp only [go_sem, agg3]; done))); (focus (simp only [go_sem, agg3] <;> rfl))) | (apply opsW_skip; (focus (simp only [go_sem, agg3]; done))) | refine blockQ_eq ?_ | (refine blockQ_ne ?_ ?_; (focus decide)))
  refine codeW_if (b := _) (by simp only [go_sem, agg3]; rfl) ?_ ?_
  · intro h
    repeat (first | refine codeW_seq ?_ | refine codeW_skip ?_ | refine codeW_label ?_ | refine codeW_exit ?_ | refine codeW_ret ?_ | refine codeW_block ?_ | refine codeW_region ?_ | refine opsW_nil ?_ | refine drawE_nil ?_ | (refine codeW_drawE ?_ ?_; (focus kernel_rfl)) | (apply drawE_val; (focus rfl); (first | exact wantedV_none rfl | (focus (simp only [go_sem, agg3]; done))); (focus (intro s_ hs_; simp only [go_sem, agg3, hs_] <;> rfl))) | (apply drawE_call; (focus rfl); (first | exact wantedV_none rfl | (focus (simp only [go_sem, agg3]; done))); (focus (simp only [go_sem, agg3] <;> rfl))) | (apply drawE_skip; (focus (simp only [go_sem, agg3]; done)); (focus assumption)) | (apply opsW_val; (first | exact wantedV_none rfl | (focus (simp only [go_sem, agg3]; done))); (focus (simp only [go_sem, agg3] <;> rfl))) | (apply opsW_call; (first | exact wantedV_none rfl | (focus (simp only [go_sem, agg3]; done))); (focus (simp only [go_sem, agg3] <;> rfl))) | (apply opsW_skip; (focus (simp only [go_sem, agg3]; done))) | refine blockQ_eq ?_ | (refine blockQ_ne ?_ ?_; (focus decide)))
    refine end_ret rfl (by simp only [go_sem]; rfl) ?_
    simp only [decide_eq_true_eq] at h
    rw [cmpI, if_pos h] at hQ
    exact hQ
  intro h
  simp only [decide_eq_false_iff_not] at h
  repeat (first | refine codeW_seq ?_ | refine codeW_skip ?_ | refine codeW_label ?_ | refine codeW_exit ?_ | refine codeW_ret ?_ | refine codeW_block ?_ | refine codeW_region ?_ | refine opsW_nil ?_ | refine drawE_nil ?_ | (refine codeW_drawE ?_ ?_; (focus kernel_rfl)) | (apply drawE_val; (focus rfl); (first | exact wantedV_none rfl | (focus (simp only [go_sem, agg3]; done))); (focus (intro s_ hs_; simp only [go_sem, agg3, hs_] <;> rfl))) | (apply drawE_call; (focus rfl); (first | exact wantedV_none rfl | (focus (simp only [go_sem, agg3]; done))); (focus (simp only [go_sem, agg3] <;> rfl))) | (apply drawE_skip; (focus (simp only [go_sem, agg3]; done)); (focus assumption)) | (apply opsW_val; (first | exact wantedV_none rfl | (focus (simp only [go_sem, agg3]; done))); (focus (simp only [go_sem, agg3] <;> rfl))) | (apply opsW_call; (first | exact wantedV_none rfl | (focus (simp only [go_sem, agg3]; done))); (focus (simp only [go_sem, agg3] <;> rfl))) | (apply opsW_skip; (focus (simp only [go_sem, agg3]; done))) | refine blockQ_eq ?_ | (refine blockQ_ne ?_ ?_; (focus decide)))
  refine codeW_if (b := _) (by simp only [go_sem, agg3]; rfl) ?_ ?_
  · intro h2
    repeat (first | refine codeW_seq ?_ | refine codeW_skip ?_ | refine codeW_label ?_ | refine codeW_exit ?_ | refine codeW_ret ?_ | refine codeW_block ?_ | refine codeW_region ?_ | refine opsW_nil ?_ | refine drawE_nil ?_ | (refine codeW_drawE ?_ ?_; (focus kernel_rfl)) | (apply drawE_val; (focus rfl); (first | exact wantedV_none rfl | (focus (simp only [go_sem, agg3]; done))); (focus (intro s_ hs_; simp only [go_sem, agg3, hs_] <;> rfl))) | (apply drawE_call; (focus rfl); (first | exact wantedV_none rfl | (focus (simp only [go_sem, agg3]; done))); (focus (simp only [go_sem, agg3] <;> rfl))) | (apply drawE_skip; (focus (simp only [go_sem, agg3]; done)); (focus assumption)) | (apply opsW_val; (first | exact wantedV_none rfl | (focus (simp only [go_sem, agg3]; done))); (focus (simp only [go_sem, agg3] <;> rfl))) | (apply opsW_call; (first | exact wantedV_none rfl | (focus (simp only [go_sem, agg3]; done))); (focus (simp only [go_sem, agg3] <;> rfl))) | (apply opsW_skip; (focus (simp only [go_sem, agg3]; done))) | refine blockQ_eq ?_ | (refine blockQ_ne ?_ ?_; (focus decide)))
    refine end_ret rfl (by simp only [go_sem]; rfl) ?_
    simp only [decide_eq_true_eq] at h2
    rw [cmpI, if_neg h, if_pos h2] at hQ
    exact hQ
  intro h2
  simp only [decide_eq_false_iff_not] at h2
  repeat (first | refine codeW_seq ?_ | refine codeW_skip ?_ | refine codeW_label ?_ | refine codeW_exit ?_ | refine codeW_ret ?_ | refine codeW_block ?_ | refine codeW_region ?_ | refine opsW_nil ?_ | refine drawE_nil ?_ | (refine codeW_drawE ?_ ?_; (focus kernel_rfl)) | (apply drawE_val; (focus rfl); (first | exact wantedV_none rfl | (focus (simp only [go_sem, agg3]; done))); (focus (intro s_ hs_; simp only [go_sem, agg3, hs_] <;> rfl))) | (apply drawE_call; (focus rfl); (first | exact wantedV_none rfl | (focus (simp only [go_sem, agg3]; done))); (focus (simp only [go_sem, agg3] <;> rfl))) | (apply drawE_skip; (focus (simp only [go_sem, agg3]; done)); (focus assumption)) | (apply opsW_val; (first | exact wantedV_none rfl | (focus (simp only [go_sem, agg3]; done))); (focus (simp only [go_sem, agg3] <;> rfl))) | (apply opsW_call; (first | exact wantedV_none rfl | (focus (simp only [go_sem, agg3]; done))); (focus (simp only [go_sem, agg3] <;> rfl))) | (apply opsW_skip; (focus (simp only [go_sem, agg3]; done))) | refine blockQ_eq ?_ | (refine blockQ_ne ?_ ?_; (focus decide)))
  refine end_ret rfl (by simp only [go_sem]; rfl) ?_
  rw [cmpI, if_neg h, if_neg h2] at hQ
  exact hQ

theorem compareS_ok (hH : Free H) (a b : List Nat) (s : St) (Q : CV → St → Prop) (hQ : Q (.int .i64 (cmpS a b)) s) : callW Try.prog H 37 [.str a, .str b] s Q := by
  refine callW_enter (fn := Try.f37) (hH _ _ _ (by decide)) Try.func37 rfl ?_
  simp only [Try.ntmps37]
  repeat (first | refine codeW_seq ?_ | refine codeW_skip ?_ | refine codeW_label ?_ | refine codeW_exit ?_ | refine codeW_ret ?_ | refine codeW_block ?_ | refine codeW_region ?_ | refine opsW_nil ?_ | refine drawE_nil ?_ | (refine codeW_drawE ?_ ?_; (focus kernel_rfl)) | (apply drawE_val; (focus rfl); (first | exact wantedV_none rfl | (focus (simp only [go_sem, agg9, callF_43]; done))); (focus (intro s_ hs_; simp only [go_sem, agg9, callF_43, hs_] <;> rfl))) | (apply drawE_call; (focus rfl); (first | exact wantedV_none rfl | (focus (simp only [go_sem, agg9, callF_43]; done))); (focus (simp only [go_sem, agg9, callF_43] <;> rfl))) | (apply drawE_skip; (focus (simp only [go_sem, agg9, callF_43]; done)); (focus assumption)) | (apply opsW_val; (first | exact wantedV_none rfl | (focus (simp only [go_sem, agg9, callF_43]; done))); (focus (simp only [go_sem, agg9, callF_43] <;> rfl))) | (apply opsW_call; (first | exact wantedV_none rfl | (focus (simp only [go_sem, agg9, callF_43]; done))); (focus (simp only [go_sem, agg9, callF_43] <;> rfl))) | (apply opsW_skip; (focus (simp only [go_sem, agg9, callF_43]; done))) | refine blockQ_eq ?_ | (refine blockQ_ne ?_ ?_; (focus decide)) | refine isNaNs_ok hH _ _ _ ?_)
  refine codeW_if (b := _) (by simp only [go_sem, agg9]; rfl) ?_ ?_
  · intro h; cases h
  intro _
  repeat (first | refine codeW_seq ?_ | refine codeW_skip ?_ | refine codeW_label ?_ | refine codeW_exit ?_ | refine codeW_ret ?_ | refine codeW_block ?_ | refine codeW_region ?_ | refine opsW_nil ?_ | refine drawE_nil ?_ | (refine codeW_drawE ?_ ?_; (focus kernel_rfl)) | (apply drawE_val; (focus rfl); (first | exact wantedV_none rfl | (focus (simp only [go_sem, agg9]; done))); (focus (intro s_ hs_; simp only [go_sem, agg9, hs_] <;> rfl))) | (apply drawE_call; (focus rfl); (first | exact wantedV_none rfl | (focus (simp only [go_sem, agg9]; done))); (focus (simp only [go_sem, agg9] <;> rfl))) | (apply drawE_skip; (focus (simp only [go_sem, agg9]; done)); (focus assumption)) | (apply opsW_val; (first | exact wantedV_none rfl | (focus (simp only [go_sem, agg9]; done))); (focus (simp only [go_sem, agg9] <;> rfl))) | (apply opsW_call; (first | exact wantedV_none rfl | (focus (simp only [go_sem, agg9]; done))); (focus (simp only [go_sem, agg9] <;> rfl))) | (apply opsW_skip; (focus (simp only [go_sem, agg9]; done))) | refine blockQ_eq ?_ | (refine blockQ_ne ?_ ?_; (focus decide)))
  refine codeW_if (b := _) (by simp only [go_sem, agg9]; rfl) ?_ ?_
  · intro h; cases h
  intro _
  repeat (first | refine codeW_seq ?_ | refine codeW_skip ?_ | refine codeW_label ?_ | refine codeW_exit ?_ | refine codeW_ret ?_ | refine codeW_block ?_ | refine codeW_region ?_ | refine opsW_nil ?_ | refine drawE_nil ?_ | (refine codeW_drawE ?_ ?_; (focus kernel_rfl)) | (apply drawE_val; (focus rfl); (first | exact wantedV_none rfl | (focus (simp only [go_sem, agg9]; done))); (focus (intro s_ hs_; simp only [go_sem, agg9, hs_] <;> rfl))) | (apply drawE_call; (focus rfl); (first | exact wantedV_none rfl | (focus (simp only [go_sem, agg9]; done))); (focus (simp only [go_sem, agg9] <;> rfl))) | (apply drawE_skip; (focus (simp only [go_sem, agg9]; done)); (focus assumption)) | (apply opsW_val; (first | exact wantedV_none rfl | (focus (simp only [go_sem, agg9]; done))); (focus (simp only [go_sem, agg9] <;> rfl))) | (apply opsW_call; (first | exact wantedV_none rfl | (focus (simp only [go_sem, agg9]; done))); (focus (simp only [go_sem, agg9] <;> rfl))) | (apply opsW_skip; (focus (simp only [go_sem, agg9]; done))) | refine blockQ_eq ?_ | (refine blockQ_ne ?_ ?_; (focus decide)))
  refine codeW_if (b := _) (by simp only [go_sem, agg9]; rfl) ?_ ?_
  · intro h
    repeat (first | refine codeW_seq ?_ | refine codeW_skip ?_ | refine codeW_label ?_ | refine codeW_exit ?_ | refine codeW_ret ?_ | refine codeW_block ?_ | refine codeW_region ?_ | refine opsW_nil ?_ | refine drawE_nil ?_ | (refine codeW_drawE ?_ ?_; (focus kernel_rfl)) | (apply drawE_val; (focus rfl); (first | exact wantedV_none rfl | (focus (simp only [go_sem, agg9]; done))); (focus (intro s_ hs_; simp only [go_sem, agg9, hs_] <;> rfl))) | (apply drawE_call; (focus rfl); (first | exact wantedV_none rfl | (focus (simp only [go_sem, agg9]; done))); (focus (simp only [go_sem, agg9] <;> rfl))) | (apply drawE_skip; (focus (simp only [go_sem, agg9]; done)); (focus assumption)) | (apply opsW_val; (first | exact wantedV_none rfl | (focus (simp only [go_sem, agg9]; done))); (focus (simp only [go_sem, agg9] <;> rfl))) | (apply opsW_call; (first | exact wantedV_none rfl | (focus (simp only [go_sem, agg9]; done))); (focus (simp only [go_sem, agg9] <;> rfl))) | (apply opsW_skip; (focus (simp only [go_sem, agg9]; done))) | refine blockQ_eq ?_ | (refine blockQ_ne ?_ ?_; (focus decide)))
    refine end_ret rfl (by simp only [go_sem] <;> rfl) ?_
    rw [cmpS, if_pos h] at hQ
    exact hQ
  intro h
  have h' : ¬ natsLess a b = true := by rw [h]; decide
  repeat (first | refine codeW_seq ?_ | refine codeW_skip ?_ | refine codeW_label ?_ | refine codeW_exit ?_ | refine codeW_ret ?_ | refine codeW_block ?_ | refine codeW_region ?_ | refine opsW_nil ?_ | refine drawE_nil ?_ | (refine codeW_drawE ?_ ?_; (focus kernel_rfl)) | (apply drawE_val; (focus rfl); (first | exact wantedV_none rfl | (focus (simp only [go_sem, agg9]; done))); (focus (intro s_ hs_; simp only [go_sem, agg9, hs_] <;> rfl))) | (apply drawE_call; (focus rfl); (first | exact wantedV_none rfl | (focus (simp only [go_sem, agg9]; done))); (focus (simp only [go_sem, agg9] <;> rfl))) | (apply drawE_skip; (focus (simp only [go_sem, agg9]; done)); (focus assumption)) | (apply opsW_val; (first | exact wantedV_none rfl | (focus (simp only [go_sem, agg9]; done))); (focus (simp only [go_sem, agg9] <;> rfl))) | (apply opsW_call; (first | exact wantedV_none rfl | (focus (simp only [go_sem, agg9]; done))); (focus (simp only [go_sem, agg9] <;> rfl))) | (apply opsW_skip; (focus (simp only [go_sem, agg9]; done))) | refine blockQ_eq ?_ | (refine blockQ_ne ?_ ?_; (focus decide)))
  refine codeW_if (b := _) (by simp only [go_sem, agg9]; rfl) ?_ ?_
  · intro h2
    repeat (first | refine codeW_seq ?_ | refine codeW_skip ?_ | refine codeW_label ?_ | refine codeW_exit ?_ | refine codeW_ret ?_ | refine codeW_block ?_ | refine codeW_region ?_ | refine opsW_nil ?_ | refine drawE_nil ?_ | (refine codeW_drawE ?_ ?_; (focus kernel_rfl)) | (apply drawE_val; (focus rfl); (first | exact wantedV_none rfl | (focus (simp only [go_sem, agg9]; done))); (focus (intro s_ hs_; simp only [go_sem, agg9, hs_] <;> rfl))) | (apply drawE_call; (focus rfl); (first | exact wantedV_none rfl | (focus (simp only [go_sem, agg9]; done))); (focus (simp only [go_sem, agg9] <;> rfl))) | (apply drawE_skip; (focus (simp only [go_sem, agg9]; done)); (focus assumption)) | (apply opsW_val; (first | exact wantedV_none rfl | (focus (simp only [go_sem, agg9]; done))); (focus (simp only [go_sem, agg9] <;> rfl))) | (apply opsW_call; (first | exact wantedV_none rfl | (focus (simp only [go_sem, agg9]; done))); (focus (simp only [go_sem, agg9] <;> rfl))) | (apply opsW_skip; (focus (simp only [go_sem, agg9]; done))) | refine blockQ_eq ?_ | (refine blockQ_ne ?_ ?_; (focus decide)))
    refine end_ret rfl (by simp only [go_sem] <;> rfl) ?_
    rw [cmpS, if_neg h', if_neg (by intro hx; rw [hx] at h2; cases h2)] at hQ
    exact hQ
  intro h2
  repeat (first | refine codeW_seq ?_ | refine codeW_skip ?_ | refine codeW_label ?_ | refine codeW_exit ?_ | refine codeW_ret ?_ | refine codeW_block ?_ | refine codeW_region ?_ | refine opsW_nil ?_ | refine drawE_nil ?_ | (refine codeW_drawE ?_ ?_; (focus kernel_rfl)) | (apply drawE_val; (focus rfl); (first | exact wantedV_none rfl | (focus (simp only [go_sem, agg9]; done))); (focus (intro s_ hs_; simp only [go_sem, agg9, hs_] <;> rfl))) | (apply drawE_call; (focus rfl); (first | exact wantedV_none rfl | (focus (simp only [go_sem, agg9]; done))); (focus (simp only [go_sem, agg9] <;> rfl))) | (apply drawE_skip; (focus (simp only [go_sem, agg9]; done)); (focus assumption)) | (apply opsW_val; (first | exact wantedV_none rfl | (focus (simp only [go_sem, agg9]; done))); (focus (simp only [go_sem, agg9] <;> rfl))) | (apply opsW_call; (first | exact wantedV_none rfl | (focus (simp only [go_sem, agg9]; done))); (focus (simp only [go_sem, agg9] <;> rfl))) | (apply opsW_skip; (focus (simp only [go_sem, agg9]; done))) | refine blockQ_eq ?_ | (refine blockQ_ne ?_ ?_; (focus decide)))
  refine end_ret rfl (by simp only [go_sem] <;> rfl) ?_
  rw [cmpS, if_neg h', if_pos (by cases hx : (natsLess a b || natsEq a b) with | true => rfl | false => rw [hx] at h2; cases h2)] at hQ
  exact hQ
end Go.Proofs.Ytbkniippobnbpaa
