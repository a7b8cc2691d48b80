/-
  Swapping ranges of keys; rotating.
-/
import Derived.Test.YtbkniippobnbpaaOrdW18
namespace Go.Proofs.Ytbkniippobnbpaa
open Go.Ae
set_option linter.unusedSimpArgs false
set_option maxHeartbeats 4000000

attribute [local go_sem] opV_move opV_assign opV_pick opV_alloc opV_box opV_build opV_buildSlice opV_load opV_store opV_nilCheck opV_unOp opV_binOp opV_makeInterface opV_makeFunc opV_makeSlice opV_slice opV_fieldAddr opV_field opV_indexAddr opV_index opV_extract opV_call oCall_value oCall_builtin oCallV_func bin_add bin_sub bin_mul bin_lss bin_leq bin_gtr bin_geq bin_eql bin_neq bins_lss bins_leq bins_gtr bins_geq bins_eql bins_neq binb_eql ret1_some ret2_some retU_some oBin_some oUn_some oPick_some oLoad_some oStore_some oBox_some oIndexAddr_some oIndex_some oExtract_some un_not un_neg cond_true cond_false beq_ft beq_tf Bool.not_true Bool.not_false wantedV opd_tmp opd_c opd ofV Fr.get_put_ne Fr.get_put_eq Fr.get_put_none Fr.put_n ne_eq not_false_eq_true Fr.only_get fr_get fr_n argsT T.get_set T.get_nil oField oFunc oNil oAlloc oBuild oBuildSlice mapO pairs okI_eq fnat_eq fint_eq List.getElem?_toArray List.getElem?_cons_zero List.getElem?_cons_succ Option.bind_some List.map List.length_cons List.length_nil Nat.reduceEqDiff Nat.reduceLT Nat.reduceAdd Nat.reduceMul Nat.zero_add Nat.add_zero Nat.max_def Nat.reduceLeDiff Nat.reduceLT and_true and_false true_and false_and if_true if_false ite_true ite_false Option.some.injEq reduceCtorEq decide_true decide_false bne_self_eq_false beq_self_eq_true seqQ List.append_nil List.nil_append List.cons_append newVar_eq cellsOf St.box_nx Option.map_some

theorem swap_far (A B C : List K) (x y : K) {i j : Nat} (hi : i = A.length) (hj : j = A.length + 1 + B.length) : ((A ++ x :: (B ++ y :: C)).set i y).set j x = A ++ y :: (B ++ x :: C) := by
  subst hi hj
  rw [List.set_append_right _ _ (by omega), Nat.sub_self, List.set_cons_zero, List.set_append_right _ _ (by omega), show A.length + 1 + B.length - A.length = B.length + 1 by omega, List.set_cons_succ, List.set_append_right _ _ (by omega), Nat.sub_self]
  rfl

theorem at_one (A C : List K) (x : K) {i : Nat} (hi : i = A.length) : (A ++ x :: C)[i]? = some x := by
  subst hi; rw [List.getElem?_append_right (by omega), Nat.sub_self]; rfl
theorem at_two (A B C : List K) (x y : K) {j : Nat} (hj : j = A.length + 1 + B.length) : (A ++ x :: (B ++ y :: C))[j]? = some y := by
  subst hj; rw [List.getElem?_append_right (by omega), show A.length + 1 + B.length - A.length = B.length + 1 by omega, List.getElem?_cons_succ, List.getElem?_append_right (by omega), Nat.sub_self]; rfl

theorem wrap_add {a b : Nat} (h : a + b < 9223372036854775808) : IntKind.i64.wrap ((a : Int) + (b : Nat)) = ((a + b : Nat) : Int) := by
  rw [wrap_id (by omega) (by omega)]; omega
theorem wrap_sub {a b : Nat} (h : b ≤ a) (h' : a < 9223372036854775808) : IntKind.i64.wrap ((a : Int) - (b : Nat)) = ((a - b : Nat) : Int) := by
  rw [wrap_id (by omega) (by omega)]; omega

theorem swapRange_ok {s₀ : St} (f : CV) (P X M Y S : List K) (a e c n b : Nat) (ha : a = P.length) (he : e = P.length + X.length + M.length) (hc : c = X.length) (hc' : c = Y.length) (hn : n = (P ++ (X ++ (M ++ (Y ++ S)))).length) (hn' : n ≤ 1000)
    (s : St) (hA : KArr s₀ s b (P ++ (X ++ (M ++ (Y ++ S))))) (Q : CV → St → Prop) (hQ : ∀ s', KArr s₀ s' b (P ++ (Y ++ (M ++ (X ++ S)))) → Q (.tuple []) s') :
    callW Try.prog Hk 47 [.slice b 0 n n, .int .i64 a, .int .i64 e, .int .i64 c, f] s Q := by
  refine callW_enter (fn := Try.f47) (freeHk _ _ _ (by decide)) Try.func47 rfl ?_
  simp only [Try.ntmps47]
  have hlen : n = P.length + (X.length + (M.length + (Y.length + S.length))) := by rw [hn]; simp
  repeat (first | refine codeW_seq ?_ | refine codeW_skip ?_ | refine codeW_label ?_ | refine codeW_exit ?_ | refine codeW_ret ?_ | refine codeW_block ?_ | refine codeW_region ?_ | refine opsW_nil ?_ | refine drawE_nil ?_ | (refine codeW_drawS ?_ ?_; (focus kernel_rfl)) | (refine codeW_drawE ?_ ?_; (focus kernel_rfl)) | (apply drawE_val; (focus rfl); (first | exact wantedV_none rfl | (focus (simp only [go_sem, if_true]; done))); (focus (intro s_ hs_; simp only [go_sem, if_true, hs_] <;> rfl))) | (apply drawE_call; (focus rfl); (first | exact wantedV_none rfl | (focus (simp only [go_sem, if_true]; done))); (focus (simp only [go_sem, if_true] <;> rfl))) | (apply drawE_skip; (focus (simp only [go_sem, if_true]; done)); (focus (first | assumption | exact St.le_refl _))) | (apply opsW_val; (first | exact wantedV_none rfl | (focus (simp only [go_sem, if_true]; done))); (focus (simp only [go_sem, if_true] <;> rfl))) | (apply opsW_call; (first | exact wantedV_none rfl | (focus (simp only [go_sem, if_true]; done))); (focus (simp only [go_sem, if_true] <;> rfl))) | (apply opsW_skip; (focus (simp only [go_sem, if_true]; done))) | refine blockQ_eq ?_ | (refine blockQ_ne ?_ ?_; (focus decide)))
  refine codeW_inv (fun m τ s' => ∃ (i : Nat) (X1 X2 Y1 Y2 : List K), X = X1 ++ X2 ∧ Y = Y1 ++ Y2 ∧ X1.length = i ∧ Y1.length = i ∧ KArr s₀ s' b (P ++ (Y1 ++ (X2 ++ (M ++ (X1 ++ (Y2 ++ S)))))) ∧ m = X2.length ∧
    τ.n = 38 ∧ τ.get 0 = some (.slice b 0 n n) ∧ τ.get 1 = some (.int .i64 a) ∧ τ.get 2 = some (.int .i64 e) ∧ τ.get 3 = some (.int .i64 c) ∧ τ.get 10 = some (.int .i64 i)) ?_ X.length _ _
    ⟨0, [], X, [], Y, rfl, rfl, rfl, rfl, hA, rfl, by simp only [go_sem] <;> rfl, by simp only [go_sem] <;> rfl, by simp only [go_sem] <;> rfl, by simp only [go_sem] <;> rfl, by simp only [go_sem] <;> rfl, by simp only [go_sem] <;> rfl⟩
  rintro m τ s' ⟨i, X1, X2, Y1, Y2, rfl, rfl, hX, hY, hK, rfl, t0, ta, tb, tc, td, t10⟩
  rw [List.length_append] at hc hc' he hlen
  cases X2 with
  | nil =>
    have hY2 : Y2 = [] := List.eq_nil_of_length_eq_zero (by simp at hc; rw [List.length_append] at hlen; omega)
    subst hY2
    have d1 : decide ((i : Int) < (c : Nat)) = false := decide_eq_false (by simp at hc; omega)
    repeat (first | refine codeW_seq ?_ | refine codeW_skip ?_ | refine codeW_label ?_ | refine codeW_exit ?_ | refine codeW_ret ?_ | refine codeW_block ?_ | refine codeW_region ?_ | refine opsW_nil ?_ | refine drawE_nil ?_ | (refine codeW_drawS ?_ ?_; (focus kernel_rfl)) | (refine codeW_drawE ?_ ?_; (focus kernel_rfl)) | (apply drawE_val; (focus rfl); (first | exact wantedV_none rfl | (focus (simp only [go_sem, t0, ta, tb, tc, td, t10, d1]; done))); (focus (intro s_ hs_; simp only [go_sem, t0, ta, tb, tc, td, t10, d1, hs_] <;> rfl))) | (apply drawE_call; (focus rfl); (first | exact wantedV_none rfl | (focus (simp only [go_sem, t0, ta, tb, tc, td, t10, d1]; done))); (focus (simp only [go_sem, t0, ta, tb, tc, td, t10, d1] <;> rfl))) | (apply drawE_skip; (focus (simp only [go_sem, t0, ta, tb, tc, td, t10, d1]; done)); (focus (first | assumption | exact St.le_refl _))) | (apply opsW_val; (first | exact wantedV_none rfl | (focus (simp only [go_sem, t0, ta, tb, tc, td, t10, d1]; done))); (focus (simp only [go_sem, t0, ta, tb, tc, td, t10, d1] <;> rfl))) | (apply opsW_call; (first | exact wantedV_none rfl | (focus (simp only [go_sem, t0, ta, tb, tc, td, t10, d1]; done))); (focus (simp only [go_sem, t0, ta, tb, tc, td, t10, d1] <;> rfl))) | (apply opsW_skip; (focus (simp only [go_sem, t0, ta, tb, tc, td, t10, d1]; done))) | refine blockQ_eq ?_ | (refine blockQ_ne ?_ ?_; (focus decide)))
    refine codeW_if (b := _) (by simp only [go_sem, t0]; rfl) ?_ ?_
    · intro h; cases h
    intro _
    repeat (first | refine codeW_seq ?_ | refine codeW_skip ?_ | refine codeW_label ?_ | refine codeW_exit ?_ | refine codeW_ret ?_ | refine codeW_block ?_ | refine codeW_region ?_ | refine opsW_nil ?_ | refine drawE_nil ?_ | (refine codeW_drawS ?_ ?_; (focus kernel_rfl)) | (refine codeW_drawE ?_ ?_; (focus kernel_rfl)) | (apply drawE_val; (focus rfl); (first | exact wantedV_none rfl | (focus (simp only [go_sem, t0]; done))); (focus (intro s_ hs_; simp only [go_sem, t0, hs_] <;> rfl))) | (apply drawE_call; (focus rfl); (first | exact wantedV_none rfl | (focus (simp only [go_sem, t0]; done))); (focus (simp only [go_sem, t0] <;> rfl))) | (apply drawE_skip; (focus (simp only [go_sem, t0]; done)); (focus (first | assumption | exact St.le_refl _))) | (apply opsW_val; (first | exact wantedV_none rfl | (focus (simp only [go_sem, t0]; done))); (focus (simp only [go_sem, t0] <;> rfl))) | (apply opsW_call; (first | exact wantedV_none rfl | (focus (simp only [go_sem, t0]; done))); (focus (simp only [go_sem, t0] <;> rfl))) | (apply opsW_skip; (focus (simp only [go_sem, t0]; done))) | refine blockQ_eq ?_ | (refine blockQ_ne ?_ ?_; (focus decide)))
    have hK' : KArr s₀ s' b (P ++ ((Y1 ++ []) ++ (M ++ ((X1 ++ []) ++ S)))) := by simpa using hK
    first
      | exact end_tup (ex := .ret) (fun j h => by cases h) rfl (hQ s' hK')
      | exact end_tup (ex := .norm) (fun j h => by cases h) rfl (hQ s' hK')
  | cons x X2 =>
    cases Y2 with
    | nil => rw [List.length_append] at hlen; simp at hc hc'; omega
    | cons y Y2 =>
      rw [List.length_append] at hlen
      simp only [List.length_cons] at hc hc' hlen he
      have d1 : decide ((i : Int) < (c : Nat)) = true := decide_eq_true (by omega)
      have hK' : KArr s₀ s' b ((P ++ Y1) ++ x :: ((X2 ++ (M ++ X1)) ++ y :: (Y2 ++ S))) := by simpa using hK
      have hx := at_one (P ++ Y1) ((X2 ++ (M ++ X1)) ++ y :: (Y2 ++ S)) x (i := a + i) (by simp; omega)
      have hy := at_two (P ++ Y1) (X2 ++ (M ++ X1)) (Y2 ++ S) x y (j := e + i) (by simp; omega)
      have w1 := wrap_add (a := a) (b := i) (by omega)
      have w2 := wrap_add (a := e) (b := i) (by omega)
      have w3 := wrap_nat (show i + 1 < 9223372036854775808 by omega)
      have ix := at22 b n (i := a + i) (by omega)
      have iy := at22 b n (i := e + i) (by omega)
      have lx := hK'.load hx
      have ly := hK'.load hy
      obtain ⟨s4, s5, e4, e5, hK5⟩ := hK'.swap hx hy
      rw [swap_far _ _ _ x y (show a + i = (P ++ Y1).length by simp; omega) (show e + i = (P ++ Y1).length + 1 + (X2 ++ (M ++ X1)).length by simp; omega)] at hK5
      repeat (first | refine codeW_seq ?_ | refine codeW_skip ?_ | refine codeW_label ?_ | refine codeW_exit ?_ | refine codeW_ret ?_ | refine codeW_block ?_ | refine codeW_region ?_ | refine opsW_nil ?_ | refine drawE_nil ?_ | (refine codeW_drawS ?_ ?_; (focus kernel_rfl)) | (refine codeW_drawE ?_ ?_; (focus kernel_rfl)) | (apply drawE_val; (focus rfl); (first | exact wantedV_none rfl | (focus (simp only [go_sem, t0, ta, tb, tc, td, t10, d1]; done))); (focus (intro s_ hs_; simp only [go_sem, t0, ta, tb, tc, td, t10, d1, hs_] <;> rfl))) | (apply drawE_call; (focus rfl); (first | exact wantedV_none rfl | (focus (simp only [go_sem, t0, ta, tb, tc, td, t10, d1]; done))); (focus (simp only [go_sem, t0, ta, tb, tc, td, t10, d1] <;> rfl))) | (apply drawE_skip; (focus (simp only [go_sem, t0, ta, tb, tc, td, t10, d1]; done)); (focus (first | assumption | exact St.le_refl _))) | (apply opsW_val; (first | exact wantedV_none rfl | (focus (simp only [go_sem, t0, ta, tb, tc, td, t10, d1]; done))); (focus (simp only [go_sem, t0, ta, tb, tc, td, t10, d1] <;> rfl))) | (apply opsW_call; (first | exact wantedV_none rfl | (focus (simp only [go_sem, t0, ta, tb, tc, td, t10, d1]; done))); (focus (simp only [go_sem, t0, ta, tb, tc, td, t10, d1] <;> rfl))) | (apply opsW_skip; (focus (simp only [go_sem, t0, ta, tb, tc, td, t10, d1]; done))) | refine blockQ_eq ?_ | (refine blockQ_ne ?_ ?_; (focus decide)))
      refine codeW_if (b := _) (by simp only [go_sem, t0]; rfl) ?_ ?_
      rotate_left
      · intro h; cases h
      intro _
      repeat (first | refine codeW_seq ?_ | refine codeW_skip ?_ | refine codeW_label ?_ | refine codeW_exit ?_ | refine codeW_ret ?_ | refine codeW_block ?_ | refine codeW_region ?_ | refine opsW_nil ?_ | refine drawE_nil ?_ | (refine codeW_drawS ?_ ?_; (focus kernel_rfl)) | (refine codeW_drawE ?_ ?_; (focus kernel_rfl)) | (apply drawE_val; (focus rfl); (first | exact wantedV_none rfl | (focus (simp only [go_sem, t0, ta, tb, tc, td, t10, w1, w2, ix, iy, lx, ly, e4, e5]; done))); (focus (intro s_ hs_; simp only [go_sem, t0, ta, tb, tc, td, t10, w1, w2, ix, iy, lx, ly, e4, e5, hs_] <;> rfl))) | (apply drawE_call; (focus rfl); (first | exact wantedV_none rfl | (focus (simp only [go_sem, t0, ta, tb, tc, td, t10, w1, w2, ix, iy, lx, ly, e4, e5]; done))); (focus (simp only [go_sem, t0, ta, tb, tc, td, t10, w1, w2, ix, iy, lx, ly, e4, e5] <;> rfl))) | (apply drawE_skip; (focus (simp only [go_sem, t0, ta, tb, tc, td, t10, w1, w2, ix, iy, lx, ly, e4, e5]; done)); (focus (first | assumption | exact St.le_refl _))) | (apply opsW_val; (first | exact wantedV_none rfl | (focus (simp only [go_sem, t0, ta, tb, tc, td, t10, w1, w2, ix, iy, lx, ly, e4, e5]; done))); (focus (simp only [go_sem, t0, ta, tb, tc, td, t10, w1, w2, ix, iy, lx, ly, e4, e5] <;> rfl))) | (apply opsW_call; (first | exact wantedV_none rfl | (focus (simp only [go_sem, t0, ta, tb, tc, td, t10, w1, w2, ix, iy, lx, ly, e4, e5]; done))); (focus (simp only [go_sem, t0, ta, tb, tc, td, t10, w1, w2, ix, iy, lx, ly, e4, e5] <;> rfl))) | (apply opsW_skip; (focus (simp only [go_sem, t0, ta, tb, tc, td, t10, w1, w2, ix, iy, lx, ly, e4, e5]; done))) | refine blockQ_eq ?_ | (refine blockQ_ne ?_ ?_; (focus decide)))
      refine ⟨X2.length, by simp, i + 1, X1 ++ [x], X2, Y1 ++ [y], Y2, by simp, by simp, by simp; omega, by simp; omega, by simpa using hK5, rfl, by simp only [go_sem, t0], by simp only [go_sem, t0, ta], by simp only [go_sem, t0, tb], by simp only [go_sem, t0, tc], by simp only [go_sem, t0, td], by simp only [go_sem, t0, t10, w3]⟩
end Go.Proofs.Ytbkniippobnbpaa
