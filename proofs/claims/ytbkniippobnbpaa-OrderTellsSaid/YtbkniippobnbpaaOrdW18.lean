/-
  Insertion sort.
-/
import Derived.Test.YtbkniippobnbpaaOrdW17
import Derived.Test.YtbkniippobnbpaaOrdL2
namespace Go.Proofs.Ytbkniippobnbpaa
open Go.Ae
set_option linter.unusedSimpArgs false
set_option maxHeartbeats 4000000

attribute [local go_sem] opV_move opV_assign opV_pick opV_alloc opV_box opV_build opV_buildSlice opV_load opV_store opV_nilCheck opV_unOp opV_binOp opV_makeInterface opV_makeFunc opV_makeSlice opV_slice opV_fieldAddr opV_field opV_indexAddr opV_index opV_extract opV_call oCall_value oCall_builtin oCallV_func bin_add bin_sub bin_mul bin_lss bin_leq bin_gtr bin_geq bin_eql bin_neq bins_lss bins_leq bins_gtr bins_geq bins_eql bins_neq binb_eql ret1_some ret2_some retU_some oBin_some oUn_some oPick_some oLoad_some oStore_some oBox_some oIndexAddr_some oIndex_some oExtract_some un_not un_neg cond_true cond_false beq_ft beq_tf Bool.not_true Bool.not_false wantedV opd_tmp opd_c opd ofV Fr.get_put_ne Fr.get_put_eq Fr.get_put_none Fr.put_n ne_eq not_false_eq_true Fr.only_get fr_get fr_n argsT T.get_set T.get_nil oField oFunc oNil oAlloc oBuild oBuildSlice mapO pairs okI_eq fnat_eq fint_eq List.getElem?_toArray List.getElem?_cons_zero List.getElem?_cons_succ Option.bind_some List.map List.length_cons List.length_nil Nat.reduceEqDiff Nat.reduceLT Nat.reduceAdd Nat.reduceMul Nat.zero_add Nat.add_zero Nat.max_def Nat.reduceLeDiff Nat.reduceLT and_true and_false true_and false_and if_true if_false ite_true ite_false Option.some.injEq reduceCtorEq decide_true decide_false bne_self_eq_false beq_self_eq_true seqQ List.append_nil List.nil_append List.cons_append newVar_eq cellsOf St.box_nx Option.map_some

theorem swap_adj (P U : List K) (u x : K) (R : List K) {j : Nat} (hj : j = P.length + U.length + 1) : ((P ++ (U ++ u :: x :: R)).set j u).set (j - 1) x = P ++ (U ++ x :: u :: R) := by
  subst hj
  rw [List.set_append_right _ _ (by omega), List.set_append_right _ _ (by omega), List.set_append_right _ _ (by omega), List.set_append_right _ _ (by omega)]
  rw [show P.length + U.length + 1 - P.length - U.length = 1 by omega, show P.length + U.length + 1 - 1 - P.length - U.length = 0 by omega]
  rfl

theorem at_mid (P U : List K) (x : K) (R : List K) {j : Nat} (hj : j = P.length + U.length) : (P ++ (U ++ x :: R))[j]? = some x := by
  subst hj
  rw [List.getElem?_append_right (by omega), List.getElem?_append_right (by omega), show P.length + U.length - P.length - U.length = 0 by omega]
  rfl

theorem nil_or_snoc {α : Type} (U : List α) : U = [] ∨ ∃ U' u, U = U' ++ [u] := by
  rcases List.eq_nil_or_concat U with h | ⟨a, b, h⟩
  · exact .inl h
  · exact .inr ⟨a, b, by rw [h, List.concat_eq_append]⟩

theorem end_tup {fn : Func} {Q : CV → St → Prop} {τ : Fr} {s : St} {ex : Ex} (hx : ∀ j, ex ≠ .exit j) (h : fn.results = #[]) (hQ : Q (.tuple []) s) : bodyQ Try.prog fn Q ex τ s := by
  cases ex with
  | exit j => exact absurd rfl (hx j)
  | norm => exact ⟨.tuple [], by simp only [Ae.results, h, mapO], hQ⟩
  | ret => exact ⟨.tuple [], by simp only [Ae.results, h, mapO], hQ⟩

theorem insertion_ok {s₀ : St} {f : CV} {l : List Int} (hf : CmpF s₀ f l) (P M S : List K) (a e n b : Nat) (ha : a = P.length) (he : e = P.length + M.length) (hn : n = (P ++ (M ++ S)).length) (hn' : n ≤ 1000) (s : St) (hA : KArr s₀ s b (P ++ (M ++ S))) (Q : CV → St → Prop)
    (hQ : ∀ s' M', KArr s₀ s' b (P ++ (M' ++ S)) → M'.Perm M → Srt l M' → Q (.tuple []) s') :
    callW Try.prog Hk 44 [.slice b 0 n n, .int .i64 a, .int .i64 e, f] s Q := by
  refine callW_enter (fn := Try.f44) (freeHk _ _ _ (by decide)) Try.func44 rfl ?_
  simp only [Try.ntmps44]
  have hlen : n = P.length + (M.length + S.length) := by rw [hn]; simp
  have hw0 := wrap_nat (show a + 1 < 9223372036854775808 by omega)
  repeat (first | refine codeW_seq ?_ | refine codeW_skip ?_ | refine codeW_label ?_ | refine codeW_exit ?_ | refine codeW_ret ?_ | refine codeW_block ?_ | refine codeW_region ?_ | refine opsW_nil ?_ | refine drawE_nil ?_ | (refine codeW_drawS ?_ ?_; (focus kernel_rfl)) | (refine codeW_drawE ?_ ?_; (focus kernel_rfl)) | (apply drawE_val; (focus rfl); (first | exact wantedV_none rfl | (focus (simp only [go_sem, hw0]; done))); (focus (intro s_ hs_; simp only [go_sem, hw0, hs_] <;> rfl))) | (apply drawE_call; (focus rfl); (first | exact wantedV_none rfl | (focus (simp only [go_sem, hw0]; done))); (focus (simp only [go_sem, hw0] <;> rfl))) | (apply drawE_skip; (focus (simp only [go_sem, hw0]; done)); (focus (first | assumption | exact St.le_refl _))) | (apply opsW_val; (first | exact wantedV_none rfl | (focus (simp only [go_sem, hw0]; done))); (focus (simp only [go_sem, hw0] <;> rfl))) | (apply opsW_call; (first | exact wantedV_none rfl | (focus (simp only [go_sem, hw0]; done))); (focus (simp only [go_sem, hw0] <;> rfl))) | (apply opsW_skip; (focus (simp only [go_sem, hw0]; done))) | refine blockQ_eq ?_ | (refine blockQ_ne ?_ ?_; (focus decide)))
  refine codeW_inv (fun m τ s' => ∃ (i : Nat) (M1 M2 Mo : List K), M = Mo ++ M2 ∧ M1.Perm Mo ∧ Srt l M1 ∧ KArr s₀ s' b (P ++ (M1 ++ (M2 ++ S))) ∧ i = a + M1.length + (if M1 = [] then 1 else 0) ∧ (M1 = [] → M = []) ∧ m = M2.length ∧
    τ.n = 53 ∧ τ.get 0 = some (.slice b 0 n n) ∧ τ.get 1 = some (.int .i64 a) ∧ τ.get 2 = some (.int .i64 e) ∧ τ.get 3 = some f ∧ τ.get 8 = some (.int .i64 i)) ?_ (M.length - 1) _ _ ?_
  rotate_left
  · cases M with
    | nil => exact ⟨a + 1, [], [], [], rfl, .refl _, .nil, hA, by simp, fun _ => rfl, rfl, by simp only [go_sem] <;> rfl, by simp only [go_sem] <;> rfl, by simp only [go_sem] <;> rfl, by simp only [go_sem] <;> rfl, by simp only [go_sem] <;> rfl, by simp only [go_sem] <;> rfl⟩
    | cons x M => exact ⟨a + 1, [x], M, [x], rfl, .refl _, List.pairwise_singleton _ _, hA, by simp, fun h => by simp at h, by simp, by simp only [go_sem] <;> rfl, by simp only [go_sem] <;> rfl, by simp only [go_sem] <;> rfl, by simp only [go_sem] <;> rfl, by simp only [go_sem] <;> rfl, by simp only [go_sem] <;> rfl⟩
  rintro m τ s' ⟨i, M1, M2, Mo, rfl, hp, hs, hK, hi, hne, rfl, t0, ta, tb, tc, td, t8⟩
  have hMl : M1.length = Mo.length := hp.length_eq
  cases M2 with
  | nil =>
    have d1 : decide ((i : Int) < (e : Nat)) = false := decide_eq_false (by simp at he; omega)
    repeat (first | refine codeW_seq ?_ | refine codeW_skip ?_ | refine codeW_label ?_ | refine codeW_exit ?_ | refine codeW_ret ?_ | refine codeW_block ?_ | refine codeW_region ?_ | refine opsW_nil ?_ | refine drawE_nil ?_ | (refine codeW_drawS ?_ ?_; (focus kernel_rfl)) | (refine codeW_drawE ?_ ?_; (focus kernel_rfl)) | (apply drawE_val; (focus rfl); (first | exact wantedV_none rfl | (focus (simp only [go_sem, t0, ta, tb, tc, td, t8, d1]; done))); (focus (intro s_ hs_; simp only [go_sem, t0, ta, tb, tc, td, t8, d1, hs_] <;> rfl))) | (apply drawE_call; (focus rfl); (first | exact wantedV_none rfl | (focus (simp only [go_sem, t0, ta, tb, tc, td, t8, d1]; done))); (focus (simp only [go_sem, t0, ta, tb, tc, td, t8, d1] <;> rfl))) | (apply drawE_skip; (focus (simp only [go_sem, t0, ta, tb, tc, td, t8, d1]; done)); (focus (first | assumption | exact St.le_refl _))) | (apply opsW_val; (first | exact wantedV_none rfl | (focus (simp only [go_sem, t0, ta, tb, tc, td, t8, d1]; done))); (focus (simp only [go_sem, t0, ta, tb, tc, td, t8, d1] <;> rfl))) | (apply opsW_call; (first | exact wantedV_none rfl | (focus (simp only [go_sem, t0, ta, tb, tc, td, t8, d1]; done))); (focus (simp only [go_sem, t0, ta, tb, tc, td, t8, d1] <;> rfl))) | (apply opsW_skip; (focus (simp only [go_sem, t0, ta, tb, tc, td, t8, d1]; done))) | refine blockQ_eq ?_ | (refine blockQ_ne ?_ ?_; (focus decide)))
    refine codeW_if (b := _) (by simp only [go_sem, t0]; rfl) ?_ ?_
    · intro h; cases h
    intro _
    repeat (first | refine codeW_seq ?_ | refine codeW_skip ?_ | refine codeW_label ?_ | refine codeW_exit ?_ | refine codeW_ret ?_ | refine codeW_block ?_ | refine codeW_region ?_ | refine opsW_nil ?_ | refine drawE_nil ?_ | (refine codeW_drawS ?_ ?_; (focus kernel_rfl)) | (refine codeW_drawE ?_ ?_; (focus kernel_rfl)) | (apply drawE_val; (focus rfl); (first | exact wantedV_none rfl | (focus (simp only [go_sem, t0]; done))); (focus (intro s_ hs_; simp only [go_sem, t0, hs_] <;> rfl))) | (apply drawE_call; (focus rfl); (first | exact wantedV_none rfl | (focus (simp only [go_sem, t0]; done))); (focus (simp only [go_sem, t0] <;> rfl))) | (apply drawE_skip; (focus (simp only [go_sem, t0]; done)); (focus (first | assumption | exact St.le_refl _))) | (apply opsW_val; (first | exact wantedV_none rfl | (focus (simp only [go_sem, t0]; done))); (focus (simp only [go_sem, t0] <;> rfl))) | (apply opsW_call; (first | exact wantedV_none rfl | (focus (simp only [go_sem, t0]; done))); (focus (simp only [go_sem, t0] <;> rfl))) | (apply opsW_skip; (focus (simp only [go_sem, t0]; done))) | refine blockQ_eq ?_ | (refine blockQ_ne ?_ ?_; (focus decide)))
    rw [List.append_nil] at hQ
    first
      | exact end_tup (ex := .ret) (fun j h => by cases h) rfl (hQ s' M1 hK hp hs)
      | exact end_tup (ex := .norm) (fun j h => by cases h) rfl (hQ s' M1 hK hp hs)
  | cons x M2 =>
    have hM1 : M1 ≠ [] := fun h => by have := hne h; simp at this
    rw [if_neg hM1] at hi
    have d1 : decide ((i : Int) < (e : Nat)) = true := decide_eq_true (by simp at he; omega)
    repeat (first | refine codeW_seq ?_ | refine codeW_skip ?_ | refine codeW_label ?_ | refine codeW_exit ?_ | refine codeW_ret ?_ | refine codeW_block ?_ | refine codeW_region ?_ | refine opsW_nil ?_ | refine drawE_nil ?_ | (refine codeW_drawS ?_ ?_; (focus kernel_rfl)) | (refine codeW_drawE ?_ ?_; (focus kernel_rfl)) | (apply drawE_val; (focus rfl); (first | exact wantedV_none rfl | (focus (simp only [go_sem, t0, ta, tb, tc, td, t8, d1]; done))); (focus (intro s_ hs_; simp only [go_sem, t0, ta, tb, tc, td, t8, d1, hs_] <;> rfl))) | (apply drawE_call; (focus rfl); (first | exact wantedV_none rfl | (focus (simp only [go_sem, t0, ta, tb, tc, td, t8, d1]; done))); (focus (simp only [go_sem, t0, ta, tb, tc, td, t8, d1] <;> rfl))) | (apply drawE_skip; (focus (simp only [go_sem, t0, ta, tb, tc, td, t8, d1]; done)); (focus (first | assumption | exact St.le_refl _))) | (apply opsW_val; (first | exact wantedV_none rfl | (focus (simp only [go_sem, t0, ta, tb, tc, td, t8, d1]; done))); (focus (simp only [go_sem, t0, ta, tb, tc, td, t8, d1] <;> rfl))) | (apply opsW_call; (first | exact wantedV_none rfl | (focus (simp only [go_sem, t0, ta, tb, tc, td, t8, d1]; done))); (focus (simp only [go_sem, t0, ta, tb, tc, td, t8, d1] <;> rfl))) | (apply opsW_skip; (focus (simp only [go_sem, t0, ta, tb, tc, td, t8, d1]; done))) | refine blockQ_eq ?_ | (refine blockQ_ne ?_ ?_; (focus decide)))
    refine codeW_if (b := _) (by simp only [go_sem, t0]; rfl) ?_ ?_
    rotate_left
    · intro h; cases h
    intro _
    repeat (first | refine codeW_skip ?_ | refine codeW_seq ?_ | refine codeW_block ?_)
    repeat (first | refine codeW_seq ?_ | refine codeW_skip ?_ | refine codeW_label ?_ | refine codeW_exit ?_ | refine codeW_ret ?_ | refine codeW_block ?_ | refine codeW_region ?_ | refine opsW_nil ?_ | refine drawE_nil ?_ | (refine codeW_drawS ?_ ?_; (focus kernel_rfl)) | (refine codeW_drawE ?_ ?_; (focus kernel_rfl)) | (apply drawE_val; (focus rfl); (first | exact wantedV_none rfl | (focus (simp only [go_sem, t0, t8]; done))); (focus (intro s_ hs_; simp only [go_sem, t0, t8, hs_] <;> rfl))) | (apply drawE_call; (focus rfl); (first | exact wantedV_none rfl | (focus (simp only [go_sem, t0, t8]; done))); (focus (simp only [go_sem, t0, t8] <;> rfl))) | (apply drawE_skip; (focus (simp only [go_sem, t0, t8]; done)); (focus (first | assumption | exact St.le_refl _))) | (apply opsW_val; (first | exact wantedV_none rfl | (focus (simp only [go_sem, t0, t8]; done))); (focus (simp only [go_sem, t0, t8] <;> rfl))) | (apply opsW_call; (first | exact wantedV_none rfl | (focus (simp only [go_sem, t0, t8]; done))); (focus (simp only [go_sem, t0, t8] <;> rfl))) | (apply opsW_skip; (focus (simp only [go_sem, t0, t8]; done))) | refine blockQ_eq ?_ | (refine blockQ_ne ?_ ?_; (focus decide)))
    refine codeW_inv (fun m τ s' => ∃ (j : Nat) (U V : List K), M1 = U ++ V ∧ j = a + U.length ∧ (∀ v ∈ V, cmpK x v l ≤ 0) ∧ KArr s₀ s' b (P ++ (U ++ x :: (V ++ (M2 ++ S)))) ∧ m = U.length ∧
      τ.n = 53 ∧ τ.get 0 = some (.slice b 0 n n) ∧ τ.get 1 = some (.int .i64 a) ∧ τ.get 2 = some (.int .i64 e) ∧ τ.get 3 = some f ∧ τ.get 8 = some (.int .i64 i) ∧ τ.get 9 = some (.int .i64 j)) ?_ M1.length _ _
      ⟨i, M1, [], by simp, by omega, by simp, by simpa using hK, rfl, by simp only [go_sem, t0] <;> rfl, by simp only [go_sem, ta] <;> rfl, by simp only [go_sem, tb] <;> rfl, by simp only [go_sem, tc] <;> rfl, by simp only [go_sem, td] <;> rfl, by simp only [go_sem, t8] <;> rfl, by simp only [go_sem, t0] <;> rfl⟩
    clear t0 ta tb tc td t8 hK s' 
    clear τ
    rintro m τ s' ⟨j, U, V, rfl, hj, hV, hK, rfl, t0, ta, tb, tc, td, t8, t9⟩
    have hfin : ∀ (s'' : St) (τ' : Fr), KArr s₀ s'' b (P ++ (U ++ x :: (V ++ (M2 ++ S)))) → (∀ u ∈ U, cmpK u x l ≤ 0) → τ'.n = 53 → τ'.get 0 = some (.slice b 0 n n) → τ'.get 1 = some (.int .i64 a) → τ'.get 2 = some (.int .i64 e) → τ'.get 3 = some f → τ'.get 8 = some (.int .i64 (i + 1 : Nat)) →
      (∃ m, m < (x :: M2).length ∧ ∃ (i : Nat) (M1 M2' Mo' : List K), Mo ++ x :: M2 = Mo' ++ M2' ∧ M1.Perm Mo' ∧ Srt l M1 ∧ KArr s₀ s'' b (P ++ (M1 ++ (M2' ++ S))) ∧ i = a + M1.length + (if M1 = [] then 1 else 0) ∧ (M1 = [] → Mo ++ x :: M2 = []) ∧ m = M2'.length ∧
        τ'.n = 53 ∧ τ'.get 0 = some (.slice b 0 n n) ∧ τ'.get 1 = some (.int .i64 a) ∧ τ'.get 2 = some (.int .i64 e) ∧ τ'.get 3 = some f ∧ τ'.get 8 = some (.int .i64 i)) := by
      intro s'' τ' hK' hU g0 g1 g2 g3 g4 g5
      refine ⟨M2.length, by simp, i + 1, U ++ x :: V, M2, Mo ++ [x], by simp, ?_, srt_insert hs hU hV, by simpa using hK', by rw [if_neg (by simp)]; simp at hi ⊢; omega, fun h => by simp at h, rfl, g0, g1, g2, g3, g4, g5⟩
      exact List.perm_middle.trans ((List.Perm.cons x hp).trans (List.perm_append_singleton x Mo).symm)
    have hMo : (Mo ++ x :: M2).length = Mo.length + M2.length + 1 := by simp; omega
    have hwi := wrap_nat (show i + 1 < 9223372036854775808 by omega)
    have hsz : (P ++ (U ++ x :: (V ++ (M2 ++ S)))).length = n := by rw [hn]; simp at hMl ⊢; omega
    rcases nil_or_snoc U with rfl | ⟨U', u, rfl⟩
    · have d2 : decide ((j : Int) > (a : Nat)) = false := decide_eq_false (by simp at hj; omega)
      repeat (first | refine codeW_seq ?_ | refine codeW_skip ?_ | refine codeW_label ?_ | refine codeW_exit ?_ | refine codeW_ret ?_ | refine codeW_block ?_ | refine codeW_region ?_ | refine opsW_nil ?_ | refine drawE_nil ?_ | (refine codeW_drawS ?_ ?_; (focus kernel_rfl)) | (refine codeW_drawE ?_ ?_; (focus kernel_rfl)) | (apply drawE_val; (focus rfl); (first | exact wantedV_none rfl | (focus (simp only [go_sem, t0, ta, tb, tc, td, t8, t9, d2]; done))); (focus (intro s_ hs_; simp only [go_sem, t0, ta, tb, tc, td, t8, t9, d2, hs_] <;> rfl))) | (apply drawE_call; (focus rfl); (first | exact wantedV_none rfl | (focus (simp only [go_sem, t0, ta, tb, tc, td, t8, t9, d2]; done))); (focus (simp only [go_sem, t0, ta, tb, tc, td, t8, t9, d2] <;> rfl))) | (apply drawE_skip; (focus (simp only [go_sem, t0, ta, tb, tc, td, t8, t9, d2]; done)); (focus (first | assumption | exact St.le_refl _))) | (apply opsW_val; (first | exact wantedV_none rfl | (focus (simp only [go_sem, t0, ta, tb, tc, td, t8, t9, d2]; done))); (focus (simp only [go_sem, t0, ta, tb, tc, td, t8, t9, d2] <;> rfl))) | (apply opsW_call; (first | exact wantedV_none rfl | (focus (simp only [go_sem, t0, ta, tb, tc, td, t8, t9, d2]; done))); (focus (simp only [go_sem, t0, ta, tb, tc, td, t8, t9, d2] <;> rfl))) | (apply opsW_skip; (focus (simp only [go_sem, t0, ta, tb, tc, td, t8, t9, d2]; done))) | refine blockQ_eq ?_ | (refine blockQ_ne ?_ ?_; (focus decide)))
      refine codeW_if (b := _) (by simp only [go_sem, t0]; rfl) ?_ ?_
      · intro h; cases h
      intro _
      repeat (first | refine codeW_seq ?_ | refine codeW_skip ?_ | refine codeW_label ?_ | refine codeW_exit ?_ | refine codeW_ret ?_ | refine codeW_block ?_ | refine codeW_region ?_ | refine opsW_nil ?_ | refine drawE_nil ?_ | (refine codeW_drawS ?_ ?_; (focus kernel_rfl)) | (refine codeW_drawE ?_ ?_; (focus kernel_rfl)) | (apply drawE_val; (focus rfl); (first | exact wantedV_none rfl | (focus (simp only [go_sem, t0, ta, tb, tc, td, t8, hwi]; done))); (focus (intro s_ hs_; simp only [go_sem, t0, ta, tb, tc, td, t8, hwi, hs_] <;> rfl))) | (apply drawE_call; (focus rfl); (first | exact wantedV_none rfl | (focus (simp only [go_sem, t0, ta, tb, tc, td, t8, hwi]; done))); (focus (simp only [go_sem, t0, ta, tb, tc, td, t8, hwi] <;> rfl))) | (apply drawE_skip; (focus (simp only [go_sem, t0, ta, tb, tc, td, t8, hwi]; done)); (focus (first | assumption | exact St.le_refl _))) | (apply opsW_val; (first | exact wantedV_none rfl | (focus (simp only [go_sem, t0, ta, tb, tc, td, t8, hwi]; done))); (focus (simp only [go_sem, t0, ta, tb, tc, td, t8, hwi] <;> rfl))) | (apply opsW_call; (first | exact wantedV_none rfl | (focus (simp only [go_sem, t0, ta, tb, tc, td, t8, hwi]; done))); (focus (simp only [go_sem, t0, ta, tb, tc, td, t8, hwi] <;> rfl))) | (apply opsW_skip; (focus (simp only [go_sem, t0, ta, tb, tc, td, t8, hwi]; done))) | refine blockQ_eq ?_ | (refine blockQ_ne ?_ ?_; (focus decide)))
      exact hfin _ _ hK (by simp) (by simp only [go_sem, t0]) (by simp only [go_sem, t0, ta]) (by simp only [go_sem, t0, tb]) (by simp only [go_sem, t0, tc]) (by simp only [go_sem, t0, td]) (by simp only [go_sem, t0, hwi])
    · have hj' : j = a + U'.length + 1 := by simp at hj; omega
      have hsz' : (P ++ (U' ++ u :: x :: (V ++ (M2 ++ S)))).length = n := by rw [← hsz]; simp
      have hjn : j < n := by rw [← hsz']; simp; omega
      have hK' : KArr s₀ s' b (P ++ (U' ++ u :: x :: (V ++ (M2 ++ S)))) := by simpa using hK
      have hx : (P ++ (U' ++ u :: x :: (V ++ (M2 ++ S))))[j]? = some x := by
        have := at_mid P (U' ++ [u]) x (V ++ (M2 ++ S)) (j := j) (by simp; omega)
        simpa using this
      have hu : (P ++ (U' ++ u :: x :: (V ++ (M2 ++ S))))[j - 1]? = some u := at_mid P U' u _ (by omega)
      have hw : IntKind.i64.wrap ((j : Int) - 1) = ((j - 1 : Nat) : Int) := by rw [wrap_id (by omega) (by omega)]; omega
      have d2 : decide ((j : Int) > (a : Nat)) = true := decide_eq_true (by omega)
      obtain ⟨args, hcall, hcw⟩ := cmp_ok hf x u s' hK'.le
      have ix := at22 b n (i := j) hjn
      have iu := at22 b n (i := j - 1) (by omega)
      have lx := hK'.load hx
      have lu := hK'.load hu
      by_cases hlt : cmpK x u l < 0
      · have d3 := decide_eq_true hlt
        repeat (first | refine codeW_seq ?_ | refine codeW_skip ?_ | refine codeW_label ?_ | refine codeW_exit ?_ | refine codeW_ret ?_ | refine codeW_block ?_ | refine codeW_region ?_ | refine opsW_nil ?_ | refine drawE_nil ?_ | (refine codeW_drawS ?_ ?_; (focus kernel_rfl)) | (refine codeW_drawE ?_ ?_; (focus kernel_rfl)) | (apply drawE_val; (focus rfl); (first | exact wantedV_none rfl | (focus (simp only [go_sem, t0, ta, tb, tc, td, t8, t9, d2, hw, ix, iu, lx, lu, hcall, d3]; done))); (focus (intro s_ hs_; simp only [go_sem, t0, ta, tb, tc, td, t8, t9, d2, hw, ix, iu, lx, lu, hcall, d3, hs_] <;> rfl))) | (apply drawE_call; (focus rfl); (first | exact wantedV_none rfl | (focus (simp only [go_sem, t0, ta, tb, tc, td, t8, t9, d2, hw, ix, iu, lx, lu, hcall, d3]; done))); (focus (simp only [go_sem, t0, ta, tb, tc, td, t8, t9, d2, hw, ix, iu, lx, lu, hcall, d3] <;> rfl))) | (apply drawE_skip; (focus (simp only [go_sem, t0, ta, tb, tc, td, t8, t9, d2, hw, ix, iu, lx, lu, hcall, d3]; done)); (focus (first | assumption | exact St.le_refl _))) | (apply opsW_val; (first | exact wantedV_none rfl | (focus (simp only [go_sem, t0, ta, tb, tc, td, t8, t9, d2, hw, ix, iu, lx, lu, hcall, d3]; done))); (focus (simp only [go_sem, t0, ta, tb, tc, td, t8, t9, d2, hw, ix, iu, lx, lu, hcall, d3] <;> rfl))) | (apply opsW_call; (first | exact wantedV_none rfl | (focus (simp only [go_sem, t0, ta, tb, tc, td, t8, t9, d2, hw, ix, iu, lx, lu, hcall, d3]; done))); (focus (simp only [go_sem, t0, ta, tb, tc, td, t8, t9, d2, hw, ix, iu, lx, lu, hcall, d3] <;> rfl))) | (apply opsW_skip; (focus (simp only [go_sem, t0, ta, tb, tc, td, t8, t9, d2, hw, ix, iu, lx, lu, hcall, d3]; done))) | refine blockQ_eq ?_ | (refine blockQ_ne ?_ ?_; (focus decide)) | refine hcw _ (fun s3 hs3 => ?_))
        refine codeW_if (b := _) (by simp only [go_sem, t0]; rfl) ?_ ?_
        rotate_left
        · intro h; cases h
        intro _
        have hK3 := hK'.of_le hs3
        have lx3 := hK3.load hx
        have lu3 := hK3.load hu
        obtain ⟨s4, s5, e4, e5, hK5⟩ := hK3.swap hx hu
        rw [swap_adj P U' u x _ (show j = P.length + U'.length + 1 by omega)] at hK5
        repeat (first | refine codeW_seq ?_ | refine codeW_skip ?_ | refine codeW_label ?_ | refine codeW_exit ?_ | refine codeW_ret ?_ | refine codeW_block ?_ | refine codeW_region ?_ | refine opsW_nil ?_ | refine drawE_nil ?_ | (refine codeW_drawS ?_ ?_; (focus kernel_rfl)) | (refine codeW_drawE ?_ ?_; (focus kernel_rfl)) | (apply drawE_val; (focus rfl); (first | exact wantedV_none rfl | (focus (simp only [go_sem, t0, ta, tb, tc, td, t8, t9, d2, hw, ix, iu, lx3, lu3, e4, e5]; done))); (focus (intro s_ hs_; simp only [go_sem, t0, ta, tb, tc, td, t8, t9, d2, hw, ix, iu, lx3, lu3, e4, e5, hs_] <;> rfl))) | (apply drawE_call; (focus rfl); (first | exact wantedV_none rfl | (focus (simp only [go_sem, t0, ta, tb, tc, td, t8, t9, d2, hw, ix, iu, lx3, lu3, e4, e5]; done))); (focus (simp only [go_sem, t0, ta, tb, tc, td, t8, t9, d2, hw, ix, iu, lx3, lu3, e4, e5] <;> rfl))) | (apply drawE_skip; (focus (simp only [go_sem, t0, ta, tb, tc, td, t8, t9, d2, hw, ix, iu, lx3, lu3, e4, e5]; done)); (focus (first | assumption | exact St.le_refl _))) | (apply opsW_val; (first | exact wantedV_none rfl | (focus (simp only [go_sem, t0, ta, tb, tc, td, t8, t9, d2, hw, ix, iu, lx3, lu3, e4, e5]; done))); (focus (simp only [go_sem, t0, ta, tb, tc, td, t8, t9, d2, hw, ix, iu, lx3, lu3, e4, e5] <;> rfl))) | (apply opsW_call; (first | exact wantedV_none rfl | (focus (simp only [go_sem, t0, ta, tb, tc, td, t8, t9, d2, hw, ix, iu, lx3, lu3, e4, e5]; done))); (focus (simp only [go_sem, t0, ta, tb, tc, td, t8, t9, d2, hw, ix, iu, lx3, lu3, e4, e5] <;> rfl))) | (apply opsW_skip; (focus (simp only [go_sem, t0, ta, tb, tc, td, t8, t9, d2, hw, ix, iu, lx3, lu3, e4, e5]; done))) | refine blockQ_eq ?_ | (refine blockQ_ne ?_ ?_; (focus decide)))
        refine ⟨U'.length, by simp, j - 1, U', u :: V, by simp, by omega, fun v hv => ?_, by simpa using hK5, rfl, by simp only [go_sem, t0], by simp only [go_sem, t0, ta], by simp only [go_sem, t0, tb], by simp only [go_sem, t0, tc], by simp only [go_sem, t0, td], by simp only [go_sem, t0, t8], by simp only [go_sem, t0, t9, hw]⟩
        rcases List.mem_cons.1 hv with rfl | hv
        · omega
        · exact hV v hv
      · have d3 := decide_eq_false hlt
        repeat (first | refine codeW_seq ?_ | refine codeW_skip ?_ | refine codeW_label ?_ | refine codeW_exit ?_ | refine codeW_ret ?_ | refine codeW_block ?_ | refine codeW_region ?_ | refine opsW_nil ?_ | refine drawE_nil ?_ | (refine codeW_drawS ?_ ?_; (focus kernel_rfl)) | (refine codeW_drawE ?_ ?_; (focus kernel_rfl)) | (apply drawE_val; (focus rfl); (first | exact wantedV_none rfl | (focus (simp only [go_sem, t0, ta, tb, tc, td, t8, t9, d2, hw, ix, iu, lx, lu, hcall, d3]; done))); (focus (intro s_ hs_; simp only [go_sem, t0, ta, tb, tc, td, t8, t9, d2, hw, ix, iu, lx, lu, hcall, d3, hs_] <;> rfl))) | (apply drawE_call; (focus rfl); (first | exact wantedV_none rfl | (focus (simp only [go_sem, t0, ta, tb, tc, td, t8, t9, d2, hw, ix, iu, lx, lu, hcall, d3]; done))); (focus (simp only [go_sem, t0, ta, tb, tc, td, t8, t9, d2, hw, ix, iu, lx, lu, hcall, d3] <;> rfl))) | (apply drawE_skip; (focus (simp only [go_sem, t0, ta, tb, tc, td, t8, t9, d2, hw, ix, iu, lx, lu, hcall, d3]; done)); (focus (first | assumption | exact St.le_refl _))) | (apply opsW_val; (first | exact wantedV_none rfl | (focus (simp only [go_sem, t0, ta, tb, tc, td, t8, t9, d2, hw, ix, iu, lx, lu, hcall, d3]; done))); (focus (simp only [go_sem, t0, ta, tb, tc, td, t8, t9, d2, hw, ix, iu, lx, lu, hcall, d3] <;> rfl))) | (apply opsW_call; (first | exact wantedV_none rfl | (focus (simp only [go_sem, t0, ta, tb, tc, td, t8, t9, d2, hw, ix, iu, lx, lu, hcall, d3]; done))); (focus (simp only [go_sem, t0, ta, tb, tc, td, t8, t9, d2, hw, ix, iu, lx, lu, hcall, d3] <;> rfl))) | (apply opsW_skip; (focus (simp only [go_sem, t0, ta, tb, tc, td, t8, t9, d2, hw, ix, iu, lx, lu, hcall, d3]; done))) | refine blockQ_eq ?_ | (refine blockQ_ne ?_ ?_; (focus decide)) | refine hcw _ (fun s3 hs3 => ?_))
        refine codeW_if (b := _) (by simp only [go_sem, t0]; rfl) ?_ ?_
        · intro h; cases h
        intro _
        repeat (first | refine codeW_seq ?_ | refine codeW_skip ?_ | refine codeW_label ?_ | refine codeW_exit ?_ | refine codeW_ret ?_ | refine codeW_block ?_ | refine codeW_region ?_ | refine opsW_nil ?_ | refine drawE_nil ?_ | (refine codeW_drawS ?_ ?_; (focus kernel_rfl)) | (refine codeW_drawE ?_ ?_; (focus kernel_rfl)) | (apply drawE_val; (focus rfl); (first | exact wantedV_none rfl | (focus (simp only [go_sem, t0, ta, tb, tc, td, t8, hwi]; done))); (focus (intro s_ hs_; simp only [go_sem, t0, ta, tb, tc, td, t8, hwi, hs_] <;> rfl))) | (apply drawE_call; (focus rfl); (first | exact wantedV_none rfl | (focus (simp only [go_sem, t0, ta, tb, tc, td, t8, hwi]; done))); (focus (simp only [go_sem, t0, ta, tb, tc, td, t8, hwi] <;> rfl))) | (apply drawE_skip; (focus (simp only [go_sem, t0, ta, tb, tc, td, t8, hwi]; done)); (focus (first | assumption | exact St.le_refl _))) | (apply opsW_val; (first | exact wantedV_none rfl | (focus (simp only [go_sem, t0, ta, tb, tc, td, t8, hwi]; done))); (focus (simp only [go_sem, t0, ta, tb, tc, td, t8, hwi] <;> rfl))) | (apply opsW_call; (first | exact wantedV_none rfl | (focus (simp only [go_sem, t0, ta, tb, tc, td, t8, hwi]; done))); (focus (simp only [go_sem, t0, ta, tb, tc, td, t8, hwi] <;> rfl))) | (apply opsW_skip; (focus (simp only [go_sem, t0, ta, tb, tc, td, t8, hwi]; done))) | refine blockQ_eq ?_ | (refine blockQ_ne ?_ ?_; (focus decide)))
        refine hfin _ _ (hK.of_le hs3) (fun w hw' => ?_) (by simp only [go_sem, t0]) (by simp only [go_sem, t0, ta]) (by simp only [go_sem, t0, tb]) (by simp only [go_sem, t0, tc]) (by simp only [go_sem, t0, td]) (by simp only [go_sem, t0, t8, hwi])
        have hux : cmpK u x l ≤ 0 := by have := cmpK_anti l x u; omega
        rcases List.mem_append.1 hw' with h | h
        · refine srt_le ?_ hux
          have h1 := List.pairwise_append.1 (List.pairwise_append.1 hs).1
          exact h1.2.2 w h u (by simp)
        · have : w = u := by simpa using h
          rw [this]; exact hux
end Go.Proofs.Ytbkniippobnbpaa
