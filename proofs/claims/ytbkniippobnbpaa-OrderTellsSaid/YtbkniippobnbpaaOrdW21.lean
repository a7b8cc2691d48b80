/-
  Merging two rows of keys in order: where one of them is a single key.
-/
import Derived.Test.YtbkniippobnbpaaOrdW20
namespace Go.Proofs.Ytbkniippobnbpaa
open Go.Ae
set_option linter.unusedSimpArgs false
set_option maxHeartbeats 4000000

attribute [local go_sem] opV_move opV_assign opV_pick opV_alloc opV_box opV_build opV_buildSlice opV_load opV_store opV_nilCheck opV_unOp opV_binOp opV_makeInterface opV_makeFunc opV_makeSlice opV_slice opV_fieldAddr opV_field opV_indexAddr opV_index opV_extract opV_call oCall_value oCall_builtin oCallV_func bin_add bin_sub bin_mul bin_lss bin_leq bin_gtr bin_geq bin_eql bin_neq bins_lss bins_leq bins_gtr bins_geq bins_eql bins_neq binb_eql ret1_some ret2_some retU_some oBin_some oUn_some oPick_some oLoad_some oStore_some oBox_some oIndexAddr_some oIndex_some oExtract_some un_not un_neg cond_true cond_false beq_ft beq_tf Bool.not_true Bool.not_false wantedV opd_tmp opd_c opd ofV Fr.get_put_ne Fr.get_put_eq Fr.get_put_none Fr.put_n ne_eq not_false_eq_true Fr.only_get fr_get fr_n argsT T.get_set T.get_nil oField oFunc oNil oAlloc oBuild oBuildSlice mapO pairs okI_eq fnat_eq fint_eq List.getElem?_toArray List.getElem?_cons_zero List.getElem?_cons_succ Option.bind_some List.map List.length_cons List.length_nil Nat.reduceEqDiff Nat.reduceLT Nat.reduceAdd Nat.reduceMul Nat.zero_add Nat.add_zero Nat.max_def Nat.reduceLeDiff Nat.reduceLT and_true and_false true_and false_and if_true if_false ite_true ite_false Option.some.injEq reduceCtorEq decide_true decide_false bne_self_eq_false beq_self_eq_true seqQ List.append_nil List.nil_append List.cons_append newVar_eq cellsOf St.box_nx Option.map_some

theorem srt_get {l : List Int} {L : List K} (h : Srt l L) {i j : Nat} {a b : K} (hij : i ≤ j) (ha : L[i]? = some a) (hb : L[j]? = some b) : cmpK a b l ≤ 0 := by
  rcases Nat.lt_or_eq_of_le hij with hlt | rfl
  · obtain ⟨h1, h2⟩ := List.getElem?_eq_some_iff.1 ha
    obtain ⟨h3, h4⟩ := List.getElem?_eq_some_iff.1 hb
    have := List.pairwise_iff_getElem.1 h i j h1 h3 hlt
    rw [h2, h4] at this
    exact this
  · rw [ha] at hb; cases hb; rw [(cmpK_Cmp l).self]; exact Int.le_refl _

theorem opV_convert (P : Program) (s : St) (τ : Fr) (a b : TypeId) (x : Operand) : opV P s τ (.convert a b x) = oConv P s a b (opd P τ x) := rfl

theorem conv_up (s : St) {x : Nat} (h : x < 9223372036854775808) : oConv Try.prog s 3 60 (some (.int .i64 x)) = some (.val (.int .u64 x) s) := by
  have h1 : IntKind.u64.wrap (x : Int) = x := by
    simp only [IntKind.wrap, IntKind.signed, IntKind.bits]
    have : (x : Int) % 2 ^ 64 = x := Int.emod_eq_of_lt (by omega) (by omega)
    simp only [this, Bool.false_and, Bool.false_eq_true, if_false]
  simp only [oConv, convV, Try.underlying3, Try.underlying60, h1, okI_eq]; rfl

theorem conv_down (s : St) {x : Nat} (h : x < 9223372036854775808) : oConv Try.prog s 60 3 (some (.int .u64 x)) = some (.val (.int .i64 x) s) := by
  have h1 : IntKind.i64.wrap (x : Int) = x := wrap_id (by omega) (by omega)
  simp only [oConv, convV, Try.underlying3, Try.underlying60, h1, okI_eq]; rfl

theorem bin_half (s : St) (t : TypeId) (xo yo : Operand) (x : Nat) : binV Try.prog s .shr t xo yo (.int .u64 x) (.int .u64 1) = some (.int .u64 (x / 2 : Nat)) := by
  have h1 : decide ((1 : Int) < 0) = false := by decide
  have h2 : (x : Int).fdiv (2 ^ min (Int.toNat 1) IntKind.u64.bits) = ((x / 2 : Nat) : Int) := by
    show (x : Int).fdiv 2 = _
    rw [Int.fdiv_eq_ediv_of_nonneg _ (by decide)]; omega
  simp only [binV, shiftV, h1, okI_eq, h2]

theorem srt_one_left {l : List Int} {x : K} {Y : List K} {i : Nat} (hY : Srt l Y) (h1 : ∀ k y, k < i → Y[k]? = some y → cmpK y x l < 0) (h2 : ∀ k y, i ≤ k → Y[k]? = some y → ¬ cmpK y x l < 0) : Srt l (Y.take i ++ x :: Y.drop i) := by
  refine srt_insert (by rw [List.take_append_drop]; exact hY) (fun u hu => ?_) (fun v hv => ?_)
  · obtain ⟨k, hk⟩ := List.getElem?_of_mem hu
    rw [List.getElem?_take] at hk
    split at hk
    · rename_i hlt; have := h1 k u hlt hk; omega
    · cases hk
  · obtain ⟨k, hk⟩ := List.getElem?_of_mem hv
    rw [List.getElem?_drop] at hk
    have h3 := h2 (i + k) v (by omega) hk
    have := cmpK_anti l v x
    omega

theorem symOne_ok {s₀ : St} {f : CV} {l : List Int} (hf : CmpF s₀ f l) (P : List K) (x : K) (Y S : List K) (a m e n b : Nat) (ha : a = P.length) (hm : m = P.length + 1) (he : e = P.length + 1 + Y.length) (hsY : Srt l Y) (hn : n = (P ++ (x :: (Y ++ S))).length) (hn' : n ≤ 1000)
    (s : St) (hA : KArr s₀ s b (P ++ (x :: (Y ++ S)))) (Q : CV → St → Prop) (hQ : ∀ s' M', KArr s₀ s' b (P ++ (M' ++ S)) → M'.Perm (x :: Y) → Srt l M' → Q (.tuple []) s') :
    callW Try.prog Hk 45 [.slice b 0 n n, .int .i64 a, .int .i64 m, .int .i64 e, f] s Q := by
  refine callW_enter (fn := Try.f45) (freeHk _ _ _ (by decide)) Try.func45 rfl ?_
  simp only [Try.ntmps45]
  have hlen : n = P.length + 1 + (Y.length + S.length) := by rw [hn]; simp; omega
  have w1 : IntKind.i64.wrap ((m : Int) - (a : Nat)) = 1 := by rw [wrap_sub (by omega) (by omega)]; omega
  repeat (first | refine codeW_seq ?_ | refine codeW_skip ?_ | refine codeW_label ?_ | refine codeW_exit ?_ | refine codeW_ret ?_ | refine codeW_block ?_ | refine codeW_region ?_ | refine opsW_nil ?_ | refine drawE_nil ?_ | (refine codeW_drawS ?_ ?_; (focus kernel_rfl)) | (refine codeW_drawE ?_ ?_; (focus kernel_rfl)) | (apply drawE_val; (focus rfl); (first | exact wantedV_none rfl | (focus (simp only [go_sem, w1]; done))); (focus (intro s_ hs_; simp only [go_sem, w1, hs_] <;> rfl))) | (apply drawE_call; (focus rfl); (first | exact wantedV_none rfl | (focus (simp only [go_sem, w1]; done))); (focus (simp only [go_sem, w1] <;> rfl))) | (apply drawE_skip; (focus (simp only [go_sem, w1]; done)); (focus (first | assumption | exact St.le_refl _))) | (apply opsW_val; (first | exact wantedV_none rfl | (focus (simp only [go_sem, w1]; done))); (focus (simp only [go_sem, w1] <;> rfl))) | (apply opsW_call; (first | exact wantedV_none rfl | (focus (simp only [go_sem, w1]; done))); (focus (simp only [go_sem, w1] <;> rfl))) | (apply opsW_skip; (focus (simp only [go_sem, w1]; done))) | refine blockQ_eq ?_ | (refine blockQ_ne ?_ ?_; (focus decide)))
  refine codeW_if (b := _) (by simp only [go_sem, w1]; rfl) ?_ ?_
  rotate_left
  · intro h; cases h
  intro _
  repeat (first | refine codeW_skip ?_ | refine codeW_seq ?_ | refine codeW_block ?_)
  repeat (first | refine codeW_seq ?_ | refine codeW_skip ?_ | refine codeW_label ?_ | refine codeW_exit ?_ | refine codeW_ret ?_ | refine codeW_block ?_ | refine codeW_region ?_ | refine opsW_nil ?_ | refine drawE_nil ?_ | (refine codeW_drawS ?_ ?_; (focus kernel_rfl)) | (refine codeW_drawE ?_ ?_; (focus kernel_rfl)) | (apply drawE_val; (focus rfl); (first | exact wantedV_none rfl | (focus (simp only [go_sem, if_true]; done))); (focus (intro s_ hs_; simp only [go_sem, if_true, hs_] <;> rfl))) | (apply drawE_call; (focus rfl); (first | exact wantedV_none rfl | (focus (simp only [go_sem, if_true]; done))); (focus (simp only [go_sem, if_true] <;> rfl))) | (apply drawE_skip; (focus (simp only [go_sem, if_true]; done)); (focus (first | assumption | exact St.le_refl _))) | (apply opsW_val; (first | exact wantedV_none rfl | (focus (simp only [go_sem, if_true]; done))); (focus (simp only [go_sem, if_true] <;> rfl))) | (apply opsW_call; (first | exact wantedV_none rfl | (focus (simp only [go_sem, if_true]; done))); (focus (simp only [go_sem, if_true] <;> rfl))) | (apply opsW_skip; (focus (simp only [go_sem, if_true]; done))) | refine blockQ_eq ?_ | (refine blockQ_ne ?_ ?_; (focus decide)))
  have hxa : (P ++ (x :: (Y ++ S)))[a]? = some x := at_one P _ x ha
  refine codeW_inv (fun q τ s' => ∃ (i j : Nat), m ≤ i ∧ i ≤ j ∧ j ≤ e ∧ KArr s₀ s' b (P ++ (x :: (Y ++ S))) ∧ (∀ k y, k < i - m → Y[k]? = some y → cmpK y x l < 0) ∧ (∀ k y, j - m ≤ k → Y[k]? = some y → ¬ cmpK y x l < 0) ∧ q = j - i ∧
    τ.n = 220 ∧ τ.get 0 = some (.slice b 0 n n) ∧ τ.get 1 = some (.int .i64 a) ∧ τ.get 2 = some (.int .i64 m) ∧ τ.get 3 = some (.int .i64 e) ∧ τ.get 4 = some f ∧ τ.get 10 = some (.int .i64 i) ∧ τ.get 11 = some (.int .i64 j)) ?_ (e - m) _ _
    ⟨m, e, by omega, by omega, by omega, hA, (fun k y hk => by omega), (fun k y hk hy => by rw [List.getElem?_eq_none (by omega)] at hy; cases hy), rfl, by simp only [go_sem] <;> rfl, by simp only [go_sem] <;> rfl, by simp only [go_sem] <;> rfl, by simp only [go_sem] <;> rfl, by simp only [go_sem] <;> rfl, by simp only [go_sem] <;> rfl, by simp only [go_sem] <;> rfl, by simp only [go_sem] <;> rfl⟩
  rintro q τ s' ⟨i, j, hi, hij, hj, hK, h1, h2, rfl, t0, ta, tb, tc, td, tf, t10, t11⟩
  by_cases hlt : i < j
  · have d1 : decide ((i : Int) < (j : Nat)) = true := decide_eq_true (by omega)
    have w2 := wrap_add (a := i) (b := j) (by omega)
    have c1 := fun s => conv_up s (x := i + j) (by omega)
    have c2 := fun s => conv_down s (x := (i + j) / 2) (by omega)
    obtain ⟨y, hy⟩ : ∃ y, Y[(i + j) / 2 - m]? = some y := ⟨_, List.getElem?_eq_getElem (by omega)⟩
    have hyr : (P ++ (x :: (Y ++ S)))[(i + j) / 2]? = some y := by
      rw [List.getElem?_append_right (by omega), show (i + j) / 2 - P.length = ((i + j) / 2 - m) + 1 by omega, List.getElem?_cons_succ, List.getElem?_append_left (List.getElem?_eq_some_iff.1 hy).1]
      exact hy
    obtain ⟨args, hcall, hcw⟩ := cmp_ok hf y x s' hK.le
    have iy := at22 b n (i := (i + j) / 2) (by omega)
    have ix := at22 b n (i := a) (by omega)
    have lx := hK.load hxa
    have ly := hK.load hyr
    have w3 := wrap_nat (show (i + j) / 2 + 1 < 9223372036854775808 by omega)
    by_cases hc : cmpK y x l < 0
    · have d3 := decide_eq_true hc
      repeat (first | refine codeW_seq ?_ | refine codeW_skip ?_ | refine codeW_label ?_ | refine codeW_exit ?_ | refine codeW_ret ?_ | refine codeW_block ?_ | refine codeW_region ?_ | refine opsW_nil ?_ | refine drawE_nil ?_ | (refine codeW_drawS ?_ ?_; (focus kernel_rfl)) | (refine codeW_drawE ?_ ?_; (focus kernel_rfl)) | (apply drawE_val; (focus rfl); (first | exact wantedV_none rfl | (focus (simp only [go_sem, t0, ta, tb, tc, td, tf, t10, t11, d1]; done))); (focus (intro s_ hs_; simp only [go_sem, t0, ta, tb, tc, td, tf, t10, t11, d1, hs_] <;> rfl))) | (apply drawE_call; (focus rfl); (first | exact wantedV_none rfl | (focus (simp only [go_sem, t0, ta, tb, tc, td, tf, t10, t11, d1]; done))); (focus (simp only [go_sem, t0, ta, tb, tc, td, tf, t10, t11, d1] <;> rfl))) | (apply drawE_skip; (focus (simp only [go_sem, t0, ta, tb, tc, td, tf, t10, t11, d1]; done)); (focus (first | assumption | exact St.le_refl _))) | (apply opsW_val; (first | exact wantedV_none rfl | (focus (simp only [go_sem, t0, ta, tb, tc, td, tf, t10, t11, d1]; done))); (focus (simp only [go_sem, t0, ta, tb, tc, td, tf, t10, t11, d1] <;> rfl))) | (apply opsW_call; (first | exact wantedV_none rfl | (focus (simp only [go_sem, t0, ta, tb, tc, td, tf, t10, t11, d1]; done))); (focus (simp only [go_sem, t0, ta, tb, tc, td, tf, t10, t11, d1] <;> rfl))) | (apply opsW_skip; (focus (simp only [go_sem, t0, ta, tb, tc, td, tf, t10, t11, d1]; done))) | refine blockQ_eq ?_ | (refine blockQ_ne ?_ ?_; (focus decide)))
      refine codeW_if (b := _) (by simp only [go_sem, t0]; rfl) ?_ ?_
      rotate_left
      · intro h; cases h
      intro _
      repeat (first | refine codeW_seq ?_ | refine codeW_skip ?_ | refine codeW_label ?_ | refine codeW_exit ?_ | refine codeW_ret ?_ | refine codeW_block ?_ | refine codeW_region ?_ | refine opsW_nil ?_ | refine drawE_nil ?_ | (refine codeW_drawS ?_ ?_; (focus kernel_rfl)) | (refine codeW_drawE ?_ ?_; (focus kernel_rfl)) | (apply drawE_val; (focus rfl); (first | exact wantedV_none rfl | (focus (simp only [go_sem, t0, ta, tb, tc, td, tf, t10, t11, opV_convert, w2, c1, c2, bin_half, ix, iy, lx, ly, hcall, d3]; done))); (focus (intro s_ hs_; simp only [go_sem, t0, ta, tb, tc, td, tf, t10, t11, opV_convert, w2, c1, c2, bin_half, ix, iy, lx, ly, hcall, d3, hs_] <;> rfl))) | (apply drawE_call; (focus rfl); (first | exact wantedV_none rfl | (focus (simp only [go_sem, t0, ta, tb, tc, td, tf, t10, t11, opV_convert, w2, c1, c2, bin_half, ix, iy, lx, ly, hcall, d3]; done))); (focus (simp only [go_sem, t0, ta, tb, tc, td, tf, t10, t11, opV_convert, w2, c1, c2, bin_half, ix, iy, lx, ly, hcall, d3] <;> rfl))) | (apply drawE_skip; (focus (simp only [go_sem, t0, ta, tb, tc, td, tf, t10, t11, opV_convert, w2, c1, c2, bin_half, ix, iy, lx, ly, hcall, d3]; done)); (focus (first | assumption | exact St.le_refl _))) | (apply opsW_val; (first | exact wantedV_none rfl | (focus (simp only [go_sem, t0, ta, tb, tc, td, tf, t10, t11, opV_convert, w2, c1, c2, bin_half, ix, iy, lx, ly, hcall, d3]; done))); (focus (simp only [go_sem, t0, ta, tb, tc, td, tf, t10, t11, opV_convert, w2, c1, c2, bin_half, ix, iy, lx, ly, hcall, d3] <;> rfl))) | (apply opsW_call; (first | exact wantedV_none rfl | (focus (simp only [go_sem, t0, ta, tb, tc, td, tf, t10, t11, opV_convert, w2, c1, c2, bin_half, ix, iy, lx, ly, hcall, d3]; done))); (focus (simp only [go_sem, t0, ta, tb, tc, td, tf, t10, t11, opV_convert, w2, c1, c2, bin_half, ix, iy, lx, ly, hcall, d3] <;> rfl))) | (apply opsW_skip; (focus (simp only [go_sem, t0, ta, tb, tc, td, tf, t10, t11, opV_convert, w2, c1, c2, bin_half, ix, iy, lx, ly, hcall, d3]; done))) | refine blockQ_eq ?_ | (refine blockQ_ne ?_ ?_; (focus decide)) | refine hcw _ (fun s3 hs3 => ?_))
      refine codeW_if (b := _) (by simp only [go_sem, t0]; rfl) ?_ ?_
      rotate_left
      · intro h; cases h
      intro _
      repeat (first | refine codeW_seq ?_ | refine codeW_skip ?_ | refine codeW_label ?_ | refine codeW_exit ?_ | refine codeW_ret ?_ | refine codeW_block ?_ | refine codeW_region ?_ | refine opsW_nil ?_ | refine drawE_nil ?_ | (refine codeW_drawS ?_ ?_; (focus kernel_rfl)) | (refine codeW_drawE ?_ ?_; (focus kernel_rfl)) | (apply drawE_val; (focus rfl); (first | exact wantedV_none rfl | (focus (simp only [go_sem, t0, ta, tb, tc, td, tf, t10, t11, w3]; done))); (focus (intro s_ hs_; simp only [go_sem, t0, ta, tb, tc, td, tf, t10, t11, w3, hs_] <;> rfl))) | (apply drawE_call; (focus rfl); (first | exact wantedV_none rfl | (focus (simp only [go_sem, t0, ta, tb, tc, td, tf, t10, t11, w3]; done))); (focus (simp only [go_sem, t0, ta, tb, tc, td, tf, t10, t11, w3] <;> rfl))) | (apply drawE_skip; (focus (simp only [go_sem, t0, ta, tb, tc, td, tf, t10, t11, w3]; done)); (focus (first | assumption | exact St.le_refl _))) | (apply opsW_val; (first | exact wantedV_none rfl | (focus (simp only [go_sem, t0, ta, tb, tc, td, tf, t10, t11, w3]; done))); (focus (simp only [go_sem, t0, ta, tb, tc, td, tf, t10, t11, w3] <;> rfl))) | (apply opsW_call; (first | exact wantedV_none rfl | (focus (simp only [go_sem, t0, ta, tb, tc, td, tf, t10, t11, w3]; done))); (focus (simp only [go_sem, t0, ta, tb, tc, td, tf, t10, t11, w3] <;> rfl))) | (apply opsW_skip; (focus (simp only [go_sem, t0, ta, tb, tc, td, tf, t10, t11, w3]; done))) | refine blockQ_eq ?_ | (refine blockQ_ne ?_ ?_; (focus decide)))
      refine ⟨j - ((i + j) / 2 + 1), by omega, (i + j) / 2 + 1, j, by omega, by omega, hj, hK.of_le hs3, fun k y' hk hy' => ?_, h2, rfl, by simp only [go_sem, t0], by simp only [go_sem, t0, ta], by simp only [go_sem, t0, tb], by simp only [go_sem, t0, tc], by simp only [go_sem, t0, td], by simp only [go_sem, t0, tf], by simp only [go_sem, t0, w3], by simp only [go_sem, t0, t11]⟩
      exact (cmpK_Cmp l).le_lt (a := y') (b := y) (c := x) (srt_get hsY (by omega) hy' hy) hc
    · have d3 := decide_eq_false hc
      repeat (first | refine codeW_seq ?_ | refine codeW_skip ?_ | refine codeW_label ?_ | refine codeW_exit ?_ | refine codeW_ret ?_ | refine codeW_block ?_ | refine codeW_region ?_ | refine opsW_nil ?_ | refine drawE_nil ?_ | (refine codeW_drawS ?_ ?_; (focus kernel_rfl)) | (refine codeW_drawE ?_ ?_; (focus kernel_rfl)) | (apply drawE_val; (focus rfl); (first | exact wantedV_none rfl | (focus (simp only [go_sem, t0, ta, tb, tc, td, tf, t10, t11, d1]; done))); (focus (intro s_ hs_; simp only [go_sem, t0, ta, tb, tc, td, tf, t10, t11, d1, hs_] <;> rfl))) | (apply drawE_call; (focus rfl); (first | exact wantedV_none rfl | (focus (simp only [go_sem, t0, ta, tb, tc, td, tf, t10, t11, d1]; done))); (focus (simp only [go_sem, t0, ta, tb, tc, td, tf, t10, t11, d1] <;> rfl))) | (apply drawE_skip; (focus (simp only [go_sem, t0, ta, tb, tc, td, tf, t10, t11, d1]; done)); (focus (first | assumption | exact St.le_refl _))) | (apply opsW_val; (first | exact wantedV_none rfl | (focus (simp only [go_sem, t0, ta, tb, tc, td, tf, t10, t11, d1]; done))); (focus (simp only [go_sem, t0, ta, tb, tc, td, tf, t10, t11, d1] <;> rfl))) | (apply opsW_call; (first | exact wantedV_none rfl | (focus (simp only [go_sem, t0, ta, tb, tc, td, tf, t10, t11, d1]; done))); (focus (simp only [go_sem, t0, ta, tb, tc, td, tf, t10, t11, d1] <;> rfl))) | (apply opsW_skip; (focus (simp only [go_sem, t0, ta, tb, tc, td, tf, t10, t11, d1]; done))) | refine blockQ_eq ?_ | (refine blockQ_ne ?_ ?_; (focus decide)))
      refine codeW_if (b := _) (by simp only [go_sem, t0]; rfl) ?_ ?_
      rotate_left
      · intro h; cases h
      intro _
      repeat (first | refine codeW_seq ?_ | refine codeW_skip ?_ | refine codeW_label ?_ | refine codeW_exit ?_ | refine codeW_ret ?_ | refine codeW_block ?_ | refine codeW_region ?_ | refine opsW_nil ?_ | refine drawE_nil ?_ | (refine codeW_drawS ?_ ?_; (focus kernel_rfl)) | (refine codeW_drawE ?_ ?_; (focus kernel_rfl)) | (apply drawE_val; (focus rfl); (first | exact wantedV_none rfl | (focus (simp only [go_sem, t0, ta, tb, tc, td, tf, t10, t11, opV_convert, w2, c1, c2, bin_half, ix, iy, lx, ly, hcall, d3]; done))); (focus (intro s_ hs_; simp only [go_sem, t0, ta, tb, tc, td, tf, t10, t11, opV_convert, w2, c1, c2, bin_half, ix, iy, lx, ly, hcall, d3, hs_] <;> rfl))) | (apply drawE_call; (focus rfl); (first | exact wantedV_none rfl | (focus (simp only [go_sem, t0, ta, tb, tc, td, tf, t10, t11, opV_convert, w2, c1, c2, bin_half, ix, iy, lx, ly, hcall, d3]; done))); (focus (simp only [go_sem, t0, ta, tb, tc, td, tf, t10, t11, opV_convert, w2, c1, c2, bin_half, ix, iy, lx, ly, hcall, d3] <;> rfl))) | (apply drawE_skip; (focus (simp only [go_sem, t0, ta, tb, tc, td, tf, t10, t11, opV_convert, w2, c1, c2, bin_half, ix, iy, lx, ly, hcall, d3]; done)); (focus (first | assumption | exact St.le_refl _))) | (apply opsW_val; (first | exact wantedV_none rfl | (focus (simp only [go_sem, t0, ta, tb, tc, td, tf, t10, t11, opV_convert, w2, c1, c2, bin_half, ix, iy, lx, ly, hcall, d3]; done))); (focus (simp only [go_sem, t0, ta, tb, tc, td, tf, t10, t11, opV_convert, w2, c1, c2, bin_half, ix, iy, lx, ly, hcall, d3] <;> rfl))) | (apply opsW_call; (first | exact wantedV_none rfl | (focus (simp only [go_sem, t0, ta, tb, tc, td, tf, t10, t11, opV_convert, w2, c1, c2, bin_half, ix, iy, lx, ly, hcall, d3]; done))); (focus (simp only [go_sem, t0, ta, tb, tc, td, tf, t10, t11, opV_convert, w2, c1, c2, bin_half, ix, iy, lx, ly, hcall, d3] <;> rfl))) | (apply opsW_skip; (focus (simp only [go_sem, t0, ta, tb, tc, td, tf, t10, t11, opV_convert, w2, c1, c2, bin_half, ix, iy, lx, ly, hcall, d3]; done))) | refine blockQ_eq ?_ | (refine blockQ_ne ?_ ?_; (focus decide)) | refine hcw _ (fun s3 hs3 => ?_))
      refine codeW_if (b := _) (by simp only [go_sem, t0]; rfl) ?_ ?_
      · intro h; cases h
      intro _
      repeat (first | refine codeW_seq ?_ | refine codeW_skip ?_ | refine codeW_label ?_ | refine codeW_exit ?_ | refine codeW_ret ?_ | refine codeW_block ?_ | refine codeW_region ?_ | refine opsW_nil ?_ | refine drawE_nil ?_ | (refine codeW_drawS ?_ ?_; (focus kernel_rfl)) | (refine codeW_drawE ?_ ?_; (focus kernel_rfl)) | (apply drawE_val; (focus rfl); (first | exact wantedV_none rfl | (focus (simp only [go_sem, t0, ta, tb, tc, td, tf, t10, t11, w3]; done))); (focus (intro s_ hs_; simp only [go_sem, t0, ta, tb, tc, td, tf, t10, t11, w3, hs_] <;> rfl))) | (apply drawE_call; (focus rfl); (first | exact wantedV_none rfl | (focus (simp only [go_sem, t0, ta, tb, tc, td, tf, t10, t11, w3]; done))); (focus (simp only [go_sem, t0, ta, tb, tc, td, tf, t10, t11, w3] <;> rfl))) | (apply drawE_skip; (focus (simp only [go_sem, t0, ta, tb, tc, td, tf, t10, t11, w3]; done)); (focus (first | assumption | exact St.le_refl _))) | (apply opsW_val; (first | exact wantedV_none rfl | (focus (simp only [go_sem, t0, ta, tb, tc, td, tf, t10, t11, w3]; done))); (focus (simp only [go_sem, t0, ta, tb, tc, td, tf, t10, t11, w3] <;> rfl))) | (apply opsW_call; (first | exact wantedV_none rfl | (focus (simp only [go_sem, t0, ta, tb, tc, td, tf, t10, t11, w3]; done))); (focus (simp only [go_sem, t0, ta, tb, tc, td, tf, t10, t11, w3] <;> rfl))) | (apply opsW_skip; (focus (simp only [go_sem, t0, ta, tb, tc, td, tf, t10, t11, w3]; done))) | refine blockQ_eq ?_ | (refine blockQ_ne ?_ ?_; (focus decide)))
      refine ⟨(i + j) / 2 - i, by omega, i, (i + j) / 2, hi, by omega, by omega, hK.of_le hs3, h1, fun k y' hk hy' h => ?_, rfl, by simp only [go_sem, t0], by simp only [go_sem, t0, ta], by simp only [go_sem, t0, tb], by simp only [go_sem, t0, tc], by simp only [go_sem, t0, td], by simp only [go_sem, t0, tf], by simp only [go_sem, t0, t10], by simp only [go_sem, t0]⟩
      exact hc ((cmpK_Cmp l).le_lt (a := y) (b := y') (c := x) (srt_get hsY (by omega) hy hy') h)
  · have hjj : j = i := by omega
    subst hjj
    have d1 : decide ((j : Int) < (j : Nat)) = false := decide_eq_false (by omega)
    repeat (first | refine codeW_seq ?_ | refine codeW_skip ?_ | refine codeW_label ?_ | refine codeW_exit ?_ | refine codeW_ret ?_ | refine codeW_block ?_ | refine codeW_region ?_ | refine opsW_nil ?_ | refine drawE_nil ?_ | (refine codeW_drawS ?_ ?_; (focus kernel_rfl)) | (refine codeW_drawE ?_ ?_; (focus kernel_rfl)) | (apply drawE_val; (focus rfl); (first | exact wantedV_none rfl | (focus (simp only [go_sem, t0, ta, tb, tc, td, tf, t10, t11, d1]; done))); (focus (intro s_ hs_; simp only [go_sem, t0, ta, tb, tc, td, tf, t10, t11, d1, hs_] <;> rfl))) | (apply drawE_call; (focus rfl); (first | exact wantedV_none rfl | (focus (simp only [go_sem, t0, ta, tb, tc, td, tf, t10, t11, d1]; done))); (focus (simp only [go_sem, t0, ta, tb, tc, td, tf, t10, t11, d1] <;> rfl))) | (apply drawE_skip; (focus (simp only [go_sem, t0, ta, tb, tc, td, tf, t10, t11, d1]; done)); (focus (first | assumption | exact St.le_refl _))) | (apply opsW_val; (first | exact wantedV_none rfl | (focus (simp only [go_sem, t0, ta, tb, tc, td, tf, t10, t11, d1]; done))); (focus (simp only [go_sem, t0, ta, tb, tc, td, tf, t10, t11, d1] <;> rfl))) | (apply opsW_call; (first | exact wantedV_none rfl | (focus (simp only [go_sem, t0, ta, tb, tc, td, tf, t10, t11, d1]; done))); (focus (simp only [go_sem, t0, ta, tb, tc, td, tf, t10, t11, d1] <;> rfl))) | (apply opsW_skip; (focus (simp only [go_sem, t0, ta, tb, tc, td, tf, t10, t11, d1]; done))) | refine blockQ_eq ?_ | (refine blockQ_ne ?_ ?_; (focus decide)))
    refine codeW_if (b := _) (by simp only [go_sem, t0]; rfl) ?_ ?_
    · intro h; cases h
    intro _
    have hsort := srt_one_left hsY h1 h2
    obtain ⟨Y1, hY1⟩ : ∃ Y1, Y.take (j - m) = Y1 := ⟨_, rfl⟩
    obtain ⟨Y2, hY2⟩ : ∃ Y2, Y.drop (j - m) = Y2 := ⟨_, rfl⟩
    have hYY : Y1 ++ Y2 = Y := by rw [← hY1, ← hY2]; exact List.take_append_drop _ _
    have hl1 : Y1.length = j - m := by rw [← hY1]; simp; omega
    rw [hY1, hY2] at hsort
    have w4 : IntKind.i64.wrap ((j : Int) - 1) = ((j - 1 : Nat) : Int) := by rw [wrap_id (by omega) (by omega)]; omega
    repeat (first | refine codeW_skip ?_ | refine codeW_seq ?_ | refine codeW_block ?_)
    repeat (first | refine codeW_seq ?_ | refine codeW_skip ?_ | refine codeW_label ?_ | refine codeW_exit ?_ | refine codeW_ret ?_ | refine codeW_block ?_ | refine codeW_region ?_ | refine opsW_nil ?_ | refine drawE_nil ?_ | (refine codeW_drawS ?_ ?_; (focus kernel_rfl)) | (refine codeW_drawE ?_ ?_; (focus kernel_rfl)) | (apply drawE_val; (focus rfl); (first | exact wantedV_none rfl | (focus (simp only [go_sem, t0, ta, tb, t10]; done))); (focus (intro s_ hs_; simp only [go_sem, t0, ta, tb, t10, hs_] <;> rfl))) | (apply drawE_call; (focus rfl); (first | exact wantedV_none rfl | (focus (simp only [go_sem, t0, ta, tb, t10]; done))); (focus (simp only [go_sem, t0, ta, tb, t10] <;> rfl))) | (apply drawE_skip; (focus (simp only [go_sem, t0, ta, tb, t10]; done)); (focus (first | assumption | exact St.le_refl _))) | (apply opsW_val; (first | exact wantedV_none rfl | (focus (simp only [go_sem, t0, ta, tb, t10]; done))); (focus (simp only [go_sem, t0, ta, tb, t10] <;> rfl))) | (apply opsW_call; (first | exact wantedV_none rfl | (focus (simp only [go_sem, t0, ta, tb, t10]; done))); (focus (simp only [go_sem, t0, ta, tb, t10] <;> rfl))) | (apply opsW_skip; (focus (simp only [go_sem, t0, ta, tb, t10]; done))) | refine blockQ_eq ?_ | (refine blockQ_ne ?_ ?_; (focus decide)))
    refine codeW_inv (fun q τ s' => ∃ (k : Nat) (Z1 Z2 : List K), Y1 = Z1 ++ Z2 ∧ k = a + Z1.length ∧ KArr s₀ s' b (P ++ (Z1 ++ x :: (Z2 ++ (Y2 ++ S)))) ∧ q = Z2.length ∧
      τ.n = 220 ∧ τ.get 0 = some (.slice b 0 n n) ∧ τ.get 10 = some (.int .i64 j) ∧ τ.get 13 = some (.int .i64 k)) ?_ Y1.length _ _
      ⟨a, [], Y1, rfl, rfl, by rw [← hYY] at hK; simpa using hK, rfl, by simp only [go_sem, t0] <;> rfl, by simp only [go_sem, ta] <;> rfl, by simp only [go_sem, t0, t10] <;> rfl, by simp only [go_sem, t0] <;> rfl⟩
    clear t0 ta tb tc td tf t10 t11 hK s'
    clear τ
    rintro q τ s' ⟨k, Z1, Z2, rfl, hk, hK, rfl, t0, ta, t10, t13⟩
    rw [List.length_append] at hl1
    cases Z2 with
    | nil =>
      have d2 : decide ((k : Int) < (j - 1 : Nat)) = false := decide_eq_false (by simp at hl1; omega)
      repeat (first | refine codeW_seq ?_ | refine codeW_skip ?_ | refine codeW_label ?_ | refine codeW_exit ?_ | refine codeW_ret ?_ | refine codeW_block ?_ | refine codeW_region ?_ | refine opsW_nil ?_ | refine drawE_nil ?_ | (refine codeW_drawS ?_ ?_; (focus kernel_rfl)) | (refine codeW_drawE ?_ ?_; (focus kernel_rfl)) | (apply drawE_val; (focus rfl); (first | exact wantedV_none rfl | (focus (simp only [go_sem, t0, ta, t10, t13, w4, d2]; done))); (focus (intro s_ hs_; simp only [go_sem, t0, ta, t10, t13, w4, d2, hs_] <;> rfl))) | (apply drawE_call; (focus rfl); (first | exact wantedV_none rfl | (focus (simp only [go_sem, t0, ta, t10, t13, w4, d2]; done))); (focus (simp only [go_sem, t0, ta, t10, t13, w4, d2] <;> rfl))) | (apply drawE_skip; (focus (simp only [go_sem, t0, ta, t10, t13, w4, d2]; done)); (focus (first | assumption | exact St.le_refl _))) | (apply opsW_val; (first | exact wantedV_none rfl | (focus (simp only [go_sem, t0, ta, t10, t13, w4, d2]; done))); (focus (simp only [go_sem, t0, ta, t10, t13, w4, d2] <;> rfl))) | (apply opsW_call; (first | exact wantedV_none rfl | (focus (simp only [go_sem, t0, ta, t10, t13, w4, d2]; done))); (focus (simp only [go_sem, t0, ta, t10, t13, w4, d2] <;> rfl))) | (apply opsW_skip; (focus (simp only [go_sem, t0, ta, t10, t13, w4, d2]; done))) | refine blockQ_eq ?_ | (refine blockQ_ne ?_ ?_; (focus decide)))
      refine codeW_if (b := _) (by simp only [go_sem, t0]; rfl) ?_ ?_
      · intro h; cases h
      intro _
      repeat (first | refine codeW_seq ?_ | refine codeW_skip ?_ | refine codeW_label ?_ | refine codeW_exit ?_ | refine codeW_ret ?_ | refine codeW_block ?_ | refine codeW_region ?_ | refine opsW_nil ?_ | refine drawE_nil ?_ | (refine codeW_drawS ?_ ?_; (focus kernel_rfl)) | (refine codeW_drawE ?_ ?_; (focus kernel_rfl)) | (apply drawE_val; (focus rfl); (first | exact wantedV_none rfl | (focus (simp only [go_sem, t0]; done))); (focus (intro s_ hs_; simp only [go_sem, t0, hs_] <;> rfl))) | (apply drawE_call; (focus rfl); (first | exact wantedV_none rfl | (focus (simp only [go_sem, t0]; done))); (focus (simp only [go_sem, t0] <;> rfl))) | (apply drawE_skip; (focus (simp only [go_sem, t0]; done)); (focus (first | assumption | exact St.le_refl _))) | (apply opsW_val; (first | exact wantedV_none rfl | (focus (simp only [go_sem, t0]; done))); (focus (simp only [go_sem, t0] <;> rfl))) | (apply opsW_call; (first | exact wantedV_none rfl | (focus (simp only [go_sem, t0]; done))); (focus (simp only [go_sem, t0] <;> rfl))) | (apply opsW_skip; (focus (simp only [go_sem, t0]; done))) | refine blockQ_eq ?_ | (refine blockQ_ne ?_ ?_; (focus decide)))
      have hK' : KArr s₀ s' b (P ++ (((Z1 ++ []) ++ x :: Y2) ++ S)) := by simpa using hK
      have hp : ((Z1 ++ []) ++ x :: Y2).Perm (x :: Y) := by rw [← hYY]; exact List.perm_middle
      first
        | exact end_tup (ex := .ret) (fun j h => by cases h) rfl (hQ s' _ hK' hp hsort)
        | exact end_tup (ex := .norm) (fun j h => by cases h) rfl (hQ s' _ hK' hp hsort)
    | cons z Z2 =>
      simp only [List.length_cons] at hl1
      have d2 : decide ((k : Int) < (j - 1 : Nat)) = true := decide_eq_true (by omega)
      have hK' : KArr s₀ s' b ((P ++ Z1) ++ x :: ([] ++ z :: (Z2 ++ (Y2 ++ S)))) := by simpa using hK
      have hx := at_one (P ++ Z1) ([] ++ z :: (Z2 ++ (Y2 ++ S))) x (i := k) (by simp; omega)
      have hz := at_two (P ++ Z1) [] (Z2 ++ (Y2 ++ S)) x z (j := k + 1) (by simp; omega)
      have hYl : Y.length = (Z1 ++ z :: Z2).length + Y2.length := by rw [← hYY, List.length_append]
      rw [List.length_append, List.length_cons] at hYl
      have w5 := wrap_nat (show k + 1 < 9223372036854775808 by omega)
      have ix := at22 b n (i := k) (by omega)
      have iz := at22 b n (i := k + 1) (by omega)
      have lx := hK'.load hx
      have lz := hK'.load hz
      obtain ⟨s4, s5, e4, e5, hK5⟩ := hK'.swap hx hz
      rw [swap_far _ _ _ x z (show k = (P ++ Z1).length by simp; omega) (show k + 1 = (P ++ Z1).length + 1 + ([] : List K).length by simp; omega)] at hK5
      repeat (first | refine codeW_seq ?_ | refine codeW_skip ?_ | refine codeW_label ?_ | refine codeW_exit ?_ | refine codeW_ret ?_ | refine codeW_block ?_ | refine codeW_region ?_ | refine opsW_nil ?_ | refine drawE_nil ?_ | (refine codeW_drawS ?_ ?_; (focus kernel_rfl)) | (refine codeW_drawE ?_ ?_; (focus kernel_rfl)) | (apply drawE_val; (focus rfl); (first | exact wantedV_none rfl | (focus (simp only [go_sem, t0, ta, t10, t13, w4, d2]; done))); (focus (intro s_ hs_; simp only [go_sem, t0, ta, t10, t13, w4, d2, hs_] <;> rfl))) | (apply drawE_call; (focus rfl); (first | exact wantedV_none rfl | (focus (simp only [go_sem, t0, ta, t10, t13, w4, d2]; done))); (focus (simp only [go_sem, t0, ta, t10, t13, w4, d2] <;> rfl))) | (apply drawE_skip; (focus (simp only [go_sem, t0, ta, t10, t13, w4, d2]; done)); (focus (first | assumption | exact St.le_refl _))) | (apply opsW_val; (first | exact wantedV_none rfl | (focus (simp only [go_sem, t0, ta, t10, t13, w4, d2]; done))); (focus (simp only [go_sem, t0, ta, t10, t13, w4, d2] <;> rfl))) | (apply opsW_call; (first | exact wantedV_none rfl | (focus (simp only [go_sem, t0, ta, t10, t13, w4, d2]; done))); (focus (simp only [go_sem, t0, ta, t10, t13, w4, d2] <;> rfl))) | (apply opsW_skip; (focus (simp only [go_sem, t0, ta, t10, t13, w4, d2]; done))) | refine blockQ_eq ?_ | (refine blockQ_ne ?_ ?_; (focus decide)))
      refine codeW_if (b := _) (by simp only [go_sem, t0]; rfl) ?_ ?_
      rotate_left
      · intro h; cases h
      intro _
      repeat (first | refine codeW_seq ?_ | refine codeW_skip ?_ | refine codeW_label ?_ | refine codeW_exit ?_ | refine codeW_ret ?_ | refine codeW_block ?_ | refine codeW_region ?_ | refine opsW_nil ?_ | refine drawE_nil ?_ | (refine codeW_drawS ?_ ?_; (focus kernel_rfl)) | (refine codeW_drawE ?_ ?_; (focus kernel_rfl)) | (apply drawE_val; (focus rfl); (first | exact wantedV_none rfl | (focus (simp only [go_sem, t0, ta, t10, t13, w5, ix, iz, lx, lz, e4, e5]; done))); (focus (intro s_ hs_; simp only [go_sem, t0, ta, t10, t13, w5, ix, iz, lx, lz, e4, e5, hs_] <;> rfl))) | (apply drawE_call; (focus rfl); (first | exact wantedV_none rfl | (focus (simp only [go_sem, t0, ta, t10, t13, w5, ix, iz, lx, lz, e4, e5]; done))); (focus (simp only [go_sem, t0, ta, t10, t13, w5, ix, iz, lx, lz, e4, e5] <;> rfl))) | (apply drawE_skip; (focus (simp only [go_sem, t0, ta, t10, t13, w5, ix, iz, lx, lz, e4, e5]; done)); (focus (first | assumption | exact St.le_refl _))) | (apply opsW_val; (first | exact wantedV_none rfl | (focus (simp only [go_sem, t0, ta, t10, t13, w5, ix, iz, lx, lz, e4, e5]; done))); (focus (simp only [go_sem, t0, ta, t10, t13, w5, ix, iz, lx, lz, e4, e5] <;> rfl))) | (apply opsW_call; (first | exact wantedV_none rfl | (focus (simp only [go_sem, t0, ta, t10, t13, w5, ix, iz, lx, lz, e4, e5]; done))); (focus (simp only [go_sem, t0, ta, t10, t13, w5, ix, iz, lx, lz, e4, e5] <;> rfl))) | (apply opsW_skip; (focus (simp only [go_sem, t0, ta, t10, t13, w5, ix, iz, lx, lz, e4, e5]; done))) | refine blockQ_eq ?_ | (refine blockQ_ne ?_ ?_; (focus decide)))
      refine ⟨Z2.length, by simp, k + 1, Z1 ++ [z], Z2, by simp, by simp; omega, by simpa using hK5, rfl, by simp only [go_sem, t0], by simp only [go_sem, t0, ta], by simp only [go_sem, t0, t10], by simp only [go_sem, t0, t13, w5]⟩
end Go.Proofs.Ytbkniippobnbpaa
