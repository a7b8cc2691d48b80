/-
  compare: the keys' order by a list of criteria.
-/
import Derived.Test.YtbkniippobnbpaaOrdW4
namespace Go.Ae
section
variable {P : Program} {H : Hooks}
def invQ (I : Nat → Fr → St → Prop) (n : Nat) (Q : Ex → Fr → St → Prop) : Ex → Fr → St → Prop
  | .norm, τ, s => ∃ m, m < n ∧ I m τ s
  | .exit j, τ, s => Q (.exit j) τ s
  | .ret, τ, s => Q .ret τ s

theorem codeW_inv {b : Code} (I : Nat → Fr → St → Prop) {Q : Ex → Fr → St → Prop} (step : ∀ n τ s, I n τ s → codeW P H b τ s (invQ I n Q)) : ∀ (n : Nat) (τ : Fr) (s : St), I n τ s → codeW P H (.loop b) τ s Q := by
  intro n
  induction n using Nat.strongRecOn with
  | _ n ih =>
    intro τ s h
    refine codeW_loop ((step n τ s h).mono fun ex τ' s' hq => ?_)
    cases ex with
    | norm => obtain ⟨m, hm, hi⟩ := hq; exact ih m hm τ' s' hi
    | exit j => exact hq
    | ret => exact hq
end
end Go.Ae
namespace Go.Proofs.Ytbkniippobnbpaa
open Go.Ae
set_option linter.unusedSimpArgs false
set_option maxHeartbeats 1000000
variable {H : Hooks}
attribute [local go_sem] opV_move opV_assign opV_pick opV_alloc opV_box opV_build opV_buildSlice opV_load opV_store opV_nilCheck opV_unOp opV_binOp opV_makeInterface opV_makeFunc opV_makeSlice opV_slice opV_fieldAddr opV_field opV_indexAddr opV_index opV_extract opV_call oCall_value oCall_builtin oCallV_func bin_add bin_sub bin_mul bin_lss bin_leq bin_gtr bin_geq bin_eql bin_neq bins_lss bins_leq bins_gtr bins_geq bins_eql bins_neq binb_eql ret1_some ret2_some retU_some oBin_some oUn_some oPick_some oLoad_some oStore_some oBox_some oIndexAddr_some oIndex_some oExtract_some un_not un_neg cond_true cond_false beq_ft beq_tf Bool.not_true Bool.not_false wantedV opd_tmp opd_c opd ofV Fr.get_put_ne Fr.get_put_eq Fr.get_put_none Fr.put_n ne_eq not_false_eq_true Fr.only_get fr_get fr_n argsT T.get_set T.get_nil oField oFunc oNil oAlloc oBuild oBuildSlice mapO pairs okI_eq fnat_eq fint_eq List.getElem?_toArray List.getElem?_cons_zero List.getElem?_cons_succ Option.bind_some List.map List.length_cons List.length_nil Nat.reduceEqDiff Nat.reduceLT Nat.reduceAdd Nat.reduceMul Nat.zero_add Nat.add_zero Nat.max_def Nat.reduceLeDiff Nat.reduceLT and_true and_false true_and false_and if_true if_false ite_true ite_false Option.some.injEq reduceCtorEq decide_true decide_false bne_self_eq_false beq_self_eq_true seqQ List.append_nil List.nil_append List.cons_append newVar_eq cellsOf St.box_nx Option.map_some

theorem wrap_nat {n : Nat} (h : n + 1 < 9223372036854775808) : IntKind.i64.wrap ((n : Int) + 1) = ((n + 1 : Nat) : Int) := by
  have h1 : ((n : Int) + 1) % 2 ^ 64 = (n : Int) + 1 := Int.emod_eq_of_lt (by omega) (by omega)
  have h2 : decide ((n : Int) + 1 ≥ 2 ^ (64 - 1)) = false := decide_eq_false (by omega)
  simp only [IntKind.wrap, IntKind.signed, IntKind.bits, h1, h2, Bool.and_false, Bool.false_eq_true, if_false]
  rfl

theorem compare_ok (hH : Free H) (a b : K) (v : CV) (l : List Int) (hl : l.length < 9223372036854775808) (s : St) (hv : IntSl s v l) (Q : CV → St → Prop) (hQ : ∀ s', s.le s' → Q (.int .i64 (cmpK a b l)) s') : callW Try.prog H 25 [a.cv, b.cv, v] s Q := by
  refine callW_enter (fn := Try.f25) (hH _ _ _ (by decide)) Try.func25 rfl ?_
  simp only [Try.ntmps25, K.cv]
  repeat (first | refine codeW_seq ?_ | refine codeW_skip ?_ | refine codeW_label ?_ | refine codeW_exit ?_ | refine codeW_ret ?_ | refine codeW_block ?_ | refine codeW_region ?_ | refine opsW_nil ?_ | refine drawE_nil ?_ | (refine codeW_drawE ?_ ?_; (focus kernel_rfl)) | (apply drawE_val; (focus rfl); (first | exact wantedV_none rfl | (focus (simp only [go_sem, len23 hv]; done))); (focus (intro s_ hs_; simp only [go_sem, len23 hv, hs_] <;> rfl))) | (apply drawE_call; (focus rfl); (first | exact wantedV_none rfl | (focus (simp only [go_sem, len23 hv]; done))); (focus (simp only [go_sem, len23 hv] <;> rfl))) | (apply drawE_skip; (focus (simp only [go_sem, len23 hv]; done)); (focus assumption)) | (apply opsW_val; (first | exact wantedV_none rfl | (focus (simp only [go_sem, len23 hv]; done))); (focus (simp only [go_sem, len23 hv] <;> rfl))) | (apply opsW_call; (first | exact wantedV_none rfl | (focus (simp only [go_sem, len23 hv]; done))); (focus (simp only [go_sem, len23 hv] <;> rfl))) | (apply opsW_skip; (focus (simp only [go_sem, len23 hv]; done))) | refine blockQ_eq ?_ | (refine blockQ_ne ?_ ?_; (focus decide)))
  refine codeW_inv (fun n τ s' => ∃ i : Nat, i + n = l.length ∧ τ.n = 45 ∧ τ.get 3 = some (.ptr s.nx 0) ∧ τ.get 4 = some (.ptr (s.nx + 1) 0) ∧ τ.get 10 = some v ∧ τ.get 11 = some (.int .i64 l.length) ∧ τ.get 12 = some (.int .i64 i) ∧
    ((s.box a.cells 25).box b.cells 25).le s' ∧ cmpK a b (l.drop i) = cmpK a b l) ?_ l.length _ _ ⟨0, by omega, by simp only [go_sem] <;> rfl, by simp only [go_sem] <;> rfl, by simp only [go_sem] <;> rfl, by simp only [go_sem] <;> rfl, by simp only [go_sem] <;> rfl, by simp only [go_sem] <;> rfl, St.le_refl _, rfl⟩
  rintro n τ s' ⟨i, hi, t0, t3, t4, t10, t11, t12, hs, hc⟩
  have hs0 : s.le s' := St.le_trans (le_box2 _ _ _ _ _) hs
  have hA : ∀ s'', s'.le s'' → Ae.lds s'' s.nx 0 6 = some a.cells := fun s'' h => by
    rw [St.le.lds (St.le_trans hs h) (by simp only [St.box_nx]; omega), St.le.lds (St.box_le _ _ _) (by simp only [St.box_nx]; omega)]
    exact St.box_lds s a.cells 25
  have hB : ∀ s'', s'.le s'' → Ae.lds s'' (s.nx + 1) 0 6 = some b.cells := fun s'' h => by
    rw [St.le.lds (St.le_trans hs h) (by simp only [St.box_nx]; omega)]
    exact St.box_lds (s.box a.cells 25) b.cells 25
  repeat (first | refine codeW_seq ?_ | refine codeW_skip ?_ | refine codeW_label ?_ | refine codeW_exit ?_ | refine codeW_ret ?_ | refine codeW_block ?_ | refine codeW_region ?_ | refine opsW_nil ?_ | refine drawE_nil ?_ | (refine codeW_drawE ?_ ?_; (focus kernel_rfl)) | (apply drawE_val; (focus rfl); (first | exact wantedV_none rfl | (focus (simp only [go_sem, t0, t3, t4, t10, t11, t12]; done))); (focus (intro s_ hs_; simp only [go_sem, t0, t3, t4, t10, t11, t12, hs_] <;> rfl))) | (apply drawE_call; (focus rfl); (first | exact wantedV_none rfl | (focus (simp only [go_sem, t0, t3, t4, t10, t11, t12]; done))); (focus (simp only [go_sem, t0, t3, t4, t10, t11, t12] <;> rfl))) | (apply drawE_skip; (focus (simp only [go_sem, t0, t3, t4, t10, t11, t12]; done)); (focus assumption)) | (apply opsW_val; (first | exact wantedV_none rfl | (focus (simp only [go_sem, t0, t3, t4, t10, t11, t12]; done))); (focus (simp only [go_sem, t0, t3, t4, t10, t11, t12] <;> rfl))) | (apply opsW_call; (first | exact wantedV_none rfl | (focus (simp only [go_sem, t0, t3, t4, t10, t11, t12]; done))); (focus (simp only [go_sem, t0, t3, t4, t10, t11, t12] <;> rfl))) | (apply opsW_skip; (focus (simp only [go_sem, t0, t3, t4, t10, t11, t12]; done))) | refine blockQ_eq ?_ | (refine blockQ_ne ?_ ?_; (focus decide)))
  refine codeW_if (b := _) (by simp only [go_sem, t0, t3, t4, t10, t11, t12]; rfl) ?_ ?_
  · intro hlt
    have hlt : i < l.length := by simpa using hlt
    obtain ⟨m, hm⟩ : ∃ m, l[i]? = some m := ⟨_, List.getElem?_eq_getElem hlt⟩
    have hd : l.drop i = m :: l.drop (i + 1) := by
      rw [List.drop_eq_getElem_cons hlt]
      rw [List.getElem?_eq_getElem hlt, Option.some.injEq] at hm
      rw [hm]
    obtain ⟨bb, oo, h1, h2, h3⟩ := at23 (hv.le hs0) hm
    repeat (first | refine codeW_seq ?_ | refine codeW_skip ?_ | refine codeW_label ?_ | refine codeW_exit ?_ | refine codeW_ret ?_ | refine codeW_block ?_ | refine codeW_region ?_ | refine opsW_nil ?_ | refine drawE_nil ?_ | (refine codeW_drawE ?_ ?_; (focus kernel_rfl)) | (apply drawE_val; (focus rfl); (first | exact wantedV_none rfl | (focus (simp only [go_sem, t0, t3, t4, t10, t11, t12, h1, h3, load3, callF_23]; done))); (focus (intro s_ hs_; simp only [go_sem, t0, t3, t4, t10, t11, t12, h1, h3, load3, callF_23, hs_] <;> rfl))) | (apply drawE_call; (focus rfl); (first | exact wantedV_none rfl | (focus (simp only [go_sem, t0, t3, t4, t10, t11, t12, h1, h3, load3, callF_23]; done))); (focus (simp only [go_sem, t0, t3, t4, t10, t11, t12, h1, h3, load3, callF_23] <;> rfl))) | (apply drawE_skip; (focus (simp only [go_sem, t0, t3, t4, t10, t11, t12, h1, h3, load3, callF_23]; done)); (focus assumption)) | (apply opsW_val; (first | exact wantedV_none rfl | (focus (simp only [go_sem, t0, t3, t4, t10, t11, t12, h1, h3, load3, callF_23]; done))); (focus (simp only [go_sem, t0, t3, t4, t10, t11, t12, h1, h3, load3, callF_23] <;> rfl))) | (apply opsW_call; (first | exact wantedV_none rfl | (focus (simp only [go_sem, t0, t3, t4, t10, t11, t12, h1, h3, load3, callF_23]; done))); (focus (simp only [go_sem, t0, t3, t4, t10, t11, t12, h1, h3, load3, callF_23] <;> rfl))) | (apply opsW_skip; (focus (simp only [go_sem, t0, t3, t4, t10, t11, t12, h1, h3, load3, callF_23]; done))) | refine blockQ_eq ?_ | (refine blockQ_ne ?_ ?_; (focus decide)) | refine one_ok hH _ _ _ fun s1 hs1 => ?_)
    refine codeW_if (b := _) (by simp only [go_sem, t0, t3, t4, t10, t11, t12]; rfl) ?_ ?_
    · intro ho
      repeat (first | refine codeW_seq ?_ | refine codeW_skip ?_ | refine codeW_label ?_ | refine codeW_exit ?_ | refine codeW_ret ?_ | refine codeW_block ?_ | refine codeW_region ?_ | refine opsW_nil ?_ | refine drawE_nil ?_ | (refine codeW_drawE ?_ ?_; (focus kernel_rfl)) | (apply drawE_val; (focus rfl); (first | exact wantedV_none rfl | (focus (simp only [go_sem, t0, t3, t4, t10, t11, t12]; done))); (focus (intro s_ hs_; simp only [go_sem, t0, t3, t4, t10, t11, t12, hs_] <;> rfl))) | (apply drawE_call; (focus rfl); (first | exact wantedV_none rfl | (focus (simp only [go_sem, t0, t3, t4, t10, t11, t12]; done))); (focus (simp only [go_sem, t0, t3, t4, t10, t11, t12] <;> rfl))) | (apply drawE_skip; (focus (simp only [go_sem, t0, t3, t4, t10, t11, t12]; done)); (focus assumption)) | (apply opsW_val; (first | exact wantedV_none rfl | (focus (simp only [go_sem, t0, t3, t4, t10, t11, t12]; done))); (focus (simp only [go_sem, t0, t3, t4, t10, t11, t12] <;> rfl))) | (apply opsW_call; (first | exact wantedV_none rfl | (focus (simp only [go_sem, t0, t3, t4, t10, t11, t12]; done))); (focus (simp only [go_sem, t0, t3, t4, t10, t11, t12] <;> rfl))) | (apply opsW_skip; (focus (simp only [go_sem, t0, t3, t4, t10, t11, t12]; done))) | refine blockQ_eq ?_ | (refine blockQ_ne ?_ ?_; (focus decide)))
      refine codeW_if (b := _) (by simp only [go_sem, t0, t3, t4, t10, t11, t12]; rfl) ?_ ?_
      · intro h; cases h
      intro _
      repeat (first | refine codeW_seq ?_ | refine codeW_skip ?_ | refine codeW_label ?_ | refine codeW_exit ?_ | refine codeW_ret ?_ | refine codeW_block ?_ | refine codeW_region ?_ | refine opsW_nil ?_ | refine drawE_nil ?_ | (refine codeW_drawE ?_ ?_; (focus kernel_rfl)) | (apply drawE_val; (focus rfl); (first | exact wantedV_none rfl | (focus (simp only [go_sem, t0, t3, t4, t10, t11, t12]; done))); (focus (intro s_ hs_; simp only [go_sem, t0, t3, t4, t10, t11, t12, hs_] <;> rfl))) | (apply drawE_call; (focus rfl); (first | exact wantedV_none rfl | (focus (simp only [go_sem, t0, t3, t4, t10, t11, t12]; done))); (focus (simp only [go_sem, t0, t3, t4, t10, t11, t12] <;> rfl))) | (apply drawE_skip; (focus (simp only [go_sem, t0, t3, t4, t10, t11, t12]; done)); (focus assumption)) | (apply opsW_val; (first | exact wantedV_none rfl | (focus (simp only [go_sem, t0, t3, t4, t10, t11, t12]; done))); (focus (simp only [go_sem, t0, t3, t4, t10, t11, t12] <;> rfl))) | (apply opsW_call; (first | exact wantedV_none rfl | (focus (simp only [go_sem, t0, t3, t4, t10, t11, t12]; done))); (focus (simp only [go_sem, t0, t3, t4, t10, t11, t12] <;> rfl))) | (apply opsW_skip; (focus (simp only [go_sem, t0, t3, t4, t10, t11, t12]; done))) | refine blockQ_eq ?_ | (refine blockQ_ne ?_ ?_; (focus decide)))
      refine ⟨n - 1, by omega, i + 1, by omega, by simp only [go_sem, t0], by simp only [go_sem, t0, t3], by simp only [go_sem, t0, t4], by simp only [go_sem, t0, t10], by simp only [go_sem, t0, t11], by simp only [go_sem, t0, wrap_nat (Nat.lt_of_le_of_lt hlt hl)], ?_, ?_⟩
      · exact St.le_trans hs hs1
      · have ho : isOne m = false := by simpa using ho
        rw [← hc, hd, cmpK]
        simp [ho]
    · intro ho
      have ho : isOne m = true := by simpa using ho
      have ho2 : m ≠ 0 ∧ m < 6 ∧ m > -6 := by simpa [isOne] using ho
      have hA1 : ∀ s'', s1.le s'' → Ae.lds s'' s.nx 0 6 = some a.cells := fun s'' h => hA s'' (St.le_trans hs1 h)
      have hB1 : ∀ s'', s1.le s'' → Ae.lds s'' (s.nx + 1) 0 6 = some b.cells := fun s'' h => hB s'' (St.le_trans hs1 h)
      repeat (first | refine codeW_seq ?_ | refine codeW_skip ?_ | refine codeW_label ?_ | refine codeW_exit ?_ | refine codeW_ret ?_ | refine codeW_block ?_ | refine codeW_region ?_ | refine opsW_nil ?_ | refine drawE_nil ?_ | (refine codeW_drawE ?_ ?_; (focus kernel_rfl)) | (apply drawE_val; (focus rfl); (first | exact wantedV_none rfl | (focus (simp only [go_sem, t0, t3, t4, t10, t11, t12]; done))); (focus (intro s_ hs_; simp only [go_sem, t0, t3, t4, t10, t11, t12, hs_] <;> rfl))) | (apply drawE_call; (focus rfl); (first | exact wantedV_none rfl | (focus (simp only [go_sem, t0, t3, t4, t10, t11, t12]; done))); (focus (simp only [go_sem, t0, t3, t4, t10, t11, t12] <;> rfl))) | (apply drawE_skip; (focus (simp only [go_sem, t0, t3, t4, t10, t11, t12]; done)); (focus assumption)) | (apply opsW_val; (first | exact wantedV_none rfl | (focus (simp only [go_sem, t0, t3, t4, t10, t11, t12]; done))); (focus (simp only [go_sem, t0, t3, t4, t10, t11, t12] <;> rfl))) | (apply opsW_call; (first | exact wantedV_none rfl | (focus (simp only [go_sem, t0, t3, t4, t10, t11, t12]; done))); (focus (simp only [go_sem, t0, t3, t4, t10, t11, t12] <;> rfl))) | (apply opsW_skip; (focus (simp only [go_sem, t0, t3, t4, t10, t11, t12]; done))) | refine blockQ_eq ?_ | (refine blockQ_ne ?_ ?_; (focus decide)))
      refine codeW_if (b := _) (by simp only [go_sem, t0, t3, t4, t10, t11, t12]; rfl) ?_ ?_
      · intro hp
        have hp : 0 < m := by simpa using hp
        have e1 := idx43 hp ho2.2.1
        have e2 := fun args s => callV43 (args := args) (s := s) hp ho2.2.1
        repeat (first | refine codeW_seq ?_ | refine codeW_skip ?_ | refine codeW_label ?_ | refine codeW_exit ?_ | refine codeW_ret ?_ | refine codeW_block ?_ | refine codeW_region ?_ | refine opsW_nil ?_ | refine drawE_nil ?_ | (refine codeW_drawE ?_ ?_; (focus kernel_rfl)) | (apply drawE_val; (focus rfl); (first | exact wantedV_none rfl | (focus (simp only [go_sem, t0, t3, t4, t10, t11, t12, callF_20, hA1, hB1, load25, e1, e2]; done))); (focus (intro s_ hs_; simp only [go_sem, t0, t3, t4, t10, t11, t12, callF_20, hA1, hB1, load25, e1, e2, hs_] <;> rfl))) | (apply drawE_call; (focus rfl); (first | exact wantedV_none rfl | (focus (simp only [go_sem, t0, t3, t4, t10, t11, t12, callF_20, hA1, hB1, load25, e1, e2]; done))); (focus (simp only [go_sem, t0, t3, t4, t10, t11, t12, callF_20, hA1, hB1, load25, e1, e2] <;> rfl))) | (apply drawE_skip; (focus (simp only [go_sem, t0, t3, t4, t10, t11, t12, callF_20, hA1, hB1, load25, e1, e2]; done)); (focus assumption)) | (apply opsW_val; (first | exact wantedV_none rfl | (focus (simp only [go_sem, t0, t3, t4, t10, t11, t12, callF_20, hA1, hB1, load25, e1, e2]; done))); (focus (simp only [go_sem, t0, t3, t4, t10, t11, t12, callF_20, hA1, hB1, load25, e1, e2] <;> rfl))) | (apply opsW_call; (first | exact wantedV_none rfl | (focus (simp only [go_sem, t0, t3, t4, t10, t11, t12, callF_20, hA1, hB1, load25, e1, e2]; done))); (focus (simp only [go_sem, t0, t3, t4, t10, t11, t12, callF_20, hA1, hB1, load25, e1, e2] <;> rfl))) | (apply opsW_skip; (focus (simp only [go_sem, t0, t3, t4, t10, t11, t12, callF_20, hA1, hB1, load25, e1, e2]; done))) | refine blockQ_eq ?_ | (refine blockQ_ne ?_ ?_; (focus decide)) | refine asked_ok hH _ _ fun s2 hs2 => ⟨hs2, ?_⟩ | refine crit_ok hH hp ho2.2.1 a b _ _ fun s3 hs3 => ⟨St.le_trans (by assumption) hs3, ?_⟩)
        have hcr : cmpK a b l = if crit m a b ≠ 0 then crit m a b else cmpK a b (l.drop (i + 1)) := by
          rw [← hc, hd, cmpK]
          simp [ho, hp]
        refine codeW_if (b := _) (by simp only [go_sem, t0, t3, t4, t10, t11, t12]; rfl) ?_ ?_
        · intro hx
          have hx : crit m a b ≠ 0 := by simpa using hx
          repeat (first | refine codeW_seq ?_ | refine codeW_skip ?_ | refine codeW_label ?_ | refine codeW_exit ?_ | refine codeW_ret ?_ | refine codeW_block ?_ | refine codeW_region ?_ | refine opsW_nil ?_ | refine drawE_nil ?_ | (refine codeW_drawE ?_ ?_; (focus kernel_rfl)) | (apply drawE_val; (focus rfl); (first | exact wantedV_none rfl | (focus (simp only [go_sem, t0, t3, t4, t10, t11, t12]; done))); (focus (intro s_ hs_; simp only [go_sem, t0, t3, t4, t10, t11, t12, hs_] <;> rfl))) | (apply drawE_call; (focus rfl); (first | exact wantedV_none rfl | (focus (simp only [go_sem, t0, t3, t4, t10, t11, t12]; done))); (focus (simp only [go_sem, t0, t3, t4, t10, t11, t12] <;> rfl))) | (apply drawE_skip; (focus (simp only [go_sem, t0, t3, t4, t10, t11, t12]; done)); (focus assumption)) | (apply opsW_val; (first | exact wantedV_none rfl | (focus (simp only [go_sem, t0, t3, t4, t10, t11, t12]; done))); (focus (simp only [go_sem, t0, t3, t4, t10, t11, t12] <;> rfl))) | (apply opsW_call; (first | exact wantedV_none rfl | (focus (simp only [go_sem, t0, t3, t4, t10, t11, t12]; done))); (focus (simp only [go_sem, t0, t3, t4, t10, t11, t12] <;> rfl))) | (apply opsW_skip; (focus (simp only [go_sem, t0, t3, t4, t10, t11, t12]; done))) | refine blockQ_eq ?_ | (refine blockQ_ne ?_ ?_; (focus decide)))
          change bodyQ Try.prog Try.f25 Q Ex.ret _ _
          refine end_ret (fn := Try.f25) (t := 6) rfl (by simp only [go_sem, t0] <;> rfl) ?_
          rw [hcr, if_pos hx] at hQ
          exact hQ _ (St.le_trans hs0 (St.le_trans hs1 (St.le_trans hs2 hs3)))
        · intro hx
          have hx : crit m a b = 0 := by simpa using hx
          repeat (first | refine codeW_seq ?_ | refine codeW_skip ?_ | refine codeW_label ?_ | refine codeW_exit ?_ | refine codeW_ret ?_ | refine codeW_block ?_ | refine codeW_region ?_ | refine opsW_nil ?_ | refine drawE_nil ?_ | (refine codeW_drawE ?_ ?_; (focus kernel_rfl)) | (apply drawE_val; (focus rfl); (first | exact wantedV_none rfl | (focus (simp only [go_sem, t0, t3, t4, t10, t11, t12]; done))); (focus (intro s_ hs_; simp only [go_sem, t0, t3, t4, t10, t11, t12, hs_] <;> rfl))) | (apply drawE_call; (focus rfl); (first | exact wantedV_none rfl | (focus (simp only [go_sem, t0, t3, t4, t10, t11, t12]; done))); (focus (simp only [go_sem, t0, t3, t4, t10, t11, t12] <;> rfl))) | (apply drawE_skip; (focus (simp only [go_sem, t0, t3, t4, t10, t11, t12]; done)); (focus assumption)) | (apply opsW_val; (first | exact wantedV_none rfl | (focus (simp only [go_sem, t0, t3, t4, t10, t11, t12]; done))); (focus (simp only [go_sem, t0, t3, t4, t10, t11, t12] <;> rfl))) | (apply opsW_call; (first | exact wantedV_none rfl | (focus (simp only [go_sem, t0, t3, t4, t10, t11, t12]; done))); (focus (simp only [go_sem, t0, t3, t4, t10, t11, t12] <;> rfl))) | (apply opsW_skip; (focus (simp only [go_sem, t0, t3, t4, t10, t11, t12]; done))) | refine blockQ_eq ?_ | (refine blockQ_ne ?_ ?_; (focus decide)))
          refine ⟨n - 1, by omega, i + 1, by omega, by simp only [go_sem, t0], by simp only [go_sem, t0, t3], by simp only [go_sem, t0, t4], by simp only [go_sem, t0, t10], by simp only [go_sem, t0, t11], by simp only [go_sem, t0, wrap_nat (Nat.lt_of_le_of_lt hlt hl)], ?_, ?_⟩
          · exact St.le_trans hs (St.le_trans hs1 (St.le_trans hs2 hs3))
          · rw [hcr, if_neg (by simp [hx])]
      · intro hp
        have hp : ¬ 0 < m := by simpa using hp
        have hn : 0 < -m := by omega
        have hn' : -m < 6 := by omega
        have hw : IntKind.i64.wrap (0 - m) = -m := by
          have : m = -1 ∨ m = -2 ∨ m = -3 ∨ m = -4 ∨ m = -5 := by omega
          rcases this with rfl | rfl | rfl | rfl | rfl <;> decide
        have e1 := idx43 hn hn'
        have e2 := fun args s => callV43 (args := args) (s := s) hn hn'
        repeat (first | refine codeW_seq ?_ | refine codeW_skip ?_ | refine codeW_label ?_ | refine codeW_exit ?_ | refine codeW_ret ?_ | refine codeW_block ?_ | refine codeW_region ?_ | refine opsW_nil ?_ | refine drawE_nil ?_ | (refine codeW_drawE ?_ ?_; (focus kernel_rfl)) | (apply drawE_val; (focus rfl); (first | exact wantedV_none rfl | (focus (simp only [go_sem, t0, t3, t4, t10, t11, t12, callF_20, hA1, hB1, load25, hw, e1, e2]; done))); (focus (intro s_ hs_; simp only [go_sem, t0, t3, t4, t10, t11, t12, callF_20, hA1, hB1, load25, hw, e1, e2, hs_] <;> rfl))) | (apply drawE_call; (focus rfl); (first | exact wantedV_none rfl | (focus (simp only [go_sem, t0, t3, t4, t10, t11, t12, callF_20, hA1, hB1, load25, hw, e1, e2]; done))); (focus (simp only [go_sem, t0, t3, t4, t10, t11, t12, callF_20, hA1, hB1, load25, hw, e1, e2] <;> rfl))) | (apply drawE_skip; (focus (simp only [go_sem, t0, t3, t4, t10, t11, t12, callF_20, hA1, hB1, load25, hw, e1, e2]; done)); (focus assumption)) | (apply opsW_val; (first | exact wantedV_none rfl | (focus (simp only [go_sem, t0, t3, t4, t10, t11, t12, callF_20, hA1, hB1, load25, hw, e1, e2]; done))); (focus (simp only [go_sem, t0, t3, t4, t10, t11, t12, callF_20, hA1, hB1, load25, hw, e1, e2] <;> rfl))) | (apply opsW_call; (first | exact wantedV_none rfl | (focus (simp only [go_sem, t0, t3, t4, t10, t11, t12, callF_20, hA1, hB1, load25, hw, e1, e2]; done))); (focus (simp only [go_sem, t0, t3, t4, t10, t11, t12, callF_20, hA1, hB1, load25, hw, e1, e2] <;> rfl))) | (apply opsW_skip; (focus (simp only [go_sem, t0, t3, t4, t10, t11, t12, callF_20, hA1, hB1, load25, hw, e1, e2]; done))) | refine blockQ_eq ?_ | (refine blockQ_ne ?_ ?_; (focus decide)) | refine asked_ok hH _ _ fun s2 hs2 => ⟨hs2, ?_⟩ | refine crit_ok hH hn hn' b a _ _ fun s3 hs3 => ⟨St.le_trans (by assumption) hs3, ?_⟩)
        have hcr : cmpK a b l = if crit (-m) b a ≠ 0 then crit (-m) b a else cmpK a b (l.drop (i + 1)) := by
          rw [← hc, hd, cmpK]
          simp [ho, hp]
        refine codeW_if (b := _) (by simp only [go_sem, t0, t3, t4, t10, t11, t12]; rfl) ?_ ?_
        · intro hx
          have hx : crit (-m) b a ≠ 0 := by simpa using hx
          repeat (first | refine codeW_seq ?_ | refine codeW_skip ?_ | refine codeW_label ?_ | refine codeW_exit ?_ | refine codeW_ret ?_ | refine codeW_block ?_ | refine codeW_region ?_ | refine opsW_nil ?_ | refine drawE_nil ?_ | (refine codeW_drawE ?_ ?_; (focus kernel_rfl)) | (apply drawE_val; (focus rfl); (first | exact wantedV_none rfl | (focus (simp only [go_sem, t0, t3, t4, t10, t11, t12]; done))); (focus (intro s_ hs_; simp only [go_sem, t0, t3, t4, t10, t11, t12, hs_] <;> rfl))) | (apply drawE_call; (focus rfl); (first | exact wantedV_none rfl | (focus (simp only [go_sem, t0, t3, t4, t10, t11, t12]; done))); (focus (simp only [go_sem, t0, t3, t4, t10, t11, t12] <;> rfl))) | (apply drawE_skip; (focus (simp only [go_sem, t0, t3, t4, t10, t11, t12]; done)); (focus assumption)) | (apply opsW_val; (first | exact wantedV_none rfl | (focus (simp only [go_sem, t0, t3, t4, t10, t11, t12]; done))); (focus (simp only [go_sem, t0, t3, t4, t10, t11, t12] <;> rfl))) | (apply opsW_call; (first | exact wantedV_none rfl | (focus (simp only [go_sem, t0, t3, t4, t10, t11, t12]; done))); (focus (simp only [go_sem, t0, t3, t4, t10, t11, t12] <;> rfl))) | (apply opsW_skip; (focus (simp only [go_sem, t0, t3, t4, t10, t11, t12]; done))) | refine blockQ_eq ?_ | (refine blockQ_ne ?_ ?_; (focus decide)))
          change bodyQ Try.prog Try.f25 Q Ex.ret _ _
          refine end_ret (fn := Try.f25) (t := 6) rfl (by simp only [go_sem, t0] <;> rfl) ?_
          rw [hcr, if_pos hx] at hQ
          exact hQ _ (St.le_trans hs0 (St.le_trans hs1 (St.le_trans hs2 hs3)))
        · intro hx
          have hx : crit (-m) b a = 0 := by simpa using hx
          repeat (first | refine codeW_seq ?_ | refine codeW_skip ?_ | refine codeW_label ?_ | refine codeW_exit ?_ | refine codeW_ret ?_ | refine codeW_block ?_ | refine codeW_region ?_ | refine opsW_nil ?_ | refine drawE_nil ?_ | (refine codeW_drawE ?_ ?_; (focus kernel_rfl)) | (apply drawE_val; (focus rfl); (first | exact wantedV_none rfl | (focus (simp only [go_sem, t0, t3, t4, t10, t11, t12]; done))); (focus (intro s_ hs_; simp only [go_sem, t0, t3, t4, t10, t11, t12, hs_] <;> rfl))) | (apply drawE_call; (focus rfl); (first | exact wantedV_none rfl | (focus (simp only [go_sem, t0, t3, t4, t10, t11, t12]; done))); (focus (simp only [go_sem, t0, t3, t4, t10, t11, t12] <;> rfl))) | (apply drawE_skip; (focus (simp only [go_sem, t0, t3, t4, t10, t11, t12]; done)); (focus assumption)) | (apply opsW_val; (first | exact wantedV_none rfl | (focus (simp only [go_sem, t0, t3, t4, t10, t11, t12]; done))); (focus (simp only [go_sem, t0, t3, t4, t10, t11, t12] <;> rfl))) | (apply opsW_call; (first | exact wantedV_none rfl | (focus (simp only [go_sem, t0, t3, t4, t10, t11, t12]; done))); (focus (simp only [go_sem, t0, t3, t4, t10, t11, t12] <;> rfl))) | (apply opsW_skip; (focus (simp only [go_sem, t0, t3, t4, t10, t11, t12]; done))) | refine blockQ_eq ?_ | (refine blockQ_ne ?_ ?_; (focus decide)))
          refine ⟨n - 1, by omega, i + 1, by omega, by simp only [go_sem, t0], by simp only [go_sem, t0, t3], by simp only [go_sem, t0, t4], by simp only [go_sem, t0, t10], by simp only [go_sem, t0, t11], by simp only [go_sem, t0, wrap_nat (Nat.lt_of_le_of_lt hlt hl)], ?_, ?_⟩
          · exact St.le_trans hs (St.le_trans hs1 (St.le_trans hs2 hs3))
          · rw [hcr, if_neg (by simp [hx])]
  · intro hlt
    have hlt : l.length ≤ i := by simpa using hlt
    have hAi : Ae.ld s' s.nx 0 = some (.int .i64 a.id) := by
      rw [St.le.ld hs (by simp only [St.box_nx]; omega), St.le.ld (St.box_le _ _ _) (by simp only [St.box_nx]; omega), St.box_ld]
      rfl
    have hBi : Ae.ld s' (s.nx + 1) 0 = some (.int .i64 b.id) := by
      rw [St.le.ld hs (by simp only [St.box_nx]; omega)]
      exact (St.box_ld (s.box a.cells 25) b.cells 25 0)
    have hcr : cmpK a b l = cmpI a.id b.id := by
      rw [← hc, List.drop_eq_nil_of_le hlt, cmpK]
    repeat (first | refine codeW_seq ?_ | refine codeW_skip ?_ | refine codeW_label ?_ | refine codeW_exit ?_ | refine codeW_ret ?_ | refine codeW_block ?_ | refine codeW_region ?_ | refine opsW_nil ?_ | refine drawE_nil ?_ | (refine codeW_drawE ?_ ?_; (focus kernel_rfl)) | (apply drawE_val; (focus rfl); (first | exact wantedV_none rfl | (focus (simp only [go_sem, t0, t3, t4, t10, t11, t12, fa0, load3, hAi, hBi, callF_34]; done))); (focus (intro s_ hs_; simp only [go_sem, t0, t3, t4, t10, t11, t12, fa0, load3, hAi, hBi, callF_34, hs_] <;> rfl))) | (apply drawE_call; (focus rfl); (first | exact wantedV_none rfl | (focus (simp only [go_sem, t0, t3, t4, t10, t11, t12, fa0, load3, hAi, hBi, callF_34]; done))); (focus (simp only [go_sem, t0, t3, t4, t10, t11, t12, fa0, load3, hAi, hBi, callF_34] <;> rfl))) | (apply drawE_skip; (focus (simp only [go_sem, t0, t3, t4, t10, t11, t12, fa0, load3, hAi, hBi, callF_34]; done)); (focus assumption)) | (apply opsW_val; (first | exact wantedV_none rfl | (focus (simp only [go_sem, t0, t3, t4, t10, t11, t12, fa0, load3, hAi, hBi, callF_34]; done))); (focus (simp only [go_sem, t0, t3, t4, t10, t11, t12, fa0, load3, hAi, hBi, callF_34] <;> rfl))) | (apply opsW_call; (first | exact wantedV_none rfl | (focus (simp only [go_sem, t0, t3, t4, t10, t11, t12, fa0, load3, hAi, hBi, callF_34]; done))); (focus (simp only [go_sem, t0, t3, t4, t10, t11, t12, fa0, load3, hAi, hBi, callF_34] <;> rfl))) | (apply opsW_skip; (focus (simp only [go_sem, t0, t3, t4, t10, t11, t12, fa0, load3, hAi, hBi, callF_34]; done))) | refine blockQ_eq ?_ | (refine blockQ_ne ?_ ?_; (focus decide)) | refine compareI_ok hH _ _ _ _ ?_)
    refine end_ret (fn := Try.f25) (t := 6) rfl (by simp only [go_sem, t0] <;> rfl) ?_
    rw [hcr] at hQ
    exact hQ _ hs0
end Go.Proofs.Ytbkniippobnbpaa
