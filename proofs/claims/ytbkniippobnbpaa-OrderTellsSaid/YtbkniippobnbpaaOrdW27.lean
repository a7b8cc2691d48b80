/-
  Slices of keys in the laws: looking keys up.
-/
import Derived.Test.YtbkniippobnbpaaOrdW26
namespace Go.Proofs.Ytbkniippobnbpaa
open Go.Ae
set_option linter.unusedSimpArgs false
set_option maxHeartbeats 8000000

attribute [local go_sem] opV_move opV_assign opV_pick opV_alloc opV_box opV_build opV_buildSlice opV_load opV_store opV_nilCheck opV_unOp opV_binOp opV_makeInterface opV_makeFunc opV_makeSlice opV_slice opV_fieldAddr opV_field opV_indexAddr opV_index opV_extract opV_call oCall_value oCall_builtin oCallV_func bin_add bin_sub bin_mul bin_lss bin_leq bin_gtr bin_geq bin_eql bin_neq bins_lss bins_leq bins_gtr bins_geq bins_eql bins_neq binb_eql ret1_some ret2_some retU_some oBin_some oUn_some oPick_some oLoad_some oStore_some oBox_some oIndexAddr_some oIndex_some oExtract_some un_not un_neg cond_true cond_false beq_ft beq_tf Bool.not_true Bool.not_false wantedV opd_tmp opd_c opd ofV Fr.get_put_ne Fr.get_put_eq Fr.get_put_none Fr.put_n ne_eq not_false_eq_true Fr.only_get fr_get fr_n argsT T.get_set T.get_nil oField oFunc oNil oAlloc oBuild oBuildSlice mapO pairs okI_eq fnat_eq fint_eq List.getElem?_toArray List.getElem?_cons_zero List.getElem?_cons_succ Option.bind_some List.map List.length_cons List.length_nil Nat.reduceEqDiff Nat.reduceLT Nat.reduceAdd Nat.reduceMul Nat.zero_add Nat.add_zero Nat.max_def Nat.reduceLeDiff Nat.reduceLT and_true and_false true_and false_and if_true if_false ite_true ite_false Option.some.injEq reduceCtorEq decide_true decide_false bne_self_eq_false beq_self_eq_true seqQ List.append_nil List.nil_append List.cons_append newVar_eq cellsOf St.box_nx Option.map_some

theorem lds_ld {s : St} {b : Nat} : ∀ {n o : Nat} {L : List CV}, Ae.lds s b o n = some L → ∀ j, j < n → Ae.ld s b (o + j) = L[j]?
  | 0, o, L, _, j, hj => by omega
  | n + 1, o, L, h, j, hj => by
    simp only [Ae.lds] at h
    split at h
    · cases h
    · rename_i v hv
      split at h
      · cases h
      · rename_i A hA
        simp only [Option.some.injEq] at h
        subst h
        cases j with
        | zero => rw [Nat.add_zero, hv]; rfl
        | succ j =>
          have := lds_ld hA j (by omega)
          rw [show o + (j + 1) = o + 1 + j by omega, this]; rfl

theorem len22k {s : St} {v : CV} {L : List K} (h : KeySl s v L) (s' : St) : builtinV Try.prog s' .len #[22] [v] = some (.val (.int .i64 L.length) s') := by
  rcases h with ⟨rfl, rfl⟩ | ⟨b, o, c, rfl, -⟩
  · simp only [builtinV, lenV, List.getElem?_toArray, List.getElem?_cons_zero, Try.underlying22]; rfl
  · simp only [builtinV, lenV, List.getElem?_toArray, List.getElem?_cons_zero, Try.underlying22]; rfl

theorem keyAt {s : St} {v : CV} {L : List K} (h : KeySl s v L) {i : Nat} {k : K} (hi : L[i]? = some k) :
    ∃ b o, indexAt Try.prog 22 v (.int .i64 i) = some (.ptr b o) ∧ b < s.nx ∧ (∀ s', s.le s' → Ae.loadVar Try.prog s' 25 b o = some k.cv) ∧ (∀ s', s.le s' → Ae.ld s' b o = some (.int .i64 k.id)) := by
  obtain ⟨hlt, -⟩ := List.getElem?_eq_some_iff.1 hi
  rcases h with ⟨rfl, rfl⟩ | ⟨b, o, c, rfl, hb, h3⟩
  · simp at hlt
  · refine ⟨b, o + i * 6, ?_, hb, fun s' hs => ?_, fun s' hs => ?_⟩
    · have h1 : decide ((0 : Int) ≤ (i : Int)) = true := by simp
      have h2 : decide ((i : Int) < (L.length : Nat)) = true := by simpa using hlt
      simp only [indexAt, Try.underlying22, sz25, h1, h2, fnat_eq, Int.toNat_natCast]
    · rw [load25, hs.lds hb, h3 i k hi]; rfl
    · rw [hs.ld hb]
      have := lds_ld (h3 i k hi) 0 (by decide)
      rw [Nat.add_zero] at this
      rw [this]; rfl

theorem few_ok (v : CV) (L : List K) (s : St) (hv : KeySl s v L) (Q : CV → St → Prop) (hQ : Q (.bool (decide ((L.length : Int) ≤ 60))) s) : callW Try.prog Hk 9 [v] s Q := by
  refine callW_enter (fn := Try.f9) (freeHk _ _ _ (by decide)) Try.func9 rfl ?_
  simp only [Try.ntmps9]
  repeat (first | refine codeW_seq ?_ | refine codeW_skip ?_ | refine codeW_label ?_ | refine codeW_exit ?_ | refine codeW_ret ?_ | refine codeW_block ?_ | refine codeW_region ?_ | refine opsW_nil ?_ | refine drawE_nil ?_ | (refine codeW_drawS ?_ ?_; (focus kernel_rfl)) | (refine codeW_drawE ?_ ?_; (focus kernel_rfl)) | (apply drawE_val; (focus rfl); (first | exact wantedV_none rfl | (focus (simp only [go_sem, len22k hv]; done))); (focus (intro s_ hs_; simp only [go_sem, len22k hv, hs_] <;> rfl))) | (apply drawE_call; (focus rfl); (first | exact wantedV_none rfl | (focus (simp only [go_sem, len22k hv]; done))); (focus (simp only [go_sem, len22k hv] <;> rfl))) | (apply drawE_skip; (focus (simp only [go_sem, len22k hv]; done)); (focus (first | assumption | exact St.le_refl _))) | (apply opsW_val; (first | exact wantedV_none rfl | (focus (simp only [go_sem, len22k hv]; done))); (focus (simp only [go_sem, len22k hv] <;> rfl))) | (apply opsW_call; (first | exact wantedV_none rfl | (focus (simp only [go_sem, len22k hv]; done))); (focus (simp only [go_sem, len22k hv] <;> rfl))) | (apply opsW_skip; (focus (simp only [go_sem, len22k hv]; done))) | refine blockQ_eq ?_ | (refine blockQ_ne ?_ ?_; (focus decide)))
  first
    | exact end_ret (fn := Try.f9) (t := 2) rfl (by simp only [go_sem] <;> rfl) hQ
    | exact end_norm (fn := Try.f9) (t := 2) rfl (by simp only [go_sem] <;> rfl) hQ

theorem key_ok (v : CV) (L : List K) (hL : L.length ≤ 1000) (i : Nat) (k : K) (hi : L[i]? = some k) (hno : ∀ (j : Nat) (k' : K), j < i → L[j]? = some k' → k'.id ≠ k.id) (s : St) (hv : KeySl s v L) (Q : CV → St → Prop)
    (hQ : ∀ s', s.le s' → Q (.tuple [k.cv, .bool true]) s') : callW Try.prog Hk 19 [v, .int .i64 k.id] s Q := by
  refine callW_enter (fn := Try.f19) (freeHk _ _ _ (by decide)) Try.func19 rfl ?_
  simp only [Try.ntmps19]
  have hilt := (List.getElem?_eq_some_iff.1 hi).1
  obtain ⟨s1, hs1⟩ : ∃ s1, s.box zk 25 = s1 := ⟨_, rfl⟩
  have hle1 : s.le s1 := by rw [← hs1]; exact St.box_le _ _ _
  obtain ⟨s5, g1, g2, g3⟩ := (Has.box s zk 25).stos (vs := k.cells) (o := 0) (Nat.le_refl 6) (Nat.le_refl _) (by simp [K.cells, scalar])
  have g2 : Has s5 s.nx k.cells 0 true 1 false 25 := g2
  rw [hs1] at g1 g3
  have g1' : Ae.storeVar Try.prog s1 25 s.nx 0 k.cv = some s5 := by rw [K.cv, store25]; exact g1
  have hle5 : s.le s5 := g3.le hle1 (Nat.le_refl _)
  have hld : Ae.loadVar Try.prog s5 25 s.nx 0 = some k.cv := by rw [load25, g2.lds (n := 6) (o := 0) (Nat.le_refl 6)]; rfl
  repeat (first | refine codeW_seq ?_ | refine codeW_skip ?_ | refine codeW_label ?_ | refine codeW_exit ?_ | refine codeW_ret ?_ | refine codeW_block ?_ | refine codeW_region ?_ | refine opsW_nil ?_ | refine drawE_nil ?_ | (refine codeW_drawS ?_ ?_; (focus kernel_rfl)) | (refine codeW_drawE ?_ ?_; (focus kernel_rfl)) | (apply drawE_val; (focus rfl); (first | exact wantedV_none rfl | (focus (simp only [go_sem, zero25, hs1]; done))); (focus (intro s_ hs_; simp only [go_sem, zero25, hs1, hs_] <;> rfl))) | (apply drawE_call; (focus rfl); (first | exact wantedV_none rfl | (focus (simp only [go_sem, zero25, hs1]; done))); (focus (simp only [go_sem, zero25, hs1] <;> rfl))) | (apply drawE_skip; (focus (simp only [go_sem, zero25, hs1]; done)); (focus (first | assumption | exact St.le_refl _))) | (apply opsW_val; (first | exact wantedV_none rfl | (focus (simp only [go_sem, zero25, hs1]; done))); (focus (simp only [go_sem, zero25, hs1] <;> rfl))) | (apply opsW_call; (first | exact wantedV_none rfl | (focus (simp only [go_sem, zero25, hs1]; done))); (focus (simp only [go_sem, zero25, hs1] <;> rfl))) | (apply opsW_skip; (focus (simp only [go_sem, zero25, hs1]; done))) | refine blockQ_eq ?_ | (refine blockQ_ne ?_ ?_; (focus decide)))
  refine codeW_inv (fun q τ s' => ∃ j : Nat, j + q = i ∧ s1 = s' ∧ τ.n = 25 ∧ τ.get 0 = some v ∧ τ.get 1 = some (.int .i64 k.id) ∧ τ.get 4 = some (.ptr s.nx 0) ∧ τ.get 6 = some (.int .i64 j)) ?_ i _ _
    ⟨0, by omega, rfl, by simp only [go_sem] <;> rfl, by simp only [go_sem] <;> rfl, by simp only [go_sem] <;> rfl, by simp only [go_sem] <;> rfl, by simp only [go_sem] <;> rfl⟩
  rintro q τ s' ⟨j, hj, rfl, t0, ta, tb, t4, t6⟩
  obtain ⟨k', hk'⟩ : ∃ k', L[j]? = some k' := ⟨_, List.getElem?_eq_getElem (by omega)⟩
  obtain ⟨bb, oo, e1, e2, e3, e4⟩ := keyAt hv hk'
  have d1 : decide ((j : Int) < (L.length : Nat)) = true := decide_eq_true (by omega)
  have l1 := e3 s1 hle1
  have l2 := e4 s1 hle1
  by_cases hji : j = i
  · subst hji
    rw [hi] at hk'
    cases hk'
    have d2 : (k.id == k.id) = true := by simp
    repeat (first | refine codeW_seq ?_ | refine codeW_skip ?_ | refine codeW_label ?_ | refine codeW_exit ?_ | refine codeW_ret ?_ | refine codeW_block ?_ | refine codeW_region ?_ | refine opsW_nil ?_ | refine drawE_nil ?_ | (refine codeW_drawS ?_ ?_; (focus kernel_rfl)) | (refine codeW_drawE ?_ ?_; (focus kernel_rfl)) | (apply drawE_val; (focus rfl); (first | exact wantedV_none rfl | (focus (simp only [go_sem, t0, ta, tb, t4, t6, len22k hv, d1]; done))); (focus (intro s_ hs_; simp only [go_sem, t0, ta, tb, t4, t6, len22k hv, d1, hs_] <;> rfl))) | (apply drawE_call; (focus rfl); (first | exact wantedV_none rfl | (focus (simp only [go_sem, t0, ta, tb, t4, t6, len22k hv, d1]; done))); (focus (simp only [go_sem, t0, ta, tb, t4, t6, len22k hv, d1] <;> rfl))) | (apply drawE_skip; (focus (simp only [go_sem, t0, ta, tb, t4, t6, len22k hv, d1]; done)); (focus (first | assumption | exact St.le_refl _))) | (apply opsW_val; (first | exact wantedV_none rfl | (focus (simp only [go_sem, t0, ta, tb, t4, t6, len22k hv, d1]; done))); (focus (simp only [go_sem, t0, ta, tb, t4, t6, len22k hv, d1] <;> rfl))) | (apply opsW_call; (first | exact wantedV_none rfl | (focus (simp only [go_sem, t0, ta, tb, t4, t6, len22k hv, d1]; done))); (focus (simp only [go_sem, t0, ta, tb, t4, t6, len22k hv, d1] <;> rfl))) | (apply opsW_skip; (focus (simp only [go_sem, t0, ta, tb, t4, t6, len22k hv, d1]; done))) | refine blockQ_eq ?_ | (refine blockQ_ne ?_ ?_; (focus decide)))
    refine codeW_if (b := _) (by simp only [go_sem, t0]; rfl) ?_ ?_
    rotate_left
    · intro h; cases h
    intro _
    repeat (first | refine codeW_seq ?_ | refine codeW_skip ?_ | refine codeW_label ?_ | refine codeW_exit ?_ | refine codeW_ret ?_ | refine codeW_block ?_ | refine codeW_region ?_ | refine opsW_nil ?_ | refine drawE_nil ?_ | (refine codeW_drawS ?_ ?_; (focus kernel_rfl)) | (refine codeW_drawE ?_ ?_; (focus kernel_rfl)) | (apply drawE_val; (focus rfl); (first | exact wantedV_none rfl | (focus (simp only [go_sem, t0, ta, tb, t4, t6, e1, fa0, load3, l2, d2]; done))); (focus (intro s_ hs_; simp only [go_sem, t0, ta, tb, t4, t6, e1, fa0, load3, l2, d2, hs_] <;> rfl))) | (apply drawE_call; (focus rfl); (first | exact wantedV_none rfl | (focus (simp only [go_sem, t0, ta, tb, t4, t6, e1, fa0, load3, l2, d2]; done))); (focus (simp only [go_sem, t0, ta, tb, t4, t6, e1, fa0, load3, l2, d2] <;> rfl))) | (apply drawE_skip; (focus (simp only [go_sem, t0, ta, tb, t4, t6, e1, fa0, load3, l2, d2]; done)); (focus (first | assumption | exact St.le_refl _))) | (apply opsW_val; (first | exact wantedV_none rfl | (focus (simp only [go_sem, t0, ta, tb, t4, t6, e1, fa0, load3, l2, d2]; done))); (focus (simp only [go_sem, t0, ta, tb, t4, t6, e1, fa0, load3, l2, d2] <;> rfl))) | (apply opsW_call; (first | exact wantedV_none rfl | (focus (simp only [go_sem, t0, ta, tb, t4, t6, e1, fa0, load3, l2, d2]; done))); (focus (simp only [go_sem, t0, ta, tb, t4, t6, e1, fa0, load3, l2, d2] <;> rfl))) | (apply opsW_skip; (focus (simp only [go_sem, t0, ta, tb, t4, t6, e1, fa0, load3, l2, d2]; done))) | refine blockQ_eq ?_ | (refine blockQ_ne ?_ ?_; (focus decide)))
    refine codeW_if (b := _) (by simp only [go_sem, t0]; rfl) ?_ ?_
    rotate_left
    · intro h; cases h
    intro _
    repeat (first | refine codeW_seq ?_ | refine codeW_skip ?_ | refine codeW_label ?_ | refine codeW_exit ?_ | refine codeW_ret ?_ | refine codeW_block ?_ | refine codeW_region ?_ | refine opsW_nil ?_ | refine drawE_nil ?_ | (refine codeW_drawS ?_ ?_; (focus kernel_rfl)) | (refine codeW_drawE ?_ ?_; (focus kernel_rfl)) | (apply drawE_val; (focus rfl); (first | exact wantedV_none rfl | (focus (simp only [go_sem, t0, ta, tb, t4, t6, e1, l1, g1']; done))); (focus (intro s_ hs_; simp only [go_sem, t0, ta, tb, t4, t6, e1, l1, g1', hs_] <;> rfl))) | (apply drawE_call; (focus rfl); (first | exact wantedV_none rfl | (focus (simp only [go_sem, t0, ta, tb, t4, t6, e1, l1, g1']; done))); (focus (simp only [go_sem, t0, ta, tb, t4, t6, e1, l1, g1'] <;> rfl))) | (apply drawE_skip; (focus (simp only [go_sem, t0, ta, tb, t4, t6, e1, l1, g1']; done)); (focus (first | assumption | exact St.le_refl _))) | (apply opsW_val; (first | exact wantedV_none rfl | (focus (simp only [go_sem, t0, ta, tb, t4, t6, e1, l1, g1']; done))); (focus (simp only [go_sem, t0, ta, tb, t4, t6, e1, l1, g1'] <;> rfl))) | (apply opsW_call; (first | exact wantedV_none rfl | (focus (simp only [go_sem, t0, ta, tb, t4, t6, e1, l1, g1']; done))); (focus (simp only [go_sem, t0, ta, tb, t4, t6, e1, l1, g1'] <;> rfl))) | (apply opsW_skip; (focus (simp only [go_sem, t0, ta, tb, t4, t6, e1, l1, g1']; done))) | refine blockQ_eq ?_ | (refine blockQ_ne ?_ ?_; (focus decide)))
    change bodyQ Try.prog Try.f19 Q Ex.ret _ _
    refine ⟨.tuple [k.cv, .bool true], ?_, hQ s5 hle5⟩
    have h5 : Try.f19.results = #[.cell 4 25, .tmp 5] := rfl
    simp only [Ae.results, h5, mapO, go_sem, t0, t4, hld]
  · have d2 : (k'.id == k.id) = false := by simpa using hno j k' (by omega) hk'
    have w := wrap_nat (show j + 1 < 9223372036854775808 by omega)
    repeat (first | refine codeW_seq ?_ | refine codeW_skip ?_ | refine codeW_label ?_ | refine codeW_exit ?_ | refine codeW_ret ?_ | refine codeW_block ?_ | refine codeW_region ?_ | refine opsW_nil ?_ | refine drawE_nil ?_ | (refine codeW_drawS ?_ ?_; (focus kernel_rfl)) | (refine codeW_drawE ?_ ?_; (focus kernel_rfl)) | (apply drawE_val; (focus rfl); (first | exact wantedV_none rfl | (focus (simp only [go_sem, t0, ta, tb, t4, t6, len22k hv, d1]; done))); (focus (intro s_ hs_; simp only [go_sem, t0, ta, tb, t4, t6, len22k hv, d1, hs_] <;> rfl))) | (apply drawE_call; (focus rfl); (first | exact wantedV_none rfl | (focus (simp only [go_sem, t0, ta, tb, t4, t6, len22k hv, d1]; done))); (focus (simp only [go_sem, t0, ta, tb, t4, t6, len22k hv, d1] <;> rfl))) | (apply drawE_skip; (focus (simp only [go_sem, t0, ta, tb, t4, t6, len22k hv, d1]; done)); (focus (first | assumption | exact St.le_refl _))) | (apply opsW_val; (first | exact wantedV_none rfl | (focus (simp only [go_sem, t0, ta, tb, t4, t6, len22k hv, d1]; done))); (focus (simp only [go_sem, t0, ta, tb, t4, t6, len22k hv, d1] <;> rfl))) | (apply opsW_call; (first | exact wantedV_none rfl | (focus (simp only [go_sem, t0, ta, tb, t4, t6, len22k hv, d1]; done))); (focus (simp only [go_sem, t0, ta, tb, t4, t6, len22k hv, d1] <;> rfl))) | (apply opsW_skip; (focus (simp only [go_sem, t0, ta, tb, t4, t6, len22k hv, d1]; done))) | refine blockQ_eq ?_ | (refine blockQ_ne ?_ ?_; (focus decide)))
    refine codeW_if (b := _) (by simp only [go_sem, t0]; rfl) ?_ ?_
    rotate_left
    · intro h; cases h
    intro _
    repeat (first | refine codeW_seq ?_ | refine codeW_skip ?_ | refine codeW_label ?_ | refine codeW_exit ?_ | refine codeW_ret ?_ | refine codeW_block ?_ | refine codeW_region ?_ | refine opsW_nil ?_ | refine drawE_nil ?_ | (refine codeW_drawS ?_ ?_; (focus kernel_rfl)) | (refine codeW_drawE ?_ ?_; (focus kernel_rfl)) | (apply drawE_val; (focus rfl); (first | exact wantedV_none rfl | (focus (simp only [go_sem, t0, ta, tb, t4, t6, e1, fa0, load3, l2, d2]; done))); (focus (intro s_ hs_; simp only [go_sem, t0, ta, tb, t4, t6, e1, fa0, load3, l2, d2, hs_] <;> rfl))) | (apply drawE_call; (focus rfl); (first | exact wantedV_none rfl | (focus (simp only [go_sem, t0, ta, tb, t4, t6, e1, fa0, load3, l2, d2]; done))); (focus (simp only [go_sem, t0, ta, tb, t4, t6, e1, fa0, load3, l2, d2] <;> rfl))) | (apply drawE_skip; (focus (simp only [go_sem, t0, ta, tb, t4, t6, e1, fa0, load3, l2, d2]; done)); (focus (first | assumption | exact St.le_refl _))) | (apply opsW_val; (first | exact wantedV_none rfl | (focus (simp only [go_sem, t0, ta, tb, t4, t6, e1, fa0, load3, l2, d2]; done))); (focus (simp only [go_sem, t0, ta, tb, t4, t6, e1, fa0, load3, l2, d2] <;> rfl))) | (apply opsW_call; (first | exact wantedV_none rfl | (focus (simp only [go_sem, t0, ta, tb, t4, t6, e1, fa0, load3, l2, d2]; done))); (focus (simp only [go_sem, t0, ta, tb, t4, t6, e1, fa0, load3, l2, d2] <;> rfl))) | (apply opsW_skip; (focus (simp only [go_sem, t0, ta, tb, t4, t6, e1, fa0, load3, l2, d2]; done))) | refine blockQ_eq ?_ | (refine blockQ_ne ?_ ?_; (focus decide)))
    refine codeW_if (b := _) (by simp only [go_sem, t0]; rfl) ?_ ?_
    · intro h; cases h
    intro _
    repeat (first | refine codeW_seq ?_ | refine codeW_skip ?_ | refine codeW_label ?_ | refine codeW_exit ?_ | refine codeW_ret ?_ | refine codeW_block ?_ | refine codeW_region ?_ | refine opsW_nil ?_ | refine drawE_nil ?_ | (refine codeW_drawS ?_ ?_; (focus kernel_rfl)) | (refine codeW_drawE ?_ ?_; (focus kernel_rfl)) | (apply drawE_val; (focus rfl); (first | exact wantedV_none rfl | (focus (simp only [go_sem, t0, ta, tb, t4, t6, w]; done))); (focus (intro s_ hs_; simp only [go_sem, t0, ta, tb, t4, t6, w, hs_] <;> rfl))) | (apply drawE_call; (focus rfl); (first | exact wantedV_none rfl | (focus (simp only [go_sem, t0, ta, tb, t4, t6, w]; done))); (focus (simp only [go_sem, t0, ta, tb, t4, t6, w] <;> rfl))) | (apply drawE_skip; (focus (simp only [go_sem, t0, ta, tb, t4, t6, w]; done)); (focus (first | assumption | exact St.le_refl _))) | (apply opsW_val; (first | exact wantedV_none rfl | (focus (simp only [go_sem, t0, ta, tb, t4, t6, w]; done))); (focus (simp only [go_sem, t0, ta, tb, t4, t6, w] <;> rfl))) | (apply opsW_call; (first | exact wantedV_none rfl | (focus (simp only [go_sem, t0, ta, tb, t4, t6, w]; done))); (focus (simp only [go_sem, t0, ta, tb, t4, t6, w] <;> rfl))) | (apply opsW_skip; (focus (simp only [go_sem, t0, ta, tb, t4, t6, w]; done))) | refine blockQ_eq ?_ | (refine blockQ_ne ?_ ?_; (focus decide)))
    exact ⟨q - 1, by omega, j + 1, by omega, rfl, by simp only [go_sem, t0], by simp only [go_sem, t0, ta], by simp only [go_sem, t0, tb], by simp only [go_sem, t0, t4], by simp only [go_sem, t0, t6, w]⟩

theorem one22 (s : St) (k : K) : buildSliceV Try.prog s 22 1 [(0, k.cv)] = some (.slice s.nx 0 1 1, s.box k.cells 25) := by
  have h1 : Nat.ble (1 * 6) 16777216 = true := rfl
  have h2 : Nat.beq (cellsOf (.agg zk)).length 6 = true := rfl
  have h3 : fillL (fun i => some (i * 6, 6)) ((List.range (1 * 6)).map fun i => (cellsOf (.agg zk)).getD (i % 6) .nilptr) [(0, k.cv)] = some k.cells := rfl
  simp only [buildSliceV, Try.underlying22, sz25, zero25, h1, h2, h3, newCells_eq]
  rfl

theorem one_KeySl (s : St) (k : K) : KeySl (s.box k.cells 25) (.slice s.nx 0 1 1) [k] :=
  .inr ⟨s.nx, 0, 1, rfl, Nat.lt_succ_self _, fun i m hi => by
    cases i with
    | zero =>
      simp at hi; subst hi
      exact St.box_lds s k.cells 25
    | succ i => simp at hi⟩
end Go.Proofs.Ytbkniippobnbpaa
