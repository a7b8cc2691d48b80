/-
  Sort of the program, whole.
-/
import Derived.Test.YtbkniippobnbpaaOrdW25
namespace Go.Proofs.Ytbkniippobnbpaa
open Go.Ae
set_option linter.unusedSimpArgs false
set_option maxHeartbeats 8000000

attribute [local go_sem] opV_move opV_assign opV_pick opV_alloc opV_box opV_build opV_buildSlice opV_load opV_store opV_nilCheck opV_unOp opV_binOp opV_makeInterface opV_makeFunc opV_makeSlice opV_slice opV_fieldAddr opV_field opV_indexAddr opV_index opV_extract opV_call oCall_value oCall_builtin oCallV_func bin_add bin_sub bin_mul bin_lss bin_leq bin_gtr bin_geq bin_eql bin_neq bins_lss bins_leq bins_gtr bins_geq bins_eql bins_neq binb_eql ret1_some ret2_some retU_some oBin_some oUn_some oPick_some oLoad_some oStore_some oBox_some oIndexAddr_some oIndex_some oExtract_some un_not un_neg cond_true cond_false beq_ft beq_tf Bool.not_true Bool.not_false wantedV opd_tmp opd_c opd ofV Fr.get_put_ne Fr.get_put_eq Fr.get_put_none Fr.put_n ne_eq not_false_eq_true Fr.only_get fr_get fr_n argsT T.get_set T.get_nil oField oFunc oNil oAlloc oBuild oBuildSlice mapO pairs okI_eq fnat_eq fint_eq List.getElem?_toArray List.getElem?_cons_zero List.getElem?_cons_succ Option.bind_some List.map List.length_cons List.length_nil Nat.reduceEqDiff Nat.reduceLT Nat.reduceAdd Nat.reduceMul Nat.zero_add Nat.add_zero Nat.max_def Nat.reduceLeDiff Nat.reduceLT and_true and_false true_and false_and if_true if_false ite_true ite_false Option.some.injEq reduceCtorEq decide_true decide_false bne_self_eq_false beq_self_eq_true seqQ List.append_nil List.nil_append List.cons_append newVar_eq cellsOf St.box_nx Option.map_some

theorem KArr.of_get {s₀ s s' : St} {b : Nat} {L : List K} (h : KArr s₀ s b L) (hle : s₀.le s') (hlt : b < s'.nx) (hget : s'.h.get b = s.h.get b) : KArr s₀ s' b L := by
  obtain ⟨ex, esz, hh⟩ := h.has
  exact ⟨hle, h.own, hlt, ex, esz, hh.of_get hget⟩

theorem mk23 (s : St) (n : Nat) (hn : n ≤ 1000) : ∃ s', makeSlice Try.prog s 23 (.int .i64 n) (.int .i64 n) = some (.slice s.nx 0 n n, s') ∧ Has s' s.nx (ints (List.replicate n 0)) 0 true 1 false 3 ∧ s.le s' ∧ s'.nx = s.nx + 1 := by
  obtain ⟨ie, h1, h2, h3, h4⟩ := info3
  have hz : (ie.zero).bind (ofV 4) = some (.int .i64 0) := by
    have := zero3
    simp only [Ae.zeroOf, h1, Option.bind_some] at this
    exact this
  have d1 : decide ((0 : Int) ≤ (n : Int)) = true := decide_eq_true (by omega)
  have d2 : decide ((n : Int) ≤ (n : Int)) = true := decide_eq_true (by omega)
  have d3 : decide ((ie.bytes : Int) * (n : Int) ≤ 1000000000000) = true := decide_eq_true (by rw [h3]; omega)
  have d4 : decide ((n : Int) ≤ 1000000000000) = true := decide_eq_true (by omega)
  refine ⟨{ h := s.h.set s.nx (.cells (.tab (n * ie.size) fun i => [CV.int .i64 0].getD (i % ie.size) .nilptr) (n * ie.size) true 1 0 false 3), nx := s.nx + 1 }, ?_, ⟨T.tab (n * ie.size) fun i => [CV.int .i64 0].getD (i % ie.size) .nilptr, ?_, fun i hi => ?_⟩, ⟨Nat.le_succ _, fun c hc => ?_⟩, rfl⟩
  · simp only [makeSlice, Try.underlying23, h1, d1, d2, d3, d4, hz, h4, cellsOf, Ae.newObj, fnat_eq, Int.toNat_natCast]
  · simp only [T.get_set, if_true, h2, Nat.mul_one, ints, List.length_map, List.length_replicate]
  · simp only [ints, List.length_map, List.length_replicate] at hi
    rw [T.get_tab, if_pos (by simpa [h2] using hi)]
    simp [ints, hi, h2, Nat.mod_one]
  · show (s.h.set s.nx _).get c = _
    rw [T.get_set_ne _ _ (by omega)]

theorem at23' (b n : Nat) {i : Nat} (hi : i < n) : indexAt Try.prog 23 (.slice b 0 n n) (.int .i64 i) = some (.ptr b i) := by
  have h1 : decide ((0 : Int) ≤ (i : Int)) = true := by simp
  have h2 : decide ((i : Int) < (n : Nat)) = true := by simpa using hi
  simp only [indexAt, Try.underlying23, sz3, h1, h2, fnat_eq, Int.toNat_natCast, Nat.zero_add, Nat.mul_one]

theorem oMakeSlice_some (s : St) (t : TypeId) (l c : CV) : oMakeSlice Try.prog s t (some l) (some c) = ret2 (makeSlice Try.prog s t l c) := rfl

theorem intsHas {s : St} {b n : Nat} {l : List Int} (h : Has s b (ints l) 0 true 1 false 3) (hb : b < s.nx) (hn : n = l.length) : IntSl s (.slice b 0 n n) l := by
  subst hn
  refine .inr ⟨b, 0, _, rfl, hb, fun i m hi => ?_⟩
  have hlt := (List.getElem?_eq_some_iff.1 hi).1
  rw [Nat.zero_add, h.ld (by simpa [ints] using hlt)]
  simp [ints, hi]

theorem sort_ok (v vb : CV) (L : List K) (l : List Int) (hL : L.length ≤ 1000) (hl : l.length < 9223372036854775808) (s : St) (hv : KeySl s v L) (hb : IntSl s vb l) (Q : CV → St → Prop)
    (hQ : ∀ v' s' L', s.le s' → L'.Perm L → Srt l L' → IntSl s' v' (L'.map K.id) → Q v' s') : callW Try.prog Hk 15 [v, vb] s Q := by
  refine callW_enter (fn := Try.f15) (freeHk _ _ _ (by decide)) Try.func15 rfl ?_
  simp only [Try.ntmps15]
  have hcb : cellsOf vb = [vb] := by
    rcases hb with ⟨rfl, -⟩ | ⟨b, o, c, rfl, -⟩ <;> rfl
  have hcb2 := hcb
  simp only [cellsOf] at hcb2
  obtain ⟨sB, hsB⟩ : ∃ sB, s.box [vb] 23 = sB := ⟨_, rfl⟩
  have hle0 : s.le sB := by rw [← hsB]; exact St.box_le _ _ _
  have hnB : sB.nx = s.nx + 1 := by rw [← hsB]; rfl
  have hf : CmpF sB (.func (.func 29) [] [.ptr s.nx 0]) l := ⟨⟨s.nx, vb, rfl, by omega, by rw [← hsB, St.box_ld]; rfl, hb.le hle0⟩, hl⟩
  repeat (first | refine codeW_seq ?_ | refine codeW_skip ?_ | refine codeW_label ?_ | refine codeW_exit ?_ | refine codeW_ret ?_ | refine codeW_block ?_ | refine codeW_region ?_ | refine opsW_nil ?_ | refine drawE_nil ?_ | (refine codeW_drawS ?_ ?_; (focus kernel_rfl)) | (refine codeW_drawE ?_ ?_; (focus kernel_rfl)) | (apply drawE_val; (focus rfl); (first | exact wantedV_none rfl | (focus (simp only [go_sem, hcb2, hsB, callF_27]; done))); (focus (intro s_ hs_; simp only [go_sem, hcb2, hsB, callF_27, hs_] <;> rfl))) | (apply drawE_call; (focus rfl); (first | exact wantedV_none rfl | (focus (simp only [go_sem, hcb2, hsB, callF_27]; done))); (focus (simp only [go_sem, hcb2, hsB, callF_27] <;> rfl))) | (apply drawE_skip; (focus (simp only [go_sem, hcb2, hsB, callF_27]; done)); (focus (first | assumption | exact St.le_refl _))) | (apply opsW_val; (first | exact wantedV_none rfl | (focus (simp only [go_sem, hcb2, hsB, callF_27]; done))); (focus (simp only [go_sem, hcb2, hsB, callF_27] <;> rfl))) | (apply opsW_call; (first | exact wantedV_none rfl | (focus (simp only [go_sem, hcb2, hsB, callF_27]; done))); (focus (simp only [go_sem, hcb2, hsB, callF_27] <;> rfl))) | (apply opsW_skip; (focus (simp only [go_sem, hcb2, hsB, callF_27]; done))) | refine blockQ_eq ?_ | (refine blockQ_ne ?_ ?_; (focus decide)) | refine cloneK_ok v L (by omega) _ (hv.le hle0) _ (fun v1 s1 hacc => ?_))
  rcases accKArr hacc with ⟨rfl, rfl⟩ | ⟨b, rfl, hK⟩
  · obtain ⟨s3, e3, h3, hle3, hn3⟩ := mk23 s1 0 (by omega)
    have d0 : decide (((0 : Nat) : Int) < ((0 : Nat) : Int)) = false := by decide
    repeat (first | refine codeW_seq ?_ | refine codeW_skip ?_ | refine codeW_label ?_ | refine codeW_exit ?_ | refine codeW_ret ?_ | refine codeW_block ?_ | refine codeW_region ?_ | refine opsW_nil ?_ | refine drawE_nil ?_ | (refine codeW_drawS ?_ ?_; (focus kernel_rfl)) | (refine codeW_drawE ?_ ?_; (focus kernel_rfl)) | (apply drawE_val; (focus rfl); (first | exact wantedV_none rfl | (focus (simp only [go_sem, callF_28, len22n, oMakeSlice_some, e3]; done))); (focus (intro s_ hs_; simp only [go_sem, callF_28, len22n, oMakeSlice_some, e3, hs_] <;> rfl))) | (apply drawE_call; (focus rfl); (first | exact wantedV_none rfl | (focus (simp only [go_sem, callF_28, len22n, oMakeSlice_some, e3]; done))); (focus (simp only [go_sem, callF_28, len22n, oMakeSlice_some, e3] <;> rfl))) | (apply drawE_skip; (focus (simp only [go_sem, callF_28, len22n, oMakeSlice_some, e3]; done)); (focus (first | assumption | exact St.le_refl _))) | (apply opsW_val; (first | exact wantedV_none rfl | (focus (simp only [go_sem, callF_28, len22n, oMakeSlice_some, e3]; done))); (focus (simp only [go_sem, callF_28, len22n, oMakeSlice_some, e3] <;> rfl))) | (apply opsW_call; (first | exact wantedV_none rfl | (focus (simp only [go_sem, callF_28, len22n, oMakeSlice_some, e3]; done))); (focus (simp only [go_sem, callF_28, len22n, oMakeSlice_some, e3] <;> rfl))) | (apply opsW_skip; (focus (simp only [go_sem, callF_28, len22n, oMakeSlice_some, e3]; done))) | refine blockQ_eq ?_ | (refine blockQ_ne ?_ ?_; (focus decide)) | refine sortF_nil _ _ _ ?_)
    refine codeW_loop ?_
    repeat (first | refine codeW_seq ?_ | refine codeW_skip ?_ | refine codeW_label ?_ | refine codeW_exit ?_ | refine codeW_ret ?_ | refine codeW_block ?_ | refine codeW_region ?_ | refine opsW_nil ?_ | refine drawE_nil ?_ | (refine codeW_drawS ?_ ?_; (focus kernel_rfl)) | (refine codeW_drawE ?_ ?_; (focus kernel_rfl)) | (apply drawE_val; (focus rfl); (first | exact wantedV_none rfl | (focus (simp only [go_sem, d0]; done))); (focus (intro s_ hs_; simp only [go_sem, d0, hs_] <;> rfl))) | (apply drawE_call; (focus rfl); (first | exact wantedV_none rfl | (focus (simp only [go_sem, d0]; done))); (focus (simp only [go_sem, d0] <;> rfl))) | (apply drawE_skip; (focus (simp only [go_sem, d0]; done)); (focus (first | assumption | exact St.le_refl _))) | (apply opsW_val; (first | exact wantedV_none rfl | (focus (simp only [go_sem, d0]; done))); (focus (simp only [go_sem, d0] <;> rfl))) | (apply opsW_call; (first | exact wantedV_none rfl | (focus (simp only [go_sem, d0]; done))); (focus (simp only [go_sem, d0] <;> rfl))) | (apply opsW_skip; (focus (simp only [go_sem, d0]; done))) | refine blockQ_eq ?_ | (refine blockQ_ne ?_ ?_; (focus decide)))
    refine codeW_if (b := _) (by simp only [go_sem, d0]; rfl) ?_ ?_
    · intro h; cases h
    intro _
    repeat (first | refine codeW_seq ?_ | refine codeW_skip ?_ | refine codeW_label ?_ | refine codeW_exit ?_ | refine codeW_ret ?_ | refine codeW_block ?_ | refine codeW_region ?_ | refine opsW_nil ?_ | refine drawE_nil ?_ | (refine codeW_drawS ?_ ?_; (focus kernel_rfl)) | (refine codeW_drawE ?_ ?_; (focus kernel_rfl)) | (apply drawE_val; (focus rfl); (first | exact wantedV_none rfl | (focus (simp only [go_sem, d0]; done))); (focus (intro s_ hs_; simp only [go_sem, d0, hs_] <;> rfl))) | (apply drawE_call; (focus rfl); (first | exact wantedV_none rfl | (focus (simp only [go_sem, d0]; done))); (focus (simp only [go_sem, d0] <;> rfl))) | (apply drawE_skip; (focus (simp only [go_sem, d0]; done)); (focus (first | assumption | exact St.le_refl _))) | (apply opsW_val; (first | exact wantedV_none rfl | (focus (simp only [go_sem, d0]; done))); (focus (simp only [go_sem, d0] <;> rfl))) | (apply opsW_call; (first | exact wantedV_none rfl | (focus (simp only [go_sem, d0]; done))); (focus (simp only [go_sem, d0] <;> rfl))) | (apply opsW_skip; (focus (simp only [go_sem, d0]; done))) | refine blockQ_eq ?_ | (refine blockQ_ne ?_ ?_; (focus decide)))
    have hfin := hQ (.slice s1.nx 0 0 0) s3 [] (St.le_trans hle0 (St.le_trans hacc.le hle3)) (.refl _) .nil (intsHas h3 (by omega) rfl)
    first
      | exact end_ret (fn := Try.f15) (t := 4) rfl (by simp only [go_sem] <;> rfl) hfin
      | exact end_norm (fn := Try.f15) (t := 4) rfl (by simp only [go_sem] <;> rfl) hfin
  · obtain ⟨n, hn⟩ : ∃ n, L.length = n := ⟨_, rfl⟩
    rw [hn]
    rw [hn] at hL
    repeat (first | refine codeW_seq ?_ | refine codeW_skip ?_ | refine codeW_label ?_ | refine codeW_exit ?_ | refine codeW_ret ?_ | refine codeW_block ?_ | refine codeW_region ?_ | refine opsW_nil ?_ | refine drawE_nil ?_ | (refine codeW_drawS ?_ ?_; (focus kernel_rfl)) | (refine codeW_drawE ?_ ?_; (focus kernel_rfl)) | (apply drawE_val; (focus rfl); (first | exact wantedV_none rfl | (focus (simp only [go_sem, callF_28]; done))); (focus (intro s_ hs_; simp only [go_sem, callF_28, hs_] <;> rfl))) | (apply drawE_call; (focus rfl); (first | exact wantedV_none rfl | (focus (simp only [go_sem, callF_28]; done))); (focus (simp only [go_sem, callF_28] <;> rfl))) | (apply drawE_skip; (focus (simp only [go_sem, callF_28]; done)); (focus (first | assumption | exact St.le_refl _))) | (apply opsW_val; (first | exact wantedV_none rfl | (focus (simp only [go_sem, callF_28]; done))); (focus (simp only [go_sem, callF_28] <;> rfl))) | (apply opsW_call; (first | exact wantedV_none rfl | (focus (simp only [go_sem, callF_28]; done))); (focus (simp only [go_sem, callF_28] <;> rfl))) | (apply opsW_skip; (focus (simp only [go_sem, callF_28]; done))) | refine blockQ_eq ?_ | (refine blockQ_ne ?_ ?_; (focus decide)) | refine sortF_ok hf L n b hn.symm hL _ hK _ (fun s2 L' hK2 p2 r2 => ?_))
    obtain ⟨s3, e3, h3, hle3, hn3⟩ := mk23 s2 n hL
    have hK3 := hK2.of_le hle3
    have hb3 := hK2.lt
    have hlen : L'.length = n := by rw [p2.length_eq, hn]
    repeat (first | refine codeW_seq ?_ | refine codeW_skip ?_ | refine codeW_label ?_ | refine codeW_exit ?_ | refine codeW_ret ?_ | refine codeW_block ?_ | refine codeW_region ?_ | refine opsW_nil ?_ | refine drawE_nil ?_ | (refine codeW_drawS ?_ ?_; (focus kernel_rfl)) | (refine codeW_drawE ?_ ?_; (focus kernel_rfl)) | (apply drawE_val; (focus rfl); (first | exact wantedV_none rfl | (focus (simp only [go_sem, len22, oMakeSlice_some, e3]; done))); (focus (intro s_ hs_; simp only [go_sem, len22, oMakeSlice_some, e3, hs_] <;> rfl))) | (apply drawE_call; (focus rfl); (first | exact wantedV_none rfl | (focus (simp only [go_sem, len22, oMakeSlice_some, e3]; done))); (focus (simp only [go_sem, len22, oMakeSlice_some, e3] <;> rfl))) | (apply drawE_skip; (focus (simp only [go_sem, len22, oMakeSlice_some, e3]; done)); (focus (first | assumption | exact St.le_refl _))) | (apply opsW_val; (first | exact wantedV_none rfl | (focus (simp only [go_sem, len22, oMakeSlice_some, e3]; done))); (focus (simp only [go_sem, len22, oMakeSlice_some, e3] <;> rfl))) | (apply opsW_call; (first | exact wantedV_none rfl | (focus (simp only [go_sem, len22, oMakeSlice_some, e3]; done))); (focus (simp only [go_sem, len22, oMakeSlice_some, e3] <;> rfl))) | (apply opsW_skip; (focus (simp only [go_sem, len22, oMakeSlice_some, e3]; done))) | refine blockQ_eq ?_ | (refine blockQ_ne ?_ ?_; (focus decide)))
    have hob : sB.nx ≤ s2.nx := hK2.le.1
    have hLid : (L'.map K.id).length = n := by rw [List.length_map, hlen]
    refine codeW_inv (fun q τ s' => ∃ i : Nat, i + q = n ∧ sB.le s' ∧ KArr sB s' b L' ∧ Has s' s2.nx (ints ((L'.map K.id).take i ++ List.replicate (n - i) 0)) 0 true 1 false 3 ∧ s2.nx < s'.nx ∧
      τ.n = 30 ∧ τ.get 5 = some (.slice s2.nx 0 n n) ∧ τ.get 16 = some (.slice b 0 n n) ∧ τ.get 17 = some (.int .i64 n) ∧ τ.get 18 = some (.int .i64 i)) ?_ n _ _
      ⟨0, by omega, St.le_trans hK2.le hle3, hK3, by simpa using h3, by omega, by simp only [go_sem] <;> rfl, by simp only [go_sem] <;> rfl, by simp only [go_sem] <;> rfl, by simp only [go_sem] <;> rfl, by simp only [go_sem] <;> rfl⟩
    clear hK3 h3 e3 hle3 hn3 s3
    rintro q τ s' ⟨i, hi, hle, hK', hH, hnx, t0, t5, t16, t17, t18⟩
    by_cases hlt : i < n
    · have d1 : decide ((i : Int) < (n : Nat)) = true := decide_eq_true (by omega)
      obtain ⟨k, hk⟩ : ∃ k, L'[i]? = some k := ⟨_, List.getElem?_eq_getElem (by omega)⟩
      have hll : (ints ((L'.map K.id).take i ++ List.replicate (n - i) 0)).length = n := by simp [ints]; omega
      obtain ⟨s5, g1, g2, g3⟩ := (Has.box s' zk 25).stos (vs := k.cells) (o := 0) (Nat.le_refl 6) (Nat.le_refl _) (by simp [K.cells, scalar])
      have g2 : Has s5 s'.nx k.cells 0 true 1 false 25 := g2
      have g1' : Ae.storeVar Try.prog (s'.box zk 25) 25 s'.nx 0 k.cv = some s5 := by rw [K.cv, store25]; exact g1
      have hld : Ae.ld s5 s'.nx 0 = some (.int .i64 k.id) := by rw [g2.ld (show 0 < 6 by decide)]; rfl
      have hH5 : Has s5 s2.nx (ints ((L'.map K.id).take i ++ List.replicate (n - i) 0)) 0 true 1 false 3 := hH.of_get (by rw [g3.get _ (by omega), St.box_get _ _ _ (by omega)])
      obtain ⟨s6, e6, h6, b6⟩ := hH5.sto (o := i) (v := .int .i64 k.id) (by rw [hll]; exact hlt) (Nat.zero_le _) rfl
      have n5 : s5.nx = s'.nx + 1 := g3.nx
      have n6 : s6.nx = s'.nx + 1 := by rw [b6.nx, n5]
      have hle5 : sB.le s5 := g3.le (St.le_trans hle (St.box_le _ _ _)) (by have := hle.1; omega)
      have hle6 : sB.le s6 := b6.le hle5 hob
      have hK6 : KArr sB s6 b L' := hK'.of_get hle6 (by have := hK'.lt; omega) (by rw [b6.get _ (by omega), g3.get _ (by have := hK'.lt; omega), St.box_get _ _ _ (by have := hK'.lt; omega)])
      have hset : (ints ((L'.map K.id).take i ++ List.replicate (n - i) 0)).set i (.int .i64 k.id) = ints ((L'.map K.id).take (i + 1) ++ List.replicate (n - (i + 1)) 0) := by
        have h1 : (L'.map K.id)[i]? = some k.id := by rw [List.getElem?_map, hk]; rfl
        have h2 : List.replicate (n - i) (0 : Int) = 0 :: List.replicate (n - (i + 1)) 0 := by rw [show n - i = (n - (i + 1)) + 1 by omega, List.replicate_succ]
        have h3 : ((L'.map K.id).take i).length = i := by simp; omega
        rw [List.take_add_one, h1, h2]
        simp only [ints, List.map_append, List.map_cons, Option.toList_some, List.map_nil, List.append_assoc, List.cons_append, List.nil_append]
        rw [List.set_append_right _ _ (by simp; omega)]
        simp only [List.length_map, h3, Nat.sub_self, List.set_cons_zero]
      rw [hset] at h6
      have ix := at22 b n (i := i) hlt
      have io := at23' s2.nx n (i := i) hlt
      have lx := hK'.load hk
      have w := wrap_nat (show i + 1 < 9223372036854775808 by omega)
      repeat (first | refine codeW_seq ?_ | refine codeW_skip ?_ | refine codeW_label ?_ | refine codeW_exit ?_ | refine codeW_ret ?_ | refine codeW_block ?_ | refine codeW_region ?_ | refine opsW_nil ?_ | refine drawE_nil ?_ | (refine codeW_drawS ?_ ?_; (focus kernel_rfl)) | (refine codeW_drawE ?_ ?_; (focus kernel_rfl)) | (apply drawE_val; (focus rfl); (first | exact wantedV_none rfl | (focus (simp only [go_sem, t0, t5, t16, t17, t18, d1]; done))); (focus (intro s_ hs_; simp only [go_sem, t0, t5, t16, t17, t18, d1, hs_] <;> rfl))) | (apply drawE_call; (focus rfl); (first | exact wantedV_none rfl | (focus (simp only [go_sem, t0, t5, t16, t17, t18, d1]; done))); (focus (simp only [go_sem, t0, t5, t16, t17, t18, d1] <;> rfl))) | (apply drawE_skip; (focus (simp only [go_sem, t0, t5, t16, t17, t18, d1]; done)); (focus (first | assumption | exact St.le_refl _))) | (apply opsW_val; (first | exact wantedV_none rfl | (focus (simp only [go_sem, t0, t5, t16, t17, t18, d1]; done))); (focus (simp only [go_sem, t0, t5, t16, t17, t18, d1] <;> rfl))) | (apply opsW_call; (first | exact wantedV_none rfl | (focus (simp only [go_sem, t0, t5, t16, t17, t18, d1]; done))); (focus (simp only [go_sem, t0, t5, t16, t17, t18, d1] <;> rfl))) | (apply opsW_skip; (focus (simp only [go_sem, t0, t5, t16, t17, t18, d1]; done))) | refine blockQ_eq ?_ | (refine blockQ_ne ?_ ?_; (focus decide)))
      refine codeW_if (b := _) (by simp only [go_sem, t0]; rfl) ?_ ?_
      rotate_left
      · intro h; cases h
      intro _
      repeat (first | refine codeW_seq ?_ | refine codeW_skip ?_ | refine codeW_label ?_ | refine codeW_exit ?_ | refine codeW_ret ?_ | refine codeW_block ?_ | refine codeW_region ?_ | refine opsW_nil ?_ | refine drawE_nil ?_ | (refine codeW_drawS ?_ ?_; (focus kernel_rfl)) | (refine codeW_drawE ?_ ?_; (focus kernel_rfl)) | (apply drawE_val; (focus rfl); (first | exact wantedV_none rfl | (focus (simp only [go_sem, t0, t5, t16, t17, t18, ix, io, lx, zero25, g1', fa0, load3, hld, store3, e6, w]; done))); (focus (intro s_ hs_; simp only [go_sem, t0, t5, t16, t17, t18, ix, io, lx, zero25, g1', fa0, load3, hld, store3, e6, w, hs_] <;> rfl))) | (apply drawE_call; (focus rfl); (first | exact wantedV_none rfl | (focus (simp only [go_sem, t0, t5, t16, t17, t18, ix, io, lx, zero25, g1', fa0, load3, hld, store3, e6, w]; done))); (focus (simp only [go_sem, t0, t5, t16, t17, t18, ix, io, lx, zero25, g1', fa0, load3, hld, store3, e6, w] <;> rfl))) | (apply drawE_skip; (focus (simp only [go_sem, t0, t5, t16, t17, t18, ix, io, lx, zero25, g1', fa0, load3, hld, store3, e6, w]; done)); (focus (first | assumption | exact St.le_refl _))) | (apply opsW_val; (first | exact wantedV_none rfl | (focus (simp only [go_sem, t0, t5, t16, t17, t18, ix, io, lx, zero25, g1', fa0, load3, hld, store3, e6, w]; done))); (focus (simp only [go_sem, t0, t5, t16, t17, t18, ix, io, lx, zero25, g1', fa0, load3, hld, store3, e6, w] <;> rfl))) | (apply opsW_call; (first | exact wantedV_none rfl | (focus (simp only [go_sem, t0, t5, t16, t17, t18, ix, io, lx, zero25, g1', fa0, load3, hld, store3, e6, w]; done))); (focus (simp only [go_sem, t0, t5, t16, t17, t18, ix, io, lx, zero25, g1', fa0, load3, hld, store3, e6, w] <;> rfl))) | (apply opsW_skip; (focus (simp only [go_sem, t0, t5, t16, t17, t18, ix, io, lx, zero25, g1', fa0, load3, hld, store3, e6, w]; done))) | refine blockQ_eq ?_ | (refine blockQ_ne ?_ ?_; (focus decide)))
      exact ⟨q - 1, by omega, i + 1, by omega, hle6, hK6, h6, by omega, by simp only [go_sem, t0], by simp only [go_sem, t0, t5], by simp only [go_sem, t0, t16], by simp only [go_sem, t0, t17], by simp only [go_sem, t0, t18, w]⟩
    · have hin : i = n := by omega
      subst hin
      have d1 : decide ((i : Int) < (i : Nat)) = false := decide_eq_false (by omega)
      repeat (first | refine codeW_seq ?_ | refine codeW_skip ?_ | refine codeW_label ?_ | refine codeW_exit ?_ | refine codeW_ret ?_ | refine codeW_block ?_ | refine codeW_region ?_ | refine opsW_nil ?_ | refine drawE_nil ?_ | (refine codeW_drawS ?_ ?_; (focus kernel_rfl)) | (refine codeW_drawE ?_ ?_; (focus kernel_rfl)) | (apply drawE_val; (focus rfl); (first | exact wantedV_none rfl | (focus (simp only [go_sem, t0, t5, t16, t17, t18, d1]; done))); (focus (intro s_ hs_; simp only [go_sem, t0, t5, t16, t17, t18, d1, hs_] <;> rfl))) | (apply drawE_call; (focus rfl); (first | exact wantedV_none rfl | (focus (simp only [go_sem, t0, t5, t16, t17, t18, d1]; done))); (focus (simp only [go_sem, t0, t5, t16, t17, t18, d1] <;> rfl))) | (apply drawE_skip; (focus (simp only [go_sem, t0, t5, t16, t17, t18, d1]; done)); (focus (first | assumption | exact St.le_refl _))) | (apply opsW_val; (first | exact wantedV_none rfl | (focus (simp only [go_sem, t0, t5, t16, t17, t18, d1]; done))); (focus (simp only [go_sem, t0, t5, t16, t17, t18, d1] <;> rfl))) | (apply opsW_call; (first | exact wantedV_none rfl | (focus (simp only [go_sem, t0, t5, t16, t17, t18, d1]; done))); (focus (simp only [go_sem, t0, t5, t16, t17, t18, d1] <;> rfl))) | (apply opsW_skip; (focus (simp only [go_sem, t0, t5, t16, t17, t18, d1]; done))) | refine blockQ_eq ?_ | (refine blockQ_ne ?_ ?_; (focus decide)))
      refine codeW_if (b := _) (by simp only [go_sem, t0]; rfl) ?_ ?_
      · intro h; cases h
      intro _
      repeat (first | refine codeW_seq ?_ | refine codeW_skip ?_ | refine codeW_label ?_ | refine codeW_exit ?_ | refine codeW_ret ?_ | refine codeW_block ?_ | refine codeW_region ?_ | refine opsW_nil ?_ | refine drawE_nil ?_ | (refine codeW_drawS ?_ ?_; (focus kernel_rfl)) | (refine codeW_drawE ?_ ?_; (focus kernel_rfl)) | (apply drawE_val; (focus rfl); (first | exact wantedV_none rfl | (focus (simp only [go_sem, t0, t5]; done))); (focus (intro s_ hs_; simp only [go_sem, t0, t5, hs_] <;> rfl))) | (apply drawE_call; (focus rfl); (first | exact wantedV_none rfl | (focus (simp only [go_sem, t0, t5]; done))); (focus (simp only [go_sem, t0, t5] <;> rfl))) | (apply drawE_skip; (focus (simp only [go_sem, t0, t5]; done)); (focus (first | assumption | exact St.le_refl _))) | (apply opsW_val; (first | exact wantedV_none rfl | (focus (simp only [go_sem, t0, t5]; done))); (focus (simp only [go_sem, t0, t5] <;> rfl))) | (apply opsW_call; (first | exact wantedV_none rfl | (focus (simp only [go_sem, t0, t5]; done))); (focus (simp only [go_sem, t0, t5] <;> rfl))) | (apply opsW_skip; (focus (simp only [go_sem, t0, t5]; done))) | refine blockQ_eq ?_ | (refine blockQ_ne ?_ ?_; (focus decide)))
      rw [List.take_of_length_le (by omega), Nat.sub_self, List.replicate_zero, List.append_nil] at hH
      have hfin := hQ (.slice s2.nx 0 i i) s' L' (St.le_trans hle0 hle) p2 r2 (intsHas hH hnx hLid.symm)
      first
        | exact end_ret (fn := Try.f15) (t := 4) rfl (by simp only [go_sem, t0, t5] <;> rfl) hfin
        | exact end_norm (fn := Try.f15) (t := 4) rfl (by simp only [go_sem, t0, t5] <;> rfl) hfin
end Go.Proofs.Ytbkniippobnbpaa
