/-
  Page of the program.
-/
import Derived.Test.YtbkniippobnbpaaOrdW10
namespace Go.Proofs.Ytbkniippobnbpaa
open Go.Ae
set_option linter.unusedSimpArgs false
set_option maxHeartbeats 2000000
attribute [local go_sem] opV_move opV_assign opV_pick opV_alloc opV_box opV_build opV_buildSlice opV_load opV_store opV_nilCheck opV_unOp opV_binOp opV_makeInterface opV_makeFunc opV_makeSlice opV_slice opV_fieldAddr opV_field opV_indexAddr opV_index opV_extract opV_call oCall_value oCall_builtin oCallV_func bin_add bin_sub bin_mul bin_lss bin_leq bin_gtr bin_geq bin_eql bin_neq bins_lss bins_leq bins_gtr bins_geq bins_eql bins_neq binb_eql ret1_some ret2_some retU_some oBin_some oUn_some oPick_some oLoad_some oStore_some oBox_some oIndexAddr_some oIndex_some oExtract_some un_not un_neg cond_true cond_false beq_ft beq_tf Bool.not_true Bool.not_false wantedV opd_tmp opd_c opd ofV Fr.get_put_ne Fr.get_put_eq Fr.get_put_none Fr.put_n ne_eq not_false_eq_true Fr.only_get fr_get fr_n argsT T.get_set T.get_nil oField oFunc oNil oAlloc oBuild oBuildSlice mapO pairs okI_eq fnat_eq fint_eq List.getElem?_toArray List.getElem?_cons_zero List.getElem?_cons_succ Option.bind_some List.map List.length_cons List.length_nil Nat.reduceEqDiff Nat.reduceLT Nat.reduceAdd Nat.reduceMul Nat.zero_add Nat.add_zero Nat.max_def Nat.reduceLeDiff Nat.reduceLT and_true and_false true_and false_and if_true if_false ite_true ite_false Option.some.injEq reduceCtorEq decide_true decide_false bne_self_eq_false beq_self_eq_true seqQ List.append_nil List.nil_append List.cons_append newVar_eq cellsOf St.box_nx Option.map_some

theorem none23 (s : St) : buildSliceV Try.prog s 23 0 [] = some (.slice s.nx 0 0 0, s.box [] 3) := by
  have h1 : Nat.ble (0 * 1) 16777216 = true := rfl
  have h2 : Nat.beq (cellsOf (.int .i64 0)).length 1 = true := rfl
  have h3 : fillL (fun i => some (i * 1, 1)) ((List.range (0 * 1)).map fun i => (cellsOf (.int .i64 0)).getD (i % 1) .nilptr) [] = some [] := rfl
  simp only [buildSliceV, Try.underlying23, sz3, zero3, h1, h2, h3, newCells_eq]
  rfl

theorem accNone (s : St) : Acc s (s.box [] 3) 3 1 (.slice s.nx 0 0 0) ([] : List Int).length (ints []) :=
  ⟨St.box_le _ _ _, rfl, .inr (.inr ⟨s.nx, rfl, Nat.le_refl _, Nat.lt_succ_self _, Has.box s [] 3⟩)⟩

theorem clone_ok (v : CV) (l : List Int) (hl : l.length ≤ 100000000000) (s : St) (hv : IntSl s v l) (Q : CV → St → Prop) (hQ : ∀ v' s', s.le s' → CutSl s' v' l → Q v' s') : callW Try.prog Hk 31 [v] s Q := by
  refine callW_enter (fn := Try.f31) (freeHk _ _ _ (by decide)) Try.func31 rfl ?_
  simp only [Try.ntmps31]
  obtain ⟨v', s', happ, hacc⟩ := appI (accNone s) (hv.le (St.box_le s [] 3)) (by simpa using hl)
  rw [List.nil_append] at hacc
  by_cases hn : v = .nilslice
  · subst hn
    have h0 : l = [] := by
      rcases hv with ⟨-, h⟩ | ⟨b, o, c, h, -⟩
      · exact h
      · cases h
    subst h0
    repeat (first | refine codeW_seq ?_ | refine codeW_skip ?_ | refine codeW_label ?_ | refine codeW_exit ?_ | refine codeW_ret ?_ | refine codeW_block ?_ | refine codeW_region ?_ | refine opsW_nil ?_ | refine drawE_nil ?_ | (refine codeW_drawE ?_ ?_; (focus kernel_rfl)) | (apply drawE_val; (focus rfl); (first | exact wantedV_none rfl | (focus (simp only [go_sem, isnil23 hv]; done))); (focus (intro s_ hs_; simp only [go_sem, isnil23 hv, hs_] <;> rfl))) | (apply drawE_call; (focus rfl); (first | exact wantedV_none rfl | (focus (simp only [go_sem, isnil23 hv]; done))); (focus (simp only [go_sem, isnil23 hv] <;> rfl))) | (apply drawE_skip; (focus (simp only [go_sem, isnil23 hv]; done)); (focus assumption)) | (apply opsW_val; (first | exact wantedV_none rfl | (focus (simp only [go_sem, isnil23 hv]; done))); (focus (simp only [go_sem, isnil23 hv] <;> rfl))) | (apply opsW_call; (first | exact wantedV_none rfl | (focus (simp only [go_sem, isnil23 hv]; done))); (focus (simp only [go_sem, isnil23 hv] <;> rfl))) | (apply opsW_skip; (focus (simp only [go_sem, isnil23 hv]; done))) | refine blockQ_eq ?_ | (refine blockQ_ne ?_ ?_; (focus decide)))
    refine codeW_if (b := _) (by simp only [go_sem, if_true]; rfl) ?_ ?_
    · intro _
      repeat (first | refine codeW_seq ?_ | refine codeW_skip ?_ | refine codeW_label ?_ | refine codeW_exit ?_ | refine codeW_ret ?_ | refine codeW_block ?_ | refine codeW_region ?_ | refine opsW_nil ?_ | refine drawE_nil ?_ | (refine codeW_drawE ?_ ?_; (focus kernel_rfl)) | (apply drawE_val; (focus rfl); (first | exact wantedV_none rfl | (focus (simp only [go_sem, if_true]; done))); (focus (intro s_ hs_; simp only [go_sem, if_true, hs_] <;> rfl))) | (apply drawE_call; (focus rfl); (first | exact wantedV_none rfl | (focus (simp only [go_sem, if_true]; done))); (focus (simp only [go_sem, if_true] <;> rfl))) | (apply drawE_skip; (focus (simp only [go_sem, if_true]; done)); (focus assumption)) | (apply opsW_val; (first | exact wantedV_none rfl | (focus (simp only [go_sem, if_true]; done))); (focus (simp only [go_sem, if_true] <;> rfl))) | (apply opsW_call; (first | exact wantedV_none rfl | (focus (simp only [go_sem, if_true]; done))); (focus (simp only [go_sem, if_true] <;> rfl))) | (apply opsW_skip; (focus (simp only [go_sem, if_true]; done))) | refine blockQ_eq ?_ | (refine blockQ_ne ?_ ?_; (focus decide)))
      change bodyQ Try.prog Try.f31 Q Ex.ret _ _
      exact end_ret (fn := Try.f31) (t := 2) rfl (by simp only [go_sem] <;> rfl) (hQ _ _ (St.le_refl _) ⟨.inl ⟨rfl, rfl⟩, fun _ _ _ _ e => by cases e⟩)
    · intro h; cases h
  · have hb : isNil v = false := by
      cases v <;> first | rfl | exact absurd rfl hn
    have hq : ∀ s' x y, binV Try.prog s' .eql 23 x y v .nilslice = some (.bool false) := fun s' x y => by rw [isnil23 hv, hb]
    repeat (first | refine codeW_seq ?_ | refine codeW_skip ?_ | refine codeW_label ?_ | refine codeW_exit ?_ | refine codeW_ret ?_ | refine codeW_block ?_ | refine codeW_region ?_ | refine opsW_nil ?_ | refine drawE_nil ?_ | (refine codeW_drawE ?_ ?_; (focus kernel_rfl)) | (apply drawE_val; (focus rfl); (first | exact wantedV_none rfl | (focus (simp only [go_sem, hq]; done))); (focus (intro s_ hs_; simp only [go_sem, hq, hs_] <;> rfl))) | (apply drawE_call; (focus rfl); (first | exact wantedV_none rfl | (focus (simp only [go_sem, hq]; done))); (focus (simp only [go_sem, hq] <;> rfl))) | (apply drawE_skip; (focus (simp only [go_sem, hq]; done)); (focus assumption)) | (apply opsW_val; (first | exact wantedV_none rfl | (focus (simp only [go_sem, hq]; done))); (focus (simp only [go_sem, hq] <;> rfl))) | (apply opsW_call; (first | exact wantedV_none rfl | (focus (simp only [go_sem, hq]; done))); (focus (simp only [go_sem, hq] <;> rfl))) | (apply opsW_skip; (focus (simp only [go_sem, hq]; done))) | refine blockQ_eq ?_ | (refine blockQ_ne ?_ ?_; (focus decide)))
    refine codeW_if (b := _) (by simp only [go_sem, hq]; rfl) ?_ ?_
    · intro h; cases h
    intro _
    repeat (first | refine codeW_seq ?_ | refine codeW_skip ?_ | refine codeW_label ?_ | refine codeW_exit ?_ | refine codeW_ret ?_ | refine codeW_block ?_ | refine codeW_region ?_ | refine opsW_nil ?_ | refine drawE_nil ?_ | (refine codeW_drawE ?_ ?_; (focus kernel_rfl)) | (apply drawE_val; (focus rfl); (first | exact wantedV_none rfl | (focus (simp only [go_sem, none23, happ]; done))); (focus (intro s_ hs_; simp only [go_sem, none23, happ, hs_] <;> rfl))) | (apply drawE_call; (focus rfl); (first | exact wantedV_none rfl | (focus (simp only [go_sem, none23, happ]; done))); (focus (simp only [go_sem, none23, happ] <;> rfl))) | (apply drawE_skip; (focus (simp only [go_sem, none23, happ]; done)); (focus assumption)) | (apply opsW_val; (first | exact wantedV_none rfl | (focus (simp only [go_sem, none23, happ]; done))); (focus (simp only [go_sem, none23, happ] <;> rfl))) | (apply opsW_call; (first | exact wantedV_none rfl | (focus (simp only [go_sem, none23, happ]; done))); (focus (simp only [go_sem, none23, happ] <;> rfl))) | (apply opsW_skip; (focus (simp only [go_sem, none23, happ]; done))) | refine blockQ_eq ?_ | (refine blockQ_ne ?_ ?_; (focus decide)))
    refine end_ret (fn := Try.f31) (t := 2) rfl (by simp only [go_sem] <;> rfl) (hQ _ _ hacc.le (accCut hacc))

def far (o : Int) : Int := min (max o (-1099511627776)) 1099511627776

/-- What Page answers. -/
def pg (l : List Int) (anchor offset limit : Int) : List Int × Int × Int :=
  if limit < 0 ∨ (anchor = 0 ∧ offset < 0) then ([], 0, 1)
  else
    let i := if anchor ≠ 0 then idx l anchor else 0
    if i < 0 then ([], 0, 5)
    else
      let a := min (max (i + far offset) 0) l.length
      ((l.drop a.toNat).take (min limit (l.length - a)).toNat, a, 0)

theorem idx_bounds (l : List Int) (x : Int) : -1 ≤ idx l x ∧ idx l x < l.length + 1 := by
  unfold idx
  cases h : l.findIdx? (· == x) with
  | none => simp only []; omega
  | some i =>
    have h1 := (List.findIdx?_eq_some_iff_getElem.1 h).1
    simp only []
    omega

theorem idx_lt {l : List Int} {x : Int} (h : 0 ≤ idx l x) : (idx l x).toNat < l.length := by
  unfold idx at h ⊢
  cases h1 : l.findIdx? (· == x) with
  | none => rw [h1] at h; simp only [] at h; omega
  | some i =>
    have h2 := (List.findIdx?_eq_some_iff_getElem.1 h1).1
    simp only []
    omega

theorem far_bounds (o : Int) : -1099511627776 ≤ far o ∧ far o ≤ 1099511627776 := by unfold far; omega

theorem oSlice_some (s : St) (t : TypeId) (v : CV) (l h m : List CV) : oSlice Try.prog s t (some v) (some l) (some h) (some m) = ret1 s (sliceV Try.prog s t v l.head? h.head? m.head?) := rfl

theorem page_ok (v : CV) (l : List Int) (anchor offset limit : Int) (hl : l.length ≤ 100000000000) (s : St) (hv : CutSl s v l) (Q : CV → St → Prop)
    (hQ : ∀ v' s', s.le s' → CutSl s' v' (pg l anchor offset limit).1 → Q (.tuple [v', .int .i64 (pg l anchor offset limit).2.1, .int .i64 (pg l anchor offset limit).2.2]) s') :
    callW Try.prog Hk 17 [v, .int .i64 anchor, .int .i64 offset, .int .i64 limit] s Q := by
  refine callW_enter (fn := Try.f17) (freeHk _ _ _ (by decide)) Try.func17 rfl ?_
  simp only [Try.ntmps17]
  have bad : limit < 0 ∨ (anchor = 0 ∧ offset < 0) → pg l anchor offset limit = ([], 0, 1) := fun h => by simp only [pg, if_pos h]
  have hret : ∀ e τ, pg l anchor offset limit = ([], 0, e) → τ.get 8 = some .nilslice → τ.get 9 = some (.int .i64 0) → τ.get 10 = some (.int .i64 e) → bodyQ Try.prog Try.f17 Q Ex.ret τ s := fun e τ h h8 h9 h10 => by
    refine end_ret3 (fn := Try.f17) rfl h8 h9 h10 ?_
    rw [h] at hQ
    exact hQ _ _ (St.le_refl _) ⟨.inl ⟨rfl, rfl⟩, fun _ _ _ _ e => by cases e⟩
  by_cases g1 : limit < 0
  · have d1 := decide_eq_true g1
    repeat (first | refine codeW_seq ?_ | refine codeW_skip ?_ | refine codeW_label ?_ | refine codeW_exit ?_ | refine codeW_ret ?_ | refine codeW_block ?_ | refine codeW_region ?_ | refine opsW_nil ?_ | refine drawE_nil ?_ | (refine codeW_drawE ?_ ?_; (focus kernel_rfl)) | (apply drawE_val; (focus rfl); (first | exact wantedV_none rfl | (focus (simp only [go_sem, d1]; done))); (focus (intro s_ hs_; simp only [go_sem, d1, hs_] <;> rfl))) | (apply drawE_call; (focus rfl); (first | exact wantedV_none rfl | (focus (simp only [go_sem, d1]; done))); (focus (simp only [go_sem, d1] <;> rfl))) | (apply drawE_skip; (focus (simp only [go_sem, d1]; done)); (focus assumption)) | (apply opsW_val; (first | exact wantedV_none rfl | (focus (simp only [go_sem, d1]; done))); (focus (simp only [go_sem, d1] <;> rfl))) | (apply opsW_call; (first | exact wantedV_none rfl | (focus (simp only [go_sem, d1]; done))); (focus (simp only [go_sem, d1] <;> rfl))) | (apply opsW_skip; (focus (simp only [go_sem, d1]; done))) | refine blockQ_eq ?_ | (refine blockQ_ne ?_ ?_; (focus decide)))
    refine codeW_if (b := _) (by simp only [go_sem, d1]; rfl) ?_ ?_
    · intro _
      repeat (first | refine codeW_seq ?_ | refine codeW_skip ?_ | refine codeW_label ?_ | refine codeW_exit ?_ | refine codeW_ret ?_ | refine codeW_block ?_ | refine codeW_region ?_ | refine opsW_nil ?_ | refine drawE_nil ?_ | (refine codeW_drawE ?_ ?_; (focus kernel_rfl)) | (apply drawE_val; (focus rfl); (first | exact wantedV_none rfl | (focus (simp only [go_sem, d1]; done))); (focus (intro s_ hs_; simp only [go_sem, d1, hs_] <;> rfl))) | (apply drawE_call; (focus rfl); (first | exact wantedV_none rfl | (focus (simp only [go_sem, d1]; done))); (focus (simp only [go_sem, d1] <;> rfl))) | (apply drawE_skip; (focus (simp only [go_sem, d1]; done)); (focus assumption)) | (apply opsW_val; (first | exact wantedV_none rfl | (focus (simp only [go_sem, d1]; done))); (focus (simp only [go_sem, d1] <;> rfl))) | (apply opsW_call; (first | exact wantedV_none rfl | (focus (simp only [go_sem, d1]; done))); (focus (simp only [go_sem, d1] <;> rfl))) | (apply opsW_skip; (focus (simp only [go_sem, d1]; done))) | refine blockQ_eq ?_ | (refine blockQ_ne ?_ ?_; (focus decide)))
      change bodyQ Try.prog Try.f17 Q Ex.ret _ _
      exact hret 1 _ (bad (.inl g1)) (by simp only [go_sem] <;> rfl) (by simp only [go_sem] <;> rfl) (by simp only [go_sem] <;> rfl)
    · intro h; cases h
  have d1 := decide_eq_false g1
  by_cases g2 : anchor = 0
  · have d2 : (anchor == 0) = true := by simpa using g2
    have d2' : (anchor != 0) = false := by simpa using g2
    by_cases g3 : offset < 0
    · have d3 := decide_eq_true g3
      repeat (first | refine codeW_seq ?_ | refine codeW_skip ?_ | refine codeW_label ?_ | refine codeW_exit ?_ | refine codeW_ret ?_ | refine codeW_block ?_ | refine codeW_region ?_ | refine opsW_nil ?_ | refine drawE_nil ?_ | (refine codeW_drawE ?_ ?_; (focus kernel_rfl)) | (apply drawE_val; (focus rfl); (first | exact wantedV_none rfl | (focus (simp only [go_sem, d1, d2, d3]; done))); (focus (intro s_ hs_; simp only [go_sem, d1, d2, d3, hs_] <;> rfl))) | (apply drawE_call; (focus rfl); (first | exact wantedV_none rfl | (focus (simp only [go_sem, d1, d2, d3]; done))); (focus (simp only [go_sem, d1, d2, d3] <;> rfl))) | (apply drawE_skip; (focus (simp only [go_sem, d1, d2, d3]; done)); (focus assumption)) | (apply opsW_val; (first | exact wantedV_none rfl | (focus (simp only [go_sem, d1, d2, d3]; done))); (focus (simp only [go_sem, d1, d2, d3] <;> rfl))) | (apply opsW_call; (first | exact wantedV_none rfl | (focus (simp only [go_sem, d1, d2, d3]; done))); (focus (simp only [go_sem, d1, d2, d3] <;> rfl))) | (apply opsW_skip; (focus (simp only [go_sem, d1, d2, d3]; done))) | refine blockQ_eq ?_ | (refine blockQ_ne ?_ ?_; (focus decide)))
      refine codeW_if (b := _) (by simp only [go_sem, d1, d2, d3]; rfl) ?_ ?_
      · intro _
        repeat (first | refine codeW_seq ?_ | refine codeW_skip ?_ | refine codeW_label ?_ | refine codeW_exit ?_ | refine codeW_ret ?_ | refine codeW_block ?_ | refine codeW_region ?_ | refine opsW_nil ?_ | refine drawE_nil ?_ | (refine codeW_drawE ?_ ?_; (focus kernel_rfl)) | (apply drawE_val; (focus rfl); (first | exact wantedV_none rfl | (focus (simp only [go_sem, d1, d2, d3]; done))); (focus (intro s_ hs_; simp only [go_sem, d1, d2, d3, hs_] <;> rfl))) | (apply drawE_call; (focus rfl); (first | exact wantedV_none rfl | (focus (simp only [go_sem, d1, d2, d3]; done))); (focus (simp only [go_sem, d1, d2, d3] <;> rfl))) | (apply drawE_skip; (focus (simp only [go_sem, d1, d2, d3]; done)); (focus assumption)) | (apply opsW_val; (first | exact wantedV_none rfl | (focus (simp only [go_sem, d1, d2, d3]; done))); (focus (simp only [go_sem, d1, d2, d3] <;> rfl))) | (apply opsW_call; (first | exact wantedV_none rfl | (focus (simp only [go_sem, d1, d2, d3]; done))); (focus (simp only [go_sem, d1, d2, d3] <;> rfl))) | (apply opsW_skip; (focus (simp only [go_sem, d1, d2, d3]; done))) | refine blockQ_eq ?_ | (refine blockQ_ne ?_ ?_; (focus decide)))
        change bodyQ Try.prog Try.f17 Q Ex.ret _ _
        exact hret 1 _ (bad (.inr ⟨g2, g3⟩)) (by simp only [go_sem] <;> rfl) (by simp only [go_sem] <;> rfl) (by simp only [go_sem] <;> rfl)
      · intro h; cases h
    have d3 := decide_eq_false g3
    have hfar : min (max offset (-1099511627776)) 1099511627776 = far offset := rfl
    have hpg : pg l anchor offset limit = ((l.drop (min (max (0 + far offset) 0) (l.length : Int)).toNat).take (min limit (l.length - (min (max (0 + far offset) 0) (l.length : Int)))).toNat, min (max (0 + far offset) 0) (l.length : Int), 0) := by
      simp only [pg]
      rw [if_neg (by omega), if_neg (by simp [g2]), if_neg (by simp [g2])]
    repeat (first | refine codeW_seq ?_ | refine codeW_skip ?_ | refine codeW_label ?_ | refine codeW_exit ?_ | refine codeW_ret ?_ | refine codeW_block ?_ | refine codeW_region ?_ | refine opsW_nil ?_ | refine drawE_nil ?_ | (refine codeW_drawE ?_ ?_; (focus kernel_rfl)) | (apply drawE_val; (focus rfl); (first | exact wantedV_none rfl | (focus (simp only [go_sem, d1, d2, d3]; done))); (focus (intro s_ hs_; simp only [go_sem, d1, d2, d3, hs_] <;> rfl))) | (apply drawE_call; (focus rfl); (first | exact wantedV_none rfl | (focus (simp only [go_sem, d1, d2, d3]; done))); (focus (simp only [go_sem, d1, d2, d3] <;> rfl))) | (apply drawE_skip; (focus (simp only [go_sem, d1, d2, d3]; done)); (focus assumption)) | (apply opsW_val; (first | exact wantedV_none rfl | (focus (simp only [go_sem, d1, d2, d3]; done))); (focus (simp only [go_sem, d1, d2, d3] <;> rfl))) | (apply opsW_call; (first | exact wantedV_none rfl | (focus (simp only [go_sem, d1, d2, d3]; done))); (focus (simp only [go_sem, d1, d2, d3] <;> rfl))) | (apply opsW_skip; (focus (simp only [go_sem, d1, d2, d3]; done))) | refine blockQ_eq ?_ | (refine blockQ_ne ?_ ?_; (focus decide)))
    refine codeW_if (b := _) (by simp only [go_sem, d1, d2, d3]; rfl) ?_ ?_
    · intro h; cases h
    intro _
    repeat (first | refine codeW_seq ?_ | refine codeW_skip ?_ | refine codeW_label ?_ | refine codeW_exit ?_ | refine codeW_ret ?_ | refine codeW_block ?_ | refine codeW_region ?_ | refine opsW_nil ?_ | refine drawE_nil ?_ | (refine codeW_drawE ?_ ?_; (focus kernel_rfl)) | (apply drawE_val; (focus rfl); (first | exact wantedV_none rfl | (focus (simp only [go_sem, d1, d2, d2', d3]; done))); (focus (intro s_ hs_; simp only [go_sem, d1, d2, d2', d3, hs_] <;> rfl))) | (apply drawE_call; (focus rfl); (first | exact wantedV_none rfl | (focus (simp only [go_sem, d1, d2, d2', d3]; done))); (focus (simp only [go_sem, d1, d2, d2', d3] <;> rfl))) | (apply drawE_skip; (focus (simp only [go_sem, d1, d2, d2', d3]; done)); (focus assumption)) | (apply opsW_val; (first | exact wantedV_none rfl | (focus (simp only [go_sem, d1, d2, d2', d3]; done))); (focus (simp only [go_sem, d1, d2, d2', d3] <;> rfl))) | (apply opsW_call; (first | exact wantedV_none rfl | (focus (simp only [go_sem, d1, d2, d2', d3]; done))); (focus (simp only [go_sem, d1, d2, d2', d3] <;> rfl))) | (apply opsW_skip; (focus (simp only [go_sem, d1, d2, d2', d3]; done))) | refine blockQ_eq ?_ | (refine blockQ_ne ?_ ?_; (focus decide)))
    refine codeW_if (b := _) (by simp only [go_sem, d2']; rfl) ?_ ?_
    · intro h; cases h
    intro _
    have hw1 : IntKind.i64.wrap (0 + far offset) = 0 + far offset := by have := far_bounds offset; exact wrap_id (by omega) (by omega)
    obtain ⟨a, ha⟩ : ∃ a, min (max (0 + far offset) 0) (l.length : Int) = a := ⟨_, rfl⟩
    have ha0 : 0 ≤ a ∧ a ≤ l.length := by omega
    have hw2 : IntKind.i64.wrap (l.length - a) = l.length - a := wrap_id (by omega) (by omega)
    have hw3 : IntKind.i64.wrap (a + min limit (l.length - a)) = a + min limit (l.length - a) := wrap_id (by omega) (by omega)
    rw [ha] at hpg
    obtain ⟨v1, hsl, hcut⟩ := slice23 hv (a := a) (b := a + min limit (l.length - a)) ha0.1 (by omega) (by omega)
    have hb : a + min limit (l.length - a) - a = min limit (l.length - a) := by omega
    rw [hb] at hcut
    have hlc : ((l.drop a.toNat).take (min limit (l.length - a)).toNat).length ≤ 100000000000 := by simp; omega
    repeat (first | refine codeW_seq ?_ | refine codeW_skip ?_ | refine codeW_label ?_ | refine codeW_exit ?_ | refine codeW_ret ?_ | refine codeW_block ?_ | refine codeW_region ?_ | refine opsW_nil ?_ | refine drawE_nil ?_ | (refine codeW_drawE ?_ ?_; (focus kernel_rfl)) | (apply drawE_val; (focus rfl); (first | exact wantedV_none rfl | (focus (simp only [go_sem, max_int, min_int, hfar, hw1, ha, hw2, hw3, len23 hv.ints, oSlice_some, Option.toList, List.head?, hsl _ (St.le_refl _), callF_31]; done))); (focus (intro s_ hs_; simp only [go_sem, max_int, min_int, hfar, hw1, ha, hw2, hw3, len23 hv.ints, oSlice_some, Option.toList, List.head?, hsl _ (St.le_refl _), callF_31, hs_] <;> rfl))) | (apply drawE_call; (focus rfl); (first | exact wantedV_none rfl | (focus (simp only [go_sem, max_int, min_int, hfar, hw1, ha, hw2, hw3, len23 hv.ints, oSlice_some, Option.toList, List.head?, hsl _ (St.le_refl _), callF_31]; done))); (focus (simp only [go_sem, max_int, min_int, hfar, hw1, ha, hw2, hw3, len23 hv.ints, oSlice_some, Option.toList, List.head?, hsl _ (St.le_refl _), callF_31] <;> rfl))) | (apply drawE_skip; (focus (simp only [go_sem, max_int, min_int, hfar, hw1, ha, hw2, hw3, len23 hv.ints, oSlice_some, Option.toList, List.head?, hsl _ (St.le_refl _), callF_31]; done)); (focus assumption)) | (apply opsW_val; (first | exact wantedV_none rfl | (focus (simp only [go_sem, max_int, min_int, hfar, hw1, ha, hw2, hw3, len23 hv.ints, oSlice_some, Option.toList, List.head?, hsl _ (St.le_refl _), callF_31]; done))); (focus (simp only [go_sem, max_int, min_int, hfar, hw1, ha, hw2, hw3, len23 hv.ints, oSlice_some, Option.toList, List.head?, hsl _ (St.le_refl _), callF_31] <;> rfl))) | (apply opsW_call; (first | exact wantedV_none rfl | (focus (simp only [go_sem, max_int, min_int, hfar, hw1, ha, hw2, hw3, len23 hv.ints, oSlice_some, Option.toList, List.head?, hsl _ (St.le_refl _), callF_31]; done))); (focus (simp only [go_sem, max_int, min_int, hfar, hw1, ha, hw2, hw3, len23 hv.ints, oSlice_some, Option.toList, List.head?, hsl _ (St.le_refl _), callF_31] <;> rfl))) | (apply opsW_skip; (focus (simp only [go_sem, max_int, min_int, hfar, hw1, ha, hw2, hw3, len23 hv.ints, oSlice_some, Option.toList, List.head?, hsl _ (St.le_refl _), callF_31]; done))) | refine blockQ_eq ?_ | (refine blockQ_ne ?_ ?_; (focus decide)) | refine clone_ok _ _ hlc _ hcut.ints _ (fun v' s' hs' hc' => ?_))
    refine end_ret3 (fn := Try.f17) rfl (by simp only [go_sem] <;> rfl) (by simp only [go_sem] <;> rfl) (by simp only [go_sem] <;> rfl) ?_
    rw [hpg] at hQ
    exact hQ _ _ hs' hc'
  · have d2 : (anchor == 0) = false := by simpa using g2
    have d2' : (anchor != 0) = true := by simpa using g2
    have hib := idx_bounds l anchor
    by_cases g3 : idx l anchor < 0
    · have d3 := decide_eq_true g3
      have hpg : pg l anchor offset limit = ([], 0, 5) := by
        simp only [pg]
        rw [if_neg (by omega), if_pos (by simp [g2]; exact g3)]
      repeat (first | refine codeW_seq ?_ | refine codeW_skip ?_ | refine codeW_label ?_ | refine codeW_exit ?_ | refine codeW_ret ?_ | refine codeW_block ?_ | refine codeW_region ?_ | refine opsW_nil ?_ | refine drawE_nil ?_ | (refine codeW_drawE ?_ ?_; (focus kernel_rfl)) | (apply drawE_val; (focus rfl); (first | exact wantedV_none rfl | (focus (simp only [go_sem, d1, d2, d2']; done))); (focus (intro s_ hs_; simp only [go_sem, d1, d2, d2', hs_] <;> rfl))) | (apply drawE_call; (focus rfl); (first | exact wantedV_none rfl | (focus (simp only [go_sem, d1, d2, d2']; done))); (focus (simp only [go_sem, d1, d2, d2'] <;> rfl))) | (apply drawE_skip; (focus (simp only [go_sem, d1, d2, d2']; done)); (focus assumption)) | (apply opsW_val; (first | exact wantedV_none rfl | (focus (simp only [go_sem, d1, d2, d2']; done))); (focus (simp only [go_sem, d1, d2, d2'] <;> rfl))) | (apply opsW_call; (first | exact wantedV_none rfl | (focus (simp only [go_sem, d1, d2, d2']; done))); (focus (simp only [go_sem, d1, d2, d2'] <;> rfl))) | (apply opsW_skip; (focus (simp only [go_sem, d1, d2, d2']; done))) | refine blockQ_eq ?_ | (refine blockQ_ne ?_ ?_; (focus decide)))
      refine codeW_if (b := _) (by simp only [go_sem, d1, d2, d2']; rfl) ?_ ?_
      · intro h; cases h
      intro _
      repeat (first | refine codeW_seq ?_ | refine codeW_skip ?_ | refine codeW_label ?_ | refine codeW_exit ?_ | refine codeW_ret ?_ | refine codeW_block ?_ | refine codeW_region ?_ | refine opsW_nil ?_ | refine drawE_nil ?_ | (refine codeW_drawE ?_ ?_; (focus kernel_rfl)) | (apply drawE_val; (focus rfl); (first | exact wantedV_none rfl | (focus (simp only [go_sem, d1, d2, d2']; done))); (focus (intro s_ hs_; simp only [go_sem, d1, d2, d2', hs_] <;> rfl))) | (apply drawE_call; (focus rfl); (first | exact wantedV_none rfl | (focus (simp only [go_sem, d1, d2, d2']; done))); (focus (simp only [go_sem, d1, d2, d2'] <;> rfl))) | (apply drawE_skip; (focus (simp only [go_sem, d1, d2, d2']; done)); (focus assumption)) | (apply opsW_val; (first | exact wantedV_none rfl | (focus (simp only [go_sem, d1, d2, d2']; done))); (focus (simp only [go_sem, d1, d2, d2'] <;> rfl))) | (apply opsW_call; (first | exact wantedV_none rfl | (focus (simp only [go_sem, d1, d2, d2']; done))); (focus (simp only [go_sem, d1, d2, d2'] <;> rfl))) | (apply opsW_skip; (focus (simp only [go_sem, d1, d2, d2']; done))) | refine blockQ_eq ?_ | (refine blockQ_ne ?_ ?_; (focus decide)))
      refine codeW_if (b := _) (by simp only [go_sem, d2']; rfl) ?_ ?_
      rotate_left
      · intro h; cases h
      intro _
      repeat (first | refine codeW_seq ?_ | refine codeW_skip ?_ | refine codeW_label ?_ | refine codeW_exit ?_ | refine codeW_ret ?_ | refine codeW_block ?_ | refine codeW_region ?_ | refine opsW_nil ?_ | refine drawE_nil ?_ | (refine codeW_drawE ?_ ?_; (focus kernel_rfl)) | (apply drawE_val; (focus rfl); (first | exact wantedV_none rfl | (focus (simp only [go_sem, d1, d2, d2', callF_30]; done))); (focus (intro s_ hs_; simp only [go_sem, d1, d2, d2', callF_30, hs_] <;> rfl))) | (apply drawE_call; (focus rfl); (first | exact wantedV_none rfl | (focus (simp only [go_sem, d1, d2, d2', callF_30]; done))); (focus (simp only [go_sem, d1, d2, d2', callF_30] <;> rfl))) | (apply drawE_skip; (focus (simp only [go_sem, d1, d2, d2', callF_30]; done)); (focus assumption)) | (apply opsW_val; (first | exact wantedV_none rfl | (focus (simp only [go_sem, d1, d2, d2', callF_30]; done))); (focus (simp only [go_sem, d1, d2, d2', callF_30] <;> rfl))) | (apply opsW_call; (first | exact wantedV_none rfl | (focus (simp only [go_sem, d1, d2, d2', callF_30]; done))); (focus (simp only [go_sem, d1, d2, d2', callF_30] <;> rfl))) | (apply opsW_skip; (focus (simp only [go_sem, d1, d2, d2', callF_30]; done))) | refine blockQ_eq ?_ | (refine blockQ_ne ?_ ?_; (focus decide)) | refine index_ok anchor v l (by omega) _ hv.ints _ ?_)
      refine codeW_if (b := _) (by simp only [go_sem, d3]; rfl) ?_ ?_
      · intro _
        repeat (first | refine codeW_seq ?_ | refine codeW_skip ?_ | refine codeW_label ?_ | refine codeW_exit ?_ | refine codeW_ret ?_ | refine codeW_block ?_ | refine codeW_region ?_ | refine opsW_nil ?_ | refine drawE_nil ?_ | (refine codeW_drawE ?_ ?_; (focus kernel_rfl)) | (apply drawE_val; (focus rfl); (first | exact wantedV_none rfl | (focus (simp only [go_sem, d1]; done))); (focus (intro s_ hs_; simp only [go_sem, d1, hs_] <;> rfl))) | (apply drawE_call; (focus rfl); (first | exact wantedV_none rfl | (focus (simp only [go_sem, d1]; done))); (focus (simp only [go_sem, d1] <;> rfl))) | (apply drawE_skip; (focus (simp only [go_sem, d1]; done)); (focus assumption)) | (apply opsW_val; (first | exact wantedV_none rfl | (focus (simp only [go_sem, d1]; done))); (focus (simp only [go_sem, d1] <;> rfl))) | (apply opsW_call; (first | exact wantedV_none rfl | (focus (simp only [go_sem, d1]; done))); (focus (simp only [go_sem, d1] <;> rfl))) | (apply opsW_skip; (focus (simp only [go_sem, d1]; done))) | refine blockQ_eq ?_ | (refine blockQ_ne ?_ ?_; (focus decide)))
        change bodyQ Try.prog Try.f17 Q Ex.ret _ _
        exact hret 5 _ hpg (by simp only [go_sem] <;> rfl) (by simp only [go_sem] <;> rfl) (by simp only [go_sem] <;> rfl)
      · intro h; cases h
    have d3 := decide_eq_false g3
    have hfar : min (max offset (-1099511627776)) 1099511627776 = far offset := rfl
    have hpg : pg l anchor offset limit = ((l.drop (min (max (idx l anchor + far offset) 0) (l.length : Int)).toNat).take (min limit (l.length - (min (max (idx l anchor + far offset) 0) (l.length : Int)))).toNat, min (max (idx l anchor + far offset) 0) (l.length : Int), 0) := by
      simp only [pg]
      rw [if_neg (by omega), if_neg (by simp [g2]; omega), if_pos (by simp [g2])]
    repeat (first | refine codeW_seq ?_ | refine codeW_skip ?_ | refine codeW_label ?_ | refine codeW_exit ?_ | refine codeW_ret ?_ | refine codeW_block ?_ | refine codeW_region ?_ | refine opsW_nil ?_ | refine drawE_nil ?_ | (refine codeW_drawE ?_ ?_; (focus kernel_rfl)) | (apply drawE_val; (focus rfl); (first | exact wantedV_none rfl | (focus (simp only [go_sem, d1, d2, d2']; done))); (focus (intro s_ hs_; simp only [go_sem, d1, d2, d2', hs_] <;> rfl))) | (apply drawE_call; (focus rfl); (first | exact wantedV_none rfl | (focus (simp only [go_sem, d1, d2, d2']; done))); (focus (simp only [go_sem, d1, d2, d2'] <;> rfl))) | (apply drawE_skip; (focus (simp only [go_sem, d1, d2, d2']; done)); (focus assumption)) | (apply opsW_val; (first | exact wantedV_none rfl | (focus (simp only [go_sem, d1, d2, d2']; done))); (focus (simp only [go_sem, d1, d2, d2'] <;> rfl))) | (apply opsW_call; (first | exact wantedV_none rfl | (focus (simp only [go_sem, d1, d2, d2']; done))); (focus (simp only [go_sem, d1, d2, d2'] <;> rfl))) | (apply opsW_skip; (focus (simp only [go_sem, d1, d2, d2']; done))) | refine blockQ_eq ?_ | (refine blockQ_ne ?_ ?_; (focus decide)))
    refine codeW_if (b := _) (by simp only [go_sem, d1, d2, d2']; rfl) ?_ ?_
    · intro h; cases h
    intro _
    repeat (first | refine codeW_seq ?_ | refine codeW_skip ?_ | refine codeW_label ?_ | refine codeW_exit ?_ | refine codeW_ret ?_ | refine codeW_block ?_ | refine codeW_region ?_ | refine opsW_nil ?_ | refine drawE_nil ?_ | (refine codeW_drawE ?_ ?_; (focus kernel_rfl)) | (apply drawE_val; (focus rfl); (first | exact wantedV_none rfl | (focus (simp only [go_sem, d1, d2, d2']; done))); (focus (intro s_ hs_; simp only [go_sem, d1, d2, d2', hs_] <;> rfl))) | (apply drawE_call; (focus rfl); (first | exact wantedV_none rfl | (focus (simp only [go_sem, d1, d2, d2']; done))); (focus (simp only [go_sem, d1, d2, d2'] <;> rfl))) | (apply drawE_skip; (focus (simp only [go_sem, d1, d2, d2']; done)); (focus assumption)) | (apply opsW_val; (first | exact wantedV_none rfl | (focus (simp only [go_sem, d1, d2, d2']; done))); (focus (simp only [go_sem, d1, d2, d2'] <;> rfl))) | (apply opsW_call; (first | exact wantedV_none rfl | (focus (simp only [go_sem, d1, d2, d2']; done))); (focus (simp only [go_sem, d1, d2, d2'] <;> rfl))) | (apply opsW_skip; (focus (simp only [go_sem, d1, d2, d2']; done))) | refine blockQ_eq ?_ | (refine blockQ_ne ?_ ?_; (focus decide)))
    refine codeW_if (b := _) (by simp only [go_sem, d2']; rfl) ?_ ?_
    rotate_left
    · intro h; cases h
    intro _
    repeat (first | refine codeW_seq ?_ | refine codeW_skip ?_ | refine codeW_label ?_ | refine codeW_exit ?_ | refine codeW_ret ?_ | refine codeW_block ?_ | refine codeW_region ?_ | refine opsW_nil ?_ | refine drawE_nil ?_ | (refine codeW_drawE ?_ ?_; (focus kernel_rfl)) | (apply drawE_val; (focus rfl); (first | exact wantedV_none rfl | (focus (simp only [go_sem, d1, d2, d2', callF_30]; done))); (focus (intro s_ hs_; simp only [go_sem, d1, d2, d2', callF_30, hs_] <;> rfl))) | (apply drawE_call; (focus rfl); (first | exact wantedV_none rfl | (focus (simp only [go_sem, d1, d2, d2', callF_30]; done))); (focus (simp only [go_sem, d1, d2, d2', callF_30] <;> rfl))) | (apply drawE_skip; (focus (simp only [go_sem, d1, d2, d2', callF_30]; done)); (focus assumption)) | (apply opsW_val; (first | exact wantedV_none rfl | (focus (simp only [go_sem, d1, d2, d2', callF_30]; done))); (focus (simp only [go_sem, d1, d2, d2', callF_30] <;> rfl))) | (apply opsW_call; (first | exact wantedV_none rfl | (focus (simp only [go_sem, d1, d2, d2', callF_30]; done))); (focus (simp only [go_sem, d1, d2, d2', callF_30] <;> rfl))) | (apply opsW_skip; (focus (simp only [go_sem, d1, d2, d2', callF_30]; done))) | refine blockQ_eq ?_ | (refine blockQ_ne ?_ ?_; (focus decide)) | refine index_ok anchor v l (by omega) _ hv.ints _ ?_)
    refine codeW_if (b := _) (by simp only [go_sem, d3]; rfl) ?_ ?_
    · intro h; cases h
    intro _
    have hw1 : IntKind.i64.wrap (idx l anchor + far offset) = idx l anchor + far offset := by have := far_bounds offset; have := idx_bounds l anchor; exact wrap_id (by omega) (by omega)
    obtain ⟨a, ha⟩ : ∃ a, min (max (idx l anchor + far offset) 0) (l.length : Int) = a := ⟨_, rfl⟩
    have ha0 : 0 ≤ a ∧ a ≤ l.length := by omega
    have hw2 : IntKind.i64.wrap (l.length - a) = l.length - a := wrap_id (by omega) (by omega)
    have hw3 : IntKind.i64.wrap (a + min limit (l.length - a)) = a + min limit (l.length - a) := wrap_id (by omega) (by omega)
    rw [ha] at hpg
    obtain ⟨v1, hsl, hcut⟩ := slice23 hv (a := a) (b := a + min limit (l.length - a)) ha0.1 (by omega) (by omega)
    have hb : a + min limit (l.length - a) - a = min limit (l.length - a) := by omega
    rw [hb] at hcut
    have hlc : ((l.drop a.toNat).take (min limit (l.length - a)).toNat).length ≤ 100000000000 := by simp; omega
    repeat (first | refine codeW_seq ?_ | refine codeW_skip ?_ | refine codeW_label ?_ | refine codeW_exit ?_ | refine codeW_ret ?_ | refine codeW_block ?_ | refine codeW_region ?_ | refine opsW_nil ?_ | refine drawE_nil ?_ | (refine codeW_drawE ?_ ?_; (focus kernel_rfl)) | (apply drawE_val; (focus rfl); (first | exact wantedV_none rfl | (focus (simp only [go_sem, max_int, min_int, hfar, hw1, ha, hw2, hw3, len23 hv.ints, oSlice_some, Option.toList, List.head?, hsl _ (St.le_refl _), callF_31]; done))); (focus (intro s_ hs_; simp only [go_sem, max_int, min_int, hfar, hw1, ha, hw2, hw3, len23 hv.ints, oSlice_some, Option.toList, List.head?, hsl _ (St.le_refl _), callF_31, hs_] <;> rfl))) | (apply drawE_call; (focus rfl); (first | exact wantedV_none rfl | (focus (simp only [go_sem, max_int, min_int, hfar, hw1, ha, hw2, hw3, len23 hv.ints, oSlice_some, Option.toList, List.head?, hsl _ (St.le_refl _), callF_31]; done))); (focus (simp only [go_sem, max_int, min_int, hfar, hw1, ha, hw2, hw3, len23 hv.ints, oSlice_some, Option.toList, List.head?, hsl _ (St.le_refl _), callF_31] <;> rfl))) | (apply drawE_skip; (focus (simp only [go_sem, max_int, min_int, hfar, hw1, ha, hw2, hw3, len23 hv.ints, oSlice_some, Option.toList, List.head?, hsl _ (St.le_refl _), callF_31]; done)); (focus assumption)) | (apply opsW_val; (first | exact wantedV_none rfl | (focus (simp only [go_sem, max_int, min_int, hfar, hw1, ha, hw2, hw3, len23 hv.ints, oSlice_some, Option.toList, List.head?, hsl _ (St.le_refl _), callF_31]; done))); (focus (simp only [go_sem, max_int, min_int, hfar, hw1, ha, hw2, hw3, len23 hv.ints, oSlice_some, Option.toList, List.head?, hsl _ (St.le_refl _), callF_31] <;> rfl))) | (apply opsW_call; (first | exact wantedV_none rfl | (focus (simp only [go_sem, max_int, min_int, hfar, hw1, ha, hw2, hw3, len23 hv.ints, oSlice_some, Option.toList, List.head?, hsl _ (St.le_refl _), callF_31]; done))); (focus (simp only [go_sem, max_int, min_int, hfar, hw1, ha, hw2, hw3, len23 hv.ints, oSlice_some, Option.toList, List.head?, hsl _ (St.le_refl _), callF_31] <;> rfl))) | (apply opsW_skip; (focus (simp only [go_sem, max_int, min_int, hfar, hw1, ha, hw2, hw3, len23 hv.ints, oSlice_some, Option.toList, List.head?, hsl _ (St.le_refl _), callF_31]; done))) | refine blockQ_eq ?_ | (refine blockQ_ne ?_ ?_; (focus decide)) | refine clone_ok _ _ hlc _ hcut.ints _ (fun v' s' hs' hc' => ?_))
    refine end_ret3 (fn := Try.f17) rfl (by simp only [go_sem] <;> rfl) (by simp only [go_sem] <;> rfl) (by simp only [go_sem] <;> rfl) ?_
    rw [hpg] at hQ
    exact hQ _ _ hs' hc'
end Go.Proofs.Ytbkniippobnbpaa
