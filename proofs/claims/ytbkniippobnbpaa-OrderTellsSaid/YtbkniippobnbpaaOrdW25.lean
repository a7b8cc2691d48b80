/-
  Sort of the program.
-/
import Derived.Test.YtbkniippobnbpaaOrdW24
namespace Go.Proofs.Ytbkniippobnbpaa
open Go.Ae
set_option linter.unusedSimpArgs false
set_option maxHeartbeats 8000000

attribute [local go_sem] opV_move opV_assign opV_pick opV_alloc opV_box opV_build opV_buildSlice opV_load opV_store opV_nilCheck opV_unOp opV_binOp opV_makeInterface opV_makeFunc opV_makeSlice opV_slice opV_fieldAddr opV_field opV_indexAddr opV_index opV_extract opV_call oCall_value oCall_builtin oCallV_func bin_add bin_sub bin_mul bin_lss bin_leq bin_gtr bin_geq bin_eql bin_neq bins_lss bins_leq bins_gtr bins_geq bins_eql bins_neq binb_eql ret1_some ret2_some retU_some oBin_some oUn_some oPick_some oLoad_some oStore_some oBox_some oIndexAddr_some oIndex_some oExtract_some un_not un_neg cond_true cond_false beq_ft beq_tf Bool.not_true Bool.not_false wantedV opd_tmp opd_c opd ofV Fr.get_put_ne Fr.get_put_eq Fr.get_put_none Fr.put_n ne_eq not_false_eq_true Fr.only_get fr_get fr_n argsT T.get_set T.get_nil oField oFunc oNil oAlloc oBuild oBuildSlice mapO pairs okI_eq fnat_eq fint_eq List.getElem?_toArray List.getElem?_cons_zero List.getElem?_cons_succ Option.bind_some List.map List.length_cons List.length_nil Nat.reduceEqDiff Nat.reduceLT Nat.reduceAdd Nat.reduceMul Nat.zero_add Nat.add_zero Nat.max_def Nat.reduceLeDiff Nat.reduceLT and_true and_false true_and false_and if_true if_false ite_true ite_false Option.some.injEq reduceCtorEq decide_true decide_false bne_self_eq_false beq_self_eq_true seqQ List.append_nil List.nil_append List.cons_append newVar_eq cellsOf St.box_nx Option.map_some

/-- A slice of keys. -/
def KeySl (s : St) (v : CV) (L : List K) : Prop :=
  (v = .nilslice ∧ L = []) ∨ ∃ b o c, v = .slice b o L.length c ∧ b < s.nx ∧ ∀ i k, L[i]? = some k → Ae.lds s b (o + i * 6) 6 = some k.cells

theorem KeySl.le {s s' : St} {v : CV} {L : List K} (h : KeySl s v L) (hs : s.le s') : KeySl s' v L := by
  rcases h with h | ⟨b, o, c, h1, h2, h3⟩
  · exact .inl h
  · exact .inr ⟨b, o, c, h1, Nat.lt_of_lt_of_le h2 hs.1, fun i k hi => by rw [hs.lds h2]; exact h3 i k hi⟩

theorem KeySl.len {s : St} {v : CV} {L : List K} (h : KeySl s v L) : lenOf v = some L.length := by
  rcases h with ⟨rfl, rfl⟩ | ⟨b, o, c, rfl, -⟩ <;> rfl

theorem lds_add {s : St} {b : Nat} : ∀ {n m o : Nat} {A B : List CV}, Ae.lds s b o n = some A → Ae.lds s b (o + n) m = some B → Ae.lds s b o (n + m) = some (A ++ B)
  | 0, m, o, A, B, h1, h2 => by
    simp only [Ae.lds, Option.some.injEq] at h1
    subst h1
    rw [Nat.zero_add]; exact h2
  | n + 1, m, o, A, B, h1, h2 => by
    rw [show n + 1 + m = (n + m) + 1 by omega]
    simp only [Ae.lds] at h1 ⊢
    split at h1
    · cases h1
    · rename_i v hv
      split at h1
      · cases h1
      · rename_i A' hA'
        simp only [Option.some.injEq] at h1
        subst h1
        rw [lds_add (m := m) (B := B) hA' (by rw [show o + 1 + n = o + (n + 1) by omega]; exact h2)]
        rfl

theorem lds_keys {s : St} {b : Nat} : ∀ {L : List K} {o : Nat}, (∀ i k, L[i]? = some k → Ae.lds s b (o + i * 6) 6 = some k.cells) → Ae.lds s b o (L.length * 6) = some (kcells L)
  | [], o, _ => by simp only [List.length_nil, Nat.zero_mul, Ae.lds]; rfl
  | k :: L, o, h => by
    rw [List.length_cons, show (L.length + 1) * 6 = 6 + L.length * 6 by omega]
    show _ = some (k.cells ++ kcells L)
    refine lds_add (h 0 k rfl) (lds_keys fun i k' hi => ?_)
    have := h (i + 1) k' (by simpa using hi)
    rw [show o + 6 + i * 6 = o + (i + 1) * 6 by omega]
    exact this

theorem KeySl.cells {s : St} {v : CV} {L : List K} (h : KeySl s v L) : firstCells s 6 L.length v = some (kcells L) := by
  rcases h with ⟨rfl, rfl⟩ | ⟨b, o, c, rfl, hb, h3⟩
  · rfl
  · exact lds_keys h3

theorem info25' : (Try.prog.info? 25).map (fun ie => (ie.size, decide (ie.bytes ≤ 1000), zeroFits ie)) = some (6, true, true) := by kernel_rfl
theorem info25 : ∃ ie, Try.prog.info? 25 = some ie ∧ ie.size = 6 ∧ ie.bytes ≤ 1000 ∧ zeroFits ie = true := by
  have h := info25'
  cases hi : Try.prog.info? 25 with
  | none => rw [hi] at h; cases h
  | some ie =>
    rw [hi] at h
    simp only [Option.map_some, Option.some.injEq, Prod.mk.injEq, decide_eq_true_eq] at h
    exact ⟨ie, rfl, h⟩

theorem kcells_scalar (L : List K) : ∀ x ∈ kcells L, scalar x = true := fun x hx => by
  obtain ⟨k, _, hk⟩ := List.mem_flatMap.1 hx
  simp only [K.cells, List.mem_cons, List.not_mem_nil, or_false] at hk
  rcases hk with rfl | rfl | rfl | rfl | rfl | rfl <;> rfl

theorem appK {s₀ s : St} {v y : CV} {L M : List K} (h : Acc s₀ s 25 6 v L.length (kcells L)) (hy : KeySl s y M) (hl : L.length + M.length ≤ 1000000) :
    ∃ v' s', builtinV Try.prog s .append #[22, 22] [v, y] = some (.val v' s') ∧ Acc s₀ s' 25 6 v' (L ++ M).length (kcells (L ++ M)) := by
  obtain ⟨ie, h1, h2, h3, h4⟩ := info25
  obtain ⟨v', s', h5, h6⟩ := append_ok h Try.underlying22 h1 h2 h4 hy.len hy.cells (kcells_len M) (kcells_scalar M) (by
    calc (L.length + M.length) * ie.bytes ≤ 1000000 * 1000 := Nat.mul_le_mul hl h3
      _ ≤ 1000000000000 := by decide) (by omega)
  refine ⟨v', s', h5, ?_⟩
  rw [List.length_append, kcells, List.flatMap_append]
  exact h6

theorem accKArr {s₀ s : St} {v : CV} {L : List K} (h : Acc s₀ s 25 6 v L.length (kcells L)) : (v = .nilslice ∧ L = []) ∨ ∃ b, v = .slice b 0 L.length L.length ∧ KArr s₀ s b L := by
  rcases h.val with ⟨h1, h2⟩ | ⟨b, h1, h2, h3, h4⟩ | ⟨b, h1, h2, h3, h4⟩
  · exact .inl ⟨h1, List.eq_nil_of_length_eq_zero h2⟩
  · exact .inr ⟨b, h1, h.le, h2, h3, _, _, h4⟩
  · exact .inr ⟨b, h1, h.le, h2, h3, _, _, h4⟩

theorem KArr.keys {s₀ s : St} {b : Nat} {L : List K} (h : KArr s₀ s b L) : KeySl s (.slice b 0 L.length L.length) L :=
  .inr ⟨b, 0, _, rfl, h.lt, fun i k hi => by rw [Nat.zero_add]; exact h.lds hi⟩

theorem accKeys {s₀ s : St} {v : CV} {L : List K} (h : Acc s₀ s 25 6 v L.length (kcells L)) : KeySl s v L := by
  rcases accKArr h with ⟨h1, h2⟩ | ⟨b, h1, h2⟩
  · exact .inl ⟨h1, h2⟩
  · rw [h1]; exact h2.keys

theorem zero25' : Ae.zeroOf Try.prog 25 = some (.agg zk) := zero25
theorem none22 (s : St) : buildSliceV Try.prog s 22 0 [] = some (.slice s.nx 0 0 0, s.box [] 25) := by
  have h1 : Nat.ble (0 * 6) 16777216 = true := rfl
  have h2 : Nat.beq (cellsOf (.agg zk)).length 6 = true := rfl
  have h3 : fillL (fun i => some (i * 6, 6)) ((List.range (0 * 6)).map fun i => (cellsOf (.agg zk)).getD (i % 6) .nilptr) [] = some [] := rfl
  simp only [buildSliceV, Try.underlying22, sz25, zero25, h1, h2, h3, newCells_eq]
  rfl

theorem accNoneK (s : St) : Acc s (s.box [] 25) 25 6 (.slice s.nx 0 0 0) ([] : List K).length (kcells []) :=
  ⟨St.box_le _ _ _, rfl, .inr (.inr ⟨s.nx, rfl, Nat.le_refl _, Nat.lt_succ_self _, Has.box s [] 25⟩)⟩

theorem isnil22 {s : St} {v : CV} {L : List K} (h : KeySl s v L) (s' : St) (x y : Operand) : binV Try.prog s' .eql 22 x y v .nilslice = some (.bool (isNil v)) := by
  rcases h with ⟨rfl, rfl⟩ | ⟨b, o, c, rfl, -⟩
  · simp only [binV, eqGuard, eqv, Try.underlying22]; rfl
  · simp only [binV, eqGuard, eqv, Try.underlying22]; rfl

theorem cloneK_ok (v : CV) (L : List K) (hl : L.length ≤ 1000000) (s : St) (hv : KeySl s v L) (Q : CV → St → Prop) (hQ : ∀ v' s', Acc s s' 25 6 v' L.length (kcells L) → Q v' s') : callW Try.prog Hk 27 [v] s Q := by
  refine callW_enter (fn := Try.f27) (freeHk _ _ _ (by decide)) Try.func27 rfl ?_
  simp only [Try.ntmps27]
  obtain ⟨v', s', happ, hacc⟩ := appK (accNoneK s) (hv.le (St.box_le s [] 25)) (by simpa using hl)
  rw [List.nil_append] at hacc
  by_cases hn : v = .nilslice
  · subst hn
    have h0 : L = [] := by
      rcases hv with ⟨-, h⟩ | ⟨b, o, c, h, -⟩
      · exact h
      · cases h
    subst h0
    repeat (first | refine codeW_seq ?_ | refine codeW_skip ?_ | refine codeW_label ?_ | refine codeW_exit ?_ | refine codeW_ret ?_ | refine codeW_block ?_ | refine codeW_region ?_ | refine opsW_nil ?_ | refine drawE_nil ?_ | (refine codeW_drawS ?_ ?_; (focus kernel_rfl)) | (refine codeW_drawE ?_ ?_; (focus kernel_rfl)) | (apply drawE_val; (focus rfl); (first | exact wantedV_none rfl | (focus (simp only [go_sem, isnil22 hv]; done))); (focus (intro s_ hs_; simp only [go_sem, isnil22 hv, hs_] <;> rfl))) | (apply drawE_call; (focus rfl); (first | exact wantedV_none rfl | (focus (simp only [go_sem, isnil22 hv]; done))); (focus (simp only [go_sem, isnil22 hv] <;> rfl))) | (apply drawE_skip; (focus (simp only [go_sem, isnil22 hv]; done)); (focus (first | assumption | exact St.le_refl _))) | (apply opsW_val; (first | exact wantedV_none rfl | (focus (simp only [go_sem, isnil22 hv]; done))); (focus (simp only [go_sem, isnil22 hv] <;> rfl))) | (apply opsW_call; (first | exact wantedV_none rfl | (focus (simp only [go_sem, isnil22 hv]; done))); (focus (simp only [go_sem, isnil22 hv] <;> rfl))) | (apply opsW_skip; (focus (simp only [go_sem, isnil22 hv]; done))) | refine blockQ_eq ?_ | (refine blockQ_ne ?_ ?_; (focus decide)))
    refine codeW_if (b := _) (by simp only [go_sem, if_true]; rfl) ?_ ?_
    · intro _
      repeat (first | refine codeW_seq ?_ | refine codeW_skip ?_ | refine codeW_label ?_ | refine codeW_exit ?_ | refine codeW_ret ?_ | refine codeW_block ?_ | refine codeW_region ?_ | refine opsW_nil ?_ | refine drawE_nil ?_ | (refine codeW_drawS ?_ ?_; (focus kernel_rfl)) | (refine codeW_drawE ?_ ?_; (focus kernel_rfl)) | (apply drawE_val; (focus rfl); (first | exact wantedV_none rfl | (focus (simp only [go_sem, if_true]; done))); (focus (intro s_ hs_; simp only [go_sem, if_true, hs_] <;> rfl))) | (apply drawE_call; (focus rfl); (first | exact wantedV_none rfl | (focus (simp only [go_sem, if_true]; done))); (focus (simp only [go_sem, if_true] <;> rfl))) | (apply drawE_skip; (focus (simp only [go_sem, if_true]; done)); (focus (first | assumption | exact St.le_refl _))) | (apply opsW_val; (first | exact wantedV_none rfl | (focus (simp only [go_sem, if_true]; done))); (focus (simp only [go_sem, if_true] <;> rfl))) | (apply opsW_call; (first | exact wantedV_none rfl | (focus (simp only [go_sem, if_true]; done))); (focus (simp only [go_sem, if_true] <;> rfl))) | (apply opsW_skip; (focus (simp only [go_sem, if_true]; done))) | refine blockQ_eq ?_ | (refine blockQ_ne ?_ ?_; (focus decide)))
      change bodyQ Try.prog Try.f27 Q Ex.ret _ _
      exact end_ret (fn := Try.f27) (t := 2) rfl (by simp only [go_sem] <;> rfl) (hQ _ _ (Acc.nil (St.le_refl _)))
    · intro h; cases h
  · have hb : isNil v = false := by
      cases v <;> first | rfl | exact absurd rfl hn
    have hq : ∀ s' x y, binV Try.prog s' .eql 22 x y v .nilslice = some (.bool false) := fun s' x y => by rw [isnil22 hv, hb]
    repeat (first | refine codeW_seq ?_ | refine codeW_skip ?_ | refine codeW_label ?_ | refine codeW_exit ?_ | refine codeW_ret ?_ | refine codeW_block ?_ | refine codeW_region ?_ | refine opsW_nil ?_ | refine drawE_nil ?_ | (refine codeW_drawS ?_ ?_; (focus kernel_rfl)) | (refine codeW_drawE ?_ ?_; (focus kernel_rfl)) | (apply drawE_val; (focus rfl); (first | exact wantedV_none rfl | (focus (simp only [go_sem, hq]; done))); (focus (intro s_ hs_; simp only [go_sem, hq, hs_] <;> rfl))) | (apply drawE_call; (focus rfl); (first | exact wantedV_none rfl | (focus (simp only [go_sem, hq]; done))); (focus (simp only [go_sem, hq] <;> rfl))) | (apply drawE_skip; (focus (simp only [go_sem, hq]; done)); (focus (first | assumption | exact St.le_refl _))) | (apply opsW_val; (first | exact wantedV_none rfl | (focus (simp only [go_sem, hq]; done))); (focus (simp only [go_sem, hq] <;> rfl))) | (apply opsW_call; (first | exact wantedV_none rfl | (focus (simp only [go_sem, hq]; done))); (focus (simp only [go_sem, hq] <;> rfl))) | (apply opsW_skip; (focus (simp only [go_sem, hq]; done))) | refine blockQ_eq ?_ | (refine blockQ_ne ?_ ?_; (focus decide)))
    refine codeW_if (b := _) (by simp only [go_sem, hq]; rfl) ?_ ?_
    · intro h; cases h
    intro _
    repeat (first | refine codeW_seq ?_ | refine codeW_skip ?_ | refine codeW_label ?_ | refine codeW_exit ?_ | refine codeW_ret ?_ | refine codeW_block ?_ | refine codeW_region ?_ | refine opsW_nil ?_ | refine drawE_nil ?_ | (refine codeW_drawS ?_ ?_; (focus kernel_rfl)) | (refine codeW_drawE ?_ ?_; (focus kernel_rfl)) | (apply drawE_val; (focus rfl); (first | exact wantedV_none rfl | (focus (simp only [go_sem, none22, happ]; done))); (focus (intro s_ hs_; simp only [go_sem, none22, happ, hs_] <;> rfl))) | (apply drawE_call; (focus rfl); (first | exact wantedV_none rfl | (focus (simp only [go_sem, none22, happ]; done))); (focus (simp only [go_sem, none22, happ] <;> rfl))) | (apply drawE_skip; (focus (simp only [go_sem, none22, happ]; done)); (focus (first | assumption | exact St.le_refl _))) | (apply opsW_val; (first | exact wantedV_none rfl | (focus (simp only [go_sem, none22, happ]; done))); (focus (simp only [go_sem, none22, happ] <;> rfl))) | (apply opsW_call; (first | exact wantedV_none rfl | (focus (simp only [go_sem, none22, happ]; done))); (focus (simp only [go_sem, none22, happ] <;> rfl))) | (apply opsW_skip; (focus (simp only [go_sem, none22, happ]; done))) | refine blockQ_eq ?_ | (refine blockQ_ne ?_ ?_; (focus decide)))
    exact end_ret (fn := Try.f27) (t := 2) rfl (by simp only [go_sem] <;> rfl) (hQ _ _ hacc)

theorem len22n (s : St) : builtinV Try.prog s .len #[22] [.nilslice] = some (.val (.int .i64 (0 : Nat)) s) := by
  simp only [builtinV, lenV, List.getElem?_toArray, List.getElem?_cons_zero, Try.underlying22]; rfl

theorem insertion_nil (f : CV) (s : St) (Q : CV → St → Prop) (hQ : Q (.tuple []) s) : callW Try.prog Hk 44 [.nilslice, .int .i64 0, .int .i64 0, f] s Q := by
  refine callW_enter (fn := Try.f44) (freeHk _ _ _ (by decide)) Try.func44 rfl ?_
  simp only [Try.ntmps44]
  have w : IntKind.i64.wrap (0 + 1) = 1 := by decide
  have d : decide ((1 : Int) < 0) = false := by decide
  repeat (first | refine codeW_seq ?_ | refine codeW_skip ?_ | refine codeW_label ?_ | refine codeW_exit ?_ | refine codeW_ret ?_ | refine codeW_block ?_ | refine codeW_region ?_ | refine opsW_nil ?_ | refine drawE_nil ?_ | (refine codeW_drawS ?_ ?_; (focus kernel_rfl)) | (refine codeW_drawE ?_ ?_; (focus kernel_rfl)) | (apply drawE_val; (focus rfl); (first | exact wantedV_none rfl | (focus (simp only [go_sem, w]; done))); (focus (intro s_ hs_; simp only [go_sem, w, hs_] <;> rfl))) | (apply drawE_call; (focus rfl); (first | exact wantedV_none rfl | (focus (simp only [go_sem, w]; done))); (focus (simp only [go_sem, w] <;> rfl))) | (apply drawE_skip; (focus (simp only [go_sem, w]; done)); (focus (first | assumption | exact St.le_refl _))) | (apply opsW_val; (first | exact wantedV_none rfl | (focus (simp only [go_sem, w]; done))); (focus (simp only [go_sem, w] <;> rfl))) | (apply opsW_call; (first | exact wantedV_none rfl | (focus (simp only [go_sem, w]; done))); (focus (simp only [go_sem, w] <;> rfl))) | (apply opsW_skip; (focus (simp only [go_sem, w]; done))) | refine blockQ_eq ?_ | (refine blockQ_ne ?_ ?_; (focus decide)))
  refine codeW_loop ?_
  repeat (first | refine codeW_seq ?_ | refine codeW_skip ?_ | refine codeW_label ?_ | refine codeW_exit ?_ | refine codeW_ret ?_ | refine codeW_block ?_ | refine codeW_region ?_ | refine opsW_nil ?_ | refine drawE_nil ?_ | (refine codeW_drawS ?_ ?_; (focus kernel_rfl)) | (refine codeW_drawE ?_ ?_; (focus kernel_rfl)) | (apply drawE_val; (focus rfl); (first | exact wantedV_none rfl | (focus (simp only [go_sem, w, d]; done))); (focus (intro s_ hs_; simp only [go_sem, w, d, hs_] <;> rfl))) | (apply drawE_call; (focus rfl); (first | exact wantedV_none rfl | (focus (simp only [go_sem, w, d]; done))); (focus (simp only [go_sem, w, d] <;> rfl))) | (apply drawE_skip; (focus (simp only [go_sem, w, d]; done)); (focus (first | assumption | exact St.le_refl _))) | (apply opsW_val; (first | exact wantedV_none rfl | (focus (simp only [go_sem, w, d]; done))); (focus (simp only [go_sem, w, d] <;> rfl))) | (apply opsW_call; (first | exact wantedV_none rfl | (focus (simp only [go_sem, w, d]; done))); (focus (simp only [go_sem, w, d] <;> rfl))) | (apply opsW_skip; (focus (simp only [go_sem, w, d]; done))) | refine blockQ_eq ?_ | (refine blockQ_ne ?_ ?_; (focus decide)))
  refine codeW_if (b := _) (by simp only [go_sem, w, d]; rfl) ?_ ?_
  · intro h; cases h
  intro _
  repeat (first | refine codeW_seq ?_ | refine codeW_skip ?_ | refine codeW_label ?_ | refine codeW_exit ?_ | refine codeW_ret ?_ | refine codeW_block ?_ | refine codeW_region ?_ | refine opsW_nil ?_ | refine drawE_nil ?_ | (refine codeW_drawS ?_ ?_; (focus kernel_rfl)) | (refine codeW_drawE ?_ ?_; (focus kernel_rfl)) | (apply drawE_val; (focus rfl); (first | exact wantedV_none rfl | (focus (simp only [go_sem, w]; done))); (focus (intro s_ hs_; simp only [go_sem, w, hs_] <;> rfl))) | (apply drawE_call; (focus rfl); (first | exact wantedV_none rfl | (focus (simp only [go_sem, w]; done))); (focus (simp only [go_sem, w] <;> rfl))) | (apply drawE_skip; (focus (simp only [go_sem, w]; done)); (focus (first | assumption | exact St.le_refl _))) | (apply opsW_val; (first | exact wantedV_none rfl | (focus (simp only [go_sem, w]; done))); (focus (simp only [go_sem, w] <;> rfl))) | (apply opsW_call; (first | exact wantedV_none rfl | (focus (simp only [go_sem, w]; done))); (focus (simp only [go_sem, w] <;> rfl))) | (apply opsW_skip; (focus (simp only [go_sem, w]; done))) | refine blockQ_eq ?_ | (refine blockQ_ne ?_ ?_; (focus decide)))
  first
    | exact end_tup (ex := .ret) (fun j h => by cases h) rfl hQ
    | exact end_tup (ex := .norm) (fun j h => by cases h) rfl hQ

theorem stable_nil (f : CV) (s : St) (Q : CV → St → Prop) (hQ : Q (.tuple []) s) : callW Try.prog Hk 41 [.nilslice, .int .i64 0, f] s Q := by
  refine callW_enter (fn := Try.f41) (freeHk _ _ _ (by decide)) Try.func41 rfl ?_
  simp only [Try.ntmps41]
  have d : decide ((20 : Int) ≤ 0) = false := by decide
  have d' : decide ((20 : Int) < 0) = false := by decide
  repeat (first | refine codeW_seq ?_ | refine codeW_skip ?_ | refine codeW_label ?_ | refine codeW_exit ?_ | refine codeW_ret ?_ | refine codeW_block ?_ | refine codeW_region ?_ | refine opsW_nil ?_ | refine drawE_nil ?_ | (refine codeW_drawS ?_ ?_; (focus kernel_rfl)) | (refine codeW_drawE ?_ ?_; (focus kernel_rfl)) | (apply drawE_val; (focus rfl); (first | exact wantedV_none rfl | (focus (simp only [go_sem, d]; done))); (focus (intro s_ hs_; simp only [go_sem, d, hs_] <;> rfl))) | (apply drawE_call; (focus rfl); (first | exact wantedV_none rfl | (focus (simp only [go_sem, d]; done))); (focus (simp only [go_sem, d] <;> rfl))) | (apply drawE_skip; (focus (simp only [go_sem, d]; done)); (focus (first | assumption | exact St.le_refl _))) | (apply opsW_val; (first | exact wantedV_none rfl | (focus (simp only [go_sem, d]; done))); (focus (simp only [go_sem, d] <;> rfl))) | (apply opsW_call; (first | exact wantedV_none rfl | (focus (simp only [go_sem, d]; done))); (focus (simp only [go_sem, d] <;> rfl))) | (apply opsW_skip; (focus (simp only [go_sem, d]; done))) | refine blockQ_eq ?_ | (refine blockQ_ne ?_ ?_; (focus decide)))
  refine codeW_loop ?_
  repeat (first | refine codeW_seq ?_ | refine codeW_skip ?_ | refine codeW_label ?_ | refine codeW_exit ?_ | refine codeW_ret ?_ | refine codeW_block ?_ | refine codeW_region ?_ | refine opsW_nil ?_ | refine drawE_nil ?_ | (refine codeW_drawS ?_ ?_; (focus kernel_rfl)) | (refine codeW_drawE ?_ ?_; (focus kernel_rfl)) | (apply drawE_val; (focus rfl); (first | exact wantedV_none rfl | (focus (simp only [go_sem, d]; done))); (focus (intro s_ hs_; simp only [go_sem, d, hs_] <;> rfl))) | (apply drawE_call; (focus rfl); (first | exact wantedV_none rfl | (focus (simp only [go_sem, d]; done))); (focus (simp only [go_sem, d] <;> rfl))) | (apply drawE_skip; (focus (simp only [go_sem, d]; done)); (focus (first | assumption | exact St.le_refl _))) | (apply opsW_val; (first | exact wantedV_none rfl | (focus (simp only [go_sem, d]; done))); (focus (simp only [go_sem, d] <;> rfl))) | (apply opsW_call; (first | exact wantedV_none rfl | (focus (simp only [go_sem, d]; done))); (focus (simp only [go_sem, d] <;> rfl))) | (apply opsW_skip; (focus (simp only [go_sem, d]; done))) | refine blockQ_eq ?_ | (refine blockQ_ne ?_ ?_; (focus decide)))
  refine codeW_if (b := _) (by simp only [go_sem, d]; rfl) ?_ ?_
  · intro h; cases h
  intro _
  repeat (first | refine codeW_seq ?_ | refine codeW_skip ?_ | refine codeW_label ?_ | refine codeW_exit ?_ | refine codeW_ret ?_ | refine codeW_block ?_ | refine codeW_region ?_ | refine opsW_nil ?_ | refine drawE_nil ?_ | (refine codeW_drawS ?_ ?_; (focus kernel_rfl)) | (refine codeW_drawE ?_ ?_; (focus kernel_rfl)) | (apply drawE_val; (focus rfl); (first | exact wantedV_none rfl | (focus (simp only [go_sem, callF_44]; done))); (focus (intro s_ hs_; simp only [go_sem, callF_44, hs_] <;> rfl))) | (apply drawE_call; (focus rfl); (first | exact wantedV_none rfl | (focus (simp only [go_sem, callF_44]; done))); (focus (simp only [go_sem, callF_44] <;> rfl))) | (apply drawE_skip; (focus (simp only [go_sem, callF_44]; done)); (focus (first | assumption | exact St.le_refl _))) | (apply opsW_val; (first | exact wantedV_none rfl | (focus (simp only [go_sem, callF_44]; done))); (focus (simp only [go_sem, callF_44] <;> rfl))) | (apply opsW_call; (first | exact wantedV_none rfl | (focus (simp only [go_sem, callF_44]; done))); (focus (simp only [go_sem, callF_44] <;> rfl))) | (apply opsW_skip; (focus (simp only [go_sem, callF_44]; done))) | refine blockQ_eq ?_ | (refine blockQ_ne ?_ ?_; (focus decide)) | refine insertion_nil f _ _ ?_)
  refine codeW_loop ?_
  repeat (first | refine codeW_seq ?_ | refine codeW_skip ?_ | refine codeW_label ?_ | refine codeW_exit ?_ | refine codeW_ret ?_ | refine codeW_block ?_ | refine codeW_region ?_ | refine opsW_nil ?_ | refine drawE_nil ?_ | (refine codeW_drawS ?_ ?_; (focus kernel_rfl)) | (refine codeW_drawE ?_ ?_; (focus kernel_rfl)) | (apply drawE_val; (focus rfl); (first | exact wantedV_none rfl | (focus (simp only [go_sem, d']; done))); (focus (intro s_ hs_; simp only [go_sem, d', hs_] <;> rfl))) | (apply drawE_call; (focus rfl); (first | exact wantedV_none rfl | (focus (simp only [go_sem, d']; done))); (focus (simp only [go_sem, d'] <;> rfl))) | (apply drawE_skip; (focus (simp only [go_sem, d']; done)); (focus (first | assumption | exact St.le_refl _))) | (apply opsW_val; (first | exact wantedV_none rfl | (focus (simp only [go_sem, d']; done))); (focus (simp only [go_sem, d'] <;> rfl))) | (apply opsW_call; (first | exact wantedV_none rfl | (focus (simp only [go_sem, d']; done))); (focus (simp only [go_sem, d'] <;> rfl))) | (apply opsW_skip; (focus (simp only [go_sem, d']; done))) | refine blockQ_eq ?_ | (refine blockQ_ne ?_ ?_; (focus decide)))
  refine codeW_if (b := _) (by simp only [go_sem, d']; rfl) ?_ ?_
  · intro h; cases h
  intro _
  repeat (first | refine codeW_seq ?_ | refine codeW_skip ?_ | refine codeW_label ?_ | refine codeW_exit ?_ | refine codeW_ret ?_ | refine codeW_block ?_ | refine codeW_region ?_ | refine opsW_nil ?_ | refine drawE_nil ?_ | (refine codeW_drawS ?_ ?_; (focus kernel_rfl)) | (refine codeW_drawE ?_ ?_; (focus kernel_rfl)) | (apply drawE_val; (focus rfl); (first | exact wantedV_none rfl | (focus (simp only [go_sem, d']; done))); (focus (intro s_ hs_; simp only [go_sem, d', hs_] <;> rfl))) | (apply drawE_call; (focus rfl); (first | exact wantedV_none rfl | (focus (simp only [go_sem, d']; done))); (focus (simp only [go_sem, d'] <;> rfl))) | (apply drawE_skip; (focus (simp only [go_sem, d']; done)); (focus (first | assumption | exact St.le_refl _))) | (apply opsW_val; (first | exact wantedV_none rfl | (focus (simp only [go_sem, d']; done))); (focus (simp only [go_sem, d'] <;> rfl))) | (apply opsW_call; (first | exact wantedV_none rfl | (focus (simp only [go_sem, d']; done))); (focus (simp only [go_sem, d'] <;> rfl))) | (apply opsW_skip; (focus (simp only [go_sem, d']; done))) | refine blockQ_eq ?_ | (refine blockQ_ne ?_ ?_; (focus decide)))
  first
    | exact end_tup (ex := .ret) (fun j h => by cases h) rfl hQ
    | exact end_tup (ex := .norm) (fun j h => by cases h) rfl hQ

theorem sortF_ok {s₀ : St} {f : CV} {l : List Int} (hf : CmpF s₀ f l) (L : List K) (n b : Nat) (hn : n = L.length) (hn' : n ≤ 1000) (s : St) (hA : KArr s₀ s b L) (Q : CV → St → Prop)
    (hQ : ∀ s' L', KArr s₀ s' b L' → L'.Perm L → Srt l L' → Q (.tuple []) s') : callW Try.prog Hk 28 [.slice b 0 n n, f] s Q := by
  refine callW_enter (fn := Try.f28) (freeHk _ _ _ (by decide)) Try.func28 rfl ?_
  simp only [Try.ntmps28]
  repeat (first | refine codeW_seq ?_ | refine codeW_skip ?_ | refine codeW_label ?_ | refine codeW_exit ?_ | refine codeW_ret ?_ | refine codeW_block ?_ | refine codeW_region ?_ | refine opsW_nil ?_ | refine drawE_nil ?_ | (refine codeW_drawS ?_ ?_; (focus kernel_rfl)) | (refine codeW_drawE ?_ ?_; (focus kernel_rfl)) | (apply drawE_val; (focus rfl); (first | exact wantedV_none rfl | (focus (simp only [go_sem, len22, callF_41]; done))); (focus (intro s_ hs_; simp only [go_sem, len22, callF_41, hs_] <;> rfl))) | (apply drawE_call; (focus rfl); (first | exact wantedV_none rfl | (focus (simp only [go_sem, len22, callF_41]; done))); (focus (simp only [go_sem, len22, callF_41] <;> rfl))) | (apply drawE_skip; (focus (simp only [go_sem, len22, callF_41]; done)); (focus (first | assumption | exact St.le_refl _))) | (apply opsW_val; (first | exact wantedV_none rfl | (focus (simp only [go_sem, len22, callF_41]; done))); (focus (simp only [go_sem, len22, callF_41] <;> rfl))) | (apply opsW_call; (first | exact wantedV_none rfl | (focus (simp only [go_sem, len22, callF_41]; done))); (focus (simp only [go_sem, len22, callF_41] <;> rfl))) | (apply opsW_skip; (focus (simp only [go_sem, len22, callF_41]; done))) | refine blockQ_eq ?_ | (refine blockQ_ne ?_ ?_; (focus decide)) | refine stable_ok hf L n b hn hn' _ hA _ (fun s3 L' h1 h2 h3 => ?_))
  first
    | exact end_tup (ex := .ret) (fun j h => by cases h) rfl (hQ s3 L' h1 h2 h3)
    | exact end_tup (ex := .norm) (fun j h => by cases h) rfl (hQ s3 L' h1 h2 h3)

theorem sortF_nil (f : CV) (s : St) (Q : CV → St → Prop) (hQ : Q (.tuple []) s) : callW Try.prog Hk 28 [.nilslice, f] s Q := by
  refine callW_enter (fn := Try.f28) (freeHk _ _ _ (by decide)) Try.func28 rfl ?_
  simp only [Try.ntmps28]
  repeat (first | refine codeW_seq ?_ | refine codeW_skip ?_ | refine codeW_label ?_ | refine codeW_exit ?_ | refine codeW_ret ?_ | refine codeW_block ?_ | refine codeW_region ?_ | refine opsW_nil ?_ | refine drawE_nil ?_ | (refine codeW_drawS ?_ ?_; (focus kernel_rfl)) | (refine codeW_drawE ?_ ?_; (focus kernel_rfl)) | (apply drawE_val; (focus rfl); (first | exact wantedV_none rfl | (focus (simp only [go_sem, len22n, callF_41]; done))); (focus (intro s_ hs_; simp only [go_sem, len22n, callF_41, hs_] <;> rfl))) | (apply drawE_call; (focus rfl); (first | exact wantedV_none rfl | (focus (simp only [go_sem, len22n, callF_41]; done))); (focus (simp only [go_sem, len22n, callF_41] <;> rfl))) | (apply drawE_skip; (focus (simp only [go_sem, len22n, callF_41]; done)); (focus (first | assumption | exact St.le_refl _))) | (apply opsW_val; (first | exact wantedV_none rfl | (focus (simp only [go_sem, len22n, callF_41]; done))); (focus (simp only [go_sem, len22n, callF_41] <;> rfl))) | (apply opsW_call; (first | exact wantedV_none rfl | (focus (simp only [go_sem, len22n, callF_41]; done))); (focus (simp only [go_sem, len22n, callF_41] <;> rfl))) | (apply opsW_skip; (focus (simp only [go_sem, len22n, callF_41]; done))) | refine blockQ_eq ?_ | (refine blockQ_ne ?_ ?_; (focus decide)) | refine stable_nil f _ _ ?_)
  first
    | exact end_tup (ex := .ret) (fun j h => by cases h) rfl hQ
    | exact end_tup (ex := .norm) (fun j h => by cases h) rfl hQ
end Go.Proofs.Ytbkniippobnbpaa
