/-
  Page of the program: Index, Clone, Page.
-/
import Derived.Test.YtbkniippobnbpaaOrdW7
namespace Go.Proofs.Ytbkniippobnbpaa
open Go.Ae
set_option linter.unusedSimpArgs false
set_option maxHeartbeats 2000000
attribute [local go_sem] opV_move opV_assign opV_pick opV_alloc opV_box opV_build opV_buildSlice opV_load opV_store opV_nilCheck opV_unOp opV_binOp opV_makeInterface opV_makeFunc opV_makeSlice opV_slice opV_fieldAddr opV_field opV_indexAddr opV_index opV_extract opV_call oCall_value oCall_builtin oCallV_func bin_add bin_sub bin_mul bin_lss bin_leq bin_gtr bin_geq bin_eql bin_neq bins_lss bins_leq bins_gtr bins_geq bins_eql bins_neq binb_eql ret1_some ret2_some retU_some oBin_some oUn_some oPick_some oLoad_some oStore_some oBox_some oIndexAddr_some oIndex_some oExtract_some un_not un_neg cond_true cond_false beq_ft beq_tf Bool.not_true Bool.not_false wantedV opd_tmp opd_c opd ofV Fr.get_put_ne Fr.get_put_eq Fr.get_put_none Fr.put_n ne_eq not_false_eq_true Fr.only_get fr_get fr_n argsT T.get_set T.get_nil oField oFunc oNil oAlloc oBuild oBuildSlice mapO pairs okI_eq fnat_eq fint_eq List.getElem?_toArray List.getElem?_cons_zero List.getElem?_cons_succ Option.bind_some List.map List.length_cons List.length_nil Nat.reduceEqDiff Nat.reduceLT Nat.reduceAdd Nat.reduceMul Nat.zero_add Nat.add_zero Nat.max_def Nat.reduceLeDiff Nat.reduceLT and_true and_false true_and false_and if_true if_false ite_true ite_false Option.some.injEq reduceCtorEq decide_true decide_false bne_self_eq_false beq_self_eq_true seqQ List.append_nil List.nil_append List.cons_append newVar_eq cellsOf St.box_nx Option.map_some

/-- A slice of numbers that may be cut. -/
structure CutSl (s : St) (v : CV) (l : List Int) : Prop where
  ints : IntSl s v l
  cut : ∀ b o n c, v = .slice b o n c → n ≤ c ∧ cutOk s b 1 = true

theorem cutOk_le {s s' : St} {b : Nat} (hs : s.le s') (hb : b < s.nx) (z : Nat) : cutOk s' b z = cutOk s b z := by
  unfold cutOk; rw [hs.2 b hb]

theorem CutSl.le {s s' : St} {v : CV} {l : List Int} (h : CutSl s v l) (hs : s.le s') : CutSl s' v l := by
  refine ⟨h.ints.le hs, fun b o n c e => ?_⟩
  obtain ⟨h1, h2⟩ := h.cut b o n c e
  refine ⟨h1, ?_⟩
  rcases h.ints with ⟨h3, -⟩ | ⟨b', o', c', h3, h4, -⟩
  · rw [h3] at e; cases e
  · rw [h3] at e; cases e; rw [cutOk_le hs h4]; exact h2

theorem accCut {s₀ s : St} {v : CV} {l : List Int} (h : Acc s₀ s 3 1 v l.length (ints l)) : CutSl s v l := by
  refine ⟨accInts h, fun b o n c e => ?_⟩
  rcases h.val with ⟨h1, -⟩ | ⟨b', h1, -, -, h5⟩ | ⟨b', h1, -, -, h5⟩
  · rw [h1] at e; cases e
  · rw [h1] at e; cases e
    obtain ⟨cs, h6, -⟩ := h5.obj
    exact ⟨Nat.le_refl _, by simp only [cutOk, h6]; rfl⟩
  · rw [h1] at e; cases e
    obtain ⟨cs, h6, -⟩ := h5.obj
    exact ⟨Nat.le_refl _, by simp only [cutOk, h6]⟩

theorem bound_nat {x : Int} {top : Nat} (d : Nat) (h0 : 0 ≤ x) (h1 : x ≤ top) : bound (some (.int .i64 x)) d top = some x.toNat := by
  simp only [bound, decide_eq_true h0, decide_eq_true h1, fnat_eq]

/-- l[a : b] -/
theorem slice23 {s : St} {v : CV} {l : List Int} (h : CutSl s v l) {a b : Int} (h0 : 0 ≤ a) (h1 : a ≤ b) (h2 : b ≤ l.length) :
    ∃ v', (∀ s', s.le s' → sliceV Try.prog s' 23 v (some (.int .i64 a)) (some (.int .i64 b)) none = some v') ∧ CutSl s v' ((l.drop a.toNat).take (b - a).toNat) := by
  rcases h.ints with ⟨rfl, rfl⟩ | ⟨bb, o, c, rfl, h3, h4⟩
  · have hb : b = 0 := by simp at h2; omega
    have ha : a = 0 := by omega
    subst hb ha
    exact ⟨.nilslice, fun s' _ => by simp only [sliceV, Try.underlying23, sz3]; rfl, ⟨.inl ⟨rfl, by simp⟩, fun _ _ _ _ e => by cases e⟩⟩
  · obtain ⟨h5, h6⟩ := h.cut _ _ _ _ rfl
    refine ⟨.slice bb (o + a.toNat * 1) (b.toNat - a.toNat) (c - a.toNat), fun s' hs' => ?_, ?_⟩
    · have g1 : bound (some (.int .i64 b)) l.length c = some b.toNat := bound_nat _ (by omega) (by omega)
      have g2 : bound (some (.int .i64 a)) 0 b.toNat = some a.toNat := bound_nat _ h0 (by omega)
      have g3 : cutOk s' bb 1 = true := by rw [cutOk_le hs' h3]; exact h6
      have g4 : bound none c c = some c := rfl
      have g5 : (Option.isSome (none : Option CV) && Option.isNone (some (CV.int .i64 b))) = false := rfl
      simp only [sliceV, Try.underlying23, sz3, g1, g2, g3, g4, g5, fnat_eq]
    · have hlen : ((l.drop a.toNat).take (b - a).toNat).length = b.toNat - a.toNat := by simp; omega
      refine ⟨.inr ⟨bb, o + a.toNat * 1, c - a.toNat, by rw [hlen], h3, fun i m hi => ?_⟩, fun b' o' n' c' e => ?_⟩
      · rw [List.getElem?_take] at hi
        split at hi
        · rw [List.getElem?_drop] at hi
          rw [Nat.mul_one, Nat.add_assoc]; exact h4 _ m hi
        · cases hi
      · cases e; exact ⟨by omega, h6⟩

theorem result_tmp3 {fn : Func} {t u w : Nat} {τ : Fr} {s : St} {x y z : CV} (h : fn.results = #[.tmp t, .tmp u, .tmp w]) (hx : τ.get t = some x) (hy : τ.get u = some y) (hz : τ.get w = some z) :
    Ae.results Try.prog fn τ s = some (.tuple [x, y, z]) := by
  simp only [Ae.results, h, mapO, hx, hy, hz]

theorem end_ret3 {fn : Func} {Q : CV → St → Prop} {t u w : Nat} {τ : Fr} {s : St} {x y z : CV} (h : fn.results = #[.tmp t, .tmp u, .tmp w]) (hx : τ.get t = some x) (hy : τ.get u = some y) (hz : τ.get w = some z)
    (hQ : Q (.tuple [x, y, z]) s) : bodyQ Try.prog fn Q .ret τ s := ⟨_, result_tmp3 h hx hy hz, hQ⟩

def idx (l : List Int) (x : Int) : Int := match l.findIdx? (· == x) with
  | some i => i
  | none => -1

theorem idx_hit {l : List Int} {x : Int} {i : Nat} (h : l[i]? = some x) (h' : ∀ j, j < i → l[j]? ≠ some x) : idx l x = i := by
  have : l.findIdx? (· == x) = some i := by
    obtain ⟨h1, h2⟩ := List.getElem?_eq_some_iff.1 h
    rw [List.findIdx?_eq_some_iff_getElem]
    refine ⟨h1, by simp [h2], fun j hj => ?_⟩
    have := h' j hj
    rw [List.getElem?_eq_getElem (by omega)] at this
    simpa using this
  simp only [idx, this]

theorem idx_none {l : List Int} {x : Int} (h' : ∀ j : Nat, j < l.length → l[j]? ≠ some x) : idx l x = -1 := by
  have : l.findIdx? (· == x) = none := by
    rw [List.findIdx?_eq_none_iff]
    intro y hy
    obtain ⟨j, hj⟩ := List.getElem?_of_mem hy
    have hlt := (List.getElem?_eq_some_iff.1 hj).1
    have := h' j hlt
    rw [hj] at this
    simpa using this
  simp only [idx, this]

theorem max_int (k : IntKind) (x y : Int) (s : St) (ts : Array TypeId) : builtinV Try.prog s .max ts [.int k x, .int k y] = some (.val (.int k (max x y)) s) := by
  simp only [builtinV, foldO, max2]
  by_cases h : y > x
  · have e : max x y = y := by omega
    rw [decide_eq_true h, e]; rfl
  · have e : max x y = x := by omega
    rw [decide_eq_false h, e]; rfl

theorem min_int (k : IntKind) (x y : Int) (s : St) (ts : Array TypeId) : builtinV Try.prog s .min ts [.int k x, .int k y] = some (.val (.int k (min x y)) s) := by
  simp only [builtinV, foldO, min2]
  by_cases h : y < x
  · have e : min x y = y := by omega
    rw [decide_eq_true h, e]; rfl
  · have e : min x y = x := by omega
    rw [decide_eq_false h, e]; rfl

theorem wrap_id {n : Int} (h : -9223372036854775808 ≤ n) (h' : n < 9223372036854775808) : IntKind.i64.wrap n = n := by
  simp only [IntKind.wrap, IntKind.signed, IntKind.bits]
  by_cases hn : 0 ≤ n
  · have h1 : n % 2 ^ 64 = n := Int.emod_eq_of_lt hn (by omega)
    have h2 : decide (n ≥ 2 ^ (64 - 1)) = false := decide_eq_false (by omega)
    simp only [h1, h2, Bool.and_false, Bool.false_eq_true, if_false]
  · have h1 : n % 2 ^ 64 = n + 2 ^ 64 := by omega
    have h2 : decide (n + 2 ^ 64 ≥ 2 ^ (64 - 1)) = true := decide_eq_true (by omega)
    simp only [h1, h2, Bool.and_true, if_true]
    omega

def isNil : CV → Bool
  | .nilslice => true
  | _ => false

theorem isnil23 {s : St} {v : CV} {l : List Int} (h : IntSl s v l) (s' : St) (x y : Operand) : binV Try.prog s' .eql 23 x y v .nilslice = some (.bool (isNil v)) := by
  rcases h with ⟨rfl, rfl⟩ | ⟨b, o, c, rfl, -⟩
  · simp only [binV, eqGuard, eqv, Try.underlying23]; rfl
  · simp only [binV, eqGuard, eqv, Try.underlying23]; rfl

theorem index_ok (x : Int) (v : CV) (l : List Int) (hl : l.length < 9223372036854775808) (s : St) (hv : IntSl s v l) (Q : CV → St → Prop) (hQ : Q (.int .i64 (idx l x)) s) : callW Try.prog Hk 30 [v, .int .i64 x] s Q := by
  refine callW_enter (fn := Try.f30) (freeHk _ _ _ (by decide)) Try.func30 rfl ?_
  simp only [Try.ntmps30]
  repeat (first | refine codeW_seq ?_ | refine codeW_skip ?_ | refine codeW_label ?_ | refine codeW_exit ?_ | refine codeW_ret ?_ | refine codeW_block ?_ | refine codeW_region ?_ | refine opsW_nil ?_ | refine drawE_nil ?_ | (refine codeW_drawE ?_ ?_; (focus kernel_rfl)) | (apply drawE_val; (focus rfl); (first | exact wantedV_none rfl | (focus (simp only [go_sem, len23 hv]; done))); (focus (intro s_ hs_; simp only [go_sem, len23 hv, hs_] <;> rfl))) | (apply drawE_call; (focus rfl); (first | exact wantedV_none rfl | (focus (simp only [go_sem, len23 hv]; done))); (focus (simp only [go_sem, len23 hv] <;> rfl))) | (apply drawE_skip; (focus (simp only [go_sem, len23 hv]; done)); (focus assumption)) | (apply opsW_val; (first | exact wantedV_none rfl | (focus (simp only [go_sem, len23 hv]; done))); (focus (simp only [go_sem, len23 hv] <;> rfl))) | (apply opsW_call; (first | exact wantedV_none rfl | (focus (simp only [go_sem, len23 hv]; done))); (focus (simp only [go_sem, len23 hv] <;> rfl))) | (apply opsW_skip; (focus (simp only [go_sem, len23 hv]; done))) | refine blockQ_eq ?_ | (refine blockQ_ne ?_ ?_; (focus decide)))
  refine codeW_inv (fun n τ s' => ∃ i : Nat, i + n = l.length ∧ s' = s ∧ τ.n = 19 ∧ τ.get 0 = some v ∧ τ.get 1 = some (.int .i64 x) ∧ τ.get 7 = some (.int .i64 l.length) ∧ τ.get 8 = some (.int .i64 i) ∧
    ∀ j, j < i → l[j]? ≠ some x) ?_ l.length _ _ ⟨0, by omega, rfl, by simp only [go_sem] <;> rfl, by simp only [go_sem] <;> rfl, by simp only [go_sem] <;> rfl, by simp only [go_sem] <;> rfl, by simp only [go_sem] <;> rfl, fun j hj => by omega⟩
  rintro n τ s' ⟨i, hi, rfl, t0, ta, tb, t7, t8, hnone⟩
  repeat (first | refine codeW_seq ?_ | refine codeW_skip ?_ | refine codeW_label ?_ | refine codeW_exit ?_ | refine codeW_ret ?_ | refine codeW_block ?_ | refine codeW_region ?_ | refine opsW_nil ?_ | refine drawE_nil ?_ | (refine codeW_drawE ?_ ?_; (focus kernel_rfl)) | (apply drawE_val; (focus rfl); (first | exact wantedV_none rfl | (focus (simp only [go_sem, t0, ta, tb, t7, t8]; done))); (focus (intro s_ hs_; simp only [go_sem, t0, ta, tb, t7, t8, hs_] <;> rfl))) | (apply drawE_call; (focus rfl); (first | exact wantedV_none rfl | (focus (simp only [go_sem, t0, ta, tb, t7, t8]; done))); (focus (simp only [go_sem, t0, ta, tb, t7, t8] <;> rfl))) | (apply drawE_skip; (focus (simp only [go_sem, t0, ta, tb, t7, t8]; done)); (focus assumption)) | (apply opsW_val; (first | exact wantedV_none rfl | (focus (simp only [go_sem, t0, ta, tb, t7, t8]; done))); (focus (simp only [go_sem, t0, ta, tb, t7, t8] <;> rfl))) | (apply opsW_call; (first | exact wantedV_none rfl | (focus (simp only [go_sem, t0, ta, tb, t7, t8]; done))); (focus (simp only [go_sem, t0, ta, tb, t7, t8] <;> rfl))) | (apply opsW_skip; (focus (simp only [go_sem, t0, ta, tb, t7, t8]; done))) | refine blockQ_eq ?_ | (refine blockQ_ne ?_ ?_; (focus decide)))
  refine codeW_if (b := _) (by simp only [go_sem, t0, ta, tb, t7, t8]; rfl) ?_ ?_
  · intro hlt
    have hlt : i < l.length := by have := of_decide_eq_true hlt; omega
    obtain ⟨m, hm⟩ : ∃ m, l[i]? = some m := ⟨_, List.getElem?_eq_getElem hlt⟩
    obtain ⟨bb, oo, h1, h2, h3⟩ := at23 hv hm
    repeat (first | refine codeW_seq ?_ | refine codeW_skip ?_ | refine codeW_label ?_ | refine codeW_exit ?_ | refine codeW_ret ?_ | refine codeW_block ?_ | refine codeW_region ?_ | refine opsW_nil ?_ | refine drawE_nil ?_ | (refine codeW_drawE ?_ ?_; (focus kernel_rfl)) | (apply drawE_val; (focus rfl); (first | exact wantedV_none rfl | (focus (simp only [go_sem, t0, ta, tb, t7, t8, h1, h3, load3]; done))); (focus (intro s_ hs_; simp only [go_sem, t0, ta, tb, t7, t8, h1, h3, load3, hs_] <;> rfl))) | (apply drawE_call; (focus rfl); (first | exact wantedV_none rfl | (focus (simp only [go_sem, t0, ta, tb, t7, t8, h1, h3, load3]; done))); (focus (simp only [go_sem, t0, ta, tb, t7, t8, h1, h3, load3] <;> rfl))) | (apply drawE_skip; (focus (simp only [go_sem, t0, ta, tb, t7, t8, h1, h3, load3]; done)); (focus assumption)) | (apply opsW_val; (first | exact wantedV_none rfl | (focus (simp only [go_sem, t0, ta, tb, t7, t8, h1, h3, load3]; done))); (focus (simp only [go_sem, t0, ta, tb, t7, t8, h1, h3, load3] <;> rfl))) | (apply opsW_call; (first | exact wantedV_none rfl | (focus (simp only [go_sem, t0, ta, tb, t7, t8, h1, h3, load3]; done))); (focus (simp only [go_sem, t0, ta, tb, t7, t8, h1, h3, load3] <;> rfl))) | (apply opsW_skip; (focus (simp only [go_sem, t0, ta, tb, t7, t8, h1, h3, load3]; done))) | refine blockQ_eq ?_ | (refine blockQ_ne ?_ ?_; (focus decide)))
    refine codeW_if (b := _) (by simp only [go_sem, t0, ta, tb, t7, t8, h1]; rfl) ?_ ?_
    · intro he
      have he : x = m := by simpa using he
      repeat (first | refine codeW_seq ?_ | refine codeW_skip ?_ | refine codeW_label ?_ | refine codeW_exit ?_ | refine codeW_ret ?_ | refine codeW_block ?_ | refine codeW_region ?_ | refine opsW_nil ?_ | refine drawE_nil ?_ | (refine codeW_drawE ?_ ?_; (focus kernel_rfl)) | (apply drawE_val; (focus rfl); (first | exact wantedV_none rfl | (focus (simp only [go_sem, t0, ta, tb, t7, t8]; done))); (focus (intro s_ hs_; simp only [go_sem, t0, ta, tb, t7, t8, hs_] <;> rfl))) | (apply drawE_call; (focus rfl); (first | exact wantedV_none rfl | (focus (simp only [go_sem, t0, ta, tb, t7, t8]; done))); (focus (simp only [go_sem, t0, ta, tb, t7, t8] <;> rfl))) | (apply drawE_skip; (focus (simp only [go_sem, t0, ta, tb, t7, t8]; done)); (focus assumption)) | (apply opsW_val; (first | exact wantedV_none rfl | (focus (simp only [go_sem, t0, ta, tb, t7, t8]; done))); (focus (simp only [go_sem, t0, ta, tb, t7, t8] <;> rfl))) | (apply opsW_call; (first | exact wantedV_none rfl | (focus (simp only [go_sem, t0, ta, tb, t7, t8]; done))); (focus (simp only [go_sem, t0, ta, tb, t7, t8] <;> rfl))) | (apply opsW_skip; (focus (simp only [go_sem, t0, ta, tb, t7, t8]; done))) | refine blockQ_eq ?_ | (refine blockQ_ne ?_ ?_; (focus decide)))
      change bodyQ Try.prog Try.f30 Q Ex.ret _ _
      refine end_ret (fn := Try.f30) (t := 4) rfl (by simp only [go_sem, t0] <;> rfl) ?_
      rw [idx_hit (by rw [he]; exact hm) hnone] at hQ
      exact hQ
    · intro he
      have he : ¬ x = m := by simpa using he
      repeat (first | refine codeW_seq ?_ | refine codeW_skip ?_ | refine codeW_label ?_ | refine codeW_exit ?_ | refine codeW_ret ?_ | refine codeW_block ?_ | refine codeW_region ?_ | refine opsW_nil ?_ | refine drawE_nil ?_ | (refine codeW_drawE ?_ ?_; (focus kernel_rfl)) | (apply drawE_val; (focus rfl); (first | exact wantedV_none rfl | (focus (simp only [go_sem, t0, ta, tb, t7, t8]; done))); (focus (intro s_ hs_; simp only [go_sem, t0, ta, tb, t7, t8, hs_] <;> rfl))) | (apply drawE_call; (focus rfl); (first | exact wantedV_none rfl | (focus (simp only [go_sem, t0, ta, tb, t7, t8]; done))); (focus (simp only [go_sem, t0, ta, tb, t7, t8] <;> rfl))) | (apply drawE_skip; (focus (simp only [go_sem, t0, ta, tb, t7, t8]; done)); (focus assumption)) | (apply opsW_val; (first | exact wantedV_none rfl | (focus (simp only [go_sem, t0, ta, tb, t7, t8]; done))); (focus (simp only [go_sem, t0, ta, tb, t7, t8] <;> rfl))) | (apply opsW_call; (first | exact wantedV_none rfl | (focus (simp only [go_sem, t0, ta, tb, t7, t8]; done))); (focus (simp only [go_sem, t0, ta, tb, t7, t8] <;> rfl))) | (apply opsW_skip; (focus (simp only [go_sem, t0, ta, tb, t7, t8]; done))) | refine blockQ_eq ?_ | (refine blockQ_ne ?_ ?_; (focus decide)))
      refine ⟨n - 1, by omega, i + 1, by omega, rfl, by simp only [go_sem, t0], by simp only [go_sem, t0, ta], by simp only [go_sem, t0, tb], by simp only [go_sem, t0, t7], by simp only [go_sem, t0, t8, wrap_nat (show i + 1 < 9223372036854775808 by omega)], fun j hj => ?_⟩
      by_cases hji : j = i
      · rw [hji, hm]; intro h; cases h; exact he rfl
      · exact hnone j (by omega)
  · intro hlt
    have hlt : ¬ i < l.length := by have := of_decide_eq_false hlt; omega
    repeat (first | refine codeW_seq ?_ | refine codeW_skip ?_ | refine codeW_label ?_ | refine codeW_exit ?_ | refine codeW_ret ?_ | refine codeW_block ?_ | refine codeW_region ?_ | refine opsW_nil ?_ | refine drawE_nil ?_ | (refine codeW_drawE ?_ ?_; (focus kernel_rfl)) | (apply drawE_val; (focus rfl); (first | exact wantedV_none rfl | (focus (simp only [go_sem, t0, ta, tb, t7, t8]; done))); (focus (intro s_ hs_; simp only [go_sem, t0, ta, tb, t7, t8, hs_] <;> rfl))) | (apply drawE_call; (focus rfl); (first | exact wantedV_none rfl | (focus (simp only [go_sem, t0, ta, tb, t7, t8]; done))); (focus (simp only [go_sem, t0, ta, tb, t7, t8] <;> rfl))) | (apply drawE_skip; (focus (simp only [go_sem, t0, ta, tb, t7, t8]; done)); (focus assumption)) | (apply opsW_val; (first | exact wantedV_none rfl | (focus (simp only [go_sem, t0, ta, tb, t7, t8]; done))); (focus (simp only [go_sem, t0, ta, tb, t7, t8] <;> rfl))) | (apply opsW_call; (first | exact wantedV_none rfl | (focus (simp only [go_sem, t0, ta, tb, t7, t8]; done))); (focus (simp only [go_sem, t0, ta, tb, t7, t8] <;> rfl))) | (apply opsW_skip; (focus (simp only [go_sem, t0, ta, tb, t7, t8]; done))) | refine blockQ_eq ?_ | (refine blockQ_ne ?_ ?_; (focus decide)))
    refine end_ret (fn := Try.f30) (t := 4) rfl (by simp only [go_sem, t0] <;> rfl) ?_
    rw [idx_none fun j hj => hnone j (by omega)] at hQ
    exact hQ
end Go.Proofs.Ytbkniippobnbpaa
