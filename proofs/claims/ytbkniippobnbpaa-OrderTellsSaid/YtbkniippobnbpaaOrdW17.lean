/-
  A row of keys in memory: loads, stores, and the comparison by criteria as a function value.
-/
import Derived.Test.YtbkniippobnbpaaOrdW13
import Derived.Test.YtbkniippobnbpaaAeDrawS
namespace Go.Proofs.Ytbkniippobnbpaa
open Go.Ae
set_option linter.unusedSimpArgs false
set_option maxHeartbeats 2000000
attribute [local go_sem] opV_move opV_assign opV_pick opV_alloc opV_box opV_build opV_buildSlice opV_load opV_store opV_nilCheck opV_unOp opV_binOp opV_makeInterface opV_makeFunc opV_makeSlice opV_slice opV_fieldAddr opV_field opV_indexAddr opV_index opV_extract opV_call oCall_value oCall_builtin oCallV_func bin_add bin_sub bin_mul bin_lss bin_leq bin_gtr bin_geq bin_eql bin_neq bins_lss bins_leq bins_gtr bins_geq bins_eql bins_neq binb_eql ret1_some ret2_some retU_some oBin_some oUn_some oPick_some oLoad_some oStore_some oBox_some oIndexAddr_some oIndex_some oExtract_some un_not un_neg cond_true cond_false beq_ft beq_tf Bool.not_true Bool.not_false wantedV opd_tmp opd_c opd ofV Fr.get_put_ne Fr.get_put_eq Fr.get_put_none Fr.put_n ne_eq not_false_eq_true Fr.only_get fr_get fr_n argsT T.get_set T.get_nil oField oFunc oNil oAlloc oBuild oBuildSlice mapO pairs okI_eq fnat_eq fint_eq List.getElem?_toArray List.getElem?_cons_zero List.getElem?_cons_succ Option.bind_some List.map List.length_cons List.length_nil Nat.reduceEqDiff Nat.reduceLT Nat.reduceAdd Nat.reduceMul Nat.zero_add Nat.add_zero Nat.max_def Nat.reduceLeDiff Nat.reduceLT and_true and_false true_and false_and if_true if_false ite_true ite_false Option.some.injEq reduceCtorEq decide_true decide_false bne_self_eq_false beq_self_eq_true seqQ List.append_nil List.nil_append List.cons_append newVar_eq cellsOf St.box_nx Option.map_some

def kcells (L : List K) : List CV := L.flatMap K.cells

theorem kcells_len (L : List K) : (kcells L).length = L.length * 6 := by
  induction L with
  | nil => rfl
  | cons k L ih =>
    show (k.cells ++ kcells L).length = _
    rw [List.length_append, ih, List.length_cons]
    show 6 + _ = _
    omega

theorem kcells_at : ∀ {L : List K} {i : Nat} {k : K}, L[i]? = some k → ((kcells L).drop (i * 6)).take 6 = k.cells
  | [], i, k, h => by simp at h
  | x :: L, 0, k, h => by
    simp at h
    subst h
    show ((x.cells ++ kcells L).drop 0).take 6 = _
    rw [List.drop_zero, List.take_append_of_le_length (Nat.le_refl 6)]
    rfl
  | x :: L, i + 1, k, h => by
    show ((x.cells ++ kcells L).drop ((i + 1) * 6)).take 6 = _
    rw [List.drop_append, List.drop_of_length_le (show x.cells.length ≤ (i + 1) * 6 by show 6 ≤ _; omega), List.nil_append]
    rw [show (i + 1) * 6 - x.cells.length = i * 6 by show (i + 1) * 6 - 6 = _; omega]
    exact kcells_at (by simpa using h)

theorem kcells_set : ∀ {L : List K} {i : Nat} (k : K), i < L.length → (kcells L).take (i * 6) ++ k.cells ++ (kcells L).drop (i * 6 + 6) = kcells (L.set i k)
  | [], i, k, h => by simp at h
  | x :: L, 0, k, _ => by
    show (x.cells ++ kcells L).take 0 ++ k.cells ++ (x.cells ++ kcells L).drop (0 + 6) = k.cells ++ kcells L
    rw [List.take_zero, List.nil_append, List.drop_append, List.drop_of_length_le (Nat.le_refl 6), List.nil_append]
    rfl
  | x :: L, i + 1, k, h => by
    show (x.cells ++ kcells L).take ((i + 1) * 6) ++ k.cells ++ (x.cells ++ kcells L).drop ((i + 1) * 6 + 6) = x.cells ++ kcells (L.set i k)
    rw [List.drop_append, List.drop_of_length_le (show x.cells.length ≤ (i + 1) * 6 + 6 by show 6 ≤ _; omega), List.nil_append, List.take_append, List.take_of_length_le (show x.cells.length ≤ (i + 1) * 6 by show 6 ≤ _; omega)]
    rw [show (i + 1) * 6 - x.cells.length = i * 6 by show (i + 1) * 6 - 6 = _; omega, show (i + 1) * 6 + 6 - x.cells.length = i * 6 + 6 by show (i + 1) * 6 + 6 - 6 = _; omega]
    rw [List.append_assoc, List.append_assoc, ← List.append_assoc ((kcells L).take _), kcells_set k (by simpa using h)]

/-- Block b, made over s₀, holds the keys L. -/
structure KArr (s₀ s : St) (b : Nat) (L : List K) : Prop where
  le : s₀.le s
  own : s₀.nx ≤ b
  lt : b < s.nx
  has : ∃ ex esz, Has s b (kcells L) 0 ex esz false 25

section
variable {s₀ s s' : St} {b i j : Nat} {L : List K} {k x y : K}

theorem KArr.of_le (h : KArr s₀ s b L) (hs : s.le s') : KArr s₀ s' b L := by
  obtain ⟨ex, esz, hh⟩ := h.has
  exact ⟨St.le_trans h.le hs, h.own, Nat.lt_of_lt_of_le h.lt hs.1, ex, esz, hh.of_le hs h.lt⟩

theorem KArr.lds (h : KArr s₀ s b L) (hi : L[i]? = some k) : Ae.lds s b (i * 6) 6 = some k.cells := by
  obtain ⟨ex, esz, hh⟩ := h.has
  have hlt := (List.getElem?_eq_some_iff.1 hi).1
  rw [hh.lds (by rw [kcells_len]; omega), kcells_at hi]

theorem KArr.load (h : KArr s₀ s b L) (hi : L[i]? = some k) : Ae.loadVar Try.prog s 25 b (i * 6) = some k.cv := by
  rw [load25, h.lds hi]; rfl

theorem KArr.stos (h : KArr s₀ s b L) (hi : i < L.length) (k : K) : ∃ s', Ae.storeVar Try.prog s 25 b (i * 6) k.cv = some s' ∧ KArr s₀ s' b (L.set i k) := by
  obtain ⟨ex, esz, hh⟩ := h.has
  obtain ⟨s', h1, h2, h3⟩ := hh.stos (vs := k.cells) (o := i * 6) (by rw [kcells_len]; show _ + 6 ≤ _; omega) (Nat.zero_le _) (by simp [K.cells, scalar])
  refine ⟨s', by rw [K.cv, store25]; exact h1, h3.le h.le h.own, h.own, by rw [h3.nx]; exact h.lt, ex, esz, ?_⟩
  rw [show i * 6 + k.cells.length = i * 6 + 6 from rfl, kcells_set k hi] at h2
  exact h2

theorem KArr.swap (h : KArr s₀ s b L) (hi : L[i]? = some x) (hj : L[j]? = some y) :
    ∃ s1 s2, Ae.storeVar Try.prog s 25 b (i * 6) y.cv = some s1 ∧ Ae.storeVar Try.prog s1 25 b (j * 6) x.cv = some s2 ∧ KArr s₀ s2 b ((L.set i y).set j x) := by
  have h1 := (List.getElem?_eq_some_iff.1 hi).1
  have h2 := (List.getElem?_eq_some_iff.1 hj).1
  obtain ⟨s1, g1, g2⟩ := h.stos h1 y
  obtain ⟨s2, g3, g4⟩ := g2.stos (by rw [List.length_set]; exact h2) x
  exact ⟨s1, s2, g1, g3, g4⟩
end

theorem at22 (b n : Nat) {i : Nat} (hi : i < n) : indexAt Try.prog 22 (.slice b 0 n n) (.int .i64 i) = some (.ptr b (i * 6)) := by
  have h1 : decide ((0 : Int) ≤ (i : Int)) = true := by simp
  have h2 : decide ((i : Int) < (n : Nat)) = true := by simpa using hi
  simp only [indexAt, Try.underlying22, sz25, h1, h2, fnat_eq, Int.toNat_natCast, Nat.zero_add]

theorem len22 (s : St) (b n : Nat) : builtinV Try.prog s .len #[22] [.slice b 0 n n] = some (.val (.int .i64 n) s) := by
  simp only [builtinV, lenV, List.getElem?_toArray, List.getElem?_cons_zero, Try.underlying22]; rfl

/-- The comparison of keys by the criteria l that box bx holds in s₀. -/
structure CmpF (s₀ : St) (f : CV) (l : List Int) : Prop where
  ok : ∃ bx v, f = .func (.func 29) [] [.ptr bx 0] ∧ bx < s₀.nx ∧ ld s₀ bx 0 = some v ∧ IntSl s₀ v l
  short : l.length < 9223372036854775808

theorem load23 (s : St) (b o : Nat) : Ae.loadVar Try.prog s 23 b o = ld s b o := by
  have h : Ae.isAgg Try.prog 23 = false := by kernel_rfl
  simp only [Ae.loadVar, h, Try.underlying23]

theorem cmp_ok {s₀ : St} {f : CV} {l : List Int} (hf : CmpF s₀ f l) (a b : K) (s : St) (hs : s₀.le s) :
    ∃ args, (∀ s', oCallV Try.prog s' (some f) [a.cv, b.cv] = some (.enter 29 args s')) ∧ ∀ (Q : CV → St → Prop), (∀ s', s.le s' → Q (.int .i64 (cmpK a b l)) s') → callW Try.prog Hk 29 args s Q := by
  obtain ⟨bx, v, rfl, hbx, hld, hv⟩ := hf.ok
  refine ⟨[a.cv, b.cv, .ptr bx 0], fun s' => callF_29 [a.cv, b.cv, .ptr bx 0] s', fun Q hQ => ?_⟩
  have hA : Ae.lds ((s.box a.cells 25).box b.cells 25) s.nx 0 6 = some a.cells := by
    rw [St.le.lds (St.box_le _ _ _) (by simp only [St.box_nx]; omega)]
    exact St.box_lds s a.cells 25
  have hB : Ae.lds ((s.box a.cells 25).box b.cells 25) (s.nx + 1) 0 6 = some b.cells := St.box_lds (s.box a.cells 25) b.cells 25
  have hV : Ae.ld ((s.box a.cells 25).box b.cells 25) bx 0 = some v := by
    rw [St.le.ld (St.le_trans hs (le_box2 _ _ _ _ _)) hbx]; exact hld
  refine callW_enter (fn := Try.f29) (freeHk _ _ _ (by decide)) Try.func29 rfl ?_
  simp only [Try.ntmps29, K.cv]
  repeat (first | refine codeW_seq ?_ | refine codeW_skip ?_ | refine codeW_label ?_ | refine codeW_exit ?_ | refine codeW_ret ?_ | refine codeW_block ?_ | refine codeW_region ?_ | refine opsW_nil ?_ | refine drawE_nil ?_ | (refine codeW_drawE ?_ ?_; (focus kernel_rfl)) | (apply drawE_val; (focus rfl); (first | exact wantedV_none rfl | (focus (simp only [go_sem, hA, hB, hV, load25, load23, callF_25]; done))); (focus (intro s_ hs_; simp only [go_sem, hA, hB, hV, load25, load23, callF_25, hs_] <;> rfl))) | (apply drawE_call; (focus rfl); (first | exact wantedV_none rfl | (focus (simp only [go_sem, hA, hB, hV, load25, load23, callF_25]; done))); (focus (simp only [go_sem, hA, hB, hV, load25, load23, callF_25] <;> rfl))) | (apply drawE_skip; (focus (simp only [go_sem, hA, hB, hV, load25, load23, callF_25]; done)); (focus (first | assumption | exact St.le_refl _))) | (apply opsW_val; (first | exact wantedV_none rfl | (focus (simp only [go_sem, hA, hB, hV, load25, load23, callF_25]; done))); (focus (simp only [go_sem, hA, hB, hV, load25, load23, callF_25] <;> rfl))) | (apply opsW_call; (first | exact wantedV_none rfl | (focus (simp only [go_sem, hA, hB, hV, load25, load23, callF_25]; done))); (focus (simp only [go_sem, hA, hB, hV, load25, load23, callF_25] <;> rfl))) | (apply opsW_skip; (focus (simp only [go_sem, hA, hB, hV, load25, load23, callF_25]; done))) | refine blockQ_eq ?_ | (refine blockQ_ne ?_ ?_; (focus decide)) | refine compare_ok freeHk a b v l hf.short _ (hv.le (St.le_trans hs (le_box2 _ _ _ _ _))) _ fun s2 hs2 => ?_)
  first
    | exact end_ret (fn := Try.f29) (t := 5) rfl (by simp only [go_sem] <;> rfl) (hQ _ (St.le_trans (le_box2 _ _ _ _ _) hs2))
    | exact end_norm (fn := Try.f29) (t := 5) rfl (by simp only [go_sem] <;> rfl) (hQ _ (St.le_trans (le_box2 _ _ _ _ _) hs2))
end Go.Proofs.Ytbkniippobnbpaa
