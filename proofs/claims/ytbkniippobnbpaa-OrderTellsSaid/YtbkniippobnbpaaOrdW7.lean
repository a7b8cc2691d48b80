/-
  OrderTurns, walked.
-/
import Derived.Test.YtbkniippobnbpaaOrdW6
import Derived.Test.YtbkniippobnbpaaOrdL1
import Derived.Test.YtbkniippobnbpaaAeApp
namespace Go.Proofs.Ytbkniippobnbpaa
open Go.Ae
set_option linter.unusedSimpArgs false
set_option maxHeartbeats 2000000
attribute [local go_sem] opV_move opV_assign opV_pick opV_alloc opV_box opV_build opV_buildSlice opV_load opV_store opV_nilCheck opV_unOp opV_binOp opV_makeInterface opV_makeFunc opV_makeSlice opV_slice opV_fieldAddr opV_field opV_indexAddr opV_index opV_extract opV_call oCall_value oCall_builtin oCallV_func bin_add bin_sub bin_mul bin_lss bin_leq bin_gtr bin_geq bin_eql bin_neq bins_lss bins_leq bins_gtr bins_geq bins_eql bins_neq binb_eql ret1_some ret2_some retU_some oBin_some oUn_some oPick_some oLoad_some oStore_some oBox_some oIndexAddr_some oIndex_some oExtract_some un_not un_neg cond_true cond_false beq_ft beq_tf Bool.not_true Bool.not_false wantedV opd_tmp opd_c opd ofV Fr.get_put_ne Fr.get_put_eq Fr.get_put_none Fr.put_n ne_eq not_false_eq_true Fr.only_get fr_get fr_n argsT T.get_set T.get_nil oField oFunc oNil oAlloc oBuild oBuildSlice mapO pairs okI_eq fnat_eq fint_eq List.getElem?_toArray List.getElem?_cons_zero List.getElem?_cons_succ Option.bind_some List.map List.length_cons List.length_nil Nat.reduceEqDiff Nat.reduceLT Nat.reduceAdd Nat.reduceMul Nat.zero_add Nat.add_zero Nat.max_def Nat.reduceLeDiff Nat.reduceLT and_true and_false true_and false_and if_true if_false ite_true ite_false Option.some.injEq reduceCtorEq decide_true decide_false bne_self_eq_false beq_self_eq_true seqQ List.append_nil List.nil_append List.cons_append newVar_eq cellsOf St.box_nx Option.map_some

abbrev Hk : Hooks := boolHooks [(8, true)]

theorem freeHk : Free Hk := by
  intro f a s h
  unfold Hk boolHooks
  split
  · have : List.lookup f [(8, true)] = none := by
      have h1 : (f == 8) = false := by simpa using h
      simp only [List.lookup, h1]
    rw [this]
  · rfl

theorem small_ok (s : St) (Q : CV → St → Prop) (hQ : Q (.bool true) s) : callW Try.prog Hk 8 [] s Q := callW_hook rfl hQ

theorem lessB_ok {a b : K} {v : CV} {l : List Int} (hl : l.length < 9223372036854775808) (s : St) (hv : IntSl s v l) {Q : CV → St → Prop} (hQ : ∀ s', s.le s' → Q (.bool (less a b l)) s') : callW Try.prog Hk 12 [a.cv, b.cv, v] s Q :=
  less_ok freeHk a b v l hl s hv Q hQ

theorem info3' : (Try.prog.info? 3).map (fun ie => (ie.size, ie.bytes, zeroFits ie)) = some (1, 8, true) := by kernel_rfl
theorem info3 : ∃ ie, Try.prog.info? 3 = some ie ∧ ie.size = 1 ∧ ie.bytes = 8 ∧ zeroFits ie = true := by
  have h := info3'
  cases hi : Try.prog.info? 3 with
  | none => rw [hi] at h; cases h
  | some ie =>
    rw [hi] at h
    simp only [Option.map_some, Option.some.injEq, Prod.mk.injEq] at h
    exact ⟨ie, rfl, h⟩

theorem IntSl.len {s : St} {v : CV} {l : List Int} (h : IntSl s v l) : lenOf v = some l.length := by
  rcases h with ⟨rfl, rfl⟩ | ⟨b, o, c, rfl, -⟩ <;> rfl

theorem IntSl.cells {s : St} {v : CV} {l : List Int} (h : IntSl s v l) : firstCells s 1 l.length v = some (ints l) := by
  rcases h with ⟨rfl, rfl⟩ | ⟨b, o, c, rfl, hb, h3⟩
  · rfl
  · simp only [firstCells, Nat.mul_one]
    have := lds_list (s := s) (b := b) (l := ints l) (o := o) fun i x hx => by
      simp only [ints, List.getElem?_map, Option.map_eq_some_iff] at hx
      obtain ⟨n, hn, rfl⟩ := hx
      exact h3 i n hn
    simpa [ints] using this

theorem appI {s₀ s : St} {v y : CV} {l m : List Int} (h : Acc s₀ s 3 1 v l.length (ints l)) (hy : IntSl s y m) (hl : l.length + m.length ≤ 100000000000) :
    ∃ v' s', builtinV Try.prog s .append #[23, 23] [v, y] = some (.val v' s') ∧ Acc s₀ s' 3 1 v' (l ++ m).length (ints (l ++ m)) := by
  obtain ⟨ie, h1, h2, h3, h4⟩ := info3
  obtain ⟨v', s', h5, h6⟩ := append_ok h Try.underlying23 h1 h2 h4 hy.len hy.cells (by simp [ints]) (by simp [ints, scalar]) (by rw [h3]; omega) (by omega)
  refine ⟨v', s', h5, ?_⟩
  rw [List.length_append]
  simpa [ints] using h6

theorem accInts {s₀ s : St} {v : CV} {l : List Int} (h : Acc s₀ s 3 1 v l.length (ints l)) : IntSl s v l := by
  have hget : ∀ (i : Nat) (n : Int), l[i]? = some n → (ints l)[i]? = some (CV.int .i64 n) := fun i n hi => by simp [ints, hi]
  rcases h.val with ⟨rfl, h0⟩ | ⟨b, rfl, h3, h4, h5⟩ | ⟨b, rfl, h3, h4, h5⟩
  · exact .inl ⟨rfl, List.eq_nil_of_length_eq_zero h0⟩
  · exact .inr ⟨b, 0, _, rfl, h4, fun i n hi => by rw [Nat.zero_add, h5.ld (by have := (List.getElem?_eq_some_iff.1 hi).1; simpa [ints] using this)]; exact hget i n hi⟩
  · exact .inr ⟨b, 0, _, rfl, h4, fun i n hi => by rw [Nat.zero_add, h5.ld (by have := (List.getElem?_eq_some_iff.1 hi).1; simpa [ints] using this)]; exact hget i n hi⟩

theorem zero3 : Ae.zeroOf Try.prog 3 = some (.int .i64 0) := by kernel_rfl
theorem one23 (s : St) (n : Int) : buildSliceV Try.prog s 23 1 [(0, .int .i64 n)] = some (.slice s.nx 0 1 1, s.box [.int .i64 n] 3) := by
  have h1 : Nat.ble (1 * 1) 16777216 = true := rfl
  have h2 : Nat.beq (cellsOf (.int .i64 0)).length 1 = true := rfl
  have h3 : fillL (fun i => some (i * 1, 1)) ((List.range (1 * 1)).map fun i => (cellsOf (.int .i64 0)).getD (i % 1) .nilptr) [(0, .int .i64 n)] = some [.int .i64 n] := rfl
  simp only [buildSliceV, Try.underlying23, sz3, zero3, h1, h2, h3, newCells_eq]
  rfl

theorem one_IntSl (s : St) (n : Int) : IntSl (s.box [.int .i64 n] 3) (.slice s.nx 0 1 1) [n] :=
  .inr ⟨s.nx, 0, 1, rfl, Nat.lt_succ_self _, fun i m hi => by rw [Nat.zero_add, St.box_ld]; cases i with
    | zero => simp at hi; subst hi; rfl
    | succ i => simp at hi⟩

theorem binb_same (s : St) (x y : Operand) (p : Bool) : binV Try.prog s .eql 4 x y (.bool p) (.bool p) = some (.bool true) := by
  cases p <;> kernel_rfl

theorem store25 (s : St) (b o : Nat) (k : K) : Ae.storeVar Try.prog s 25 b o (.agg k.cells) = Ae.stos s b o k.cells := by
  have h : Nat.beq (cellsOf (.agg k.cells)).length 6 = true := rfl
  simp only [Ae.storeVar, sz25, h]
  rfl

theorem wrap_neg {m : Int} (h : m ≠ -9223372036854775808) (h1 : -9223372036854775808 ≤ m) (h2 : m < 9223372036854775808) : IntKind.i64.wrap (0 - m) = -m := by
  simp only [IntKind.wrap, IntKind.signed, IntKind.bits]
  by_cases hm : m ≤ 0
  · have h3 : (0 - m) % 2 ^ 64 = -m := by rw [Int.zero_sub]; exact Int.emod_eq_of_lt (by omega) (by omega)
    have h4 : decide (-m ≥ 2 ^ (64 - 1)) = false := decide_eq_false (by omega)
    simp only [h3, h4, Bool.and_false, Bool.false_eq_true, if_false]
  · have h3 : (0 - m) % 2 ^ 64 = 2 ^ 64 - m := by omega
    have h4 : decide (2 ^ 64 - m ≥ 2 ^ (64 - 1)) = true := decide_eq_true (by omega)
    simp only [h3, h4, Bool.and_true, if_true]
    omega

def zk : List CV := [.int .i64 0, .int .i64 0, .int .i64 0, .str [], .str [], .bool false]
theorem store3 (s : St) (b o : Nat) (k : IntKind) (n : Int) : Ae.storeVar Try.prog s 3 b o (.int k n) = Ae.sto s b o (.int k n) := by
  have h : Nat.beq (cellsOf (.int k n)).length 1 = true := rfl
  simp only [Ae.storeVar, sz3, h, cellsOf, Ae.stos]
  cases Ae.sto s b o (.int k n) <;> rfl

theorem eqN (s : St) (x y : Operand) (a b : K) (l : List Int) : binV Try.prog s .eql 4 x y (.bool (less a b l)) (.bool (less a b l)) = some (.bool true) := binb_same s x y _

theorem zero25 : Ae.zeroOf Try.prog 25 = some (.agg zk) := by kernel_rfl

theorem turns_ok (a b c : K) (v : CV) (l : List Int) (hl : l.length < 9223372036854775808) (hr : ∀ n ∈ l, -9223372036854775808 ≤ n ∧ n < 9223372036854775808) (s : St) (hv : IntSl s v l) (Q : CV → St → Prop) (hQ : ∀ s', Q (.bool true) s') :
    callW Try.prog Hk 6 [a.cv, b.cv, c.cv, v] s Q := by
  refine callW_enter (fn := Try.f6) (freeHk _ _ _ (by decide)) Try.func6 rfl ?_
  simp only [Try.ntmps6, K.cv]
  obtain ⟨sB, hsB⟩ : ∃ sB, ((s.box a.cells 25).box b.cells 25).box c.cells 25 = sB := ⟨_, rfl⟩
  have hB0 : s.le sB := by rw [← hsB]; exact St.le_trans (le_box2 _ _ _ _ _) (St.box_le _ _ _)
  have hA : ∀ s', sB.le s' → Ae.lds s' s.nx 0 6 = some a.cells := fun s' h => by
    rw [St.le.lds h (by rw [← hsB]; simp only [St.box_nx]; omega), ← hsB, St.le.lds (St.le_trans (St.box_le _ _ _) (St.box_le _ _ _)) (by simp only [St.box_nx]; omega)]
    exact St.box_lds s a.cells 25
  have hBB : ∀ s', sB.le s' → Ae.lds s' (s.nx + 1) 0 6 = some b.cells := fun s' h => by
    rw [St.le.lds h (by rw [← hsB]; simp only [St.box_nx]; omega), ← hsB, St.le.lds (St.box_le _ _ _) (by simp only [St.box_nx]; omega)]
    exact St.box_lds (s.box a.cells 25) b.cells 25
  have hC : ∀ s', sB.le s' → Ae.lds s' (s.nx + 2) 0 6 = some c.cells := fun s' h => by
    rw [St.le.lds h (by rw [← hsB]; simp only [St.box_nx]; omega), ← hsB]
    exact St.box_lds ((s.box a.cells 25).box b.cells 25) c.cells 25
  repeat (first | refine codeW_seq ?_ | refine codeW_skip ?_ | refine codeW_label ?_ | refine codeW_exit ?_ | refine codeW_ret ?_ | refine codeW_block ?_ | refine codeW_region ?_ | refine opsW_nil ?_ | refine drawE_nil ?_ | (refine codeW_drawE ?_ ?_; (focus kernel_rfl)) | (apply drawE_val; (focus rfl); (first | exact wantedV_none rfl | (focus (simp only [go_sem, len23 hv, callF_8, hsB]; done))); (focus (intro s_ hs_; simp only [go_sem, len23 hv, callF_8, hsB, hs_] <;> rfl))) | (apply drawE_call; (focus rfl); (first | exact wantedV_none rfl | (focus (simp only [go_sem, len23 hv, callF_8, hsB]; done))); (focus (simp only [go_sem, len23 hv, callF_8, hsB] <;> rfl))) | (apply drawE_skip; (focus (simp only [go_sem, len23 hv, callF_8, hsB]; done)); (focus assumption)) | (apply opsW_val; (first | exact wantedV_none rfl | (focus (simp only [go_sem, len23 hv, callF_8, hsB]; done))); (focus (simp only [go_sem, len23 hv, callF_8, hsB] <;> rfl))) | (apply opsW_call; (first | exact wantedV_none rfl | (focus (simp only [go_sem, len23 hv, callF_8, hsB]; done))); (focus (simp only [go_sem, len23 hv, callF_8, hsB] <;> rfl))) | (apply opsW_skip; (focus (simp only [go_sem, len23 hv, callF_8, hsB]; done))) | refine blockQ_eq ?_ | (refine blockQ_ne ?_ ?_; (focus decide)) | refine small_ok _ _ ?_)
  refine codeW_if (b := _) (by simp only [go_sem, hsB]; rfl) ?_ ?_
  · intro _
    repeat (first | refine codeW_seq ?_ | refine codeW_skip ?_ | refine codeW_label ?_ | refine codeW_exit ?_ | refine codeW_ret ?_ | refine codeW_block ?_ | refine codeW_region ?_ | refine opsW_nil ?_ | refine drawE_nil ?_ | (refine codeW_drawE ?_ ?_; (focus kernel_rfl)) | (apply drawE_val; (focus rfl); (first | exact wantedV_none rfl | (focus (simp only [go_sem, hsB]; done))); (focus (intro s_ hs_; simp only [go_sem, hsB, hs_] <;> rfl))) | (apply drawE_call; (focus rfl); (first | exact wantedV_none rfl | (focus (simp only [go_sem, hsB]; done))); (focus (simp only [go_sem, hsB] <;> rfl))) | (apply drawE_skip; (focus (simp only [go_sem, hsB]; done)); (focus assumption)) | (apply opsW_val; (first | exact wantedV_none rfl | (focus (simp only [go_sem, hsB]; done))); (focus (simp only [go_sem, hsB] <;> rfl))) | (apply opsW_call; (first | exact wantedV_none rfl | (focus (simp only [go_sem, hsB]; done))); (focus (simp only [go_sem, hsB] <;> rfl))) | (apply opsW_skip; (focus (simp only [go_sem, hsB]; done))) | refine blockQ_eq ?_ | (refine blockQ_ne ?_ ?_; (focus decide)))
    change bodyQ Try.prog Try.f6 Q Ex.ret _ _
    refine end_ret (fn := Try.f6) (t := 8) rfl (by simp only [go_sem] <;> rfl) (hQ _)
  intro hten
  have hten : l.length ≤ 10 := by have := of_decide_eq_false hten; omega
  have n1 := less_irr a l
  have hcur : sB.le sB := St.le_refl sB
  have hA0 : ∀ s', sB.le s' → Ae.ld s' s.nx 0 = some (.int .i64 a.id) := fun s' h => by
    rw [St.le.ld h (by rw [← hsB]; simp only [St.box_nx]; omega), ← hsB, St.le.ld (St.le_trans (St.box_le _ _ _) (St.box_le _ _ _)) (by simp only [St.box_nx]; omega)]
    exact St.box_ld s a.cells 25 0
  have hB00 : ∀ s', sB.le s' → Ae.ld s' (s.nx + 1) 0 = some (.int .i64 b.id) := fun s' h => by
    rw [St.le.ld h (by rw [← hsB]; simp only [St.box_nx]; omega), ← hsB, St.le.ld (St.box_le _ _ _) (by simp only [St.box_nx]; omega)]
    exact St.box_ld (s.box a.cells 25) b.cells 25 0
  repeat (first | refine codeW_skip ?_ | refine codeW_seq ?_ | refine codeW_block ?_)
  refine codeW.mono (Q := fun ex τ s' => ex = .norm ∧ sB.le s' ∧ τ.n = 111 ∧ τ.get 3 = some v ∧ τ.get 4 = some (.ptr s.nx 0) ∧ τ.get 5 = some (.ptr (s.nx + 1) 0) ∧ τ.get 9 = some (.bool true) ∧ τ.get 74 = some (.bool false)) ?_ ?_
  · cases hab : less a b l
    · cases hba : less b a l
      · have hid : (a.id != b.id) = false := by
          have : ¬ (a.id ≠ b.id) := fun e => by rw [less_total e hab] at hba; cases hba
          simpa using this
        repeat (first | refine codeW_seq ?_ | refine codeW_skip ?_ | refine codeW_label ?_ | refine codeW_exit ?_ | refine codeW_ret ?_ | refine codeW_block ?_ | refine codeW_region ?_ | refine opsW_nil ?_ | refine drawE_nil ?_ | (refine codeW_drawE ?_ ?_; (focus kernel_rfl)) | (apply drawE_val; (focus rfl); (first | exact wantedV_none rfl | (focus (simp only [go_sem, load25, load3, fa0, hA _ hcur, hBB _ hcur, hC _ hcur, hA0 _ hcur, hB00 _ hcur, callF_12, n1, hab, hba, hid]; done))); (focus (intro s_ hs_; simp only [go_sem, load25, load3, fa0, hA _ hcur, hBB _ hcur, hC _ hcur, hA0 _ hcur, hB00 _ hcur, callF_12, n1, hab, hba, hid, hs_] <;> rfl))) | (apply drawE_call; (focus rfl); (first | exact wantedV_none rfl | (focus (simp only [go_sem, load25, load3, fa0, hA _ hcur, hBB _ hcur, hC _ hcur, hA0 _ hcur, hB00 _ hcur, callF_12, n1, hab, hba, hid]; done))); (focus (simp only [go_sem, load25, load3, fa0, hA _ hcur, hBB _ hcur, hC _ hcur, hA0 _ hcur, hB00 _ hcur, callF_12, n1, hab, hba, hid] <;> rfl))) | (apply drawE_skip; (focus (simp only [go_sem, load25, load3, fa0, hA _ hcur, hBB _ hcur, hC _ hcur, hA0 _ hcur, hB00 _ hcur, callF_12, n1, hab, hba, hid]; done)); (focus assumption)) | (apply opsW_val; (first | exact wantedV_none rfl | (focus (simp only [go_sem, load25, load3, fa0, hA _ hcur, hBB _ hcur, hC _ hcur, hA0 _ hcur, hB00 _ hcur, callF_12, n1, hab, hba, hid]; done))); (focus (simp only [go_sem, load25, load3, fa0, hA _ hcur, hBB _ hcur, hC _ hcur, hA0 _ hcur, hB00 _ hcur, callF_12, n1, hab, hba, hid] <;> rfl))) | (apply opsW_call; (first | exact wantedV_none rfl | (focus (simp only [go_sem, load25, load3, fa0, hA _ hcur, hBB _ hcur, hC _ hcur, hA0 _ hcur, hB00 _ hcur, callF_12, n1, hab, hba, hid]; done))); (focus (simp only [go_sem, load25, load3, fa0, hA _ hcur, hBB _ hcur, hC _ hcur, hA0 _ hcur, hB00 _ hcur, callF_12, n1, hab, hba, hid] <;> rfl))) | (apply opsW_skip; (focus (simp only [go_sem, load25, load3, fa0, hA _ hcur, hBB _ hcur, hC _ hcur, hA0 _ hcur, hB00 _ hcur, callF_12, n1, hab, hba, hid]; done))) | refine blockQ_eq ?_ | (refine blockQ_ne ?_ ?_; (focus decide)) | (refine lessB_ok hl _ (hv.le (St.le_trans hB0 hcur)) (fun s' hs' => ?_) ; replace hcur := St.le_trans hcur hs'))
        exact ⟨rfl, hcur, by simp only [go_sem] <;> rfl, by simp only [go_sem] <;> rfl, by simp only [go_sem] <;> rfl, by simp only [go_sem] <;> rfl, by simp only [go_sem] <;> rfl, by simp only [go_sem] <;> rfl⟩
      · have hid : (a.id != b.id) = true ∨ (a.id != b.id) = false := by cases (a.id != b.id) <;> simp
        rcases hid with hid | hid
        · repeat (first | refine codeW_seq ?_ | refine codeW_skip ?_ | refine codeW_label ?_ | refine codeW_exit ?_ | refine codeW_ret ?_ | refine codeW_block ?_ | refine codeW_region ?_ | refine opsW_nil ?_ | refine drawE_nil ?_ | (refine codeW_drawE ?_ ?_; (focus kernel_rfl)) | (apply drawE_val; (focus rfl); (first | exact wantedV_none rfl | (focus (simp only [go_sem, load25, load3, fa0, hA _ hcur, hBB _ hcur, hC _ hcur, hA0 _ hcur, hB00 _ hcur, callF_12, n1, hab, hba, hid]; done))); (focus (intro s_ hs_; simp only [go_sem, load25, load3, fa0, hA _ hcur, hBB _ hcur, hC _ hcur, hA0 _ hcur, hB00 _ hcur, callF_12, n1, hab, hba, hid, hs_] <;> rfl))) | (apply drawE_call; (focus rfl); (first | exact wantedV_none rfl | (focus (simp only [go_sem, load25, load3, fa0, hA _ hcur, hBB _ hcur, hC _ hcur, hA0 _ hcur, hB00 _ hcur, callF_12, n1, hab, hba, hid]; done))); (focus (simp only [go_sem, load25, load3, fa0, hA _ hcur, hBB _ hcur, hC _ hcur, hA0 _ hcur, hB00 _ hcur, callF_12, n1, hab, hba, hid] <;> rfl))) | (apply drawE_skip; (focus (simp only [go_sem, load25, load3, fa0, hA _ hcur, hBB _ hcur, hC _ hcur, hA0 _ hcur, hB00 _ hcur, callF_12, n1, hab, hba, hid]; done)); (focus assumption)) | (apply opsW_val; (first | exact wantedV_none rfl | (focus (simp only [go_sem, load25, load3, fa0, hA _ hcur, hBB _ hcur, hC _ hcur, hA0 _ hcur, hB00 _ hcur, callF_12, n1, hab, hba, hid]; done))); (focus (simp only [go_sem, load25, load3, fa0, hA _ hcur, hBB _ hcur, hC _ hcur, hA0 _ hcur, hB00 _ hcur, callF_12, n1, hab, hba, hid] <;> rfl))) | (apply opsW_call; (first | exact wantedV_none rfl | (focus (simp only [go_sem, load25, load3, fa0, hA _ hcur, hBB _ hcur, hC _ hcur, hA0 _ hcur, hB00 _ hcur, callF_12, n1, hab, hba, hid]; done))); (focus (simp only [go_sem, load25, load3, fa0, hA _ hcur, hBB _ hcur, hC _ hcur, hA0 _ hcur, hB00 _ hcur, callF_12, n1, hab, hba, hid] <;> rfl))) | (apply opsW_skip; (focus (simp only [go_sem, load25, load3, fa0, hA _ hcur, hBB _ hcur, hC _ hcur, hA0 _ hcur, hB00 _ hcur, callF_12, n1, hab, hba, hid]; done))) | refine blockQ_eq ?_ | (refine blockQ_ne ?_ ?_; (focus decide)) | (refine lessB_ok hl _ (hv.le (St.le_trans hB0 hcur)) (fun s' hs' => ?_) ; replace hcur := St.le_trans hcur hs'))
          exact ⟨rfl, hcur, by simp only [go_sem] <;> rfl, by simp only [go_sem] <;> rfl, by simp only [go_sem] <;> rfl, by simp only [go_sem] <;> rfl, by simp only [go_sem] <;> rfl, by simp only [go_sem] <;> rfl⟩
        · repeat (first | refine codeW_seq ?_ | refine codeW_skip ?_ | refine codeW_label ?_ | refine codeW_exit ?_ | refine codeW_ret ?_ | refine codeW_block ?_ | refine codeW_region ?_ | refine opsW_nil ?_ | refine drawE_nil ?_ | (refine codeW_drawE ?_ ?_; (focus kernel_rfl)) | (apply drawE_val; (focus rfl); (first | exact wantedV_none rfl | (focus (simp only [go_sem, load25, load3, fa0, hA _ hcur, hBB _ hcur, hC _ hcur, hA0 _ hcur, hB00 _ hcur, callF_12, n1, hab, hba, hid]; done))); (focus (intro s_ hs_; simp only [go_sem, load25, load3, fa0, hA _ hcur, hBB _ hcur, hC _ hcur, hA0 _ hcur, hB00 _ hcur, callF_12, n1, hab, hba, hid, hs_] <;> rfl))) | (apply drawE_call; (focus rfl); (first | exact wantedV_none rfl | (focus (simp only [go_sem, load25, load3, fa0, hA _ hcur, hBB _ hcur, hC _ hcur, hA0 _ hcur, hB00 _ hcur, callF_12, n1, hab, hba, hid]; done))); (focus (simp only [go_sem, load25, load3, fa0, hA _ hcur, hBB _ hcur, hC _ hcur, hA0 _ hcur, hB00 _ hcur, callF_12, n1, hab, hba, hid] <;> rfl))) | (apply drawE_skip; (focus (simp only [go_sem, load25, load3, fa0, hA _ hcur, hBB _ hcur, hC _ hcur, hA0 _ hcur, hB00 _ hcur, callF_12, n1, hab, hba, hid]; done)); (focus assumption)) | (apply opsW_val; (first | exact wantedV_none rfl | (focus (simp only [go_sem, load25, load3, fa0, hA _ hcur, hBB _ hcur, hC _ hcur, hA0 _ hcur, hB00 _ hcur, callF_12, n1, hab, hba, hid]; done))); (focus (simp only [go_sem, load25, load3, fa0, hA _ hcur, hBB _ hcur, hC _ hcur, hA0 _ hcur, hB00 _ hcur, callF_12, n1, hab, hba, hid] <;> rfl))) | (apply opsW_call; (first | exact wantedV_none rfl | (focus (simp only [go_sem, load25, load3, fa0, hA _ hcur, hBB _ hcur, hC _ hcur, hA0 _ hcur, hB00 _ hcur, callF_12, n1, hab, hba, hid]; done))); (focus (simp only [go_sem, load25, load3, fa0, hA _ hcur, hBB _ hcur, hC _ hcur, hA0 _ hcur, hB00 _ hcur, callF_12, n1, hab, hba, hid] <;> rfl))) | (apply opsW_skip; (focus (simp only [go_sem, load25, load3, fa0, hA _ hcur, hBB _ hcur, hC _ hcur, hA0 _ hcur, hB00 _ hcur, callF_12, n1, hab, hba, hid]; done))) | refine blockQ_eq ?_ | (refine blockQ_ne ?_ ?_; (focus decide)) | (refine lessB_ok hl _ (hv.le (St.le_trans hB0 hcur)) (fun s' hs' => ?_) ; replace hcur := St.le_trans hcur hs'))
          exact ⟨rfl, hcur, by simp only [go_sem] <;> rfl, by simp only [go_sem] <;> rfl, by simp only [go_sem] <;> rfl, by simp only [go_sem] <;> rfl, by simp only [go_sem] <;> rfl, by simp only [go_sem] <;> rfl⟩
    · have hba := less_asym hab
      cases hbc : less b c l
      · have hid : (a.id != b.id) = true ∨ (a.id != b.id) = false := by cases (a.id != b.id) <;> simp
        rcases hid with hid | hid
        · repeat (first | refine codeW_seq ?_ | refine codeW_skip ?_ | refine codeW_label ?_ | refine codeW_exit ?_ | refine codeW_ret ?_ | refine codeW_block ?_ | refine codeW_region ?_ | refine opsW_nil ?_ | refine drawE_nil ?_ | (refine codeW_drawE ?_ ?_; (focus kernel_rfl)) | (apply drawE_val; (focus rfl); (first | exact wantedV_none rfl | (focus (simp only [go_sem, load25, load3, fa0, hA _ hcur, hBB _ hcur, hC _ hcur, hA0 _ hcur, hB00 _ hcur, callF_12, n1, hab, hba, hbc, hid]; done))); (focus (intro s_ hs_; simp only [go_sem, load25, load3, fa0, hA _ hcur, hBB _ hcur, hC _ hcur, hA0 _ hcur, hB00 _ hcur, callF_12, n1, hab, hba, hbc, hid, hs_] <;> rfl))) | (apply drawE_call; (focus rfl); (first | exact wantedV_none rfl | (focus (simp only [go_sem, load25, load3, fa0, hA _ hcur, hBB _ hcur, hC _ hcur, hA0 _ hcur, hB00 _ hcur, callF_12, n1, hab, hba, hbc, hid]; done))); (focus (simp only [go_sem, load25, load3, fa0, hA _ hcur, hBB _ hcur, hC _ hcur, hA0 _ hcur, hB00 _ hcur, callF_12, n1, hab, hba, hbc, hid] <;> rfl))) | (apply drawE_skip; (focus (simp only [go_sem, load25, load3, fa0, hA _ hcur, hBB _ hcur, hC _ hcur, hA0 _ hcur, hB00 _ hcur, callF_12, n1, hab, hba, hbc, hid]; done)); (focus assumption)) | (apply opsW_val; (first | exact wantedV_none rfl | (focus (simp only [go_sem, load25, load3, fa0, hA _ hcur, hBB _ hcur, hC _ hcur, hA0 _ hcur, hB00 _ hcur, callF_12, n1, hab, hba, hbc, hid]; done))); (focus (simp only [go_sem, load25, load3, fa0, hA _ hcur, hBB _ hcur, hC _ hcur, hA0 _ hcur, hB00 _ hcur, callF_12, n1, hab, hba, hbc, hid] <;> rfl))) | (apply opsW_call; (first | exact wantedV_none rfl | (focus (simp only [go_sem, load25, load3, fa0, hA _ hcur, hBB _ hcur, hC _ hcur, hA0 _ hcur, hB00 _ hcur, callF_12, n1, hab, hba, hbc, hid]; done))); (focus (simp only [go_sem, load25, load3, fa0, hA _ hcur, hBB _ hcur, hC _ hcur, hA0 _ hcur, hB00 _ hcur, callF_12, n1, hab, hba, hbc, hid] <;> rfl))) | (apply opsW_skip; (focus (simp only [go_sem, load25, load3, fa0, hA _ hcur, hBB _ hcur, hC _ hcur, hA0 _ hcur, hB00 _ hcur, callF_12, n1, hab, hba, hbc, hid]; done))) | refine blockQ_eq ?_ | (refine blockQ_ne ?_ ?_; (focus decide)) | (refine lessB_ok hl _ (hv.le (St.le_trans hB0 hcur)) (fun s' hs' => ?_) ; replace hcur := St.le_trans hcur hs'))
          exact ⟨rfl, hcur, by simp only [go_sem] <;> rfl, by simp only [go_sem] <;> rfl, by simp only [go_sem] <;> rfl, by simp only [go_sem] <;> rfl, by simp only [go_sem] <;> rfl, by simp only [go_sem] <;> rfl⟩
        · repeat (first | refine codeW_seq ?_ | refine codeW_skip ?_ | refine codeW_label ?_ | refine codeW_exit ?_ | refine codeW_ret ?_ | refine codeW_block ?_ | refine codeW_region ?_ | refine opsW_nil ?_ | refine drawE_nil ?_ | (refine codeW_drawE ?_ ?_; (focus kernel_rfl)) | (apply drawE_val; (focus rfl); (first | exact wantedV_none rfl | (focus (simp only [go_sem, load25, load3, fa0, hA _ hcur, hBB _ hcur, hC _ hcur, hA0 _ hcur, hB00 _ hcur, callF_12, n1, hab, hba, hbc, hid]; done))); (focus (intro s_ hs_; simp only [go_sem, load25, load3, fa0, hA _ hcur, hBB _ hcur, hC _ hcur, hA0 _ hcur, hB00 _ hcur, callF_12, n1, hab, hba, hbc, hid, hs_] <;> rfl))) | (apply drawE_call; (focus rfl); (first | exact wantedV_none rfl | (focus (simp only [go_sem, load25, load3, fa0, hA _ hcur, hBB _ hcur, hC _ hcur, hA0 _ hcur, hB00 _ hcur, callF_12, n1, hab, hba, hbc, hid]; done))); (focus (simp only [go_sem, load25, load3, fa0, hA _ hcur, hBB _ hcur, hC _ hcur, hA0 _ hcur, hB00 _ hcur, callF_12, n1, hab, hba, hbc, hid] <;> rfl))) | (apply drawE_skip; (focus (simp only [go_sem, load25, load3, fa0, hA _ hcur, hBB _ hcur, hC _ hcur, hA0 _ hcur, hB00 _ hcur, callF_12, n1, hab, hba, hbc, hid]; done)); (focus assumption)) | (apply opsW_val; (first | exact wantedV_none rfl | (focus (simp only [go_sem, load25, load3, fa0, hA _ hcur, hBB _ hcur, hC _ hcur, hA0 _ hcur, hB00 _ hcur, callF_12, n1, hab, hba, hbc, hid]; done))); (focus (simp only [go_sem, load25, load3, fa0, hA _ hcur, hBB _ hcur, hC _ hcur, hA0 _ hcur, hB00 _ hcur, callF_12, n1, hab, hba, hbc, hid] <;> rfl))) | (apply opsW_call; (first | exact wantedV_none rfl | (focus (simp only [go_sem, load25, load3, fa0, hA _ hcur, hBB _ hcur, hC _ hcur, hA0 _ hcur, hB00 _ hcur, callF_12, n1, hab, hba, hbc, hid]; done))); (focus (simp only [go_sem, load25, load3, fa0, hA _ hcur, hBB _ hcur, hC _ hcur, hA0 _ hcur, hB00 _ hcur, callF_12, n1, hab, hba, hbc, hid] <;> rfl))) | (apply opsW_skip; (focus (simp only [go_sem, load25, load3, fa0, hA _ hcur, hBB _ hcur, hC _ hcur, hA0 _ hcur, hB00 _ hcur, callF_12, n1, hab, hba, hbc, hid]; done))) | refine blockQ_eq ?_ | (refine blockQ_ne ?_ ?_; (focus decide)) | (refine lessB_ok hl _ (hv.le (St.le_trans hB0 hcur)) (fun s' hs' => ?_) ; replace hcur := St.le_trans hcur hs'))
          exact ⟨rfl, hcur, by simp only [go_sem] <;> rfl, by simp only [go_sem] <;> rfl, by simp only [go_sem] <;> rfl, by simp only [go_sem] <;> rfl, by simp only [go_sem] <;> rfl, by simp only [go_sem] <;> rfl⟩
      · have hac := less_trans hab hbc
        have hid : (a.id != b.id) = true ∨ (a.id != b.id) = false := by cases (a.id != b.id) <;> simp
        rcases hid with hid | hid
        · repeat (first | refine codeW_seq ?_ | refine codeW_skip ?_ | refine codeW_label ?_ | refine codeW_exit ?_ | refine codeW_ret ?_ | refine codeW_block ?_ | refine codeW_region ?_ | refine opsW_nil ?_ | refine drawE_nil ?_ | (refine codeW_drawE ?_ ?_; (focus kernel_rfl)) | (apply drawE_val; (focus rfl); (first | exact wantedV_none rfl | (focus (simp only [go_sem, load25, load3, fa0, hA _ hcur, hBB _ hcur, hC _ hcur, hA0 _ hcur, hB00 _ hcur, callF_12, n1, hab, hba, hbc, hac, hid]; done))); (focus (intro s_ hs_; simp only [go_sem, load25, load3, fa0, hA _ hcur, hBB _ hcur, hC _ hcur, hA0 _ hcur, hB00 _ hcur, callF_12, n1, hab, hba, hbc, hac, hid, hs_] <;> rfl))) | (apply drawE_call; (focus rfl); (first | exact wantedV_none rfl | (focus (simp only [go_sem, load25, load3, fa0, hA _ hcur, hBB _ hcur, hC _ hcur, hA0 _ hcur, hB00 _ hcur, callF_12, n1, hab, hba, hbc, hac, hid]; done))); (focus (simp only [go_sem, load25, load3, fa0, hA _ hcur, hBB _ hcur, hC _ hcur, hA0 _ hcur, hB00 _ hcur, callF_12, n1, hab, hba, hbc, hac, hid] <;> rfl))) | (apply drawE_skip; (focus (simp only [go_sem, load25, load3, fa0, hA _ hcur, hBB _ hcur, hC _ hcur, hA0 _ hcur, hB00 _ hcur, callF_12, n1, hab, hba, hbc, hac, hid]; done)); (focus assumption)) | (apply opsW_val; (first | exact wantedV_none rfl | (focus (simp only [go_sem, load25, load3, fa0, hA _ hcur, hBB _ hcur, hC _ hcur, hA0 _ hcur, hB00 _ hcur, callF_12, n1, hab, hba, hbc, hac, hid]; done))); (focus (simp only [go_sem, load25, load3, fa0, hA _ hcur, hBB _ hcur, hC _ hcur, hA0 _ hcur, hB00 _ hcur, callF_12, n1, hab, hba, hbc, hac, hid] <;> rfl))) | (apply opsW_call; (first | exact wantedV_none rfl | (focus (simp only [go_sem, load25, load3, fa0, hA _ hcur, hBB _ hcur, hC _ hcur, hA0 _ hcur, hB00 _ hcur, callF_12, n1, hab, hba, hbc, hac, hid]; done))); (focus (simp only [go_sem, load25, load3, fa0, hA _ hcur, hBB _ hcur, hC _ hcur, hA0 _ hcur, hB00 _ hcur, callF_12, n1, hab, hba, hbc, hac, hid] <;> rfl))) | (apply opsW_skip; (focus (simp only [go_sem, load25, load3, fa0, hA _ hcur, hBB _ hcur, hC _ hcur, hA0 _ hcur, hB00 _ hcur, callF_12, n1, hab, hba, hbc, hac, hid]; done))) | refine blockQ_eq ?_ | (refine blockQ_ne ?_ ?_; (focus decide)) | (refine lessB_ok hl _ (hv.le (St.le_trans hB0 hcur)) (fun s' hs' => ?_) ; replace hcur := St.le_trans hcur hs'))
          exact ⟨rfl, hcur, by simp only [go_sem] <;> rfl, by simp only [go_sem] <;> rfl, by simp only [go_sem] <;> rfl, by simp only [go_sem] <;> rfl, by simp only [go_sem] <;> rfl, by simp only [go_sem] <;> rfl⟩
        · repeat (first | refine codeW_seq ?_ | refine codeW_skip ?_ | refine codeW_label ?_ | refine codeW_exit ?_ | refine codeW_ret ?_ | refine codeW_block ?_ | refine codeW_region ?_ | refine opsW_nil ?_ | refine drawE_nil ?_ | (refine codeW_drawE ?_ ?_; (focus kernel_rfl)) | (apply drawE_val; (focus rfl); (first | exact wantedV_none rfl | (focus (simp only [go_sem, load25, load3, fa0, hA _ hcur, hBB _ hcur, hC _ hcur, hA0 _ hcur, hB00 _ hcur, callF_12, n1, hab, hba, hbc, hac, hid]; done))); (focus (intro s_ hs_; simp only [go_sem, load25, load3, fa0, hA _ hcur, hBB _ hcur, hC _ hcur, hA0 _ hcur, hB00 _ hcur, callF_12, n1, hab, hba, hbc, hac, hid, hs_] <;> rfl))) | (apply drawE_call; (focus rfl); (first | exact wantedV_none rfl | (focus (simp only [go_sem, load25, load3, fa0, hA _ hcur, hBB _ hcur, hC _ hcur, hA0 _ hcur, hB00 _ hcur, callF_12, n1, hab, hba, hbc, hac, hid]; done))); (focus (simp only [go_sem, load25, load3, fa0, hA _ hcur, hBB _ hcur, hC _ hcur, hA0 _ hcur, hB00 _ hcur, callF_12, n1, hab, hba, hbc, hac, hid] <;> rfl))) | (apply drawE_skip; (focus (simp only [go_sem, load25, load3, fa0, hA _ hcur, hBB _ hcur, hC _ hcur, hA0 _ hcur, hB00 _ hcur, callF_12, n1, hab, hba, hbc, hac, hid]; done)); (focus assumption)) | (apply opsW_val; (first | exact wantedV_none rfl | (focus (simp only [go_sem, load25, load3, fa0, hA _ hcur, hBB _ hcur, hC _ hcur, hA0 _ hcur, hB00 _ hcur, callF_12, n1, hab, hba, hbc, hac, hid]; done))); (focus (simp only [go_sem, load25, load3, fa0, hA _ hcur, hBB _ hcur, hC _ hcur, hA0 _ hcur, hB00 _ hcur, callF_12, n1, hab, hba, hbc, hac, hid] <;> rfl))) | (apply opsW_call; (first | exact wantedV_none rfl | (focus (simp only [go_sem, load25, load3, fa0, hA _ hcur, hBB _ hcur, hC _ hcur, hA0 _ hcur, hB00 _ hcur, callF_12, n1, hab, hba, hbc, hac, hid]; done))); (focus (simp only [go_sem, load25, load3, fa0, hA _ hcur, hBB _ hcur, hC _ hcur, hA0 _ hcur, hB00 _ hcur, callF_12, n1, hab, hba, hbc, hac, hid] <;> rfl))) | (apply opsW_skip; (focus (simp only [go_sem, load25, load3, fa0, hA _ hcur, hBB _ hcur, hC _ hcur, hA0 _ hcur, hB00 _ hcur, callF_12, n1, hab, hba, hbc, hac, hid]; done))) | refine blockQ_eq ?_ | (refine blockQ_ne ?_ ?_; (focus decide)) | (refine lessB_ok hl _ (hv.le (St.le_trans hB0 hcur)) (fun s' hs' => ?_) ; replace hcur := St.le_trans hcur hs'))
          exact ⟨rfl, hcur, by simp only [go_sem] <;> rfl, by simp only [go_sem] <;> rfl, by simp only [go_sem] <;> rfl, by simp only [go_sem] <;> rfl, by simp only [go_sem] <;> rfl, by simp only [go_sem] <;> rfl⟩
  · rintro ex τ s' ⟨rfl, hcur, t0, t3, t4, t5, t9, t74⟩
    refine codeW_if (b := _) (by simp only [go_sem, t74]; rfl) ?_ ?_
    · intro h; cases h
    intro _
    repeat (first | refine codeW_skip ?_ | refine codeW_seq ?_ | refine codeW_block ?_)
    repeat (first | refine codeW_seq ?_ | refine codeW_skip ?_ | refine codeW_label ?_ | refine codeW_exit ?_ | refine codeW_ret ?_ | refine codeW_block ?_ | refine codeW_region ?_ | refine opsW_nil ?_ | refine drawE_nil ?_ | (refine codeW_drawE ?_ ?_; (focus kernel_rfl)) | (apply drawE_val; (focus rfl); (first | exact wantedV_none rfl | (focus (simp only [go_sem, t0, t3, t4, t5, t9]; done))); (focus (intro s_ hs_; simp only [go_sem, t0, t3, t4, t5, t9, hs_] <;> rfl))) | (apply drawE_call; (focus rfl); (first | exact wantedV_none rfl | (focus (simp only [go_sem, t0, t3, t4, t5, t9]; done))); (focus (simp only [go_sem, t0, t3, t4, t5, t9] <;> rfl))) | (apply drawE_skip; (focus (simp only [go_sem, t0, t3, t4, t5, t9]; done)); (focus assumption)) | (apply opsW_val; (first | exact wantedV_none rfl | (focus (simp only [go_sem, t0, t3, t4, t5, t9]; done))); (focus (simp only [go_sem, t0, t3, t4, t5, t9] <;> rfl))) | (apply opsW_call; (first | exact wantedV_none rfl | (focus (simp only [go_sem, t0, t3, t4, t5, t9]; done))); (focus (simp only [go_sem, t0, t3, t4, t5, t9] <;> rfl))) | (apply opsW_skip; (focus (simp only [go_sem, t0, t3, t4, t5, t9]; done))) | refine blockQ_eq ?_ | (refine blockQ_ne ?_ ?_; (focus decide)))
    refine codeW_inv (fun n τ s'' => ∃ (i : Nat) (rv : CV), i + n = l.length ∧ τ.n = 111 ∧ τ.get 3 = some v ∧ τ.get 4 = some (.ptr s.nx 0) ∧ τ.get 5 = some (.ptr (s.nx + 1) 0) ∧ τ.get 9 = some (.bool true) ∧ τ.get 10 = some rv ∧ τ.get 11 = some (.int .i64 i) ∧
      Acc s' s'' 3 1 rv ((l.take i).map fun n => -n).length (ints ((l.take i).map fun n => -n))) ?_ l.length _ _ ⟨0, .nilslice, by omega, by simp only [go_sem, t0] <;> rfl, by simp only [go_sem, t3] <;> rfl, by simp only [go_sem, t4] <;> rfl, by simp only [go_sem, t5] <;> rfl, by simp only [go_sem, t9] <;> rfl, by simp only [go_sem, t0] <;> rfl, by simp only [go_sem, t0] <;> rfl, Acc.nil (St.le_refl _)⟩
    clear t0 t3 t4 t5 t9 t74
    clear τ
    rintro n τ s'' ⟨i, rv, hi, t0, t3, t4, t5, t9, t10, t11, hacc⟩
    have hs : s.le s'' := St.le_trans hB0 (St.le_trans hcur hacc.le)
    repeat (first | refine codeW_seq ?_ | refine codeW_skip ?_ | refine codeW_label ?_ | refine codeW_exit ?_ | refine codeW_ret ?_ | refine codeW_block ?_ | refine codeW_region ?_ | refine opsW_nil ?_ | refine drawE_nil ?_ | (refine codeW_drawE ?_ ?_; (focus kernel_rfl)) | (apply drawE_val; (focus rfl); (first | exact wantedV_none rfl | (focus (simp only [go_sem, t0, t3, t4, t5, t9, t10, t11, len23 hv]; done))); (focus (intro s_ hs_; simp only [go_sem, t0, t3, t4, t5, t9, t10, t11, len23 hv, hs_] <;> rfl))) | (apply drawE_call; (focus rfl); (first | exact wantedV_none rfl | (focus (simp only [go_sem, t0, t3, t4, t5, t9, t10, t11, len23 hv]; done))); (focus (simp only [go_sem, t0, t3, t4, t5, t9, t10, t11, len23 hv] <;> rfl))) | (apply drawE_skip; (focus (simp only [go_sem, t0, t3, t4, t5, t9, t10, t11, len23 hv]; done)); (focus assumption)) | (apply opsW_val; (first | exact wantedV_none rfl | (focus (simp only [go_sem, t0, t3, t4, t5, t9, t10, t11, len23 hv]; done))); (focus (simp only [go_sem, t0, t3, t4, t5, t9, t10, t11, len23 hv] <;> rfl))) | (apply opsW_call; (first | exact wantedV_none rfl | (focus (simp only [go_sem, t0, t3, t4, t5, t9, t10, t11, len23 hv]; done))); (focus (simp only [go_sem, t0, t3, t4, t5, t9, t10, t11, len23 hv] <;> rfl))) | (apply opsW_skip; (focus (simp only [go_sem, t0, t3, t4, t5, t9, t10, t11, len23 hv]; done))) | refine blockQ_eq ?_ | (refine blockQ_ne ?_ ?_; (focus decide)))
    refine codeW_if (b := _) (by simp only [go_sem, t0, t3, t4, t5, t9, t10, t11]; rfl) ?_ ?_
    · intro hlt
      have hlt : i < l.length := by have := of_decide_eq_true hlt; omega
      obtain ⟨m, hm⟩ : ∃ m, l[i]? = some m := ⟨_, List.getElem?_eq_getElem hlt⟩
      have hmr := hr m (List.mem_of_getElem? hm)
      obtain ⟨bb, oo, h1, h2, h3⟩ := at23 (hv.le hs) hm
      repeat (first | refine codeW_seq ?_ | refine codeW_skip ?_ | refine codeW_label ?_ | refine codeW_exit ?_ | refine codeW_ret ?_ | refine codeW_block ?_ | refine codeW_region ?_ | refine opsW_nil ?_ | refine drawE_nil ?_ | (refine codeW_drawE ?_ ?_; (focus kernel_rfl)) | (apply drawE_val; (focus rfl); (first | exact wantedV_none rfl | (focus (simp only [go_sem, t0, t3, t4, t5, t9, t10, t11, h1, h3, load3]; done))); (focus (intro s_ hs_; simp only [go_sem, t0, t3, t4, t5, t9, t10, t11, h1, h3, load3, hs_] <;> rfl))) | (apply drawE_call; (focus rfl); (first | exact wantedV_none rfl | (focus (simp only [go_sem, t0, t3, t4, t5, t9, t10, t11, h1, h3, load3]; done))); (focus (simp only [go_sem, t0, t3, t4, t5, t9, t10, t11, h1, h3, load3] <;> rfl))) | (apply drawE_skip; (focus (simp only [go_sem, t0, t3, t4, t5, t9, t10, t11, h1, h3, load3]; done)); (focus assumption)) | (apply opsW_val; (first | exact wantedV_none rfl | (focus (simp only [go_sem, t0, t3, t4, t5, t9, t10, t11, h1, h3, load3]; done))); (focus (simp only [go_sem, t0, t3, t4, t5, t9, t10, t11, h1, h3, load3] <;> rfl))) | (apply opsW_call; (first | exact wantedV_none rfl | (focus (simp only [go_sem, t0, t3, t4, t5, t9, t10, t11, h1, h3, load3]; done))); (focus (simp only [go_sem, t0, t3, t4, t5, t9, t10, t11, h1, h3, load3] <;> rfl))) | (apply opsW_skip; (focus (simp only [go_sem, t0, t3, t4, t5, t9, t10, t11, h1, h3, load3]; done))) | refine blockQ_eq ?_ | (refine blockQ_ne ?_ ?_; (focus decide)))
      refine codeW_if (b := _) (by simp only [go_sem, t0, t3, t4, t5, t9, t10, t11]; rfl) ?_ ?_
      · intro _
        repeat (first | refine codeW_seq ?_ | refine codeW_skip ?_ | refine codeW_label ?_ | refine codeW_exit ?_ | refine codeW_ret ?_ | refine codeW_block ?_ | refine codeW_region ?_ | refine opsW_nil ?_ | refine drawE_nil ?_ | (refine codeW_drawE ?_ ?_; (focus kernel_rfl)) | (apply drawE_val; (focus rfl); (first | exact wantedV_none rfl | (focus (simp only [go_sem, t0, t3, t4, t5, t9, t10, t11]; done))); (focus (intro s_ hs_; simp only [go_sem, t0, t3, t4, t5, t9, t10, t11, hs_] <;> rfl))) | (apply drawE_call; (focus rfl); (first | exact wantedV_none rfl | (focus (simp only [go_sem, t0, t3, t4, t5, t9, t10, t11]; done))); (focus (simp only [go_sem, t0, t3, t4, t5, t9, t10, t11] <;> rfl))) | (apply drawE_skip; (focus (simp only [go_sem, t0, t3, t4, t5, t9, t10, t11]; done)); (focus assumption)) | (apply opsW_val; (first | exact wantedV_none rfl | (focus (simp only [go_sem, t0, t3, t4, t5, t9, t10, t11]; done))); (focus (simp only [go_sem, t0, t3, t4, t5, t9, t10, t11] <;> rfl))) | (apply opsW_call; (first | exact wantedV_none rfl | (focus (simp only [go_sem, t0, t3, t4, t5, t9, t10, t11]; done))); (focus (simp only [go_sem, t0, t3, t4, t5, t9, t10, t11] <;> rfl))) | (apply opsW_skip; (focus (simp only [go_sem, t0, t3, t4, t5, t9, t10, t11]; done))) | refine blockQ_eq ?_ | (refine blockQ_ne ?_ ?_; (focus decide)))
        change bodyQ Try.prog Try.f6 Q Ex.ret _ _
        refine end_ret (fn := Try.f6) (t := 8) rfl (by simp only [go_sem, t0, t9] <;> rfl) (hQ _)
      intro hmin
      have hmin : m ≠ -9223372036854775808 := by simpa using hmin
      have hw : IntKind.i64.wrap (0 - m) = -m := wrap_neg hmin hmr.1 hmr.2
      have htake : (l.take (i + 1)).map (fun n => -n) = (l.take i).map (fun n => -n) ++ [-m] := by
        rw [List.take_add_one, hm]; simp
      obtain ⟨rv', s2, happ, hacc'⟩ := appI (hacc.of_le (St.box_le s'' [.int .i64 (-m)] 3)) (one_IntSl s'' (-m)) (by simp; omega)
      repeat (first | refine codeW_seq ?_ | refine codeW_skip ?_ | refine codeW_label ?_ | refine codeW_exit ?_ | refine codeW_ret ?_ | refine codeW_block ?_ | refine codeW_region ?_ | refine opsW_nil ?_ | refine drawE_nil ?_ | (refine codeW_drawE ?_ ?_; (focus kernel_rfl)) | (apply drawE_val; (focus rfl); (first | exact wantedV_none rfl | (focus (simp only [go_sem, t0, t3, t4, t5, t9, t10, t11, h1, h3, load3, hw, one23, happ]; done))); (focus (intro s_ hs_; simp only [go_sem, t0, t3, t4, t5, t9, t10, t11, h1, h3, load3, hw, one23, happ, hs_] <;> rfl))) | (apply drawE_call; (focus rfl); (first | exact wantedV_none rfl | (focus (simp only [go_sem, t0, t3, t4, t5, t9, t10, t11, h1, h3, load3, hw, one23, happ]; done))); (focus (simp only [go_sem, t0, t3, t4, t5, t9, t10, t11, h1, h3, load3, hw, one23, happ] <;> rfl))) | (apply drawE_skip; (focus (simp only [go_sem, t0, t3, t4, t5, t9, t10, t11, h1, h3, load3, hw, one23, happ]; done)); (focus assumption)) | (apply opsW_val; (first | exact wantedV_none rfl | (focus (simp only [go_sem, t0, t3, t4, t5, t9, t10, t11, h1, h3, load3, hw, one23, happ]; done))); (focus (simp only [go_sem, t0, t3, t4, t5, t9, t10, t11, h1, h3, load3, hw, one23, happ] <;> rfl))) | (apply opsW_call; (first | exact wantedV_none rfl | (focus (simp only [go_sem, t0, t3, t4, t5, t9, t10, t11, h1, h3, load3, hw, one23, happ]; done))); (focus (simp only [go_sem, t0, t3, t4, t5, t9, t10, t11, h1, h3, load3, hw, one23, happ] <;> rfl))) | (apply opsW_skip; (focus (simp only [go_sem, t0, t3, t4, t5, t9, t10, t11, h1, h3, load3, hw, one23, happ]; done))) | refine blockQ_eq ?_ | (refine blockQ_ne ?_ ?_; (focus decide)))
      refine ⟨n - 1, by omega, i + 1, rv', by omega, by simp only [go_sem, t0], by simp only [go_sem, t0, t3], by simp only [go_sem, t0, t4], by simp only [go_sem, t0, t5], by simp only [go_sem, t0, t9], by simp only [go_sem, t0], by simp only [go_sem, t0, wrap_nat (show i + 1 < 9223372036854775808 by omega)], ?_⟩
      rw [htake]
      exact hacc'
    · intro hlt
      have hi' : i = l.length := by have := of_decide_eq_false hlt; omega
      rw [hi', List.take_length] at hacc
      have hround := accInts hacc
      have hcurL : sB.le s'' := St.le_trans hcur hacc.le
      obtain ⟨s1, g1, g2, g3⟩ := (Has.box s'' zk 25).stos (vs := a.cells) (o := 0) (Nat.le_refl 6) (Nat.le_refl _) (by simp [K.cells, scalar])
      have g2 : Has s1 s''.nx a.cells 0 true 1 false 25 := g2
      have x1 : s''.le s1 := g3.le (St.box_le _ _ _) (Nat.le_refl _)
      have x1n : s1.nx = s''.nx + 1 := g3.nx
      obtain ⟨s2, k1, k2, k3⟩ := (Has.box s1 zk 25).stos (vs := b.cells) (o := 0) (Nat.le_refl 6) (Nat.le_refl _) (by simp [K.cells, scalar])
      have k2 : Has s2 s1.nx b.cells 0 true 1 false 25 := k2
      have x2 : s1.le s2 := k3.le (St.box_le _ _ _) (Nat.le_refl _)
      have m2 : Has s2 s''.nx a.cells 0 true 1 false 25 := g2.of_le x2 (by omega)
      obtain ⟨s3, p1, p2, p3⟩ := m2.sto (o := 0) (v := .int .i64 1) (Nat.succ_pos 5) (Nat.le_refl _) rfl
      have q3 : Has s3 s1.nx b.cells 0 true 1 false 25 := k2.of_get (p3.get _ (by omega))
      obtain ⟨s4, r1, r2, r3⟩ := q3.sto (o := 0) (v := .int .i64 1) (Nat.succ_pos 5) (Nat.le_refl _) rfl
      have q4 : Has s4 s''.nx (a.cells.set 0 (.int .i64 1)) 0 true 1 false 25 := p2.of_get (r3.get _ (by omega))
      have x4 : s''.le s4 := r3.le (p3.le (St.le_trans x1 x2) (Nat.le_refl _)) (by omega)
      have n4 : s4.nx = s''.nx + 2 := by rw [r3.nx, p3.nx, k3.nx, St.box_nx, x1n]
      rw [x1n] at k1 r1 r2 q3
      have hX : ∀ t, s4.le t → Ae.lds t s''.nx 0 6 = some (K.mk 1 a.at' a.size a.fr a.subj a.flag).cells := fun t ht => (q4.of_le ht (by omega)).lds (n := 6) (o := 0) (Nat.le_refl 6)
      have hY : ∀ t, s4.le t → Ae.lds t (s''.nx + 1) 0 6 = some (K.mk 1 b.at' b.size b.fr b.subj b.flag).cells := fun t ht => (r2.of_le ht (by omega)).lds (n := 6) (o := 0) (Nat.le_refl 6)
      have hvX : IntSl s4 v l := hv.le (St.le_trans hs x4)
      have hrX : IntSl s4 rv (l.map fun n => -n) := hround.le x4
      have hneg : less (K.mk 1 b.at' b.size b.fr b.subj b.flag) (K.mk 1 a.at' a.size a.fr a.subj a.flag) (l.map fun n => -n) = less (K.mk 1 a.at' a.size a.fr a.subj a.flag) (K.mk 1 b.at' b.size b.fr b.subj b.flag) l := less_neg (a := K.mk 1 a.at' a.size a.fr a.subj a.flag) (b := K.mk 1 b.at' b.size b.fr b.subj b.flag) rfl l
      repeat (first | refine codeW_seq ?_ | refine codeW_skip ?_ | refine codeW_label ?_ | refine codeW_exit ?_ | refine codeW_ret ?_ | refine codeW_block ?_ | refine codeW_region ?_ | refine opsW_nil ?_ | refine drawE_nil ?_ | (refine codeW_drawE ?_ ?_; (focus kernel_rfl)) | (apply drawE_val; (focus rfl); (first | exact wantedV_none rfl | (focus (simp only [go_sem, t0, t3, t4, t5, t9, t10, t11, load25, hA _ hcurL, hBB _ (St.le_trans hcurL x1), zero25, store25, store3, g1, x1n, k1, fa0, p1, r1, callF_12, hX, hY, hneg, eqN]; done))); (focus (intro s_ hs_; simp only [go_sem, t0, t3, t4, t5, t9, t10, t11, load25, hA _ hcurL, hBB _ (St.le_trans hcurL x1), zero25, store25, store3, g1, x1n, k1, fa0, p1, r1, callF_12, hX, hY, hneg, eqN, hs_] <;> rfl))) | (apply drawE_call; (focus rfl); (first | exact wantedV_none rfl | (focus (simp only [go_sem, t0, t3, t4, t5, t9, t10, t11, load25, hA _ hcurL, hBB _ (St.le_trans hcurL x1), zero25, store25, store3, g1, x1n, k1, fa0, p1, r1, callF_12, hX, hY, hneg, eqN]; done))); (focus (simp only [go_sem, t0, t3, t4, t5, t9, t10, t11, load25, hA _ hcurL, hBB _ (St.le_trans hcurL x1), zero25, store25, store3, g1, x1n, k1, fa0, p1, r1, callF_12, hX, hY, hneg, eqN] <;> rfl))) | (apply drawE_skip; (focus (simp only [go_sem, t0, t3, t4, t5, t9, t10, t11, load25, hA _ hcurL, hBB _ (St.le_trans hcurL x1), zero25, store25, store3, g1, x1n, k1, fa0, p1, r1, callF_12, hX, hY, hneg, eqN]; done)); (focus assumption)) | (apply opsW_val; (first | exact wantedV_none rfl | (focus (simp only [go_sem, t0, t3, t4, t5, t9, t10, t11, load25, hA _ hcurL, hBB _ (St.le_trans hcurL x1), zero25, store25, store3, g1, x1n, k1, fa0, p1, r1, callF_12, hX, hY, hneg, eqN]; done))); (focus (simp only [go_sem, t0, t3, t4, t5, t9, t10, t11, load25, hA _ hcurL, hBB _ (St.le_trans hcurL x1), zero25, store25, store3, g1, x1n, k1, fa0, p1, r1, callF_12, hX, hY, hneg, eqN] <;> rfl))) | (apply opsW_call; (first | exact wantedV_none rfl | (focus (simp only [go_sem, t0, t3, t4, t5, t9, t10, t11, load25, hA _ hcurL, hBB _ (St.le_trans hcurL x1), zero25, store25, store3, g1, x1n, k1, fa0, p1, r1, callF_12, hX, hY, hneg, eqN]; done))); (focus (simp only [go_sem, t0, t3, t4, t5, t9, t10, t11, load25, hA _ hcurL, hBB _ (St.le_trans hcurL x1), zero25, store25, store3, g1, x1n, k1, fa0, p1, r1, callF_12, hX, hY, hneg, eqN] <;> rfl))) | (apply opsW_skip; (focus (simp only [go_sem, t0, t3, t4, t5, t9, t10, t11, load25, hA _ hcurL, hBB _ (St.le_trans hcurL x1), zero25, store25, store3, g1, x1n, k1, fa0, p1, r1, callF_12, hX, hY, hneg, eqN]; done))) | refine blockQ_eq ?_ | (refine blockQ_ne ?_ ?_; (focus decide)) | refine lessB_ok hl _ hvX (fun s5 hs5 => ⟨hs5, ?_⟩) | refine lessB_ok (by simpa using hl) _ (hrX.le (by assumption)) (fun s6 hs6 => ⟨St.le_trans (by assumption) hs6, ?_⟩))
      change bodyQ Try.prog Try.f6 Q Ex.ret _ _
      refine end_ret (fn := Try.f6) (t := 8) rfl (by simp only [go_sem, t0] <;> rfl) (hQ _)
end Go.Proofs.Ytbkniippobnbpaa
