/-
  Comparing two keys by a list of criteria.
-/
import Derived.Test.YtbkniippobnbpaaOrdW3
import Derived.Test.YtbkniippobnbpaaAeDrawW
namespace Go.Proofs.Ytbkniippobnbpaa
open Go.Ae
set_option linter.unusedSimpArgs false
variable {H : Hooks}
attribute [local go_sem] opV_move opV_assign opV_pick opV_alloc opV_box opV_build opV_buildSlice opV_load opV_store opV_nilCheck opV_unOp opV_binOp opV_makeInterface opV_makeFunc opV_makeSlice opV_slice opV_fieldAddr opV_field opV_indexAddr opV_index opV_extract opV_call oCall_value oCall_builtin oCallV_func bin_add bin_sub bin_mul bin_lss bin_leq bin_gtr bin_geq bin_eql bin_neq bins_lss bins_leq bins_gtr bins_geq bins_eql bins_neq binb_eql ret1_some ret2_some retU_some oBin_some oUn_some oPick_some oLoad_some oStore_some oBox_some oIndexAddr_some oIndex_some oExtract_some un_not un_neg cond_true cond_false beq_ft beq_tf Bool.not_true Bool.not_false wantedV opd_tmp opd_c opd ofV Fr.get_put_ne Fr.get_put_eq Fr.get_put_none Fr.put_n ne_eq not_false_eq_true Fr.only_get fr_get fr_n argsT T.get_set T.get_nil oField oFunc oNil oAlloc oBuild oBuildSlice mapO pairs okI_eq fnat_eq fint_eq List.getElem?_toArray List.getElem?_cons_zero List.getElem?_cons_succ Option.bind_some List.map List.length_cons List.length_nil Nat.reduceEqDiff Nat.reduceLT Nat.reduceAdd Nat.reduceMul Nat.zero_add Nat.add_zero Nat.max_def Nat.reduceLeDiff Nat.reduceLT and_true and_false true_and false_and if_true if_false ite_true ite_false Option.some.injEq reduceCtorEq decide_true decide_false bne_self_eq_false beq_self_eq_true seqQ List.append_nil List.nil_append List.cons_append newVar_eq cellsOf St.box_nx Option.map_some

def ints (l : List Int) : List CV := l.map fun n => .int .i64 n

/-- A slice of numbers. -/
def IntSl (s : St) (v : CV) (l : List Int) : Prop :=
  (v = .nilslice ∧ l = []) ∨ ∃ b o c, v = .slice b o l.length c ∧ b < s.nx ∧ ∀ i n, l[i]? = some n → ld s b (o + i) = some (.int .i64 n)

theorem IntSl.le {s s' : St} {v : CV} {l : List Int} (h : IntSl s v l) (hs : s.le s') : IntSl s' v l := by
  rcases h with h | ⟨b, o, c, h1, h2, h3⟩
  · exact .inl h
  · exact .inr ⟨b, o, c, h1, Nat.lt_of_lt_of_le h2 hs.1, fun i n hi => by rw [hs.ld h2]; exact h3 i n hi⟩

theorem len23 {s : St} {v : CV} {l : List Int} (h : IntSl s v l) (s' : St) : builtinV Try.prog s' .len #[23] [v] = some (.val (.int .i64 l.length) s') := by
  rcases h with ⟨rfl, rfl⟩ | ⟨b, o, c, rfl, -⟩
  · simp only [builtinV, lenV, List.getElem?_toArray, List.getElem?_cons_zero, Try.underlying23]; rfl
  · simp only [builtinV, lenV, List.getElem?_toArray, List.getElem?_cons_zero, Try.underlying23]; rfl

theorem at23 {s : St} {v : CV} {l : List Int} (h : IntSl s v l) {i : Nat} {n : Int} (hi : l[i]? = some n) : ∃ b o, indexAt Try.prog 23 v (.int .i64 i) = some (.ptr b o) ∧ b < s.nx ∧ ld s b o = some (.int .i64 n) := by
  obtain ⟨hlt, -⟩ := List.getElem?_eq_some_iff.1 hi
  rcases h with ⟨rfl, rfl⟩ | ⟨b, o, c, rfl, hb, h3⟩
  · simp at hlt
  · refine ⟨b, o + i, ?_, hb, h3 i n hi⟩
    have h1 : decide ((0 : Int) ≤ (i : Int)) = true := by simp
    have h2 : decide ((i : Int) < (l.length : Nat)) = true := by simpa using hlt
    simp only [indexAt, Try.underlying23, sz3, h1, h2, fnat_eq, Int.toNat_natCast, Nat.mul_one]

def fnum (n : Int) : Nat := if n = 1 then 33 else if n = 2 then 35 else if n = 3 then 36 else if n = 4 then 38 else 39
def crit (n : Int) (a b : K) : Int := if n = 1 then cmpI a.at' b.at' else if n = 2 then cmpI a.size b.size else if n = 3 then cmpS a.fr b.fr else if n = 4 then cmpS a.subj b.subj else cmpB a.flag b.flag

theorem five {n : Int} (h : 0 < n) (h' : n < 6) : n = 1 ∨ n = 2 ∨ n = 3 ∨ n = 4 ∨ n = 5 := by omega

theorem crit_ok (hH : Free H) {n : Int} (h : 0 < n) (h' : n < 6) (a b : K) (s : St) (Q : CV → St → Prop) (hQ : ∀ s', s.le s' → Q (.int .i64 (crit n a b)) s') : callW Try.prog H (fnum n) [a.cv, b.cv] s Q := by
  rcases five h h' with rfl | rfl | rfl | rfl | rfl
  · exact asked2_ok hH a b s Q hQ
  · exact asked3_ok hH a b s Q hQ
  · exact asked4_ok hH a b s Q hQ
  · exact asked5_ok hH a b s Q hQ
  · exact asked6_ok hH a b s Q hQ

theorem idx43 {n : Int} (h : 0 < n) (h' : n < 6) : indexV Try.prog 43 (.agg tab) (.int .i64 n) = some (fn (fnum n)) := by
  rcases five h h' with rfl | rfl | rfl | rfl | rfl <;> kernel_rfl

theorem callF_fnum {n : Int} (h : 0 < n) (h' : n < 6) (args : List CV) (s : St) : callF Try.prog (fnum n) args s = some (.enter (fnum n) args s) := by
  rcases five h h' with rfl | rfl | rfl | rfl | rfl
  · exact callF_33 args s
  · exact callF_35 args s
  · exact callF_36 args s
  · exact callF_38 args s
  · exact callF_39 args s

theorem callV43 {n : Int} (h : 0 < n) (h' : n < 6) (args : List CV) (s : St) : oCallV Try.prog s (some (fn (fnum n))) args = some (.enter (fnum n) args s) := by
  show callF Try.prog (fnum n) ([] ++ args ++ []) s = _
  rw [List.nil_append, List.append_nil]
  exact callF_fnum h h' args s

def cmpK (a b : K) : List Int → Int
  | [] => cmpI a.id b.id
  | n :: l =>
    let c := if isOne n = true then (if n > 0 then crit n a b else crit (-n) b a) else 0
    if c ≠ 0 then c else cmpK a b l

end Go.Proofs.Ytbkniippobnbpaa
