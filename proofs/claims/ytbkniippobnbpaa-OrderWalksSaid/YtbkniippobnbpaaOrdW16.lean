/-
  For all lists of numbers l and ahead and every limit, 'OrderWalks' returns true and leaves its arguments and the memory as they were.
-/
import Derived.Test.YtbkniippobnbpaaOrdW15
import Derived.Test.YtbkniippobnbpaaOrdW14
namespace Go.Proofs.Ytbkniippobnbpaa
open Go.Ae Go.ChangeShapes Go.WideShapes Go.ChangeAt Go.RowKit
set_option linter.unusedSimpArgs false

theorem walks_calls {a b : Value} {x : Int} {cv cw : CV} {l A : List Int} {W : World} (hv : VRel (mirE Try.prog W) cv a) (hs : CutSl (mirror Try.prog W) cv l) (hl : l.length ≤ maxLen)
    (hw : VRel (mirE Try.prog W) cw b) (ht : CutSl (mirror Try.prog W) cw A) (hA : A.length ≤ maxLen) :
    Calls Try.prog 7 #[a, .int .i64 x, b] W fun e w' => e = .returned (.bool true) ∧ RowKit.Below W.heap.size W w' := by
  refine enter_true mixed okHk (args := [cv, .int .i64 x, cw]) (VRels.cons hv (VRels.cons (by simp only [VRel]) (VRels.cons hw VRels.nil))) ?_
  have hm : maxLen < 9223372036854775808 := by decide
  exact walks_ok cv l x cw A _ hs ht (by omega) (by omega) _ (fun _ => rfl)

set_option maxRecDepth 100000 in
theorem walks_lifted (os : Os) (started : os.Started) (H : Type) (enc : TypeId × Value → H) :
    ReturnsInHanded {} Try.checked os 7 .any (Rows.orderWalksSpec.pre6 enc Try.prog Try.f7 Rows.orderWalksRow.domain false) (Rows.orderWalksSpec.post enc Try.prog Try.f7 false true false false) := by
  refine returnsInHanded_of_change (C := Try.checked) Try.ownP started (by kernel_rfl) Try.func7
    (ChangeSpec.witness6 (enc := enc) (C := Try.checked) false ⟨#[], #[.slice none 0 0, .int .i64 0, .slice none 0 0], []⟩ 8 (by kernel_rfl) (by kernel_rfl) (by kernel_rfl) (by kernel_rfl)) ?_
  intro W base args ds gs before hval0 hW hcnd _
  have hval : ∀ (j : Nat) t v, Try.f7.params[j]? = some t → args[j]? = some v → Value.okWide Try.prog W .any base t v := hval0
  have hW' := hW
  obtain ⟨p, q, hA0, hV, rfl, hfz, hnd⟩ := hW
  have hA : DataW.TrodAll enc Try.prog W 0 (fun _ => true) true Try.f7.params.toList args.toList ds p := hA0
  rw [Try.params7] at hA hval
  obtain ⟨v0, v1, v2, d0, d1, d2, p0, p1, p2, rfl, rfl, rfl, h0, h1, h2⟩ := trodAll_three hA
  obtain ⟨cv, l, e0, hs, hl, hr⟩ := open_cut23 (hval 0 23 v0 rfl rfl) h0
  obtain ⟨x, rfl, rfl, rfl, wx⟩ := open_int Try.underlying3 (hval 1 3 v1 rfl rfl) h1
  obtain ⟨cw, A, e2, ht, hlA, hrA⟩ := open_cut23 (hval 2 23 v2 rfl rfl) h2
  refine (walks_calls e0 hs hl e2 ht hlA).mono fun e W' ⟨he, hw⟩ => ?_
  subst he
  obtain ⟨rfl, rfl⟩ := trodVars_none hV
  exact ⟨_, rfl, post_true Try.laidOutP hW' hw (by kernel_rfl) rfl rfl Try.underlying4 rfl rfl rfl⟩

theorem orderWalks_holds : Rows.OrderWalksSaid :=
  OpenClaim.holds_of_wide 7 Try.f7 rfl rfl rfl rfl rfl rfl rfl ⟨rfl, rfl, rfl, rfl, rfl⟩ rfl rfl rfl rfl rfl (by kernel_rfl) Try.func7 (by kernel_rfl)
    (of_decide_eq_true (by kernel_rfl)) (by unfold Func.isWrapper; first | (rw [if_pos (by decide +kernel)]; kernel_rfl) | (rw [if_neg (by decide +kernel)]; exact ⟨rfl, rfl⟩))
    (fun os started H enc _ => walks_lifted os started H enc)

#print axioms orderWalks_holds
end Go.Proofs.Ytbkniippobnbpaa
