/-
  For all keys a, b, c and all lists of criteria, 'OrderTurns' returns true and leaves its arguments and the memory as they were.
-/
import Derived.Test.YtbkniippobnbpaaOrdW8
import Derived.Test.YtbkniippobnbpaaAeRow
namespace Go.Proofs.Ytbkniippobnbpaa
open Go.Ae Go.ChangeShapes Go.WideShapes Go.ChangeAt Go.RowKit
set_option linter.unusedSimpArgs false

theorem Try.own : ownKnob Try.prog.godebug = none := by kernel_rfl
theorem Try.laidOut : laidOutB Try.prog = true := by kernel_rfl

theorem turns_calls {a b c v : Value} {ka kb kc : K} {cv : CV} {l : List Int} {W : World} (ha : ∀ E, VRel E ka.cv a) (hb : ∀ E, VRel E kb.cv b) (hc : ∀ E, VRel E kc.cv c) (hv : VRel (mirE Try.prog W) cv v)
    (hs : IntSl (mirror Try.prog W) cv l) (hl : l.length ≤ maxLen) (hr : ∀ n ∈ l, -9223372036854775808 ≤ n ∧ n < 9223372036854775808) :
    Calls Try.prog 6 #[a, b, c, v] W fun e w' => e = .returned (.bool true) ∧ RowKit.Below W.heap.size W w' := by
  refine enter_true mixed okHk (args := [ka.cv, kb.cv, kc.cv, cv]) (VRels.cons (ha _) (VRels.cons (hb _) (VRels.cons (hc _) (VRels.cons hv VRels.nil)))) ?_
  have hm : maxLen < 9223372036854775808 := by decide
  exact turns_ok ka kb kc cv l (by omega) hr _ hs _ (fun _ => rfl)

set_option maxRecDepth 100000 in
theorem turns_lifted (os : Os) (started : os.Started) (H : Type) (enc : TypeId × Value → H) :
    ReturnsInHanded {} Try.checked os 6 .any (Rows.orderTurnsSpec.pre6 enc Try.prog Try.f6 Rows.orderTurnsRow.domain false) (Rows.orderTurnsSpec.post enc Try.prog Try.f6 false true false false) := by
  refine returnsInHanded_of_change (C := Try.checked) Try.own started (by kernel_rfl) Try.func6
    (ChangeSpec.witness6 (enc := enc) (C := Try.checked) false ⟨#[], #[.agg #[.int .i64 0, .int .i64 0, .int .i64 0, .string ByteArray.empty, .string ByteArray.empty, .bool false], .agg #[.int .i64 0, .int .i64 0, .int .i64 0, .string ByteArray.empty, .string ByteArray.empty, .bool false], .agg #[.int .i64 0, .int .i64 0, .int .i64 0, .string ByteArray.empty, .string ByteArray.empty, .bool false], .slice none 0 0], []⟩ 8 (by kernel_rfl) (by kernel_rfl) (by kernel_rfl) (by kernel_rfl)) ?_
  intro W base args ds gs before hval0 hW hcnd _
  have hval : ∀ (j : Nat) t v, Try.f6.params[j]? = some t → args[j]? = some v → Value.okWide Try.prog W .any base t v := hval0
  have hW' := hW
  obtain ⟨p, q, hA0, hV, rfl, hfz, hnd⟩ := hW
  have hA : DataW.TrodAll enc Try.prog W 0 (fun _ => true) true Try.f6.params.toList args.toList ds p := hA0
  rw [Try.params6] at hA hval
  obtain ⟨v0, v1, v2, v3, d0, d1, d2, d3, p0, p1, p2, p3, rfl, rfl, rfl, h0, h1, h2, h3⟩ := trodAll_four hA
  obtain ⟨k0, e0⟩ := open_key (hval 0 25 v0 rfl rfl) h0
  obtain ⟨k1, e1⟩ := open_key (hval 1 25 v1 rfl rfl) h1
  obtain ⟨k2, e2⟩ := open_key (hval 2 25 v2 rfl rfl) h2
  obtain ⟨cv, l, e3, hs, hl, hr⟩ := open_ints23 (hval 3 23 v3 rfl rfl) h3
  refine (turns_calls e0 e1 e2 e3 hs hl hr).mono fun e W' ⟨he, hw⟩ => ?_
  subst he
  obtain ⟨rfl, rfl⟩ := trodVars_none hV
  exact ⟨_, rfl, post_true Try.laidOut hW' hw (by kernel_rfl) rfl rfl Try.underlying4 rfl rfl rfl⟩

theorem orderTurns_holds : Rows.OrderTurnsSaid :=
  OpenClaim.holds_of_wide 6 Try.f6 rfl rfl rfl rfl rfl rfl rfl ⟨rfl, rfl, rfl, rfl, rfl⟩ rfl rfl rfl rfl rfl (by kernel_rfl) Try.func6 (by kernel_rfl)
    (of_decide_eq_true (by kernel_rfl)) (by unfold Func.isWrapper; first | (rw [if_pos (by decide +kernel)]; kernel_rfl) | (rw [if_neg (by decide +kernel)]; exact ⟨rfl, rfl⟩))
    (fun os started H enc _ => turns_lifted os started H enc)

#print axioms orderTurns_holds
end Go.Proofs.Ytbkniippobnbpaa
