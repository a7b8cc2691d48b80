/-
  For every list, anchor, offset and limit, 'OrderPages' returns true and leaves its arguments and the memory as they were.
-/
import Derived.Test.YtbkniippobnbpaaOrdW13
import Derived.Test.YtbkniippobnbpaaOrdW8
import Derived.Test.YtbkniippobnbpaaAeRow
namespace Go.Proofs.Ytbkniippobnbpaa
open Go.Ae Go.ChangeShapes Go.WideShapes Go.ChangeAt Go.RowKit
set_option linter.unusedSimpArgs false

theorem Try.ownP : ownKnob Try.prog.godebug = none := by kernel_rfl
theorem Try.laidOutP : laidOutB Try.prog = true := by kernel_rfl

section
variable {H : Type} {enc : TypeId × Value → H} {w : World} {base : Nat} {sp : Nat → Bool} {hd : Bool}

theorem okWide_cells {P : Program} {r : Reach} {t e : TypeId} {b o n c : Nat} (ht : P.underlying t = some (.slice e)) (h : Value.okWide P w r base t (.slice (some ⟨b, o, none⟩) n c)) :
    n ≤ c ∧ ∃ C ty frz, w.heap[b]? = some (.cells C ty frz) := by
  simp only [Value.okWide, Cell.okWide, Cell.ok, ht] at h
  obtain ⟨h1, h2, _, h3, row, cs, h4, _⟩ := h
  refine ⟨h1, ?_⟩
  unfold World.shape? at h4
  split at h4
  · rename_i C ty frz hb; exact ⟨C, ty, frz, hb⟩
  · cases h4

theorem mirror_cut {P : Program} {b : Nat} {C : Array Value} {ty : TypeId} {frz : Nat × Nat} (h : w.heap[b]? = some (.cells C ty frz)) (z : Nat) : cutOk (mirror P w) b z = true := by
  have hlt : b < w.heap.size := (Array.getElem?_eq_some_iff.1 h).1
  unfold cutOk
  simp only [mirror, get_fillT]
  rw [if_pos (by unfold mirN; omega), h]
  rfl

theorem open_cut23 {v : Value} {d : DataW H} {ps : List MemPlace} (hval : Value.okWide Try.prog w .any base 23 v) (h : DataW.Trod enc Try.prog w 0 sp hd 23 v d ps) :
    ∃ (c : CV) (l : List Int), VRel (mirE Try.prog w) c v ∧ CutSl (mirror Try.prog w) c l ∧ l.length ≤ maxLen ∧ ∀ n ∈ l, -9223372036854775808 ≤ n ∧ n < 9223372036854775808 := by
  obtain ⟨c, l, h1, h2, h3, h4, h5⟩ := open_ints23 hval h
  refine ⟨c, l, h1, ⟨h2, ?_⟩, h3, h4⟩
  rintro b o n k rfl
  rcases h5 with h5 | ⟨b', o', n', k', h5, rfl⟩
  · cases h5
  · cases h5
    obtain ⟨g1, C, ty, frz, g2⟩ := okWide_cells Try.underlying23 hval
    exact ⟨g1, mirror_cut g2 1⟩
end

theorem pages_calls {a : Value} {x y z : Int} {cv : CV} {l : List Int} {W : World} (hv : VRel (mirE Try.prog W) cv a) (hs : CutSl (mirror Try.prog W) cv l) (hl : l.length ≤ maxLen) :
    Calls Try.prog 4 #[a, .int .i64 x, .int .i64 y, .int .i64 z] W fun e w' => e = .returned (.bool true) ∧ RowKit.Below W.heap.size W w' := by
  refine enter_true mixed okHk (args := [cv, .int .i64 x, .int .i64 y, .int .i64 z]) (VRels.cons hv (VRels.cons (by simp only [VRel]) (VRels.cons (by simp only [VRel]) (VRels.cons (by simp only [VRel]) VRels.nil)))) ?_
  have hm : maxLen < 9223372036854775808 := by decide
  exact pages_ok cv l x y z _ hs (by omega) _ (fun _ => rfl)

set_option maxRecDepth 100000 in
theorem pages_lifted (os : Os) (started : os.Started) (H : Type) (enc : TypeId × Value → H) :
    ReturnsInHanded {} Try.checked os 4 .any (Rows.orderPagesSpec.pre6 enc Try.prog Try.f4 Rows.orderPagesRow.domain false) (Rows.orderPagesSpec.post enc Try.prog Try.f4 false true false false) := by
  refine returnsInHanded_of_change (C := Try.checked) Try.ownP started (by kernel_rfl) Try.func4
    (ChangeSpec.witness6 (enc := enc) (C := Try.checked) false ⟨#[], #[.slice none 0 0, .int .i64 0, .int .i64 0, .int .i64 0], []⟩ 8 (by kernel_rfl) (by kernel_rfl) (by kernel_rfl) (by kernel_rfl)) ?_
  intro W base args ds gs before hval0 hW hcnd _
  have hval : ∀ (j : Nat) t v, Try.f4.params[j]? = some t → args[j]? = some v → Value.okWide Try.prog W .any base t v := hval0
  have hW' := hW
  obtain ⟨p, q, hA0, hV, rfl, hfz, hnd⟩ := hW
  have hA : DataW.TrodAll enc Try.prog W 0 (fun _ => true) true Try.f4.params.toList args.toList ds p := hA0
  rw [Try.params4] at hA hval
  obtain ⟨v0, v1, v2, v3, d0, d1, d2, d3, p0, p1, p2, p3, rfl, rfl, rfl, h0, h1, h2, h3⟩ := trodAll_four hA
  obtain ⟨cv, l, e0, hs, hl, hr⟩ := open_cut23 (hval 0 23 v0 rfl rfl) h0
  obtain ⟨x, rfl, rfl, rfl, wx⟩ := open_int Try.underlying3 (hval 1 3 v1 rfl rfl) h1
  obtain ⟨y, rfl, rfl, rfl, wy⟩ := open_int Try.underlying3 (hval 2 3 v2 rfl rfl) h2
  obtain ⟨z, rfl, rfl, rfl, wz⟩ := open_int Try.underlying3 (hval 3 3 v3 rfl rfl) h3
  refine (pages_calls e0 hs hl).mono fun e W' ⟨he, hw⟩ => ?_
  subst he
  obtain ⟨rfl, rfl⟩ := trodVars_none hV
  exact ⟨_, rfl, post_true Try.laidOutP hW' hw (by kernel_rfl) rfl rfl Try.underlying4 rfl rfl rfl⟩

theorem orderPages_holds : Rows.OrderPagesSaid :=
  OpenClaim.holds_of_wide 4 Try.f4 rfl rfl rfl rfl rfl rfl rfl ⟨rfl, rfl, rfl, rfl, rfl⟩ rfl rfl rfl rfl rfl (by kernel_rfl) Try.func4 (by kernel_rfl)
    (of_decide_eq_true (by kernel_rfl)) (by unfold Func.isWrapper; first | (rw [if_pos (by decide +kernel)]; kernel_rfl) | (rw [if_neg (by decide +kernel)]; exact ⟨rfl, rfl⟩))
    (fun os started H enc _ => pages_lifted os started H enc)

#print axioms orderPages_holds
end Go.Proofs.Ytbkniippobnbpaa
