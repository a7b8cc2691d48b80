/-
  The arguments of the laws on order, opened.
-/
import Derived.Test.YtbkniippobnbpaaOrdW7
import Derived.Test.YtbkniippobnbpaaRows
import Derived.Deep.Slices
import Derived.OpenShut
namespace Go.Proofs.Ytbkniippobnbpaa
open Go.Ae Go.ChangeShapes Go.WideShapes Go.ChangeAt Go.RowKit
set_option linter.unusedSimpArgs false

theorem mixed : Try.prog.follows .mixedOrders = true := by kernel_rfl
theorem small_run : (((ev Try.prog noHooks 400).call 8 [] (st₀ Try.prog)).map fun r => same r.1 (.bool true)) = some true := by kernel_rfl

theorem okHk : CallsOk Try.prog Hk := boolHooks_ok fun f b h w => by
  have hf : f = 8 ∧ b = true := by
    simp only [List.lookup] at h
    split at h
    · rename_i hf; exact ⟨by simpa using hf, by simpa using h.symm⟩
    · cases h
  obtain ⟨rfl, rfl⟩ := hf
  exact closed_bool mixed small_run w

section
variable {H : Type} {enc : TypeId × Value → H} {w : World} {base : Nat} {sp : Nat → Bool} {hd : Bool}

theorem cells25 : Try.prog.cellsOf 25 = 6 := by kernel_rfl
theorem cells3 : Try.prog.cellsOf 3 = 1 := by kernel_rfl
theorem cells9 : Try.prog.cellsOf 9 = 1 := by kernel_rfl
theorem cells4 : Try.prog.cellsOf 4 = 1 := by kernel_rfl

theorem int_bounds {n : Int} (h : (Lit.int .i64 n).wf = true) : -9223372036854775808 ≤ n ∧ n < 9223372036854775808 := by
  have h1 : IntKind.i64.min ≤ n ∧ n ≤ IntKind.i64.max := by simpa [Lit.wf] using h
  have h2 : IntKind.i64.min = -9223372036854775808 := by decide
  have h3 : IntKind.i64.max = 9223372036854775807 := by decide
  rw [h2, h3] at h1
  omega

/-- A key's cells. -/
theorem trod_key {fuel : Nat} {cs : List Value} {x : DataW H × List MemPlace} (h : DataW.trod enc Try.prog w base sp hd fuel 25 cs = some x) :
    ∃ (a b c : Int) (f g : ByteArray) (p : Bool), cs = [.int .i64 a, .int .i64 b, .int .i64 c, .string f, .string g, .bool p] ∧ (-9223372036854775808 ≤ a ∧ a < 9223372036854775808) := by
  obtain ⟨xs, n, rfl, rfl, hl, hx, hf⟩ := DataW.trod_struct Try.underlying25 h
  rw [cells25] at hl
  match cs, hl with
  | [c0, c1, c2, c3, c4, c5], _ =>
    match xs, hx with
    | [x0, x1, x2, x3, x4, x5], _ =>
      have h0 := hf 0 _ rfl
      have h1 := hf 1 _ rfl
      have h2 := hf 2 _ rfl
      have h3 := hf 3 _ rfl
      have h4 := hf 4 _ rfl
      have h5 := hf 5 _ rfl
      simp only [cells3, cells9, cells4, List.drop_zero, List.drop_succ_cons, List.take_succ_cons, List.take_zero, List.getElem?_cons_zero, List.getElem?_cons_succ] at h0 h1 h2 h3 h4 h5
      obtain ⟨a, ha, _, hw⟩ := DataW.trod_int Try.underlying3 h0
      obtain ⟨b, hb, _⟩ := DataW.trod_int Try.underlying3 h1
      obtain ⟨c, hc, _⟩ := DataW.trod_int Try.underlying3 h2
      obtain ⟨f, hf', _⟩ := DataW.trod_string Try.underlying9 h3
      obtain ⟨g, hg, _⟩ := DataW.trod_string Try.underlying9 h4
      obtain ⟨p, hp, _⟩ := DataW.trod_bool Try.underlying4 h5
      injection ha with ha _
      injection hb with hb _
      injection hc with hc _
      injection hf' with hf' _
      injection hg with hg _
      injection hp with hp _
      subst ha hb hc hf' hg hp
      exact ⟨a, b, c, f, g, p, rfl, int_bounds hw⟩

theorem open_key {v : Value} {d : DataW H} {ps : List MemPlace} (hval : Value.okWide Try.prog w .any base 25 v) (h : DataW.Trod enc Try.prog w 0 sp hd 25 v d ps) :
    ∃ k : K, ∀ E, VRel E k.cv v := by
  obtain ⟨cs, rfl, hsz⟩ := okWide_struct Try.underlying25 hval
  obtain ⟨fuel, hf⟩ := h
  obtain ⟨a, b, c, f, g, p, he, -⟩ := trod_key hf
  have he : cs.toList = _ := he
  refine ⟨⟨a, b, c, bytesOf f, bytesOf g, p⟩, fun E => ?_⟩
  simp only [K.cv, K.cells, VRel]
  refine ⟨cs, rfl, ?_⟩
  rw [he]
  exact VRels.cons (by simp only [VRel]) (VRels.cons (by simp only [VRel]) (VRels.cons (by simp only [VRel]) (VRels.cons (by simp only [VRel]; exact ⟨f, rfl, rfl⟩) (VRels.cons (by simp only [VRel]; exact ⟨g, rfl, rfl⟩) (VRels.cons (by simp only [VRel]) VRels.nil)))))

theorem open_ints23 {v : Value} {d : DataW H} {ps : List MemPlace} (hval : Value.okWide Try.prog w .any base 23 v) (h : DataW.Trod enc Try.prog w 0 sp hd 23 v d ps) :
    ∃ (c : CV) (l : List Int), VRel (mirE Try.prog w) c v ∧ IntSl (mirror Try.prog w) c l ∧ l.length ≤ maxLen ∧ (∀ n ∈ l, -9223372036854775808 ≤ n ∧ n < 9223372036854775808) ∧
      (c = .nilslice ∨ ∃ b o n k, c = .slice b o n k ∧ v = .slice (some ⟨b, o, none⟩) n k) := by
  obtain ⟨fuel, hf⟩ := h
  have hcells : ∀ a n c, (Value.slice a n c).cells.toList = [.slice a n c] := fun _ _ _ => rfl
  rcases Ae.okWide_slice Try.underlying23 hval with rfl | ⟨b, o, n, c, rfl, hb, hn, hc⟩
  · exact ⟨.nilslice, [], by simp only [VRel], .inl ⟨rfl, rfl⟩, Nat.zero_le _, by simp, .inl rfl⟩
  · rw [hcells] at hf
    rcases open_ints Try.underlying23 Try.underlying3 cells3 hf with ⟨h1, -⟩ | ⟨a, len, cap, zs, h1, h2, h3, h4, h5, -, h7, h8⟩
    · simp at h1
    · simp only [List.cons.injEq, Value.slice.injEq, Option.some.injEq, and_true] at h1
      obtain ⟨rfl, rfl, rfl⟩ := h1
      have hzs : n ≤ zs.length := by rw [h5]; split <;> omega
      refine ⟨.slice b o n c, zs.take n, ?_, .inr ⟨b, o, c, by simp [Nat.min_eq_left hzs], mirror_lt hb, fun i m hi => ?_⟩, by simp; omega, fun m hm => int_bounds (h8 m (List.mem_of_mem_take hm)), .inr ⟨b, o, n, c, rfl, rfl⟩⟩
      · simp only [VRel]
        exact ⟨_, if_pos (show b < mirN Try.prog w by unfold mirN; omega), .inl ⟨c, rfl, hn, .inl rfl⟩⟩
      · rw [List.getElem?_take] at hi
        split at hi
        · rename_i hlt
          have hlz : i < zs.length := by omega
          have h9 := h7 i hlz
          have hm : zs.getD i 0 = m := by rw [List.getD_eq_getElem?_getD, hi]; rfl
          rw [hm] at h9
          have ha : (Addr.mk b o none).add i = ⟨b, o + i, none⟩ := by
            unfold Addr.add
            by_cases h0 : i = 0
            · subst h0; rfl
            · simp [h0]
          rw [ha] at h9
          exact mirror_ld h9 rfl
        · cases hi
end
end Go.Proofs.Ytbkniippobnbpaa
