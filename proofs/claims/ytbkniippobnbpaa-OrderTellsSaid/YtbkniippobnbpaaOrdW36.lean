/-
  For all keys and all lists of criteria, 'OrderTells' returns true and leaves its arguments and the memory as they were.
-/
import Derived.Test.YtbkniippobnbpaaOrdW35
import Derived.Test.YtbkniippobnbpaaOrdW14
namespace Go.Proofs.Ytbkniippobnbpaa
open Go.Ae Go.ChangeShapes Go.WideShapes Go.ChangeAt Go.RowKit
set_option linter.unusedSimpArgs false

section
variable {H : Type} {enc : TypeId × Value → H} {w : World} {base : Nat} {sp : Nat → Bool} {hd : Bool}

theorem mirror_ldsT {P : Program} {w : World} : ∀ {cs : List Value} {L : List CV} {b o : Nat}, cs.length = L.length → (∀ (i : Nat) (v : Value), cs[i]? = some v → w.cell? ⟨b, o + i, none⟩ = some v) → (∀ (i : Nat) (v : Value) (c : CV), cs[i]? = some v → L[i]? = some c → mirV (mirN P w) v = some c) →
    Ae.lds (mirror P w) b o cs.length = some L
  | [], [], b, o, _, _, _ => rfl
  | [], _ :: _, b, o, h, _, _ => by simp at h
  | _ :: _, [], b, o, h, _, _ => by simp at h
  | v :: cs, c :: L, b, o, h, h1, h2 => by
    have g1 : Ae.ld (mirror P w) b o = some c := mirror_ld (h1 0 v rfl) (h2 0 v c rfl rfl)
    have g2 := mirror_ldsT (P := P) (cs := cs) (L := L) (b := b) (o := o + 1) (by simpa using h) (fun i u hi => by rw [Nat.add_assoc, Nat.add_comm 1 i]; exact h1 (i + 1) u (by simpa using hi)) (fun i u d hi hd => h2 (i + 1) u d (by simpa using hi) (by simpa using hd))
    simp only [List.length_cons, Ae.lds, g1, g2]

theorem open_keysT {v : Value} {d : DataW H} {ps : List MemPlace} (hval : Value.okWide Try.prog w .any base 22 v) (h : DataW.Trod enc Try.prog w 0 sp hd 22 v d ps) :
    ∃ (c : CV) (L : List K), VRel (mirE Try.prog w) c v ∧ KeySl (mirror Try.prog w) c L ∧ L.length ≤ maxLen := by
  obtain ⟨fuel, hf⟩ := h
  have hcells : ∀ a n c, (Value.slice a n c).cells.toList = [.slice a n c] := fun _ _ _ => rfl
  rcases Ae.okWide_slice Try.underlying22 hval with rfl | ⟨b, o, n, c, rfl, hb, hn, hc⟩
  · exact ⟨.nilslice, [], by simp only [VRel], .inl ⟨rfl, rfl⟩, Nat.zero_le _⟩
  · rw [hcells] at hf
    rcases Go.Deep.open_slice Try.underlying22 hf with ⟨h1, -⟩ | ⟨a, len, cap, m, fu, D, Pl, h1, h2, h3, h4, h5, -, h7⟩
    · simp at h1
    · simp only [List.cons.injEq, Value.slice.injEq, Option.some.injEq, and_true] at h1
      obtain ⟨rfl, rfl, rfl⟩ := h1
      have hnm : n ≤ m := by rw [h5]; split <;> omega
      have each : ∀ i, i < n → ∃ k : K, Ae.lds (mirror Try.prog w) b (o + i * 6) 6 = some k.cells := fun i hi => by
        obtain ⟨cs, g1, g2⟩ := h7 i (by omega)
        rw [cells25] at g1
        obtain ⟨x, y, z, f, g, p, rfl, -⟩ := trod_key g2
        obtain ⟨-, g3, g4⟩ := World.cells?_some g1
        refine ⟨⟨x, y, z, bytesOf f, bytesOf g, p⟩, ?_⟩
        refine mirror_ldsT (P := Try.prog) (cs := [.int .i64 x, .int .i64 y, .int .i64 z, .string f, .string g, .bool p]) rfl (fun j u hj => ?_) (fun j u c hj hc => ?_)
        · have hj6 : j < 6 := (List.getElem?_eq_some_iff.1 hj).1
          have g5 := g4 j hj6
          rw [hj] at g5
          have ha : ((Addr.mk b o none).add (i * 6)).add j = ⟨b, o + i * 6 + j, none⟩ := by
            unfold Addr.add
            by_cases h0 : i * 6 = 0
            · by_cases h1 : j = 0
              · simp [h0, h1]
              · simp [h0, h1]
            · by_cases h1 : j = 0
              · simp [h0, h1]
              · simp [h0, h1]
          rw [ha] at g5
          exact g5
        · match j, hj, hc with
          | 0, hj, hc => simp at hj hc; subst hj; simp [K.cells] at hc; subst hc; rfl
          | 1, hj, hc => simp at hj hc; subst hj; simp [K.cells] at hc; subst hc; rfl
          | 2, hj, hc => simp at hj hc; subst hj; simp [K.cells] at hc; subst hc; rfl
          | 3, hj, hc => simp at hj hc; subst hj; simp [K.cells] at hc; subst hc; rfl
          | 4, hj, hc => simp at hj hc; subst hj; simp [K.cells] at hc; subst hc; rfl
          | 5, hj, hc => simp at hj hc; subst hj; simp [K.cells] at hc; subst hc; rfl
          | j + 6, hj, hc => simp at hj
      let f : Nat → K := fun i => if h : i < n then Classical.choose (each i h) else ⟨0, 0, 0, [], [], false⟩
      refine ⟨.slice b o n c, (List.range n).map f, ?_, .inr ⟨b, o, c, by simp, mirror_lt hb, fun i k hi => ?_⟩, by simp; omega⟩
      · simp only [VRel]
        exact ⟨_, if_pos (show b < mirN Try.prog w by unfold mirN; omega), .inl ⟨c, rfl, hn, .inl rfl⟩⟩
      · have hin : i < n := by have := (List.getElem?_eq_some_iff.1 hi).1; simpa using this
        rw [List.getElem?_map, List.getElem?_range hin] at hi
        simp only [Option.map_some, Option.some.injEq] at hi
        subst hi
        show _ = some (f i).cells
        simp only [f, dif_pos hin]
        exact Classical.choose_spec (each i hin)
end

theorem tells_calls {x y z u : Value} {cv cb : CV} {L : List K} {l : List Int} {ka kb : K} {W : World} (hv : VRel (mirE Try.prog W) cv x) (hs : KeySl (mirror Try.prog W) cv L) (hL : L.length ≤ maxLen)
    (hw : VRel (mirE Try.prog W) cb y) (ht : IntSl (mirror Try.prog W) cb l) (hl : l.length ≤ maxLen) (ha : ∀ E, VRel E ka.cv z) (hb : ∀ E, VRel E kb.cv u) :
    Calls Try.prog 3 #[x, y, z, u] W fun e w' => e = .returned (.bool true) ∧ RowKit.Below W.heap.size W w' := by
  refine enter_true mixed okHk (args := [cv, cb, ka.cv, kb.cv]) (VRels.cons hv (VRels.cons hw (VRels.cons (ha _) (VRels.cons (hb _) VRels.nil)))) ?_
  have hm : maxLen < 9223372036854775808 := by decide
  exact tells_ok cv cb L l ka kb _ hs ht (by omega) (by omega) _ (fun _ => rfl)

set_option maxRecDepth 100000 in
theorem tells_lifted (os : Os) (started : os.Started) (H : Type) (enc : TypeId × Value → H) :
    ReturnsInHanded {} Try.checked os 3 .any (Rows.orderTellsSpec.pre6 enc Try.prog Try.f3 Rows.orderTellsRow.domain false) (Rows.orderTellsSpec.post enc Try.prog Try.f3 false true false false) := by
  refine returnsInHanded_of_change (C := Try.checked) Try.ownP started (by kernel_rfl) Try.func3
    (ChangeSpec.witness6 (enc := enc) (C := Try.checked) false ⟨#[], #[.slice none 0 0, .slice none 0 0, .agg #[.int .i64 0, .int .i64 0, .int .i64 0, .string ByteArray.empty, .string ByteArray.empty, .bool false], .agg #[.int .i64 0, .int .i64 0, .int .i64 0, .string ByteArray.empty, .string ByteArray.empty, .bool false]], []⟩ 8 (by kernel_rfl) (by kernel_rfl) (by kernel_rfl) (by kernel_rfl)) ?_
  intro W base args ds gs before hval0 hW hcnd _
  have hval : ∀ (j : Nat) t v, Try.f3.params[j]? = some t → args[j]? = some v → Value.okWide Try.prog W .any base t v := hval0
  have hW' := hW
  obtain ⟨p, q, hA0, hV, rfl, hfz, hnd⟩ := hW
  have hA : DataW.TrodAll enc Try.prog W 0 (fun _ => true) true Try.f3.params.toList args.toList ds p := hA0
  rw [Try.params3] at hA hval
  obtain ⟨v0, v1, v2, v3, d0, d1, d2, d3, p0, p1, p2, p3, rfl, rfl, rfl, h0, h1, h2, h3⟩ := trodAll_four hA
  obtain ⟨cv, L, e0, hs, hL⟩ := open_keysT (hval 0 22 v0 rfl rfl) h0
  obtain ⟨cb, l, e1, ht, hl, hr, -⟩ := open_ints23 (hval 1 23 v1 rfl rfl) h1
  obtain ⟨ka, e2⟩ := open_key (hval 2 25 v2 rfl rfl) h2
  obtain ⟨kb, e3⟩ := open_key (hval 3 25 v3 rfl rfl) h3
  refine (tells_calls e0 hs hL e1 ht hl e2 e3).mono fun e W' ⟨he, hw⟩ => ?_
  subst he
  obtain ⟨rfl, rfl⟩ := trodVars_none hV
  exact ⟨_, rfl, post_true Try.laidOutP hW' hw (by kernel_rfl) rfl rfl Try.underlying4 rfl rfl rfl⟩

theorem orderTells_holds : Rows.OrderTellsSaid :=
  OpenClaim.holds_of_wide 3 Try.f3 rfl rfl rfl rfl rfl rfl rfl ⟨rfl, rfl, rfl, rfl, rfl⟩ rfl rfl rfl rfl rfl (by kernel_rfl) Try.func3 (by kernel_rfl)
    (of_decide_eq_true (by kernel_rfl)) (by unfold Func.isWrapper; first | (rw [if_pos (by decide +kernel)]; kernel_rfl) | (rw [if_neg (by decide +kernel)]; exact ⟨rfl, rfl⟩))
    (fun os started H enc _ => tells_lifted os started H enc)

#print axioms orderTells_holds
end Go.Proofs.Ytbkniippobnbpaa
