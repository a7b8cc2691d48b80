/-
  Slices: cutting, append, copy, make.
-/
import Derived.Test.YtbkniippobnbpaaAeOps1
namespace Go.Ae
set_option linter.unusedSimpArgs false

section
variable {P : Program} {E : Env} {s : St} {w : World}

theorem bytesOf_extract (a : ByteArray) (i j : Nat) : bytesOf (a.extract i j) = ((bytesOf a).drop i).take (j - i) := by
  unfold bytesOf
  rw [ByteArray.data_extract, Array.toList_extract, List.extract_eq_take_drop, List.map_take, List.map_drop]

theorem cutOk_ok (hw : WRel P E s w) {b z : Nat} {i : BI} (hi : E b = some i) (h : cutOk s b z = true) : i.ex = true ∨ i.esz = z := by
  unfold cutOk at h
  split at h
  · rename_i hb
    obtain ⟨j, o', hj, _, hr⟩ := hw.obj b _ hb rfl
    rw [hi] at hj; cases hj
    exact .inl hr.2.1
  · rename_i hb
    obtain ⟨j, o', hj, _, hr⟩ := hw.obj b _ hb rfl
    rw [hi] at hj; cases hj
    rw [beq_iff] at h
    exact .inr (hr.2.2.1.trans h.symm)
  · cases h

theorem sliceV_ok (hw : WRel P E s w) {t : TypeId} {x c : CV} {vx : Value} {lo hi mx : Option CV} {vlo vhi vmx : Option Value} (hx : VRel E x vx)
    (hlo : ORelO E lo vlo) (hhi : ORelO E hi vhi) (hmx : ORelO E mx vmx) (h : sliceV P s t x lo hi mx = some c) :
    ∃ u, (Instr.sliceAt t vx vlo vhi vmx).run P w = .ok u w ∧ VRel E c u := by
  unfold sliceV at h
  split at h
  · cases h
  rename_i hg
  have hhm : mx = none ∨ hi ≠ none := by
    cases mx with
    | none => exact .inl rfl
    | some q => cases hi with
      | none => simp at hg
      | some r => exact .inr (by simp)
  split at h
  · rename_i l hu
    simp only [VRel] at hx
    obtain ⟨a, rfl, rfl⟩ := hx
    split at h
    · cases h
    · rename_i hmn
      have hvm : vmx = none := by
        rcases hmx with ⟨_, rfl⟩ | ⟨_, _, h9, _⟩
        · rfl
        · cases h9
      subst hvm
      split at h
      · cases h
      · rename_i hh hbh
        split at h
        · cases h
        · rename_i la hbl
          simp only [Option.some.injEq] at h
          subst h
          rw [bytesOf_length] at hbh
          obtain ⟨m', hr, _⟩ := bounds_ok (P := P) (w := w) (isS := false) (len := a.size) (c' := a.size) hlo hhi hmx (m := a.size) (h := hh) (a := la) (by simp [bound]) hbh hbl (Nat.le_refl _) (.inl rfl)
          refine ⟨.string (a.extract la hh), ?_, ?_⟩
          · simp [Instr.sliceAt, run_underlying_ok hu, Instr.slice, hr]
          · simp only [VRel]; exact ⟨_, rfl, bytesOf_extract a la hh⟩
  · rename_i e hu
    simp only [VRel] at hx
    subst hx
    split at h
    · rename_i z m hz hbm
      split at h
      · rename_i hh hbh
        split at h
        · rename_i la hbl
          simp only [Option.some.injEq] at h
          subst h
          obtain ⟨m', hr, h1, h2, h3, h4⟩ := bounds_ok (P := P) (w := w) (isS := true) (len := 0) (c' := 0) hlo hhi hmx hbm hbh hbl (Nat.le_refl _) hhm
          have hm0 : m' = 0 := by rcases h2 with ⟨_, _, h⟩ | ⟨h, h'⟩ <;> omega
          have hh0 : hh = 0 := by
            by_cases hn : hi = none
            · exact h3 hn
            · have := h4 hn
              rcases h2 with ⟨_, h, _⟩ | ⟨_, h⟩ <;> omega
          have hl0 : la = 0 := by omega
          refine ⟨.slice none 0 0, ?_, by simp [VRel]⟩
          simp [Instr.sliceAt, run_underlying_ok hu, Instr.slice, hr, run_sizeOf_ok hz, hm0, hh0, hl0]
        · cases h
      · cases h
    · cases h
  · rename_i e b o n cc hu
    split at h
    · cases h
    · rename_i z hz
      split at h
      · rename_i m hcut hbm
        split at h
        · cases h
        · rename_i hh hbh
          split at h
          · cases h
          · rename_i la hbl
            simp only [fnat_eq, Option.some.injEq] at h
            subst h
            simp only [VRel] at hx
            obtain ⟨i, hi', hx⟩ := hx
            have hez := cutOk_ok hw hi' hcut
            obtain ⟨c', rfl, hnc, hcc⟩ | ⟨A, rfl, hA, rfl, rfl⟩ := hx
            · have hle : cc ≤ c' := by rcases hcc with h | ⟨_, _, h, _⟩ <;> omega
              obtain ⟨m', hr, h1, h2, h3, h4⟩ := bounds_ok (P := P) (w := w) (isS := true) (len := n) (c' := c') hlo hhi hmx hbm hbh hbl hle hhm
              have hhm2 : hh ≤ m := by
                by_cases hn : hi = none
                · have := h3 hn
                  rcases h2 with ⟨_, h, _⟩ | ⟨_, _⟩
                  · omega
                  · rcases hhm with h | h
                    · subst h; simp [bound] at hbm; omega
                    · exact absurd hn h
                · exact h4 hn
              have hmm : m ≤ m' := by rcases h2 with ⟨_, h, h'⟩ | ⟨h, _⟩ <;> omega
              refine ⟨.slice (if m' = la then some ⟨i.blk, o + i.d, none⟩ else some (Addr.add ⟨i.blk, o + i.d, none⟩ (la * z))) (hh - la) (m' - la), ?_, ?_⟩
              · simp [Instr.sliceAt, run_underlying_ok hu, Instr.slice, hr, run_sizeOf_ok hz]
              · simp only [VRel]
                refine ⟨i, hi', ?_⟩
                by_cases hml : m' = la
                · rw [if_pos hml]
                  right
                  exact ⟨_, by congr 1 <;> omega, rfl, by omega, by omega⟩
                · rw [if_neg hml]
                  left
                  refine ⟨m' - la, by rw [Addr.add_plain]; congr 3; omega, by omega, ?_⟩
                  rcases h2 with ⟨_, rfl, rfl⟩ | ⟨rfl, _⟩
                  · rcases hcc with rfl | ⟨hex, hend, hge, htot⟩
                    · exact .inl rfl
                    · right
                      have hz' : i.esz = z := by
                        rcases hez with h | h
                        · rw [hex] at h; cases h
                        · exact h
                      subst hz'
                      have e1 : m * i.esz = la * i.esz + (m - la) * i.esz := by rw [← Nat.add_mul]; congr 1; omega
                      have e2 : m' * i.esz = la * i.esz + (m' - la) * i.esz := by rw [← Nat.add_mul]; congr 1; omega
                      exact ⟨hex, by omega, by omega, by omega⟩
                  · exact .inl rfl
            · obtain ⟨m', hr, h1, h2, h3, h4⟩ := bounds_ok (P := P) (w := w) (isS := true) (len := 0) (c' := 0) hlo hhi hmx hbm hbh hbl (Nat.le_refl _) hhm
              have hm0 : m' = 0 := by rcases h2 with ⟨_, _, h⟩ | ⟨h, h'⟩ <;> omega
              have hmm0 : m = 0 := by rcases h2 with ⟨_, h, _⟩ | ⟨h, h'⟩ <;> omega
              have hh0 : hh = 0 := by
                by_cases hn : hi = none
                · exact h3 hn
                · have := h4 hn; omega
              have hl0 : la = 0 := by omega
              subst hm0; subst hmm0; subst hh0; subst hl0
              refine ⟨.slice (some A) 0 0, ?_, ?_⟩
              · simp [Instr.sliceAt, run_underlying_ok hu, Instr.slice, hr, run_sizeOf_ok hz]
              · simp only [VRel]
                refine ⟨i, hi', .inr ⟨A, ?_, hA, ?_, ?_⟩⟩ <;> simp
      · cases h
  · rename_i n e b o hu
    split at h
    · cases h
    · rename_i z hz
      split at h
      · cases h
      · rename_i m hbm
        split at h
        · cases h
        · rename_i hh hbh
          split at h
          · cases h
          · rename_i la hbl
            simp only [fnat_eq, Option.some.injEq] at h
            subst h
            simp only [VRel] at hx
            obtain ⟨i, hi', rfl⟩ := hx
            obtain ⟨m', hr, h1, h2, h3, h4⟩ := bounds_ok (P := P) (w := w) (isS := false) (len := n) (c' := n) hlo hhi hmx hbm hbh hbl (Nat.le_refl _) hhm
            have hmm : m' = m := by rcases h2 with ⟨_, h, h'⟩ | ⟨h, _⟩ <;> omega
            subst hmm
            have hhm2 : hh ≤ m' := by
              by_cases hn : hi = none
              · have := h3 hn
                rcases h2 with ⟨_, h, _⟩ | ⟨_, _⟩
                · omega
                · rcases hhm with h | h
                  · subst h; simp [bound] at hbm; omega
                  · exact absurd hn h
              · exact h4 hn
            refine ⟨.slice (some (if m' = la then ⟨i.blk, o + i.d, none⟩ else Addr.add ⟨i.blk, o + i.d, none⟩ (la * z))) (hh - la) (m' - la), ?_, ?_⟩
            · simp [Instr.sliceAt, run_underlying_ok hu, Instr.sureAddr, hr, run_sizeOf_ok hz]
            · simp only [VRel]
              refine ⟨i, hi', ?_⟩
              by_cases hml : m' = la
              · rw [if_pos hml]
                right
                exact ⟨_, by congr 1 <;> omega, rfl, by omega, by omega⟩
              · rw [if_neg hml]
                left
                exact ⟨m' - la, by rw [Addr.add_plain]; congr 3; omega, by omega, .inl rfl⟩
  · cases h

/-! ### Append -/

theorem lenOf_ok {y : CV} {v : Value} {m : Nat} (hy : VRel E y v) (h : lenOf y = some m) : (Builtin.lenOf v).run P w = .ok m w := by
  unfold lenOf at h
  split at h
  · simp only [VRel] at hy; subst hy
    simp only [Option.some.injEq] at h; subst h
    simp [Builtin.lenOf]
  · simp only [VRel] at hy
    simp only [Option.some.injEq] at h; subst h
    obtain ⟨_, _, ⟨_, rfl, _⟩ | ⟨_, rfl, _, rfl, _⟩⟩ := hy <;> simp [Builtin.lenOf]
  · simp only [VRel] at hy
    obtain ⟨a, rfl, rfl⟩ := hy
    simp only [fnat_eq, Option.some.injEq] at h; subst h
    simp [Builtin.lenOf, bytesOf_length]
  · cases h

theorem firstCells_ok (hw : WRel P E s w) {z n : Nat} {y : CV} {v : Value} {l : List CV} (hy : VRel E y v) (h : firstCells s z n y = some l) (hn : lenOf y = some n) :
    ∃ vs : List Value, (Builtin.firstCells z n v).run P w = .ok vs.toArray w ∧ VRels E l vs ∧ (∀ k, y = .nilslice ∨ l.length = k → True) := by
  unfold firstCells at h
  split at h
  · simp only [VRel] at hy; subst hy
    simp only [Option.some.injEq] at h; subst h
    exact ⟨[], by simp [Builtin.firstCells], VRels.nil, fun _ _ => trivial⟩
  · rename_i b o n' c
    simp only [VRel] at hy
    obtain ⟨i, hi, hy⟩ := hy
    obtain ⟨c', rfl, _⟩ | ⟨A, rfl, hA, rfl, rfl⟩ := hy
    · obtain ⟨vs, h1, h2⟩ := loads_ok hw hi h
      exact ⟨vs, by simpa [Builtin.firstCells] using h1, h2, fun _ _ => trivial⟩
    · simp only [lenOf, Option.some.injEq] at hn
      subst hn
      simp only [Nat.zero_mul, lds, Option.some.injEq] at h
      subst h
      exact ⟨[], by simp [Builtin.firstCells, loadCells, loadCellsFrom], VRels.nil, fun _ _ => trivial⟩
  · rename_i l'
    simp only [VRel] at hy
    obtain ⟨a, rfl, rfl⟩ := hy
    simp only [Option.some.injEq] at h; subst h
    refine ⟨((a.extract 0 n).data.map fun b => Value.int .u8 b.toNat).toList, by simp only [Builtin.firstCells, Sem.run_pure, Array.toArray_toList], ?_, fun _ _ => trivial⟩
    refine VRels.mk ?_ ?_
    · simp [bytesOf]
    · intro k c v hc hv
      unfold bytesOf at hc
      simp only [Array.toList_map, List.getElem?_map] at hc hv
      rw [ByteArray.data_extract, Array.toList_extract, List.extract_eq_take_drop] at hv
      simp only [List.drop_zero, Nat.sub_zero] at hv
      rw [List.getElem?_take] at hc hv
      split at hc
      · rename_i hk
        rw [if_pos hk] at hv
        rw [List.getElem?_map] at hc
        cases hq : a.data.toList[k]? with
        | none => rw [hq] at hc; cases hc
        | some q =>
          rw [hq] at hc hv
          simp only [Option.map_some, Option.some.injEq] at hc hv
          subst hc; subst hv
          simp [VRel]
      · cases hc
  · cases h

end
end Go.Ae
