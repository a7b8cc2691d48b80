/-
  append, of the evaluator and of the machine.
-/
import Derived.Test.YtbkniippobnbpaaAeOps3
namespace Go.Ae
set_option linter.unusedSimpArgs false

section
variable {P : Program} {E : Env} {s : St} {w : World}

theorem zeros_ok {z : Value} {zv : CV} {n sz : Nat} (hz : VRel E zv z) (hs : (cellsOf zv).length = sz) :
    VRels E ((List.range (n * sz)).map fun i => (cellsOf zv).getD (i % sz) .nilptr) (Builtin.zeroCells z.cells n).toList ∧ z.cells.size = sz := by
  have hc := cells_ok hz
  have hsz : z.cells.size = sz := by rw [← hs, ← hc.length]; simp
  refine ⟨?_, hsz⟩
  refine VRels.mk (by simp [Builtin.zeroCells, hsz]) fun i c v h1 h2 => ?_
  unfold Builtin.zeroCells at h2
  simp only [Array.toList_map, Array.toList_range, List.getElem?_map, hsz] at h1 h2
  by_cases hi : i < n * sz
  · rw [List.getElem?_range hi] at h1 h2
    simp only [Option.map_some, Option.some.injEq] at h1 h2
    subst h1; subst h2
    have hpos : 0 < sz := by
      rcases Nat.eq_zero_or_pos sz with h | h
      · subst h; simp at hi
      · exact h
    have hlt : i % sz < (cellsOf zv).length := by rw [hs]; exact Nat.mod_lt _ hpos
    obtain ⟨u, hu, hr⟩ := hc.get (i % sz) _ (List.getElem?_eq_getElem hlt)
    have e1 : (cellsOf zv).getD (i % sz) .nilptr = (cellsOf zv)[i % sz] := by
      rw [List.getD_eq_getElem?_getD, List.getElem?_eq_getElem hlt]; rfl
    have e2 : z.cells[i % sz]! = u := by
      rw [Array.getElem!_eq_getD, Array.getD_eq_getD_getElem?]
      simp only [Array.getElem?_toList] at hu
      rw [hu]; rfl
    rw [e1, e2]; exact hr
  · rw [List.getElem?_eq_none (by simpa using hi)] at h1
    cases h1

theorem zeroOf_ok {ie : TypeInfo} {zv : CV} (h : (ie.zero).bind (ofV 4) = some zv) : ∃ z, ie.zero = some z ∧ VRel E zv z := by
  cases hz : ie.zero with
  | none => rw [hz] at h; cases h
  | some z =>
    rw [hz] at h
    exact ⟨z, rfl, ofV_ok 4 z zv h⟩

theorem loads_drew (hw : WRel P E s w) {b : Nat} {i : BI} (hi : E b = some i) : ∀ (n o k A : Nat) (l : List CV) (acc r : Array Value), lds s b o n = some l → A + k = o + i.d →
    (loadCellsFrom ⟨i.blk, A, none⟩ k n acc).run P w = .ok r w → (loadCellsFrom ⟨i.blk, A, none⟩ k n acc).run P w.drew = .ok r w.drew := by
  intro n
  induction n with
  | zero => intro o k A l acc r _ _ hr; simp only [loadCellsFrom, Sem.run_pure, Result.ok.injEq, and_true] at hr ⊢; exact hr
  | succ n ih =>
    intro o k A l acc r hl hA hr
    simp only [lds] at hl
    split at hl
    · cases hl
    · rename_i c0 hc0
      split at hl
      · cases hl
      · rename_i r0 hr0
        obtain ⟨v, hv, _⟩ := ld_ok' hw hi hc0
        simp only [loadCellsFrom, Addr.add_plain, Sem.run_bind, run_load, hA, World.cell?_drew, hv, Result.andThen_ok] at hr ⊢
        exact ih (o + 1) (k + 1) A r0 _ r hr0 (by omega) hr

theorem firstCells_drew (hw : WRel P E s w) {z n : Nat} {y : CV} {v : Value} {l : List CV} {r : Array Value} (hy : VRel E y v) (h : firstCells s z n y = some l) (hn : lenOf y = some n)
    (hr : (Builtin.firstCells z n v).run P w = .ok r w) : (Builtin.firstCells z n v).run P w.drew = .ok r w.drew := by
  cases y with
  | nilslice =>
    simp only [VRel] at hy
    subst hy
    simp only [Builtin.firstCells, Sem.run_pure, Result.ok.injEq, and_true] at hr ⊢
    exact hr
  | str t =>
    simp only [VRel] at hy
    obtain ⟨a, rfl, _⟩ := hy
    simp only [Builtin.firstCells, Sem.run_pure, Result.ok.injEq, and_true] at hr ⊢
    exact hr
  | slice b o m c =>
    simp only [VRel] at hy
    obtain ⟨i, hi, hy⟩ := hy
    simp only [firstCells] at h
    obtain ⟨c', rfl, _⟩ | ⟨A, rfl, hA, rfl, rfl⟩ := hy
    · simp only [Builtin.firstCells] at hr ⊢
      exact loads_drew hw hi _ o 0 (o + i.d) l #[] r h (by omega) hr
    · simp only [lenOf, Option.some.injEq] at hn
      subst hn
      simp only [Builtin.firstCells, Nat.zero_mul, loadCells, loadCellsFrom, Sem.run_pure, Result.ok.injEq, and_true] at hr ⊢
      exact hr
  | _ => simp only [lenOf, reduceCtorEq] at hn

theorem appended_ok (hw : WRel P E s w) {tx : TypeId} {ie : TypeInfo} {y : CV} {vy : Value} {m : Nat} {new : List CV} (hy : VRel E y vy) (h : appended s (P.underlying tx) ie y = some (m, new)) :
    ∃ dx news, P.underlying tx = some dx ∧ SrcOk P w dx ie vy m news ∧ SrcOk P w.drew dx ie vy m news ∧ VRels E new news.toList ∧ new.length = m * ie.size := by
  unfold appended at h
  split at h
  · cases h
  · rename_i k hdx
    split at h
    · rename_i kk l
      simp only [VRel] at hy
      subst hy
      split at h
      · rename_i zv h0 h1 h2 hz
        simp only [decide_eq_true_eq] at h0 h1 h2
        split at h
        · rename_i hlen
          rw [beq_iff] at hlen
          simp only [fnat_eq, Option.some.injEq, Prod.mk.injEq] at h
          obtain ⟨rfl, rfl⟩ := h
          obtain ⟨z, hz1, hz2⟩ := zeroOf_ok (E := E) hz
          obtain ⟨hr, hsz⟩ := zeros_ok (n := l.toNat) hz2 hlen
          exact ⟨_, _, hdx, .inl ⟨k, kk, l, z, rfl, rfl, h0, h1, h2, rfl, hz1, hsz, rfl⟩, .inl ⟨k, kk, l, z, rfl, rfl, h0, h1, h2, rfl, hz1, hsz, rfl⟩, hr, by simp⟩
        · cases h
      · cases h
    · cases h
  · rename_i dx hno hdx
    split at h
    · cases h
    · rename_i m' hm
      split at h
      · rename_i new' hn
        split at h
        · rename_i hl
          rw [beq_iff] at hl
          simp only [Option.some.injEq, Prod.mk.injEq] at h
          obtain ⟨rfl, rfl⟩ := h
          obtain ⟨vs, h1, h2, _⟩ := firstCells_ok hw hy hn hm
          obtain ⟨vs', h1', h2', _⟩ := firstCells_ok hw.drew hy hn hm
          have e : vs'.toArray = vs.toArray := by
            have h3 := firstCells_drew hw hy hn hm h1
            rw [h1'] at h3
            simpa using h3
          have hno' : ∀ k, dx ≠ .int k := fun k e' => hno k e'
          exact ⟨dx, vs.toArray, hdx, .inr ⟨hno', lenOf_ok hy hm, h1⟩, .inr ⟨hno', lenOf_ok hy hm, by rw [← e]; exact h1'⟩, by simpa using h2, hl⟩
        · cases h
      · cases h

theorem sure_ok (hw : WRel P E s w) {b o cap z : Nat} {i : BI} {r : Bool} (hi : E b = some i) (h : sure s b o cap z = some r) :
    (r = true → ∀ c', (c' = cap ∨ (i.ex = false ∧ o + cap * i.esz = i.n ∧ cap ≤ c' ∧ o + i.d + c' * i.esz ≤ i.tot)) → c' = cap) ∧
    (r = false → i.ex = false ∧ i.esz = z ∧ o + cap * z = i.n) := by
  unfold sure at h
  split at h
  · rename_i cs n ex esz lim sg ty hb
    obtain ⟨j, o', hj, _, hr⟩ := hw.obj b _ hb rfl
    rw [hi] at hj; cases hj
    obtain ⟨e1, e2, e3, _⟩ := hr
    split at h
    · simp only [Option.some.injEq] at h
      subst h
      refine ⟨fun _ c' hc => ?_, fun hf => by cases hf⟩
      rcases hc with h | ⟨h, _⟩
      · exact h
      · rw [e2] at h; cases h
    · split at h
      · rename_i hz
        rw [beq_iff] at hz
        simp only [Option.some.injEq] at h
        subst h
        refine ⟨fun hf c' hc => ?_, fun hf => ⟨e2, by omega, ?_⟩⟩
        · rcases hc with h | ⟨_, h, _⟩
          · exact h
          · simp only [Bool.not_eq_true', beq_no] at hf
            subst hz
            rw [e3, e1] at h
            exact absurd h hf
        · simp only [Bool.not_eq_false', beq_iff] at hf
          omega
      · cases h
  · cases h

/-- A new row, its first cells the evaluator's. -/
theorem grown_ok (hw : WRel P E s w) {old new : List CV} {ov nv rest : Array Value} {k z lim : Nat} {e : TypeId} {newCap : Nat} (ho : VRels E old ov.toList) (hn : VRels E new nv.toList)
    (hl : old.length + new.length = k * z) (hk : k ≤ newCap) (hrest : k * z + rest.size = newCap * z) :
    ∃ E', Goes P E s w E' (newCells s (old ++ new) (k * z) false z lim e).2 (w.alloc (.cells (ov ++ nv ++ rest) e)) ∧
      VRel E' (.slice (newCells s (old ++ new) (k * z) false z lim e).1 0 k k) (.slice (some ⟨w.heap.size, 0, none⟩) k newCap) := by
  obtain ⟨w', E', i, h1, h2, h3, h4, h5, h6, h7, h8, h9⟩ := newCells_ok hw (vs := ov ++ nv) (l := old ++ new) (n := k * z) (esz := z) (lim := lim) (ex := false) (ty := e) (by simpa using ho.append hn) (by simpa using hl) rest (fun h => by cases h)
  have hw' : w' = w.alloc (.cells (ov ++ nv ++ rest) e) := by
    simp only [newRow, Sem.run_bind, run_newObj, Result.andThen_ok, Sem.run_pure, World.alloc_eq, Result.ok.injEq] at h1
    exact h1.2.symm
  subst hw'
  refine ⟨E', h2, ?_⟩
  simp only [VRel]
  refine ⟨i, h3, .inl ⟨newCap, by rw [h4, h5], Nat.le_refl _, .inr ⟨h7, by rw [h6, h8]; omega, hk, by rw [h5, h8, h9]; omega⟩⟩⟩

end
end Go.Ae
