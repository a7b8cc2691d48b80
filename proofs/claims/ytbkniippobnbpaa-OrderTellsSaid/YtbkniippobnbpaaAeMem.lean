/-
  Reading, writing and making memory: the evaluator's steps and the machine's.
-/
import Derived.Test.YtbkniippobnbpaaAeRel
import Derived.Laws.Rows
namespace Go.Ae

theorem Addr.add_plain (b o n : Nat) : Addr.add ⟨b, o, none⟩ n = ⟨b, o + n, none⟩ := by
  unfold Addr.add
  by_cases h : n = 0
  · subst h; rfl
  · rw [if_neg h]

theorem cell_at {w : World} {g : Nat} {C : Array Value} {el : TypeId} {fz : Nat × Nat} (h : w.heap[g]? = some (.cells C el fz)) (o : Nat) : w.cell? ⟨g, o, none⟩ = C[o]? := by
  simp [World.cell?, h]

theorem frozen_at {w : World} {g : Nat} {C : Array Value} {el : TypeId} {lo hi : Nat} (h : w.heap[g]? = some (.cells C el (lo, hi))) (o : Nat) :
    w.frozen? ⟨g, o, none⟩ = (decide (lo ≤ o) && decide (o < hi)) := by
  simp [World.frozen?, h]

theorem VRel.one {E : Env} {c : CV} {v : Value} (h : VRel E c v) (hs : scalar c = true) : v.oneCell' = true := by
  cases c <;> simp only [VRel] at h <;> simp only [scalar] at hs <;> first
    | (subst h; rfl)
    | (obtain ⟨_, rfl, _⟩ := h; rfl)
    | (obtain ⟨_, _, rfl⟩ := h; rfl)
    | (obtain ⟨_, _, rfl, _⟩ := h; rfl)
    | (obtain ⟨_, _, ⟨_, rfl, _⟩ | ⟨_, rfl, _⟩⟩ := h <;> rfl)
    | cases hs

section
variable {P : Program} {E : Env} {s : St} {w : World}

theorem ld_ok (hw : WRel P E s w) {b o : Nat} {c : CV} (h : ld s b o = some c) : ∃ i v, E b = some i ∧ w.cell? ⟨i.blk, o + i.d, none⟩ = some v ∧ VRel E c v := by
  unfold ld at h
  split at h
  · rename_i cs n ex esz lim sg ty hb
    obtain ⟨i, o', hi, ho, hr⟩ := hw.obj b _ hb rfl
    obtain ⟨_, _, _, C, lo, hi', rfl, _, _, _, h8, _⟩ := hr
    obtain ⟨_, v, hv, hrel⟩ := h8 o c h
    exact ⟨i, v, hi, by rw [cell_at ho, Nat.add_comm]; exact hv, hrel⟩
  · cases h

theorem ld_ok' (hw : WRel P E s w) {b o : Nat} {c : CV} {i : BI} (hi : E b = some i) (h : ld s b o = some c) : ∃ v, w.cell? ⟨i.blk, o + i.d, none⟩ = some v ∧ VRel E c v := by
  obtain ⟨j, v, hj, hc, hr⟩ := ld_ok hw h
  rw [hi] at hj; cases hj
  exact ⟨v, hc, hr⟩

theorem lds_ok (hw : WRel P E s w) {b : Nat} {i : BI} (hi : E b = some i) : ∀ (n o : Nat) (l : List CV) (k A : Nat) (acc : Array Value), lds s b o n = some l → A + k = o + i.d →
    ∃ vs : List Value, (loadCellsFrom ⟨i.blk, A, none⟩ k n acc).run P w = .ok (acc ++ vs.toArray) w ∧ VRels E l vs := by
  intro n
  induction n with
  | zero =>
    intro o l k A acc h _
    simp only [lds, Option.some.injEq] at h
    subst h
    exact ⟨[], by simp [loadCellsFrom], VRels.nil⟩
  | succ n ih =>
    intro o l k A acc h hA
    simp only [lds] at h
    split at h
    · cases h
    · rename_i c hc
      split at h
      · cases h
      · rename_i r hr
        simp only [Option.some.injEq] at h
        subst h
        obtain ⟨v, hv, hrel⟩ := ld_ok' hw hi hc
        obtain ⟨vs, hrun, hrels⟩ := ih (o + 1) r (k + 1) A (acc.push v) hr (by omega)
        refine ⟨v :: vs, ?_, VRels.cons hrel hrels⟩
        simp only [loadCellsFrom, Addr.add_plain, Sem.run_bind, run_load, hA, hv, Result.andThen_ok, hrun]
        simp

theorem lds_length : ∀ (n o : Nat) (l : List CV) {b : Nat}, lds s b o n = some l → l.length = n := by
  intro n
  induction n with
  | zero => intro o l b h; simp only [lds, Option.some.injEq] at h; subst h; rfl
  | succ n ih =>
    intro o l b h
    simp only [lds] at h
    split at h
    · cases h
    · split at h
      · cases h
      · rename_i r hr
        simp only [Option.some.injEq] at h
        subst h
        simp [ih _ _ hr]

theorem loads_ok (hw : WRel P E s w) {b : Nat} {i : BI} (hi : E b = some i) {n o : Nat} {l : List CV} (h : lds s b o n = some l) :
    ∃ vs : List Value, (loadCells ⟨i.blk, o + i.d, none⟩ n).run P w = .ok vs.toArray w ∧ VRels E l vs := by
  obtain ⟨vs, h1, h2⟩ := lds_ok hw hi n o l 0 (o + i.d) #[] h (by omega)
  exact ⟨vs, by unfold loadCells; rw [h1]; simp, h2⟩

theorem ro_lim {cs : T CV} {n : Nat} {ex : Bool} {esz lim : Nat} {sg : Bool} {ty : TypeId} {o : Nat} (h1 : o < n) (h2 : lim ≤ o) : ro (.cells cs n ex esz lim sg ty) = false := by
  cases ex <;> cases sg <;> first
    | rfl
    | (show Nat.ble n lim = false; rw [ble_no]; omega)

theorem sto_ok (hw : WRel P E s w) {b o : Nat} {c : CV} {s' : St} {i : BI} {v : Value} (h : sto s b o c = some s') (hi : E b = some i) (hv : VRel E c v) :
    ∃ w', (store ⟨i.blk, o + i.d, none⟩ v).run P w = .ok () w' ∧ Goes P E s w E s' w' := by
  unfold sto at h
  split at h
  · cases h
  · rename_i hs
    split at h
    · rename_i cs n ex esz lim sg ty hb
      split at h
      · rename_i h1 h2
        rw [blt_iff] at h1
        rw [ble_iff] at h2
        simp only [Option.some.injEq] at h
        subst h
        obtain ⟨j, o', hj, ho, hr⟩ := hw.obj b _ hb rfl
        rw [hi] at hj; cases hj
        obtain ⟨e1, e2, e3, C, lo, hi', rfl, e4, e5, e6, e8, e9, e10⟩ := hr
        have hlt : o + i.d < C.size := by omega
        have hfz : w.frozen? ⟨i.blk, o + i.d, none⟩ = false := by
          rw [frozen_at ho]
          cases hd : (decide (lo ≤ o + i.d) && decide (o + i.d < hi')) with
          | false => rfl
          | true =>
            simp only [Bool.and_eq_true, decide_eq_true_eq] at hd
            have := e9 _ hlt hd.1 hd.2
            omega
        refine ⟨w.setCell ⟨i.blk, o + i.d, none⟩ v, ?_, ?_⟩
        · rw [run_store P w _ v _ (hv.one hs), cell_at ho, Array.getElem?_eq_getElem hlt]
          simp [hfz]
        · have hblk : i.blk < w.heap.size := (Array.getElem?_eq_some_iff.1 ho).1
          refine Goes.upd hw hb rfl hi (ro_lim h1 h2) (x' := .cells (cs.set o c) n ex esz lim sg ty) (o' := .cells (C.setIfInBounds (o + i.d) v) ty (lo, hi')) ⟨e1, e2, e3, _, lo, hi', rfl, by simpa using e4, by simpa using e5, by simpa using e6, ?_, by simpa using e9, e10⟩ ?_ rfl rfl rfl
          · intro j u hj
            rw [T.get_set] at hj
            by_cases hjo : j = o
            · subst hjo
              rw [if_pos rfl, Option.some.injEq] at hj
              subst hj
              refine ⟨h1, v, ?_, hv⟩
              rw [show i.d + j = j + i.d from Nat.add_comm _ _, Array.getElem?_setIfInBounds_self]
              simp [hlt]
            · rw [if_neg hjo] at hj
              obtain ⟨hjn, u', hu', hr'⟩ := e8 j u hj
              exact ⟨hjn, u', by rw [Array.getElem?_setIfInBounds_ne (by omega)]; exact hu', hr'⟩
          · unfold World.setCell
            apply Array.ext_getElem?
            intro k
            simp only [Array.getElem?_modify]
            by_cases hk : i.blk = k
            · subst hk
              rw [Array.getElem?_setIfInBounds_self, if_pos rfl, ho]
              simp [hblk]
            · rw [Array.getElem?_setIfInBounds_ne hk, if_neg hk]
      · cases h
    · cases h

theorem stos_ok {b : Nat} {i : BI} (hi : E b = some i) : ∀ (l : List CV) (vs : List Value) (s : St) (w : World) (o k A : Nat) (s' : St), WRel P E s w → stos s b o l = some s' → VRels E l vs → A + k = o + i.d →
    ∃ w', (storeCells ⟨i.blk, A, none⟩ vs k).run P w = .ok () w' ∧ Goes P E s w E s' w'
  | [], vs, s, w, o, k, A, s', hw, h, hv, _ => by
    simp only [VRels] at hv; subst hv
    simp only [stos, Option.some.injEq] at h; subst h
    exact ⟨w, by simp [storeCells], Goes.refl hw⟩
  | c :: l, vs, s, w, o, k, A, s', hw, h, hv, hA => by
    simp only [VRels] at hv
    obtain ⟨v, r, rfl, h1, h2⟩ := hv
    simp only [stos] at h
    split at h
    · cases h
    · rename_i s1 hs1
      obtain ⟨w1, hrun1, g1⟩ := sto_ok hw hs1 hi h1
      obtain ⟨w2, hrun2, g2⟩ := stos_ok hi l r s1 w1 (o + 1) (k + 1) A s' g1.rel h h2 (by omega)
      refine ⟨w2, ?_, g1.trans g2⟩
      simp only [storeCells, Addr.add_plain, Sem.run_bind, hA, hrun1, Result.andThen_ok, hrun2]

theorem stores_ok (hw : WRel P E s w) {b : Nat} {i : BI} (hi : E b = some i) {l : List CV} {vs : List Value} {o : Nat} {s' : St} (h : stos s b o l = some s') (hv : VRels E l vs) :
    ∃ w', (storeCells ⟨i.blk, o + i.d, none⟩ vs).run P w = .ok () w' ∧ Goes P E s w E s' w' :=
  stos_ok hi l vs s w o 0 (o + i.d) s' hw h hv (by omega)

/-! ### Types -/

theorem run_underlying_ok {t : TypeId} {d : TypeDesc} (h : P.underlying t = some d) : (underlying t).run P w = .ok d w := by
  simp [underlying, h]

theorem run_typeInfo_ok {t : TypeId} {i : TypeInfo} (h : P.info? t = some i) : (typeInfo t).run P w = .ok i w := by
  simp [typeInfo, h]

theorem szOf_info {t : TypeId} {n : Nat} (h : szOf P t = some n) : ∃ i, P.info? t = some i ∧ i.size = n := by
  unfold szOf at h
  cases hi : P.info? t with
  | none => rw [hi] at h; cases h
  | some i => rw [hi] at h; exact ⟨i, rfl, by simpa using h⟩

theorem run_sizeOf_ok {t : TypeId} {n : Nat} (h : szOf P t = some n) : (sizeOf t).run P w = .ok n w := by
  obtain ⟨i, hi, rfl⟩ := szOf_info h
  simp [sizeOf, run_typeInfo_ok hi]

theorem run_isAgg_ok {t : TypeId} {d : TypeDesc} (h : P.underlying t = some d) : (Go.isAgg t).run P w = .ok (isAgg P t) w := by
  unfold Go.isAgg isAgg
  rw [h]
  simp only [Sem.run_bind, run_underlying_ok h, Result.andThen_ok]
  cases d <;> rfl

theorem isAgg_some {t : TypeId} (h : isAgg P t = true) : ∃ d, P.underlying t = some d := by
  unfold isAgg at h
  cases hd : P.underlying t with
  | none => rw [hd] at h; cases h
  | some d => exact ⟨d, rfl⟩

theorem loadVar_ok (hw : WRel P E s w) {t : TypeId} {b o : Nat} {c : CV} {i : BI} (hi : E b = some i) (h : loadVar P s t b o = some c) :
    ∃ v, (Go.loadVar t ⟨i.blk, o + i.d, none⟩).run P w = .ok v w ∧ VRel E c v := by
  unfold loadVar at h
  split at h
  · rename_i ha
    obtain ⟨d, hd⟩ := isAgg_some ha
    split at h
    · rename_i n hn
      cases hl : lds s b o n with
      | none => rw [hl] at h; cases h
      | some l =>
        rw [hl] at h
        simp only [Option.map_some, Option.some.injEq] at h
        subst h
        obtain ⟨vs, h1, h2⟩ := loads_ok hw hi hl
        refine ⟨.agg vs.toArray, ?_, ?_⟩
        · simp [Go.loadVar, run_isAgg_ok hd, ha, run_sizeOf_ok hn, h1]
        · simp only [VRel]; exact ⟨_, rfl, by simpa using h2⟩
    · cases h
  · rename_i ha
    split at h
    · rename_i d hd
      obtain ⟨v, h1, h2⟩ := ld_ok' hw hi h
      exact ⟨v, by simp [Go.loadVar, run_isAgg_ok hd, ha, h1], h2⟩
    · cases h

theorem cells_ok {c : CV} {v : Value} (h : VRel E c v) : VRels E (cellsOf c) v.cells.toList := by
  have one : ∀ (c : CV) (v : Value), cellsOf c = [c] → v.cells = #[v] → VRel E c v → VRels E (cellsOf c) v.cells.toList := fun c v h1 h2 h3 => by
    rw [h1, h2]; exact VRels.cons h3 VRels.nil
  have h0 := h
  cases c <;> simp only [VRel] at h <;> first
    | (obtain ⟨x, rfl, h1⟩ := h; exact h1)
    | (subst h; exact one _ _ rfl rfl h0)
    | (obtain ⟨_, rfl, _⟩ := h; exact one _ _ rfl rfl h0)
    | (obtain ⟨_, _, rfl⟩ := h; exact one _ _ rfl rfl h0)
    | (obtain ⟨_, _, rfl, _⟩ := h; exact one _ _ rfl rfl h0)
    | (obtain ⟨_, _, ⟨_, rfl, _⟩ | ⟨_, rfl, _⟩⟩ := h <;> exact one _ _ rfl rfl h0)

theorem storeVar_ok (hw : WRel P E s w) {t : TypeId} {b o : Nat} {c : CV} {v : Value} {i : BI} {s' : St} (hi : E b = some i) (h : storeVar P s t b o c = some s') (hv : VRel E c v) :
    ∃ w', (Go.storeVar t ⟨i.blk, o + i.d, none⟩ v).run P w = .ok () w' ∧ Goes P E s w E s' w' := by
  unfold storeVar at h
  split at h
  · rename_i n hn
    split at h
    · rename_i hl
      rw [beq_iff] at hl
      have hc := cells_ok hv
      obtain ⟨w', h1, g⟩ := stores_ok hw hi h hc
      refine ⟨w', ?_, g⟩
      have hsz : v.cells.size = n := by rw [← hl, ← hc.length]; simp
      simp [Go.storeVar, run_sizeOf_ok hn, hsz, h1]
    · cases h
  · cases h

/-- A new row of cells. -/
theorem newCells_ok (hw : WRel P E s w) {l : List CV} {vs : Array Value} {n esz lim : Nat} {ex : Bool} {ty : TypeId} (hv : VRels E l vs.toList) (hn : l.length = n) (rest : Array Value)
    (hex : ex = true → rest = #[]) :
    ∃ w' E' i, (newRow ty (vs ++ rest)).run P w = .ok ⟨w.heap.size, 0, none⟩ w' ∧ Goes P E s w E' (newCells s l n ex esz lim ty).2 w' ∧
      E' (newCells s l n ex esz lim ty).1 = some i ∧ i.blk = w.heap.size ∧ i.d = 0 ∧ i.n = n ∧ i.ex = ex ∧ i.esz = esz ∧ i.tot = n + rest.size := by
  have hsz : vs.size = n := by rw [← hn, ← hv.length]; simp
  refine ⟨w.alloc (.cells (vs ++ rest) ty), E.add s.nx ⟨w.heap.size, 0, n, ex, esz, n + rest.size⟩, ⟨w.heap.size, 0, n, ex, esz, n + rest.size⟩, by simp [newRow, World.alloc_eq], ?_, ?_, rfl, rfl, rfl, rfl, rfl, rfl⟩
  · unfold newCells newObj
    rw [fnat_eq]
    refine Goes.new hw rfl ⟨rfl, rfl, rfl, _, 0, 0, rfl, by simp [hsz], by simp [hsz], fun h => ⟨rfl, by simp [hex h, hsz]⟩, ?_, fun x _ _ h => absurd h (by omega), fun _ => .inl rfl⟩
    intro j c hj
    rw [T.get_tab] at hj
    split at hj
    · rename_i hjn
      simp only [Option.some.injEq] at hj
      subst hj
      refine ⟨hjn, ?_⟩
      have hl : l[j]? = some (l.getD j .nilptr) := by
        rw [List.getD_eq_getElem?_getD, List.getElem?_eq_getElem (by omega)]; rfl
      obtain ⟨v, h1, h2⟩ := hv.get j _ hl
      refine ⟨v, ?_, h2⟩
      rw [Nat.zero_add, Array.getElem?_append_left (by omega)]
      simpa using h1
    · cases hj
  · unfold newCells newObj Env.add
    rw [fnat_eq, if_pos rfl]

theorem newVar_ok (hw : WRel P E s w) {t : TypeId} {c : CV} {v : Value} (hv : VRel E c v) :
    ∃ w' E' i, (Go.newVar t v).run P w = .ok ⟨i.blk, 0 + i.d, none⟩ w' ∧ Goes P E s w E' (newVar s t c).2 w' ∧ E' (newVar s t c).1 = some i := by
  have hc := cells_ok hv
  obtain ⟨w', E', i, h1, h2, h3, h4, h5, _⟩ := newCells_ok hw (n := (cellsOf c).length) (esz := 1) (lim := 0) (ex := true) (ty := t) hc rfl #[] (fun _ => rfl)
  refine ⟨w', E', i, ?_, h2, h3⟩
  unfold Go.newVar
  rw [h4, h5]
  simpa using h1

end
end Go.Ae
