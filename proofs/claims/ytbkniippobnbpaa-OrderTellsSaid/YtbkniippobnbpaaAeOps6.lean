/-
  append as a builtin, copy, make, building of slices, structs and arrays.
-/
import Derived.Test.YtbkniippobnbpaaAeOps5
namespace Go.Ae
set_option linter.unusedSimpArgs false

section
variable {P : Program} {E : Env} {s : St} {w : World}

theorem zeroFits_ok {ie : TypeInfo} (h : zeroFits ie = true) : ∃ z zv, ie.zero = some z ∧ (ie.zero).bind (ofV 4) = some zv ∧ (∀ E, VRel E zv z) ∧ z.cells.size = ie.size ∧ (cellsOf zv).length = ie.size := by
  unfold zeroFits at h
  split at h
  · rename_i zv hz
    rw [beq_iff] at h
    cases hz0 : ie.zero with
    | none => rw [hz0] at hz; cases hz
    | some z =>
      rw [hz0] at hz
      have hr : ∀ E, VRel E zv z := fun E => ofV_ok 4 z zv hz
      have hc := cells_ok (hr fun _ => none)
      exact ⟨z, zv, rfl, by simpa using hz, hr, by rw [← h, ← hc.length]; simp, h⟩
  · cases h

theorem args0 {vs : Array Value} (ha : VRels E [] vs.toList) : vs = #[] := by
  simp only [VRels] at ha
  exact Array.toList_eq_nil_iff.1 ha

theorem args1 {x : CV} {vs : Array Value} (ha : VRels E [x] vs.toList) : ∃ vx, vs = #[vx] ∧ VRel E x vx := by
  simp only [VRels] at ha
  obtain ⟨vx, r, hl, hx, rfl⟩ := ha
  exact ⟨vx, Array.toList_inj.1 hl, hx⟩

theorem args2 {x y : CV} {vs : Array Value} (ha : VRels E [x, y] vs.toList) : ∃ vx vy, vs = #[vx, vy] ∧ VRel E x vx ∧ VRel E y vy := by
  simp only [VRels] at ha
  obtain ⟨vx, r, hl, hx, vy, r2, rfl, hy, rfl⟩ := ha
  exact ⟨vx, vy, Array.toList_inj.1 hl, hx, hy⟩

theorem appendV_ok (hw : WRel P E s w) {argTypes : Array TypeId} {type : TypeId} {args : List CV} {vs : Array Value} {v : CV} {s' : St} (ha : VRels E args vs.toList)
    (h : appendV P s argTypes args = some (v, s')) : SOk P E s w (Builtin.append_ argTypes type vs) v s' := by
  unfold appendV at h
  split at h
  · rename_i ts tx x y h0 h1
    obtain ⟨vx, vy, rfl, hx, hy⟩ := args2 ha
    split at h
    · rename_i e hu
      split at h
      · rename_i ie hie
        split at h
        · rename_i hz
          obtain ⟨z, zv, hz1, _, _, hz2, _⟩ := zeroFits_ok hz
          split at h
          · rename_i m new ha
            obtain ⟨dx, news, hdx, hs, hs', hnew, hlen⟩ := appended_ok hw hy ha
            exact appendTo_ok hw h0 h1 hu hdx hie hz1 hz2 hx hs hs' hnew hlen h
          · cases h
        · cases h
      · cases h
    · cases h
  · cases h

/-! ### copy -/

theorem firstCells_le (hw : WRel P E s w) {z n m : Nat} {y : CV} {v : Value} {l : List CV} (hy : VRel E y v) (h : firstCells s z n y = some l) (hm : lenOf y = some m) (hn : n ≤ m) :
    ∃ vs : List Value, (Builtin.firstCells z n v).run P w = .ok vs.toArray w ∧ VRels E l vs := by
  cases y with
  | nilslice =>
    simp only [VRel] at hy; subst hy
    simp only [firstCells, Option.some.injEq] at h; subst h
    exact ⟨[], by simp [Builtin.firstCells], VRels.nil⟩
  | slice b o n' c =>
    simp only [VRel] at hy
    simp only [firstCells] at h
    obtain ⟨i, hi, hy⟩ := hy
    obtain ⟨c', rfl, _⟩ | ⟨A, rfl, hA, rfl, rfl⟩ := hy
    · obtain ⟨vs, h1, h2⟩ := loads_ok hw hi h
      exact ⟨vs, by simpa [Builtin.firstCells] using h1, h2⟩
    · simp only [lenOf, Option.some.injEq] at hm
      obtain rfl : n = 0 := by omega
      simp only [Nat.zero_mul, lds, Option.some.injEq] at h
      subst h
      exact ⟨[], by simp [Builtin.firstCells, loadCells, loadCellsFrom], VRels.nil⟩
  | str t =>
    simp only [VRel] at hy
    obtain ⟨a, rfl, rfl⟩ := hy
    simp only [firstCells, Option.some.injEq] at h; subst h
    refine ⟨((a.extract 0 n).data.map fun b => Value.int .u8 b.toNat).toList, by simp only [Builtin.firstCells, Sem.run_pure, Array.toArray_toList], ?_⟩
    refine VRels.mk ?_ ?_
    · simp [bytesOf]
    · intro k c v hc hv
      unfold bytesOf at hc
      simp only [Array.toList_map, List.getElem?_map] at hc hv
      rw [ByteArray.data_extract, Array.toList_extract, List.extract_eq_take_drop] at hv
      simp only [List.drop_zero, Nat.sub_zero] at hv
      rw [List.getElem?_take] at hc hv
      split at hc
      · rename_i hk
        rw [if_pos hk] at hv
        rw [List.getElem?_map] at hc
        cases hq : a.data.toList[k]? with
        | none => rw [hq] at hc; cases hc
        | some q =>
          rw [hq] at hc hv
          simp only [Option.map_some, Option.some.injEq] at hc hv
          subst hc; subst hv
          simp [VRel]
      · cases hc
  | _ => simp only [lenOf, reduceCtorEq] at hm

theorem copyV_ok (hw : WRel P E s w) {argTypes : Array TypeId} {type : TypeId} {args : List CV} {vs : Array Value} {v : CV} {s' : St} (ha : VRels E args vs.toList)
    (h : copyV P s argTypes args = some (v, s')) : SOk P E s w (Builtin.copy_ argTypes type vs) v s' := by
  unfold copyV at h
  split at h
  · rename_i t d y h0
    obtain ⟨vd, vy, rfl, hd, hy⟩ := args2 ha
    split at h
    · rename_i e hu
      split at h
      · rename_i z dn yn hz hdn hyn
        simp only [fnat_eq] at h
        have hl := lenOf_ok (P := P) (w := w) hy hyn
        have hmin : Nat.min yn dn = min yn dn := rfl
        split at h
        · rename_i cs hcs
          simp only [Option.some.injEq, Prod.mk.injEq] at h
          obtain ⟨rfl, rfl⟩ := h
          simp only [VRel] at hd
          subst hd
          simp only [lenOf, Option.some.injEq] at hdn
          subst hdn
          obtain ⟨vcs, h1, h2⟩ := firstCells_le hw hy hcs hyn (Nat.min_le_left _ _)
          simp only [Nat.min_zero] at h1
          refine ⟨.int .i64 0, w, E, ?_, Goes.refl hw, by simp [VRel]⟩
          simp [Builtin.copy_, h0, run_underlying_ok hu, hl, run_sizeOf_ok hz, h1, goInt]
        · rename_i cs b o n c hcs
          cases hst : stos s b o cs with
          | none => rw [hst] at h; cases h
          | some s1 =>
            rw [hst] at h
            simp only [Option.map_some, Option.some.injEq, Prod.mk.injEq] at h
            obtain ⟨rfl, rfl⟩ := h
            obtain ⟨vcs, h1, h2⟩ := firstCells_le hw hy hcs hyn (Nat.min_le_left _ _)
            simp only [lenOf, Option.some.injEq] at hdn
            subst hdn
            simp only [VRel] at hd
            obtain ⟨i, hi, hd⟩ := hd
            obtain ⟨c', rfl, _⟩ | ⟨A, rfl, hA, rfl, rfl⟩ := hd
            · obtain ⟨w', hst', g⟩ := stores_ok hw hi hst h2
              refine ⟨.int .i64 (min yn n : Nat), w', E, ?_, g, by simp [VRel]⟩
              simp only [Builtin.copy_, h0, List.getElem?_toArray, List.getElem?_cons_zero, List.getElem?_cons_succ, Sem.run_bind, run_underlying_ok hu, Result.andThen_ok, hl, run_sizeOf_ok hz, hmin, h1, hst', Sem.run_pure, goInt]
            · simp only [Nat.min_zero] at h1 hcs
              have hvcs : vcs = [] := by
                have hcs0 : cs = [] := by
                  cases y <;> simp only [lenOf, reduceCtorEq] at hyn <;> simp only [firstCells, Nat.zero_mul, lds, List.take_zero, List.map_nil, Option.some.injEq] at hcs <;> exact hcs.symm
                subst hcs0
                simpa only [VRels] using h2
              subst hvcs
              have hs1 : s1 = s := by
                have hcs0 : cs = [] := by
                  cases y <;> simp only [lenOf, reduceCtorEq] at hyn <;> simp only [firstCells, Nat.zero_mul, lds, List.take_zero, List.map_nil, Option.some.injEq] at hcs <;> exact hcs.symm
                subst hcs0
                simp only [stos, Option.some.injEq] at hst
                exact hst.symm
              subst hs1
              refine ⟨.int .i64 0, w, E, ?_, Goes.refl hw, by simp [VRel]⟩
              simp [Builtin.copy_, h0, run_underlying_ok hu, hl, run_sizeOf_ok hz, h1, goInt, storeCells]
        · cases h
      · cases h
    · cases h
  · cases h

/-! ### make -/

theorem makeSlice_ok (hw : WRel P E s w) {t : TypeId} {l c v : CV} {vl vc : Value} {s' : St} (hl : VRel E l vl) (hc : VRel E c vc) (h : makeSlice P s t l c = some (v, s')) :
    SOk P E s w (Instr.makeSlice t vl vc) v s' := by
  unfold makeSlice at h
  split at h
  · rename_i e kl l kc c hu
    simp only [VRel] at hl hc
    subst hl; subst hc
    split at h
    · cases h
    · rename_i ie hie
      split at h
      · rename_i h0 h1 h2 h3
        simp only [decide_eq_true_eq] at h0 h1 h2 h3
        split at h
        · rename_i zv hz hzf
          obtain ⟨z, zv', hz1, hz2, hz3, hz4, hz5⟩ := zeroFits_ok hzf
          rw [hz] at hz2; cases hz2
          simp only [fnat_eq, newObj, Option.some.injEq, Prod.mk.injEq] at h
          obtain ⟨rfl, rfl⟩ := h
          have hwl := wrap_i64 l h0 (by omega)
          have hwc := wrap_i64 c (by omega) h3
          have hzero : (zeroValue e).run P w = .ok z w := by simp [zeroValue, run_typeInfo_ok hie, hz1]
          have hsz : (sizeOf e).run P w = .ok ie.size w := by simp [sizeOf, run_typeInfo_ok hie]
          have hcells : Builtin.zeroCells z.cells c.toNat = (Array.range (c.toNat * ie.size)).map fun i => z.cells[i % z.cells.size]! := by unfold Builtin.zeroCells; rw [hz4]
          have hzc := zeros_ok (n := c.toNat) (hz3 E) hz5
          have hrun : (Instr.makeSlice t (.int kl l) (.int kc c)).run P w = .ok (.slice (some ⟨w.heap.size, 0, none⟩) l.toNat c.toNat) (w.alloc (.cells (Builtin.zeroCells z.cells c.toNat) e)) := by
            have t1 : ((ie.bytes : Int) * c > 2 ^ 48) = False := by simp; omega
            have t2 : (c < 0) = False := by simp; omega
            have t3 : (l < 0) = False := by simp; omega
            have t4 : (l > c) = False := by simp; omega
            simp only [Instr.makeSlice, Sem.run_bind, run_underlying_ok hu, Result.andThen_ok, asInt, asIntOf, Sem.run_pure, run_typeInfo_ok hie, hwl, hwc]
            simp only [t1, t2, t3, t4, decide_false, Bool.or_false, Bool.false_eq_true, if_false, Sem.run_bind, run_askRoom, Result.andThen_ok, hsz]
            by_cases hn : c.toNat * ie.size = 0
            · have hem : Builtin.zeroCells z.cells c.toNat = #[] := zeroCells_zero _ _ (by rw [hz4]; exact hn)
              simp only [hn, if_true, Sem.run_pure, Result.andThen_ok, Sem.run_bind, newRow, run_newObj, World.alloc_eq, hem]
              have e0 : (Array.map (fun x => (#[] : Array Value)[x % (#[] : Array Value).size]!) (Array.range 0)) = #[] := by simp
              rw [e0]
            · simp only [hn, if_false, Sem.run_bind, hzero, Result.andThen_ok, Sem.run_pure, newRow, run_newObj, World.alloc_eq, hcells]
          have hx : ORel E ⟨w.heap.size, 0, c.toNat * ie.size, true, 1, (Builtin.zeroCells z.cells c.toNat).size⟩ (.cells (.tab (c.toNat * ie.size) fun i => (cellsOf zv).getD (i % ie.size) .nilptr) (c.toNat * ie.size) true 1 0 false e)
              (.cells (Builtin.zeroCells z.cells c.toNat) e) := by
            refine ⟨rfl, rfl, rfl, _, 0, 0, rfl, rfl, by rw [zeroCells_size hz4]; simp, fun _ => ⟨rfl, by rw [zeroCells_size hz4]⟩, ?_, fun x _ _ h => absurd h (by omega), fun _ => .inl rfl⟩
            intro j q hj
            rw [T.get_tab] at hj
            split at hj
            · rename_i hjn
              simp only [Option.some.injEq] at hj
              subst hj
              refine ⟨hjn, ?_⟩
              obtain ⟨u, hu1, hu2⟩ := hzc.1.get j ((cellsOf zv).getD (j % ie.size) .nilptr) (by rw [List.getElem?_map, List.getElem?_range hjn]; rfl)
              exact ⟨u, by simpa using hu1, hu2⟩
            · cases hj
          have g := Goes.new hw rfl hx
          refine ⟨_, _, _, hrun, g, ?_⟩
          simp only [VRel]
          exact ⟨_, by unfold Env.add; rw [if_pos rfl], .inl ⟨c.toNat, by simp, by omega, .inl rfl⟩⟩
        · cases h
      · cases h
  · cases h

/-! ### Building -/

theorem fold_set (off : Nat) : ∀ (l : List Value) (k : Nat) (cells : Array Value), (l.zipIdx k).foldl (fun cs p => cs.setIfInBounds (off + p.2) p.1) cells = putL cells (off + k) l
  | [], _, _ => rfl
  | v :: l, k, cells => by
    simp only [List.zipIdx_cons, List.foldl_cons, putL]
    exact fold_set off l (k + 1) _

theorem fill_ok {place : Nat → Option (Nat × Nat)} : ∀ (parts : List (Nat × CV)) (vparts : List (Nat × Value)) (cells r : List CV) (vcs : Array Value), fillL place cells parts = some r → VRels E cells vcs.toList →
    vparts.map (·.1) = parts.map (·.1) → VRels E (parts.map (·.2)) (vparts.map (·.2)) → ∃ r', Instr.fill place vcs vparts = some r' ∧ VRels E r r'.toList
  | [], vparts, cells, r, vcs, h, hc, h1, _ => by
    simp only [fillL, Option.some.injEq] at h
    subst h
    simp only [List.map_nil, List.map_eq_nil_iff] at h1
    subst h1
    exact ⟨vcs, rfl, hc⟩
  | (i, c) :: parts, [], cells, r, vcs, h, hc, h1, _ => by simp at h1
  | (i, c) :: parts, (j, v) :: vparts, cells, r, vcs, h, hc, h1, h2 => by
    simp only [List.map_cons, List.cons.injEq] at h1
    obtain ⟨rfl, h1⟩ := h1
    simp only [List.map_cons, VRels] at h2
    obtain ⟨v', r2, he, hv, h2⟩ := h2
    simp only [List.cons.injEq] at he
    obtain ⟨rfl, rfl⟩ := he
    simp only [fillL] at h
    split at h
    · cases h
    · rename_i off size hpl
      split at h
      · rename_i hs hb
        rw [beq_iff] at hs
        rw [ble_iff] at hb
        have hcv := cells_ok hv
        have hsz : v.cells.size = size := by rw [← hs, ← hcv.length]; simp
        have hcl : vcs.size = cells.length := by rw [← hc.length]; simp
        have hput : v.cells.zipIdx.foldl (fun cs (p : Value × Nat) => cs.setIfInBounds (off + p.2) p.1) vcs = putL vcs off v.cells.toList := by
          rw [← Array.foldl_toList, Array.toList_zipIdx]
          exact fold_set off v.cells.toList 0 vcs
        have hnew : VRels E (cells.take off ++ cellsOf c ++ cells.drop (off + (cellsOf c).length)) (putL vcs off v.cells.toList).toList := by
          refine VRels.mk ?_ ?_
          · rw [Array.length_toList, putL_size, hcl]
            simp only [List.length_append, List.length_take, List.length_drop]
            omega
          · intro q a u ha hu
            rw [Array.getElem?_toList, putL_get _ _ _ _ (by rw [Array.length_toList, hsz, hcl, ← hs]; exact hb)] at hu
            rw [Array.length_toList, hsz] at hu
            by_cases hq1 : q < off
            · rw [if_neg (by omega)] at hu
              rw [List.append_assoc, List.getElem?_append_left (by simp; omega), List.getElem?_take, if_pos hq1] at ha
              obtain ⟨u', hu', hr'⟩ := hc.get q a ha
              rw [Array.getElem?_toList] at hu'
              rw [hu] at hu'; cases hu'
              exact hr'
            · by_cases hq2 : q < off + size
              · rw [if_pos (by omega)] at hu
                rw [List.append_assoc, List.getElem?_append_right (by simp; omega), List.getElem?_append_left (by simp; omega)] at ha
                have hmin : (cells.take off).length = off := by simp; omega
                rw [hmin] at ha
                obtain ⟨u', hu', hr'⟩ := hcv.get _ a ha
                rw [hu] at hu'; cases hu'
                exact hr'
              · rw [if_neg (by omega)] at hu
                have hmin : (cells.take off ++ cellsOf c).length = off + size := by simp; omega
                rw [List.getElem?_append_right (by omega), hmin, List.getElem?_drop] at ha
                obtain ⟨u', hu', hr'⟩ := hc.get _ a ha
                rw [Array.getElem?_toList] at hu'
                rw [show off + (cellsOf c).length + (q - (off + size)) = q by omega] at hu'
                rw [hu] at hu'; cases hu'
                exact hr'
        obtain ⟨r', hr1, hr2⟩ := fill_ok parts vparts _ r _ h hnew h1 h2
        refine ⟨r', ?_, hr2⟩
        simp only [Instr.fill, hpl]
        rw [if_neg (by rw [hsz, hcl]; simp; omega)]
        rw [← hr1]
        congr 1
      · cases h

end
end Go.Ae
