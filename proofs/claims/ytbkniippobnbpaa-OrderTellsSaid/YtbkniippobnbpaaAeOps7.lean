/-
  Building, lengths, the least and the greatest, type assertions, iterators over strings.
-/
import Derived.Test.YtbkniippobnbpaaAeOps6
namespace Go.Ae
set_option linter.unusedSimpArgs false

section
variable {P : Program} {E : Env} {s : St} {w : World}

theorem run_mapM_list {α β : Type} {f : α → Sem β} {g : α → β} : ∀ (l : List α), (∀ x ∈ l, (f x).run P w = .ok (g x) w) → (l.mapM f).run P w = .ok (l.map g) w
  | [], _ => by simp
  | x :: l, h => by
    rw [List.mapM_cons]
    simp only [Sem.run_bind, h x List.mem_cons_self, Result.andThen_ok, run_mapM_list l (fun y hy => h y (List.mem_cons_of_mem _ hy)), Sem.run_pure, List.map_cons]

theorem run_mapM_array {α β : Type} {f : α → Sem β} {g : α → β} (a : Array α) (h : ∀ x ∈ a, (f x).run P w = .ok (g x) w) : (a.mapM f).run P w = .ok (a.map g) w := by
  rw [Array.mapM_eq_mapM_toList]
  simp only [Sem.run_map, run_mapM_list a.toList (fun x hx => h x (by simpa using hx)), Result.andThen_ok]
  rw [← Array.toList_map, Array.toArray_toList]

theorem mapO_places {fs : List Field} {pl : List (Nat × Nat)} (h : mapO (fun f : Field => (szOf P f.type).map fun z => (f.offset, z)) fs = some pl) :
    pl = fs.map (fun f => (f.offset, P.cellsOf f.type)) ∧ ∀ f ∈ fs, szOf P f.type = some (P.cellsOf f.type) := by
  induction fs generalizing pl with
  | nil => simp only [mapO, Option.some.injEq] at h; subst h; simp
  | cons f fs ih =>
    simp only [mapO] at h
    split at h
    · cases h
    · rename_i y hy
      split at h
      · cases h
      · rename_i ys hys
        simp only [Option.some.injEq] at h
        subst h
        obtain ⟨rfl, h2⟩ := ih hys
        cases hz : szOf P f.type with
        | none => rw [hz] at hy; cases hy
        | some z =>
          rw [hz] at hy
          simp only [Option.map_some, Option.some.injEq] at hy
          obtain ⟨inf, hi, hs⟩ := szOf_info hz
          have hc : P.cellsOf f.type = z := by unfold Program.cellsOf; rw [hi]; simpa using hs
          refine ⟨by simp [← hy, hc], fun g hg => ?_⟩
          simp only [List.mem_cons] at hg
          rcases hg with rfl | hg
          · rw [hz, hc]
          · exact h2 g hg

theorem zeroOf_val {t : TypeId} {zv : CV} (h : zeroOf P t = some zv) : ∃ z ie, P.info? t = some ie ∧ ie.zero = some z ∧ (∀ E, VRel E zv z) ∧ (∀ w, (zeroValue t).run P w = .ok z w) := by
  unfold zeroOf at h
  cases hi : P.info? t with
  | none => rw [hi] at h; cases h
  | some ie =>
    rw [hi] at h
    simp only [Option.bind_some] at h
    cases hz : ie.zero with
    | none => rw [hz] at h; cases h
    | some z =>
      rw [hz] at h
      exact ⟨z, ie, rfl, hz, fun E => ofV_ok 4 z zv h, fun w => by simp [zeroValue, run_typeInfo_ok hi, hz]⟩

theorem buildV_ok {t : TypeId} {parts : List (Nat × CV)} {vparts : Array (Nat × Value)} {c : CV} (h1 : vparts.toList.map (·.1) = parts.map (·.1)) (h2 : VRels E (parts.map (·.2)) (vparts.toList.map (·.2)))
    (h : buildV P t parts = some c) : ∃ u, (Instr.build t vparts).run P w = .ok u w ∧ VRel E c u := by
  unfold buildV at h
  split at h
  · cases h
  · rename_i zv hz
    obtain ⟨z, ie, hie, hz1, hz2, hz3⟩ := zeroOf_val hz
    split at h
    · rename_i fs hu
      split at h
      · cases h
      · rename_i pl hpl
        obtain ⟨rfl, hsz⟩ := mapO_places hpl
        cases hf : fillL (fun i => (fs.toList.map (fun f => (f.offset, P.cellsOf f.type)))[i]?) (cellsOf zv) parts with
        | none => rw [hf] at h; cases h
        | some r =>
          rw [hf] at h
          simp only [Option.map_some, Option.some.injEq] at h
          subst h
          obtain ⟨r', hr1, hr2⟩ := fill_ok parts vparts.toList _ r z.cells hf (cells_ok (hz2 E)) h1 h2
          refine ⟨.agg r', ?_, by simp only [VRel]; exact ⟨r', rfl, hr2⟩⟩
          have hm : (fs.mapM fun f => do Pure.pure (f.offset, ← sizeOf f.type) : Sem (Array (Nat × Nat))).run P w = .ok (fs.map fun f => (f.offset, P.cellsOf f.type)) w :=
            run_mapM_array fs fun f hf => by
              simp [run_sizeOf_ok (hsz f (by simpa using hf))]
          have hpl2 : (fun i : Nat => (fs.map fun f => (f.offset, P.cellsOf f.type))[i]?) = fun i : Nat => (fs.toList.map (fun f => (f.offset, P.cellsOf f.type)))[i]? := by
            funext i; simp
          simp only [Instr.build, Sem.run_bind, hz3, Result.andThen_ok, run_underlying_ok hu, hm, hpl2, hr1, Sem.run_pure]
    · rename_i n e hu
      split at h
      · cases h
      · rename_i zz hzz
        cases hf : fillL (fun i => some (i * zz, zz)) (cellsOf zv) parts with
        | none => rw [hf] at h; cases h
        | some r =>
          rw [hf] at h
          simp only [Option.map_some, Option.some.injEq] at h
          subst h
          obtain ⟨r', hr1, hr2⟩ := fill_ok parts vparts.toList _ r z.cells hf (cells_ok (hz2 E)) h1 h2
          refine ⟨.agg r', ?_, by simp only [VRel]; exact ⟨r', rfl, hr2⟩⟩
          simp only [Instr.build, Sem.run_bind, hz3, Result.andThen_ok, run_underlying_ok hu, run_sizeOf_ok hzz, hr1, Sem.run_pure]
    · cases h

theorem buildSliceV_ok (hw : WRel P E s w) {t : TypeId} {len : Nat} {parts : List (Nat × CV)} {vparts : Array (Nat × Value)} {c : CV} {s' : St} (h1 : vparts.toList.map (·.1) = parts.map (·.1)) (h2 : VRels E (parts.map (·.2)) (vparts.toList.map (·.2)))
    (h : buildSliceV P s t len parts = some (c, s')) : SOk P E s w (Instr.buildSlice t len vparts) c s' := by
  unfold buildSliceV at h
  split at h
  · rename_i e hu
    split at h
    · rename_i z zv hz hzv
      split at h
      · rename_i hl hcl
        rw [ble_iff] at hl
        rw [beq_iff] at hcl
        split at h
        · cases h
        · rename_i cells hf
          simp only [Option.some.injEq, Prod.mk.injEq] at h
          obtain ⟨rfl, rfl⟩ := h
          obtain ⟨zz, ie, hie, hz1, hz2, hz3⟩ := zeroOf_val hzv
          have hzc := zeros_ok (n := len) (hz2 E) hcl
          obtain ⟨r', hr1, hr2⟩ := fill_ok parts vparts.toList _ cells (Builtin.zeroCells zz.cells len) hf hzc.1 h1 h2
          have hcells : Builtin.zeroCells zz.cells len = (Array.range (len * z)).map fun i => zz.cells[i % zz.cells.size]! := by unfold Builtin.zeroCells; rw [hzc.2]
          have hlen : cells.length = len * z := by
            have hfl : ∀ (parts : List (Nat × CV)) (cells r : List CV), fillL (fun i => some (i * z, z)) cells parts = some r → r.length = cells.length := by
              intro parts
              induction parts with
              | nil => intro cells r h; simp only [fillL, Option.some.injEq] at h; subst h; rfl
              | cons p parts ih =>
                intro cells r h
                obtain ⟨i, v⟩ := p
                simp only [fillL] at h
                split at h
                · rename_i ha hb
                  rw [beq_iff] at ha
                  rw [ble_iff] at hb
                  rw [ih _ _ h]
                  simp only [List.length_append, List.length_take, List.length_drop]
                  omega
                · cases h
            rw [hfl _ _ _ hf]; simp
          obtain ⟨w', E', i, g1, g2, g3, g4, g5, g6, g7, g8, g9⟩ := newCells_ok hw (l := cells) (vs := r') (n := len * z) (esz := 1) (lim := 0) (ex := true) (ty := e) hr2 hlen #[] (fun _ => rfl)
          have hrun : (Instr.buildSlice t len vparts).run P w = .ok (.slice (some ⟨w.heap.size, 0, none⟩) len len) w' := by
            have t1 : (len * z > 2 ^ 24) = False := by simp; omega
            simp only [Array.append_empty] at g1
            simp only [Instr.buildSlice, Sem.run_bind, run_underlying_ok hu, Result.andThen_ok, run_sizeOf_ok hz, t1, if_false]
            by_cases hn : len * z = 0
            · have e0 : (Array.map (fun x => (#[] : Array Value)[x % (#[] : Array Value).size]!) (Array.range 0)) = Builtin.zeroCells zz.cells len := by
                rw [zeroCells_zero _ _ (by rw [hzc.2]; exact hn)]; simp
              simp only [hn, if_true, Sem.run_bind, Sem.run_pure, Result.andThen_ok, e0, hr1, g1]
            · simp only [hn, if_false, Sem.run_bind, hz3, Sem.run_pure, Result.andThen_ok, ← hcells, hr1, g1]
          refine ⟨_, w', E', hrun, g2, ?_⟩
          simp only [VRel]
          exact ⟨i, g3, .inl ⟨len, by rw [g4, g5], Nat.le_refl _, .inl rfl⟩⟩
      · cases h
    · cases h
  · cases h

/-! ### len, cap, max, min -/

theorem MRel.length {E : Env} : ∀ {l : List (CV × CV × Nat)} {es : List MapEntry}, MRel E l es → es.length = l.length
  | [], _, h => by simp only [MRel] at h; subst h; rfl
  | (_, _, _) :: _, _, h => by obtain ⟨e, r, rfl, _, _, _, h4⟩ := h; simp [h4.length]

theorem mapGet_ok (hw : WRel P E s w) {b : Nat} {es : List (CV × CV × Nat)} {ck : Nat} {i : BI} (hi : E b = some i) (h : mapGet s b = some (es, ck)) :
    ∃ ES, w.heap[i.blk]? = some (.map ES ck) ∧ MRel E es ES.toList ∧ s.h.get b = some (.map es ck) := by
  unfold mapGet at h
  split at h
  · rename_i hb
    simp only [Option.some.injEq, Prod.mk.injEq] at h
    obtain ⟨rfl, rfl⟩ := h
    obtain ⟨j, o, hj, ho, ES, rfl, hr⟩ := hw.obj b _ hb rfl
    rw [hi] at hj; cases hj
    exact ⟨ES, ho, hr, hb⟩
  · cases h

theorem run_getObj_map {r : Nat} {ES : Array MapEntry} {ck : Nat} (h : w.heap[r]? = some (.map ES ck)) : (getObj r).run P w = .ok (.map ES ck) w := by
  simp only [getObj, Sem.run, h]

theorem lenV_ok (hw : WRel P E s w) {argTypes : Array TypeId} {type : TypeId} {args : List CV} {vs : Array Value} {v : CV} (ha : VRels E args vs.toList)
    (h : lenV P s argTypes args = some v) : ∃ u, (Builtin.len_ argTypes type vs).run P w = .ok u w ∧ VRel E v u := by
  unfold lenV at h
  split at h
  · rename_i t x h0
    obtain ⟨vx, rfl, hx⟩ := args1 ha
    split at h
    · rename_i l hu
      simp only [VRel] at hx
      obtain ⟨a, rfl, rfl⟩ := hx
      simp only [fnat_eq, Option.some.injEq] at h
      subst h
      exact ⟨.int .i64 a.size, by simp [Builtin.len_, h0, run_underlying_ok hu, goInt], by simp [VRel, bytesOf_length]⟩
    · rename_i n e hu
      simp only [Option.some.injEq] at h
      subst h
      exact ⟨.int .i64 n, by simp [Builtin.len_, h0, run_underlying_ok hu, goInt], by simp [VRel]⟩
    · rename_i e hu
      simp only [VRel] at hx; subst hx
      simp only [Option.some.injEq] at h; subst h
      exact ⟨.int .i64 0, by simp [Builtin.len_, h0, run_underlying_ok hu, goInt], by simp [VRel]⟩
    · rename_i e b o n c hu
      simp only [VRel] at hx
      simp only [Option.some.injEq] at h; subst h
      obtain ⟨_, _, ⟨_, rfl, _⟩ | ⟨_, rfl, _, rfl, _⟩⟩ := hx
      · exact ⟨.int .i64 n, by simp [Builtin.len_, h0, run_underlying_ok hu, goInt], by simp [VRel]⟩
      · exact ⟨.int .i64 0, by simp [Builtin.len_, h0, run_underlying_ok hu, goInt], by simp [VRel]⟩
    · rename_i k e hu
      simp only [VRel] at hx; subst hx
      simp only [Option.some.injEq] at h; subst h
      exact ⟨.int .i64 0, by simp [Builtin.len_, h0, run_underlying_ok hu, goInt], by simp [VRel]⟩
    · rename_i k e b hu
      simp only [VRel] at hx
      obtain ⟨i, hi, rfl⟩ := hx
      split at h
      · rename_i es ck hm
        obtain ⟨ES, h1, h2, _⟩ := mapGet_ok hw hi hm
        simp only [fnat_eq, Option.some.injEq] at h; subst h
        refine ⟨.int .i64 ES.size, by simp [Builtin.len_, h0, run_underlying_ok hu, goInt, run_getObj_map h1], ?_⟩
        simp only [VRel]
        rw [← h2.length]; simp
      · cases h
    · cases h
  · cases h

theorem capV_ok (hw : WRel P E s w) {argTypes : Array TypeId} {type : TypeId} {args : List CV} {vs : Array Value} {v : CV} (ha : VRels E args vs.toList)
    (h : capV P s argTypes args = some v) : ∃ u, (Builtin.cap_ argTypes type vs).run P w = .ok u w ∧ VRel E v u := by
  unfold capV at h
  split at h
  · rename_i t x h0
    obtain ⟨vx, rfl, hx⟩ := args1 ha
    split at h
    · rename_i e hu
      simp only [VRel] at hx; subst hx
      simp only [Option.some.injEq] at h; subst h
      exact ⟨.int .i64 0, by simp [Builtin.cap_, h0, run_underlying_ok hu, goInt], by simp [VRel]⟩
    · rename_i e b o n c hu
      split at h
      · cases h
      · rename_i z hz
        split at h
        · rename_i hs
          simp only [Option.some.injEq] at h; subst h
          simp only [VRel] at hx
          obtain ⟨i, hi, hx⟩ := hx
          have hcap := (sure_ok hw hi hs).1 rfl
          obtain ⟨c', rfl, _, hc⟩ | ⟨_, rfl, _, rfl, rfl⟩ := hx
          · obtain rfl := hcap c' hc
            exact ⟨.int .i64 c', by simp [Builtin.cap_, h0, run_underlying_ok hu, goInt], by simp [VRel]⟩
          · exact ⟨.int .i64 0, by simp [Builtin.cap_, h0, run_underlying_ok hu, goInt], by simp [VRel]⟩
        · cases h
    · cases h
  · cases h

theorem max2_ok {x y c : CV} {vx vy : Value} (hx : VRel E x vx) (hy : VRel E y vy) (h : max2 x y = some c) : ∃ u, (Builtin.max2 vx vy).run P w = .ok u w ∧ VRel E c u := by
  unfold max2 at h
  split at h
  · simp only [VRel] at hx hy; subst hx; subst hy
    simp only [Option.some.injEq] at h; subst h
    refine ⟨_, by simp only [Builtin.max2, Sem.run_pure]; rfl, ?_⟩
    simp only [VRel]
    rename_i k a k' b
    by_cases hc : b > a <;> simp [hc]
  · simp only [VRel] at hx hy
    obtain ⟨a, rfl, rfl⟩ := hx
    obtain ⟨b, rfl, rfl⟩ := hy
    simp only [Option.some.injEq] at h; subst h
    refine ⟨.string (if !(Op.bytesLess a.toList b.toList) then a else b), ?_, ?_⟩
    · simp [Builtin.max2, Op.stringOp, asBool]
    · simp only [VRel, natsLess_bytes]
      cases Op.bytesLess a.toList b.toList <;> simp
  · cases h

theorem min2_ok {x y c : CV} {vx vy : Value} (hx : VRel E x vx) (hy : VRel E y vy) (h : min2 x y = some c) : ∃ u, (Builtin.min2 vx vy).run P w = .ok u w ∧ VRel E c u := by
  unfold min2 at h
  split at h
  · simp only [VRel] at hx hy; subst hx; subst hy
    simp only [Option.some.injEq] at h; subst h
    refine ⟨_, by simp only [Builtin.min2, Sem.run_pure]; rfl, ?_⟩
    simp only [VRel]
    rename_i k a k' b
    by_cases hc : b < a <;> simp [hc]
  · simp only [VRel] at hx hy
    obtain ⟨a, rfl, rfl⟩ := hx
    obtain ⟨b, rfl, rfl⟩ := hy
    simp only [Option.some.injEq] at h; subst h
    refine ⟨.string (if (Op.bytesLess a.toList b.toList || (a.toList == b.toList)) then a else b), ?_, ?_⟩
    · simp [Builtin.min2, Op.stringOp, asBool]
    · simp only [VRel, natsLess_bytes, toListEq]
      cases (Op.bytesLess a.toList b.toList || natsEq (bytesOf a) (bytesOf b)) <;> simp
  · cases h

theorem foldO_ok {f : CV → CV → Option CV} {g : Value → Value → Sem Value} (hfg : ∀ x y c vx vy, VRel E x vx → VRel E y vy → f x y = some c → ∃ u, (g vx vy).run P w = .ok u w ∧ VRel E c u) :
    ∀ (l : List CV) (vs : List Value) (x c : CV) (vx : Value), VRel E x vx → VRels E l vs → foldO f x l = some c → ∃ u, (vs.foldlM g vx).run P w = .ok u w ∧ VRel E c u
  | [], vs, x, c, vx, hx, hl, h => by
    simp only [VRels] at hl; subst hl
    simp only [foldO, Option.some.injEq] at h; subst h
    exact ⟨vx, by simp, hx⟩
  | y :: l, vs, x, c, vx, hx, hl, h => by
    simp only [VRels] at hl
    obtain ⟨vy, r, rfl, hy, hr⟩ := hl
    simp only [foldO] at h
    split at h
    · rename_i z hz
      obtain ⟨u, h1, h2⟩ := hfg x y z vx vy hx hy hz
      obtain ⟨u2, h3, h4⟩ := foldO_ok hfg l r z c u h2 hr h
      exact ⟨u2, by simp [List.foldlM_cons, h1, h3], h4⟩
    · cases h

theorem fieldOf_ok {t : TypeId} {k : Nat} {f : Field} (h : fieldOf P t k = some f) : ∃ fs, P.underlying t = some (.struct fs) ∧ fs[k]? = some f := by
  unfold fieldOf at h
  split at h
  · rename_i fs hu; exact ⟨fs, hu, h⟩
  · cases h

/-! ### Type assertions -/

theorem assertV_ok {x c : CV} {vx : Value} {xt a : TypeId} {ok : Bool} (hx : VRel E x vx) (h : assertV P x a ok = some c) : ∃ u, (Instr.typeAssert vx xt a ok).run P w = .ok u w ∧ VRel E c u := by
  have hzero : ∀ {zv : CV}, zeroOf P a = some zv → ∃ z, (zeroValue a).run P w = .ok z w ∧ VRel E (.tuple [zv, .bool false]) (.tuple #[z, .bool false]) := by
    intro zv hz
    obtain ⟨z, ie, hie, hz1, hz2, hz3⟩ := zeroOf_val hz
    exact ⟨z, hz3 w, by simp only [VRel]; exact ⟨_, rfl, VRels.cons (hz2 E) (VRels.cons (by simp [VRel]) VRels.nil)⟩⟩
  unfold assertV at h
  split at h
  · rename_i ms hu
    simp only [VRel] at hx; subst hx
    split at h
    · cases hz : zeroOf P a with
      | none => rw [hz] at h; cases h
      | some zv =>
        rw [hz] at h
        simp only [Option.map_some, Option.some.injEq] at h; subst h
        obtain ⟨z, h1, h2⟩ := hzero hz
        exact ⟨_, by simp [Instr.typeAssert, run_underlying_ok hu, h1], h2⟩
    · cases h
  · rename_i want t v hu
    have hx0 := hx
    simp only [VRel] at hx
    obtain ⟨u, rfl, hu1⟩ := hx
    split at h
    · cases h
    · rename_i inf hinf
      split at h
      · rename_i hm
        simp only [Option.some.injEq] at h; subst h
        exact ⟨.tuple #[.iface t u, .bool true], by simp [Instr.typeAssert, run_underlying_ok hu, run_typeInfo_ok hinf, hm], by simp only [VRel]; exact ⟨_, rfl, VRels.cons (by simp only [VRel]; exact ⟨u, rfl, hu1⟩) (VRels.cons (by simp [VRel]) VRels.nil)⟩⟩
      · rename_i hm
        simp only [Option.some.injEq] at h; subst h
        exact ⟨.iface t u, by simp [Instr.typeAssert, run_underlying_ok hu, run_typeInfo_ok hinf, hm], by simp only [VRel]; exact ⟨u, rfl, hu1⟩⟩
      · rename_i q hm
        cases hz : zeroOf P a with
        | none => rw [hz] at h; cases h
        | some zv =>
          rw [hz] at h
          simp only [Option.map_some, Option.some.injEq] at h; subst h
          obtain ⟨z, h1, h2⟩ := hzero hz
          exact ⟨_, by simp [Instr.typeAssert, run_underlying_ok hu, run_typeInfo_ok hinf, hm, h1], h2⟩
      · cases h
  · rename_i d hno hu
    simp only [VRel] at hx; subst hx
    split at h
    · cases hz : zeroOf P a with
      | none => rw [hz] at h; cases h
      | some zv =>
        rw [hz] at h
        simp only [Option.map_some, Option.some.injEq] at h; subst h
        obtain ⟨z, h1, h2⟩ := hzero hz
        refine ⟨.tuple #[z, .bool false], ?_, h2⟩
        cases d <;> first
          | (simp [Instr.typeAssert, run_underlying_ok hu, h1]; done)
          | (exfalso; first | exact hno _ rfl | exact hno _ (by assumption))
    · cases h
  · rename_i d t v hno hu
    simp only [VRel] at hx
    obtain ⟨u, rfl, hu1⟩ := hx
    have hd : ∀ ms, d ≠ .interface ms := fun ms e => by
      first
        | exact hno _ e
        | exact hno _ (by rw [hu, e])
        | exact hno _ _ _ e rfl
    have hstep : (Instr.typeAssert (.iface t u) xt a ok).run P w = (if t = a then Pure.pure (if ok then .tuple #[u, .bool true] else u) else
        (if ok then do Pure.pure (.tuple #[← zeroValue a, .bool false]) else runtimePanic (.typeAssertion (some xt) (some t) a "") : Sem Value)).run P w := by
      cases d <;> first
        | (exfalso; exact hd _ rfl)
        | (simp only [Instr.typeAssert, Sem.run_bind, run_underlying_ok hu, Result.andThen_ok]; done)
        | (simp only [Instr.typeAssert, Sem.run_bind, run_underlying_ok hu, Result.andThen_ok]; rfl)
    split at h
    · rename_i ht
      rw [beq_iff] at ht
      simp only [Option.some.injEq] at h; subst h
      exact ⟨.tuple #[u, .bool true], by rw [hstep, if_pos ht]; rfl, by simp only [VRel]; exact ⟨_, rfl, VRels.cons hu1 (VRels.cons (by simp [VRel]) VRels.nil)⟩⟩
    · rename_i ht
      rw [beq_iff] at ht
      simp only [Option.some.injEq] at h; subst h
      exact ⟨u, by rw [hstep, if_pos ht]; rfl, hu1⟩
    · rename_i ht
      rw [beq_no] at ht
      cases hz : zeroOf P a with
      | none => rw [hz] at h; cases h
      | some zv =>
        rw [hz] at h
        simp only [Option.map_some, Option.some.injEq] at h; subst h
        obtain ⟨z, h1, h2⟩ := hzero hz
        exact ⟨_, by rw [hstep, if_neg ht]; simp [h1], h2⟩
    · cases h
  · cases h

end
end Go.Ae
