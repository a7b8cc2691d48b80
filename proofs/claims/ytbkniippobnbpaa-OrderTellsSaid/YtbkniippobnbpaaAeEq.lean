/-
  '==' of the evaluator and of the machine.
-/
import Derived.Test.YtbkniippobnbpaaAeVal
import Derived.ChangeKeysEq
namespace Go.Ae

section
variable {P : Program} {E : Env} {s : St} {w : World}

theorem plainAt_ok (hw : WRel P E s w) {b o : Nat} (h : plainAt s b o = true) : ∃ x i C ty lo hi, s.h.get b = some x ∧ live x = true ∧ E b = some i ∧ w.heap[i.blk]? = some (.cells C ty (lo, hi)) ∧ (lo = hi ∨ hi ≤ i.d) ∧ i.d + o < C.size := by
  unfold plainAt at h
  split at h
  · rename_i cs n ex esz ty hb
    rw [blt_iff] at h
    obtain ⟨i, o', hi, ho, hr⟩ := hw.obj b _ hb rfl
    obtain ⟨e1, e2, e3, C, lo, hi', rfl, e4, e5, e6, e8, e9, e10⟩ := hr
    exact ⟨_, i, C, ty, lo, hi', hb, rfl, hi, ho, e10 rfl, by omega⟩
  · cases h

theorem ptrEq_ok (hw : WRel P E s w) {b o c p : Nat} {i j : BI} {r : Bool} (hi : E b = some i) (hj : E c = some j) (h : ptrEq s b o c p = some r) :
    (sameAddr ⟨i.blk, o + i.d, none⟩ ⟨j.blk, p + j.d, none⟩).run P w = .ok r w := by
  unfold ptrEq at h
  split at h
  · rename_i hb
    rw [beq_iff] at hb
    subst hb
    rw [hi] at hj; cases hj
    simp only [Option.some.injEq] at h
    subst h
    unfold sameAddr
    simp only [beq_self_eq_true, if_true, Sem.run_pure]
    congr 1
    rw [Bool.eq_iff_iff, beq_iff, beq_iff_eq]
    constructor
    · intro h; injection h; omega
    · intro h; rw [h]
  · rename_i hb
    rw [beq_no] at hb
    split at h
    · rename_i h1 h2
      simp only [Option.some.injEq] at h
      subst h
      obtain ⟨x, i', C, ty, lo, hi', hx, lx, hi'', ho, hz, hs⟩ := plainAt_ok hw h1
      rw [hi] at hi''; cases hi''
      obtain ⟨y, j', D, ty', lo', hj', hy, ly, hj'', ho', hz', hs'⟩ := plainAt_ok hw h2
      rw [hj] at hj''; cases hj''
      have hne : i.blk ≠ j.blk := fun e => hb (hw.inj b c x y i j hx lx hy ly hi hj e)
      have f1 : w.frozen? ⟨i.blk, o + i.d, none⟩ = false := by rw [frozen_at ho]; simp; omega
      have f2 : w.frozen? ⟨j.blk, p + j.d, none⟩ = false := by rw [frozen_at ho']; simp; omega
      have f3 : w.frozen? { block := i.blk, off := C.size } = false := by rw [frozen_at ho]; simp; omega
      have f4 : w.frozen? { block := j.blk, off := D.size } = false := by rw [frozen_at ho']; simp; omega
      have s1 : w.shape? i.blk = some (ty, C.size) := by simp [World.shape?, ho]
      have s2 : w.shape? j.blk = some (ty', D.size) := by simp [World.shape?, ho']
      have hn1 : ∀ g, (noView ⟨i.blk, g, none⟩).run P w = .ok () w := fun g => by simp [noView, viewAt, s1]
      have hn2 : ∀ g, (noView ⟨j.blk, g, none⟩).run P w = .ok () w := fun g => by simp [noView, viewAt, s2]
      have hst1 : (stringish ⟨i.blk, o + i.d, none⟩).run P w = .ok false w := by simp [stringish, f1, s1, f3]
      have hst2 : (stringish ⟨j.blk, p + j.d, none⟩).run P w = .ok false w := by simp [stringish, f2, s2, f4]
      have hm : (mayBeOne ⟨i.blk, o + i.d, none⟩ ⟨j.blk, p + j.d, none⟩).run P w = .ok false w := by
        simp [mayBeOne, hst1, hst2]
      unfold sameAddr
      have hbe : (i.blk == j.blk) = false := by rw [beq_eq_false_iff_ne]; exact hne
      simp [hbe, f1, f2, hn1, hn2, hm]
    · cases h

theorem eqFields_ok {q : TypeId → CV → CV → Option Bool} {d : Nat} {xs ys : List CV} {vx vy : Array Value} (hx : VRels E xs vx.toList) (hy : VRels E ys vy.toList)
    (hq : ∀ t x y u v b, VRel E x u → VRel E y v → q t x y = some b → (Op.equalIn d t u v).run P w = .ok b w) :
    ∀ (fs : List Field) (b : Bool), eqFields P q fs xs ys = some b → (Op.eqFields d vx vy fs).run P w = .ok b w
  | [], b, h => by simp only [eqFields, Option.some.injEq] at h; subst h; simp [Op.eqFields]
  | f :: fs, b, h => by
    simp only [eqFields] at h
    split at h
    · rename_i hn
      simp only [decide_eq_true_eq] at hn
      simp only [Op.eqFields, hn, ne_eq, not_true_eq_false, if_false]
      exact eqFields_ok hx hy hq fs b h
    · rename_i hn
      simp only [decide_eq_false_iff_not] at hn
      split at h
      · rename_i a c ha hc
        obtain ⟨u, hu1, hu2⟩ := part_ok (w := w) hx ha
        obtain ⟨v, hv1, hv2⟩ := part_ok (w := w) hy hc
        simp only [Op.eqFields, hn, ne_eq, not_false_eq_true, if_true, Sem.run_bind, hu1, hv1, Result.andThen_ok]
        split at h
        · rename_i hr
          rw [hq _ _ _ _ _ _ hu2 hv2 hr]
          simpa using eqFields_ok hx hy hq fs b h
        · rename_i hr
          simp only [Option.some.injEq] at h
          subst h
          rw [hq _ _ _ _ _ _ hu2 hv2 hr]
          simp
        · cases h
      · cases h

theorem eqElems_ok {q : CV → CV → Option Bool} {d : Nat} {e : TypeId} {z : Nat} {xs ys : List CV} {vx vy : Array Value} (hx : VRels E xs vx.toList) (hy : VRels E ys vy.toList)
    (hq : ∀ x y u v b, VRel E x u → VRel E y v → q x y = some b → (Op.equalIn d e u v).run P w = .ok b w) :
    ∀ (n i : Nat) (b : Bool), eqElems P q e z xs ys n i = some b → (Op.eqItems d e z vx vy (List.range' i n)).run P w = .ok b w
  | 0, i, b, h => by simp only [eqElems, Option.some.injEq] at h; subst h; simp [Op.eqItems]
  | n + 1, i, b, h => by
    simp only [eqElems] at h
    split at h
    · rename_i a c ha hc
      obtain ⟨u, hu1, hu2⟩ := part_ok (w := w) hx ha
      obtain ⟨v, hv1, hv2⟩ := part_ok (w := w) hy hc
      simp only [List.range'_succ, Op.eqItems, Sem.run_bind, hu1, hv1, Result.andThen_ok]
      split at h
      · rename_i hr
        rw [hq _ _ _ _ _ hu2 hv2 hr]
        simpa using eqElems_ok hx hy hq n (i + 1) b h
      · rename_i hr
        simp only [Option.some.injEq] at h
        subst h
        rw [hq _ _ _ _ _ hu2 hv2 hr]
        simp
      · cases h
    · cases h

theorem sliceRel {E : Env} {b o n c : Nat} {v : Value} (h : VRel E (.slice b o n c) v) : ∃ a m k, v = .slice (some a) m k := by
  simp only [VRel] at h
  obtain ⟨_, _, ⟨_, rfl, _⟩ | ⟨_, rfl, _⟩⟩ := h <;> exact ⟨_, _, _, rfl⟩

theorem eqv_ok (hw : WRel P E s w) : ∀ (d : Nat) (t : TypeId) (x y : CV) (vx vy : Value) (b : Bool), VRel E x vx → VRel E y vy → eqv P s d t x y = some b →
    ∀ d', d ≤ d' → (Op.equalIn d' t vx vy).run P w = .ok b w := by
  intro d
  induction d with
  | zero => intro t x y vx vy b _ _ h; simp [eqv] at h
  | succ d ih =>
    intro t x y vx vy b hx hy h d' hd
    obtain ⟨d', rfl⟩ : ∃ m, d' = m + 1 := ⟨d' - 1, by omega⟩
    have hd2 : d ≤ d' := by omega
    unfold eqv at h
    split at h
    · rename_i hu
      simp only [VRel] at hx hy; subst hx; subst hy
      simp only [Option.some.injEq] at h; subst h
      simp only [Op.equalIn, Sem.run_bind, run_underlying_ok hu, Result.andThen_ok]; rfl
    · rename_i hu
      simp only [VRel] at hx hy; subst hx; subst hy
      split at h
      · rename_i hk
        simp only [Option.some.injEq] at h; subst h
        simp only [Op.equalIn, Sem.run_bind, run_underlying_ok hu, Result.andThen_ok, hk, if_true]; rfl
      · cases h
    · rename_i hu
      simp only [VRel] at hx hy
      obtain ⟨p, rfl, rfl⟩ := hx
      obtain ⟨q, rfl, rfl⟩ := hy
      simp only [Option.some.injEq] at h; subst h
      simp only [Op.equalIn, Sem.run_bind, run_underlying_ok hu, Result.andThen_ok, natsEq_bytes]; rfl
    · rename_i e bb o c p hu
      simp only [VRel] at hx hy
      obtain ⟨i, hi, rfl⟩ := hx
      obtain ⟨j, hj, rfl⟩ := hy
      split at h
      · rename_i z hz
        simp only [Op.equalIn, Sem.run_bind, run_underlying_ok hu, Result.andThen_ok, run_sizeOf_ok hz]
        exact ptrEq_ok hw hi hj h
      · cases h
    all_goals first
      | (rename_i hu
         simp only [VRel] at hx hy
         simp only [Option.some.injEq] at h; subst h
         first
           | (subst hx; subst hy; (simp only [Op.equalIn, Sem.run_bind, run_underlying_ok hu, Result.andThen_ok]; rfl); done)
           | (subst hx; obtain ⟨_, _, rfl⟩ := hy; (simp only [Op.equalIn, Sem.run_bind, run_underlying_ok hu, Result.andThen_ok]; rfl); done)
           | (subst hy; obtain ⟨_, _, rfl⟩ := hx; (simp only [Op.equalIn, Sem.run_bind, run_underlying_ok hu, Result.andThen_ok]; rfl); done)
           | (subst hx; obtain ⟨_, rfl, _⟩ := hy; (simp only [Op.equalIn, Sem.run_bind, run_underlying_ok hu, Result.andThen_ok]; rfl); done)
           | (subst hy; obtain ⟨_, rfl, _⟩ := hx; (simp only [Op.equalIn, Sem.run_bind, run_underlying_ok hu, Result.andThen_ok]; rfl); done)
           | (subst hx; obtain ⟨_, _, rfl, _⟩ := hy; (simp only [Op.equalIn, Sem.run_bind, run_underlying_ok hu, Result.andThen_ok]; rfl); done)
           | (subst hy; obtain ⟨_, _, rfl, _⟩ := hx; (simp only [Op.equalIn, Sem.run_bind, run_underlying_ok hu, Result.andThen_ok]; rfl); done)
           | (subst hx; obtain ⟨_, _, ⟨_, rfl, _⟩ | ⟨_, rfl, _⟩⟩ := hy <;> (simp only [Op.equalIn, Sem.run_bind, run_underlying_ok hu, Result.andThen_ok]; rfl); done)
           | (subst hy; obtain ⟨_, _, ⟨_, rfl, _⟩ | ⟨_, rfl, _⟩⟩ := hx <;> (simp only [Op.equalIn, Sem.run_bind, run_underlying_ok hu, Result.andThen_ok]; rfl); done))
      | skip
    · rename_i hu
      simp only [VRel] at hx hy
      obtain ⟨u, rfl, hu1⟩ := hx
      obtain ⟨v, rfl, hv1⟩ := hy
      split at h
      · rename_i hne
        rw [beq_no] at hne
        simp only [Option.some.injEq] at h; subst h
        simp only [Op.equalIn, Sem.run_bind, run_underlying_ok hu, Result.andThen_ok, ne_eq, hne, not_false_eq_true, if_true]; rfl
      · rename_i heq
        rw [beq_iff] at heq
        subst heq
        split at h
        · rename_i inf hinf
          split at h
          · rename_i hc
            simp only [Op.equalIn, Sem.run_bind, run_underlying_ok hu, Result.andThen_ok, ne_eq, not_true_eq_false, if_false, run_typeInfo_ok hinf, hc, Bool.not_true, Bool.false_eq_true]
            exact ih _ _ _ _ _ _ hu1 hv1 h d' hd2
          · cases h
        · cases h
    · rename_i fs xs ys hu
      simp only [VRel] at hx hy
      obtain ⟨u, rfl, hu1⟩ := hx
      obtain ⟨v, rfl, hv1⟩ := hy
      split at h
      · cases h
      · rename_i hsh
        have hf : P.fieldsOf t = fs := by unfold Program.fieldsOf; rw [hu]
        rw [run_equalIn_struct w d' t u v (by rw [hf]; exact hu) hsh, hf]
        exact eqFields_ok hu1 hv1 (fun t' x' y' u' v' b' h1 h2 h3 => ih t' x' y' u' v' b' h1 h2 h3 d' hd2) _ _ h
    · rename_i n e xs ys hu
      simp only [VRel] at hx hy
      obtain ⟨u, rfl, hu1⟩ := hx
      obtain ⟨v, rfl, hv1⟩ := hy
      split at h
      · rename_i z hz
        obtain ⟨inf, hinf, hsz⟩ := szOf_info hz
        have hc : P.cellsOf e = z := by unfold Program.cellsOf; rw [hinf]; simpa using hsz
        rw [run_equalIn_array w d' u v hu hinf, hc, List.range_eq_range']
        exact eqElems_ok hu1 hv1 (fun x' y' u' v' b' h1 h2 h3 => ih e x' y' u' v' b' h1 h2 h3 d' hd2) _ _ _ h
      · cases h
    · cases h

theorem eqGuard_ok {op : BinOp} {t : TypeId} {xo yo : Operand} {x y : CV} {vx vy : Value} (hx : VRel E x vx) (hy : VRel E y vy) (hop : op = .eql ∨ op = .neq) (h : eqGuard P t xo yo x y = true) :
    (Go.eqGuard op t xo yo vx vy).run P w = .ok () w := by
  unfold eqGuard at h
  split at h
  · simp only [VRel] at hx hy
    subst hx; subst hy
    simp only [Bool.or_eq_true] at h
    rcases h with (h | h) | h
    · rcases hop with rfl | rfl <;> cases xo <;> simp_all [Go.eqGuard]
    · rcases hop with rfl | rfl <;> cases yo <;> simp_all [Go.eqGuard]
    · split at h
      · rename_i ms hu
        have hg' : ∀ d, (Op.eqGuardIn (d + 1) t .nilIface .nilIface).run P w = .ok false w := fun d => by
          simp only [Op.eqGuardIn, Sem.run_bind, run_underlying_ok hu, Result.andThen_ok, Sem.run_pure, h, Bool.not_true]
        have hg : (Op.eqGuardIn Op.maxDepth t .nilIface .nilIface).run P w = .ok false w := hg' 9999
        rcases hop with rfl | rfl <;> cases xo <;> cases yo <;> simp [Go.eqGuard, hg]
      · cases h
  · simp only [VRel] at hx hy
    obtain ⟨u, rfl, _⟩ := hx
    obtain ⟨v, rfl, _⟩ := hy
    simp only [Bool.not_eq_true'] at h
    rcases hop with rfl | rfl <;> simp [Go.eqGuard, h]
  · rename_i h1 h2
    have hno : ∀ (vx vy : Value), (∀ a b, ¬ (vx = .nilIface ∧ vy = .nilIface) ∧ ¬ (vx = .agg a ∧ vy = .agg b)) → (Go.eqGuard op t xo yo vx vy).run P w = .ok () w := by
      intro vx vy hn
      unfold Go.eqGuard
      rcases hop with rfl | rfl <;>
        (simp only []
         cases vx <;> cases vy <;> first
           | rfl
           | exact absurd ⟨rfl, rfl⟩ (hn #[] #[]).1
           | exact absurd ⟨rfl, rfl⟩ (hn _ _).2)
    refine hno vx vy fun a b => ⟨?_, ?_⟩
    · rintro ⟨rfl, rfl⟩
      have hx' : x = .nilIface := by
        cases x <;> simp only [VRel] at hx <;> first
          | rfl
          | (cases hx; done)
          | (obtain ⟨_, hx, _⟩ := hx; cases hx; done)
          | (obtain ⟨_, _, hx⟩ := hx; cases hx; done)
          | (obtain ⟨_, _, hx, _⟩ := hx; cases hx; done)
          | (obtain ⟨_, _, ⟨_, hx, _⟩ | ⟨_, hx, _⟩⟩ := hx <;> cases hx)
      have hy' : y = .nilIface := by
        cases y <;> simp only [VRel] at hy <;> first
          | rfl
          | (cases hy; done)
          | (obtain ⟨_, hy, _⟩ := hy; cases hy; done)
          | (obtain ⟨_, _, hy⟩ := hy; cases hy; done)
          | (obtain ⟨_, _, hy, _⟩ := hy; cases hy; done)
          | (obtain ⟨_, _, ⟨_, hy, _⟩ | ⟨_, hy, _⟩⟩ := hy <;> cases hy)
      exact h1 hx' hy'
    · rintro ⟨rfl, rfl⟩
      have hx' : ∃ l, x = .agg l := by
        cases x <;> simp only [VRel] at hx <;> first
          | exact ⟨_, rfl⟩
          | (cases hx; done)
          | (obtain ⟨_, hx, _⟩ := hx; cases hx; done)
          | (obtain ⟨_, _, hx⟩ := hx; cases hx; done)
          | (obtain ⟨_, _, hx, _⟩ := hx; cases hx; done)
          | (obtain ⟨_, _, ⟨_, hx, _⟩ | ⟨_, hx, _⟩⟩ := hx <;> cases hx)
      have hy' : ∃ l, y = .agg l := by
        cases y <;> simp only [VRel] at hy <;> first
          | exact ⟨_, rfl⟩
          | (cases hy; done)
          | (obtain ⟨_, hy, _⟩ := hy; cases hy; done)
          | (obtain ⟨_, _, hy⟩ := hy; cases hy; done)
          | (obtain ⟨_, _, hy, _⟩ := hy; cases hy; done)
          | (obtain ⟨_, _, ⟨_, hy, _⟩ | ⟨_, hy, _⟩⟩ := hy <;> cases hy)
      obtain ⟨l, rfl⟩ := hx'
      obtain ⟨m, rfl⟩ := hy'
      exact h2 l m rfl rfl

end
end Go.Ae
