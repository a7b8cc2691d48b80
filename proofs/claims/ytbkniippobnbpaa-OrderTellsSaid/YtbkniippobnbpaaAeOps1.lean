/-
  Operators, indexing, slicing, conversions: the evaluator's steps are the machine's.
-/
import Derived.Test.YtbkniippobnbpaaAeEq
import Derived.Laws.BytesString
import Derived.Laws.Slices
namespace Go.Ae

section
variable {P : Program} {E : Env} {s : St} {w : World}

/-- The computation gives the value v and leaves the memory s'. -/
def SOk (P : Program) (E : Env) (s : St) (w : World) (m : Sem Value) (v : CV) (s' : St) : Prop :=
  ∃ u w' E', m.run P w = .ok u w' ∧ Goes P E s w E' s' w' ∧ VRel E' v u

def UOk (P : Program) (E : Env) (s : St) (w : World) (m : Sem Unit) (s' : St) : Prop :=
  ∃ w' E', m.run P w = .ok () w' ∧ Goes P E s w E' s' w'

theorem SOk.pure (hw : WRel P E s w) {m : Sem Value} {v : CV} (h : ∃ u, m.run P w = .ok u w ∧ VRel E v u) : SOk P E s w m v s :=
  let ⟨u, h1, h2⟩ := h
  ⟨u, w, E, h1, Goes.refl hw, h2⟩

theorem guard_ok {op : BinOp} {t : TypeId} {xo yo : Operand} {x y : CV} {vx vy : Value} (hx : VRel E x vx) (hy : VRel E y vy)
    (h : (op = .eql ∨ op = .neq) → eqGuard P t xo yo x y = true) : (Go.eqGuard op t xo yo vx vy).run P w = .ok () w := by
  by_cases hop : op = .eql ∨ op = .neq
  · exact eqGuard_ok hx hy hop (h hop)
  · cases op <;> first
      | rfl
      | exact absurd (.inl rfl) hop
      | exact absurd (.inr rfl) hop

theorem eqlV_ok (hw : WRel P E s w) {t : TypeId} {x y : CV} {vx vy : Value} {b : Bool} (hx : VRel E x vx) (hy : VRel E y vy) (hi : ∀ k a k' b, ¬ (x = .int k a ∧ y = .int k' b)) (hs : ∀ a b, ¬ (x = .str a ∧ y = .str b))
    (h : eqv P s 50 t x y = some b) : (binOp .eql t vx vy).run P w = .ok (.bool b) w ∧ (binOp .neq t vx vy).run P w = .ok (.bool !b) w := by
  have he : (Op.equal t vx vy).run P w = .ok b w := eqv_ok hw 50 t x y vx vy b hx hy h 10000 (by omega)
  have hform : binOp .eql t vx vy = (do Pure.pure (.bool (← Op.equal t vx vy))) ∧ binOp .neq t vx vy = (do Pure.pure (.bool (!(← Op.equal t vx vy)))) := by
    have h1 := hi
    have h2 := hs
    cases x <;> simp only [VRel] at hx <;> first
      | (subst hx; cases y <;> simp only [VRel] at hy <;> first
          | (subst hy; first | exact ⟨rfl, rfl⟩ | exact absurd ⟨rfl, rfl⟩ (h1 _ _ _ _))
          | (obtain ⟨_, rfl, _⟩ := hy; exact ⟨rfl, rfl⟩)
          | (obtain ⟨_, _, rfl⟩ := hy; exact ⟨rfl, rfl⟩)
          | (obtain ⟨_, _, rfl, _⟩ := hy; exact ⟨rfl, rfl⟩)
          | (obtain ⟨_, _, ⟨_, rfl, _⟩ | ⟨_, rfl, _⟩⟩ := hy <;> exact ⟨rfl, rfl⟩))
      | (obtain ⟨_, rfl, _⟩ := hx; cases y <;> simp only [VRel] at hy <;> first
          | (subst hy; exact ⟨rfl, rfl⟩)
          | (obtain ⟨_, rfl, _⟩ := hy; first | exact ⟨rfl, rfl⟩ | exact absurd ⟨rfl, rfl⟩ (h2 _ _))
          | (obtain ⟨_, _, rfl⟩ := hy; exact ⟨rfl, rfl⟩)
          | (obtain ⟨_, _, rfl, _⟩ := hy; exact ⟨rfl, rfl⟩)
          | (obtain ⟨_, _, ⟨_, rfl, _⟩ | ⟨_, rfl, _⟩⟩ := hy <;> exact ⟨rfl, rfl⟩))
      | (obtain ⟨_, _, rfl⟩ := hx; cases y <;> simp only [VRel] at hy <;> first
          | (subst hy; exact ⟨rfl, rfl⟩)
          | (obtain ⟨_, rfl, _⟩ := hy; exact ⟨rfl, rfl⟩)
          | (obtain ⟨_, _, rfl⟩ := hy; exact ⟨rfl, rfl⟩)
          | (obtain ⟨_, _, rfl, _⟩ := hy; exact ⟨rfl, rfl⟩)
          | (obtain ⟨_, _, ⟨_, rfl, _⟩ | ⟨_, rfl, _⟩⟩ := hy <;> exact ⟨rfl, rfl⟩))
      | (obtain ⟨_, _, rfl, _⟩ := hx; cases y <;> simp only [VRel] at hy <;> first
          | (subst hy; exact ⟨rfl, rfl⟩)
          | (obtain ⟨_, rfl, _⟩ := hy; exact ⟨rfl, rfl⟩)
          | (obtain ⟨_, _, rfl⟩ := hy; exact ⟨rfl, rfl⟩)
          | (obtain ⟨_, _, rfl, _⟩ := hy; exact ⟨rfl, rfl⟩)
          | (obtain ⟨_, _, ⟨_, rfl, _⟩ | ⟨_, rfl, _⟩⟩ := hy <;> exact ⟨rfl, rfl⟩))
      | (obtain ⟨_, _, ⟨_, rfl, _⟩ | ⟨_, rfl, _⟩⟩ := hx <;> (cases y <;> simp only [VRel] at hy <;> first
          | (subst hy; exact ⟨rfl, rfl⟩)
          | (obtain ⟨_, rfl, _⟩ := hy; exact ⟨rfl, rfl⟩)
          | (obtain ⟨_, _, rfl⟩ := hy; exact ⟨rfl, rfl⟩)
          | (obtain ⟨_, _, rfl, _⟩ := hy; exact ⟨rfl, rfl⟩)
          | (obtain ⟨_, _, ⟨_, rfl, _⟩ | ⟨_, rfl, _⟩⟩ := hy <;> exact ⟨rfl, rfl⟩)))
  rw [hform.1, hform.2]
  exact ⟨by simp [he], by simp [he]⟩

theorem binV_ok (hw : WRel P E s w) {op : BinOp} {t : TypeId} {xo yo : Operand} {x y c : CV} {vx vy : Value} (hx : VRel E x vx) (hy : VRel E y vy) (h : binV P s op t xo yo x y = some c) :
    ∃ u, (do Go.eqGuard op t xo yo vx vy; binOp op t vx vy : Sem Value).run P w = .ok u w ∧ VRel E c u := by
  unfold binV at h
  split at h
  · rename_i k a k' b
    have hg : (Go.eqGuard op t xo yo vx vy).run P w = .ok () w := guard_ok hx hy fun _ => rfl
    simp only [VRel] at hx hy
    subst hx; subst hy
    simp only [Sem.run_bind, hg, Result.andThen_ok]
    split at h
    · exact shiftV_ok h
    · exact shiftV_ok h
    · rename_i h1 h2
      split at h
      · rename_i hk
        subst hk
        exact intOp_ok h1 h2 h
      · cases h
  · rename_i a b
    have hg : (Go.eqGuard op t xo yo vx vy).run P w = .ok () w := guard_ok hx hy fun _ => rfl
    simp only [VRel] at hx hy
    obtain ⟨p, rfl, rfl⟩ := hx
    obtain ⟨q, rfl, rfl⟩ := hy
    simp only [Sem.run_bind, hg, Result.andThen_ok]
    exact strOp_ok h
  · rename_i h1 h2
    split at h
    · split at h
      · rename_i hgd
        cases he : eqv P s 50 t x y with
        | none => rw [he] at h; cases h
        | some b =>
          rw [he] at h
          simp only [Option.map_some, Option.some.injEq] at h
          subst h
          have hg : (Go.eqGuard .eql t xo yo vx vy).run P w = .ok () w := guard_ok hx hy fun _ => hgd
          simp only [Sem.run_bind, hg, Result.andThen_ok]
          exact ⟨_, (eqlV_ok hw hx hy (fun k a k' b hh => h1 k a k' b hh.1 hh.2) (fun a b hh => h2 a b hh.1 hh.2) he).1, by simp [VRel]⟩
      · cases h
    · split at h
      · rename_i hgd
        cases he : eqv P s 50 t x y with
        | none => rw [he] at h; cases h
        | some b =>
          rw [he] at h
          simp only [Option.map_some, Option.some.injEq] at h
          subst h
          have hg : (Go.eqGuard .neq t xo yo vx vy).run P w = .ok () w := guard_ok hx hy fun _ => hgd
          simp only [Sem.run_bind, hg, Result.andThen_ok]
          exact ⟨_, (eqlV_ok hw hx hy (fun k a k' b hh => h1 k a k' b hh.1 hh.2) (fun a b hh => h2 a b hh.1 hh.2) he).2, by simp [VRel]⟩
      · cases h
    · cases h

/-! ### Indexing -/

theorem indexAt_ok {t : TypeId} {x i c : CV} {vx vi : Value} (hx : VRel E x vx) (hi : VRel E i vi) (h : indexAt P t x i = some c) :
    ∃ u, (Instr.indexAt t vx vi).run P w = .ok u w ∧ VRel E c u := by
  unfold indexAt at h
  split at h
  · rename_i k i
    simp only [VRel] at hi
    subst hi
    split at h
    · rename_i n e b o hu
      split at h
      · rename_i z hz h0 h1
        simp only [decide_eq_true_eq] at h0 h1
        simp only [fnat_eq, Option.some.injEq] at h
        subst h
        simp only [VRel] at hx
        obtain ⟨j, hj, rfl⟩ := hx
        refine ⟨.pointer (some (Addr.add ⟨j.blk, o + j.d, none⟩ (i.toNat * z))), ?_, ?_⟩
        · simp [Instr.indexAt, asIntOf, run_underlying_ok hu, Instr.sureAddr, h0, h1, run_sizeOf_ok hz]
        · simp only [VRel, Addr.add_plain]
          exact ⟨j, hj, by congr 3; omega⟩
      · cases h
    · rename_i e b o n cc hu
      split at h
      · rename_i z hz h0 h1
        simp only [decide_eq_true_eq] at h0 h1
        simp only [fnat_eq, Option.some.injEq] at h
        subst h
        simp only [VRel] at hx
        obtain ⟨j, hj, hx⟩ := hx
        obtain ⟨c', rfl, _⟩ | ⟨a, rfl, _, rfl, _⟩ := hx
        · refine ⟨.pointer (some (Addr.add ⟨j.blk, o + j.d, none⟩ (i.toNat * z))), ?_, ?_⟩
          · simp [Instr.indexAt, asIntOf, run_underlying_ok hu, h0, h1, run_sizeOf_ok hz]
          · simp only [VRel, Addr.add_plain]
            exact ⟨j, hj, by congr 3; omega⟩
        · omega
      · cases h
    · cases h
  · cases h

theorem indexV_ok {t : TypeId} {x i c : CV} {vx vi : Value} (hx : VRel E x vx) (hi : VRel E i vi) (h : indexV P t x i = some c) :
    ∃ u, (Instr.index t vx vi).run P w = .ok u w ∧ VRel E c u := by
  unfold indexV at h
  split at h
  · rename_i k i
    simp only [VRel] at hi
    subst hi
    split at h
    · rename_i n e cs hu
      split at h
      · rename_i z hz h0 h1
        simp only [decide_eq_true_eq] at h0 h1
        simp only [VRel] at hx
        obtain ⟨vs, rfl, hvs⟩ := hx
        obtain ⟨u, h2, h3⟩ := part_ok (w := w) hvs h
        exact ⟨u, by simp [Instr.index, asIntOf, run_underlying_ok hu, h0, h1, run_sizeOf_ok hz, h2], h3⟩
      · cases h
    · rename_i l hu
      split at h
      · rename_i h0
        simp only [decide_eq_true_eq] at h0
        simp only [VRel] at hx
        obtain ⟨a, rfl, rfl⟩ := hx
        split at h
        · rename_i b hb
          simp only [Option.some.injEq] at h
          subst h
          unfold bytesOf at hb
          rw [List.getElem?_map] at hb
          cases hq : a.data.toList[i.toNat]? with
          | none => rw [hq] at hb; cases hb
          | some q =>
            rw [hq] at hb
            simp only [Option.map_some, Option.some.injEq] at hb
            subst hb
            have hlt : i.toNat < a.size := by
              have := (List.getElem?_eq_some_iff.1 hq).1
              simpa using this
            have hget : a[i.toNat]? = some q := by
              rw [getElem?_pos a i.toNat hlt]
              have h9 := (List.getElem?_eq_some_iff.1 hq).2
              simp only [Array.getElem_toList] at h9
              rw [← h9]; rfl
            refine ⟨.int .u8 q.toNat, ?_, by simp [VRel]⟩
            simp [Instr.index, asIntOf, run_underlying_ok hu, h0, hget]
        · cases h
      · cases h
    · cases h
  · cases h

/-! ### Slicing -/

theorem bound_ok {x : Option CV} {vx : Option Value} {d top r : Nat} {code : BoundsCode} (hx : (x = none ∧ vx = none) ∨ ∃ c v, x = some c ∧ vx = some v ∧ VRel E c v) (h : bound x d top = some r) :
    (x = none ∧ r = d ∧ vx = none) ∨ (∃ v, vx = some v ∧ r ≤ top ∧ (Instr.sliceBound v top code).run P w = .ok r w) := by
  unfold bound at h
  split at h
  · simp only [Option.some.injEq] at h
    subst h
    rcases hx with ⟨_, rfl⟩ | ⟨_, _, h1, _⟩
    · exact .inl ⟨rfl, rfl, rfl⟩
    · cases h1
  · rename_i k i
    split at h
    · rename_i h0 h1
      simp only [decide_eq_true_eq] at h0 h1
      simp only [fnat_eq, Option.some.injEq] at h
      subst h
      rcases hx with ⟨h2, _⟩ | ⟨c, v, h2, rfl, h3⟩
      · cases h2
      · simp only [Option.some.injEq] at h2
        subst h2
        simp only [VRel] at h3
        subst h3
        exact .inr ⟨_, rfl, by omega, by simp [Instr.sliceBound, asIntOf, h0, h1]⟩
    · cases h
  · cases h

def ORelO (E : Env) (x : Option CV) (vx : Option Value) : Prop := (x = none ∧ vx = none) ∨ ∃ c v, x = some c ∧ vx = some v ∧ VRel E c v

theorem bounds_ok {isS : Bool} {len cap c' : Nat} {lo hi mx : Option CV} {vlo vhi vmx : Option Value} (hlo : ORelO E lo vlo) (hhi : ORelO E hi vhi) (hmx : ORelO E mx vmx)
    {m h a : Nat} (h1 : bound mx cap cap = some m) (h2 : bound hi len m = some h) (h3 : bound lo 0 h = some a) (hc : cap ≤ c') (hhm : mx = none ∨ hi ≠ none) :
    ∃ m', (Instr.sliceBounds isS len c' vlo vhi vmx).run P w = .ok (a, h, m') w ∧ a ≤ h ∧ ((mx = none ∧ m = cap ∧ m' = c') ∨ (m' = m ∧ m ≤ cap)) ∧ (hi = none → h = len) ∧ (hi ≠ none → h ≤ m) := by
  have hm : ∃ m', (match (generalizing := false) vmx with
      | some v => Instr.sliceBound v c' (if isS then .slice3Acap else .slice3Alen)
      | none => Pure.pure c' : Sem Nat).run P w = .ok m' w ∧ m ≤ m' ∧ ((mx = none ∧ m = cap ∧ m' = c') ∨ (m' = m ∧ m ≤ cap)) := by
    unfold bound at h1
    split at h1
    · rcases hmx with ⟨_, rfl⟩ | ⟨_, _, h9, _⟩
      · simp only [Option.some.injEq] at h1
        exact ⟨c', by simp, by omega, .inl ⟨rfl, h1.symm, rfl⟩⟩
      · cases h9
    · rename_i k i
      split at h1
      · rename_i h0 h9
        simp only [decide_eq_true_eq] at h0 h9
        simp only [fnat_eq, Option.some.injEq] at h1
        subst h1
        rcases hmx with ⟨h8, _⟩ | ⟨c, v, h8, rfl, h7⟩
        · cases h8
        · simp only [Option.some.injEq] at h8
          subst h8
          simp only [VRel] at h7
          subst h7
          have : i ≤ (c' : Int) := by omega
          refine ⟨i.toNat, ?_, Nat.le_refl _, .inr ⟨rfl, by omega⟩⟩
          simp [Instr.sliceBound, asIntOf, h0, this]
      · cases h1
    · cases h1
  obtain ⟨m', hm1, hm2, hm3⟩ := hm
  have hh : (match (generalizing := false) vhi, vmx with
      | some v, some _ => Instr.sliceBound v m' .slice3B
      | some v, none => Instr.sliceBound v m' (if isS then .sliceAcap else .sliceAlen)
      | none, none => Pure.pure len
      | none, some _ => stuck "Slice: max without high" : Sem Nat).run P w = .ok h w ∧ (hi = none → h = len) ∧ (hi ≠ none → h ≤ m) := by
    unfold bound at h2
    split at h2
    · rcases hhi with ⟨_, rfl⟩ | ⟨_, _, h9, _⟩
      · rcases hhm with rfl | hhm
        · rcases hmx with ⟨_, rfl⟩ | ⟨_, _, h9, _⟩
          · simp only [Option.some.injEq] at h2
            subst h2
            exact ⟨by simp, fun _ => rfl, fun hn => absurd rfl hn⟩
          · cases h9
        · exact absurd rfl hhm
      · cases h9
    · rename_i k i
      split at h2
      · rename_i h0 h9
        simp only [decide_eq_true_eq] at h0 h9
        simp only [fnat_eq, Option.some.injEq] at h2
        subst h2
        rcases hhi with ⟨h8, _⟩ | ⟨c, v, h8, rfl, h7⟩
        · cases h8
        · simp only [Option.some.injEq] at h8
          subst h8
          simp only [VRel] at h7
          subst h7
          have : i ≤ (m' : Int) := by omega
          refine ⟨?_, fun hn => (by cases hn), fun _ => by omega⟩
          rcases hmx with ⟨_, rfl⟩ | ⟨_, _, _, rfl, _⟩ <;> simp [Instr.sliceBound, asIntOf, h0, this]
      · cases h2
    · cases h2
  obtain ⟨hh1, hh2, hh3⟩ := hh
  have ha : ∀ code, (match (generalizing := false) vlo with
      | some v => Instr.sliceBound v h code
      | none => Pure.pure 0 : Sem Nat).run P w = .ok a w ∧ a ≤ h := by
    intro code
    unfold bound at h3
    split at h3
    · rcases hlo with ⟨_, rfl⟩ | ⟨_, _, h9, _⟩
      · simp only [Option.some.injEq] at h3
        subst h3
        exact ⟨by simp, by omega⟩
      · cases h9
    · rename_i k i
      split at h3
      · rename_i h0 h9
        simp only [decide_eq_true_eq] at h0 h9
        simp only [fnat_eq, Option.some.injEq] at h3
        subst h3
        rcases hlo with ⟨h8, _⟩ | ⟨c, v, h8, rfl, h7⟩
        · cases h8
        · simp only [Option.some.injEq] at h8
          subst h8
          simp only [VRel] at h7
          subst h7
          exact ⟨by simp [Instr.sliceBound, asIntOf, h0, h9], by omega⟩
      · cases h3
    · cases h3
  refine ⟨m', ?_, (ha .sliceB).2, hm3, hh2, hh3⟩
  have ha0 := (ha .sliceB).1
  have ha1 := (ha .slice3C).1
  clear ha h1 h2 h3 hlo hhi hmx hm3 hh2 hh3 hhm hc hm2
  unfold Instr.sliceBounds
  cases vmx <;> cases vhi <;> cases vlo <;>
    simp only [Sem.run_bind, Sem.run_pure, Option.isSome, Bool.false_eq_true, if_false, if_true, Result.andThen_ok] at hm1 hh1 ha0 ha1 ⊢ <;>
    first
      | (simp only [run_stuck] at hh1; cases hh1; done)
      | (simp [hm1, hh1, ha0, ha1]; done)
      | (simp only [Result.ok.injEq, and_true] at hm1 hh1 ha0 ha1; simp [hm1, hh1, ha0, ha1]; done)
      | simp_all

end
end Go.Ae
