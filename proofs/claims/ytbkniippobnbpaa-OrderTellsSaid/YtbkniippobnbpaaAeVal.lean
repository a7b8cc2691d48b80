/-
  Operands, operators, comparisons and conversions: the evaluator's answers are the machine's.
-/
import Derived.Test.YtbkniippobnbpaaAeMem
import Derived.Laws.StructEq
import Derived.Laws.Strings
namespace Go.Ae

section
variable {P : Program} {E : Env} {s : St} {w : World}

structure TRel (E : Env) (τ : Fr) (tm : Array Value) : Prop where
  size : tm.size = τ.n
  get : ∀ t c, τ.t.get t = some c → t < τ.n ∧ VRel E c (tm.getD t undef)

theorem TRel.mono {E E' : Env} (h : E.le E') {τ : Fr} {tm : Array Value} (ht : TRel E τ tm) : TRel E' τ tm :=
  ⟨ht.size, fun t c hc => let ⟨a, b⟩ := ht.get t c hc; ⟨a, VRel.mono h _ _ b⟩⟩

theorem mapO_ok {α : Type} {f : α → Option CV} {g : α → Value} (h : ∀ x c, f x = some c → VRel E c (g x)) : ∀ (l : List α) (cs : List CV), mapO f l = some cs → VRels E cs (l.map g)
  | [], cs, e => by simp only [mapO, Option.some.injEq] at e; subst e; exact VRels.nil
  | x :: l, cs, e => by
    simp only [mapO] at e
    split at e
    · cases e
    · rename_i y hy
      split at e
      · cases e
      · rename_i ys hys
        simp only [Option.some.injEq] at e
        subst e
        exact VRels.cons (h x y hy) (mapO_ok h l ys hys)

theorem mapO_ok' {α : Type} {f : α → Option CV} {g : α → Value} : ∀ (l : List α) (cs : List CV), (∀ x c, x ∈ l → f x = some c → VRel E c (g x)) → mapO f l = some cs → VRels E cs (l.map g)
  | [], cs, _, e => by simp only [mapO, Option.some.injEq] at e; subst e; exact VRels.nil
  | x :: l, cs, h, e => by
    simp only [mapO] at e
    split at e
    · cases e
    · rename_i y hy
      split at e
      · cases e
      · rename_i ys hys
        simp only [Option.some.injEq] at e
        subst e
        exact VRels.cons (h x y (List.mem_cons_self) hy) (mapO_ok' l ys (fun x' c hx => h x' c (List.mem_cons_of_mem _ hx)) hys)

theorem ofV_ok : ∀ (n : Nat) (v : Value) (c : CV), ofV n v = some c → VRel E c v := by
  intro n
  induction n with
  | zero =>
    intro v c h
    unfold ofV at h
    split at h <;> first
      | (cases h; simp only [VRel]; done)
      | (simp only [Option.some.injEq] at h; subst h; simp [VRel]; done)
      | (simp at *; done)
  | succ n ih =>
    intro v c h
    unfold ofV at h
    split at h
    · simp only [Option.some.injEq] at h; subst h; simp [VRel]
    · simp only [Option.some.injEq] at h; subst h; simp [VRel]
    · simp only [Option.some.injEq] at h; subst h; simp [VRel]
    · simp only [Option.some.injEq] at h; subst h; simp [VRel]
    · simp only [Option.some.injEq] at h; subst h; simp [VRel]
    · simp only [Option.some.injEq] at h; subst h; simp [VRel]
    · simp only [Option.some.injEq] at h; subst h; simp [VRel]
    · simp only [Option.some.injEq] at h; subst h; simp [VRel]
    · rename_i m f a b hm
      cases hm
      split at h
      · cases h
      · rename_i x hx
        split at h
        · cases h
        · rename_i y hy
          simp only [Option.some.injEq] at h
          subst h
          simp only [VRel]
          have h1 := mapO_ok (E := E) (g := id) ih _ _ hx
          have h2 := mapO_ok (E := E) (g := id) ih _ _ hy
          exact ⟨a, b, rfl, by simpa using h1, by simpa using h2⟩
    · rename_i m t v hm
      cases hm
      cases hv : ofV n v with
      | none => rw [hv] at h; cases h
      | some y =>
        rw [hv] at h
        simp only [Option.map_some, Option.some.injEq] at h
        subst h
        simp only [VRel]
        exact ⟨v, rfl, ih _ _ hv⟩
    · rename_i m l hm
      cases hm
      cases hv : mapO (ofV n) l.toList with
      | none => rw [hv] at h; cases h
      | some y =>
        rw [hv] at h
        simp only [Option.map_some, Option.some.injEq] at h
        subst h
        simp only [VRel]
        have h1 := mapO_ok (E := E) (g := id) ih _ _ hv
        exact ⟨l, rfl, by simpa using h1⟩
    · rename_i m l hm
      cases hm
      cases hv : mapO (ofV n) l.toList with
      | none => rw [hv] at h; cases h
      | some y =>
        rw [hv] at h
        simp only [Option.map_some, Option.some.injEq] at h
        subst h
        simp only [VRel]
        have h1 := mapO_ok (E := E) (g := id) ih _ _ hv
        exact ⟨l, rfl, by simpa using h1⟩
    · cases h

theorem opd_ok (hw : WRel P E s w) {τ : Fr} {a : Act} (ht : TRel E τ a.tmps) {x : Operand} {c : CV} (h : opd P τ x = some c) : VRel E c (a.eval x) := by
  cases x with
  | tmp t => exact (ht.get t c h).2
  | const v => exact ofV_ok 4 v c h
  | global g =>
    simp only [opd] at h
    split at h
    · rename_i hg
      rw [blt_iff] at hg
      simp only [Option.some.injEq] at h
      subst h
      obtain ⟨i, hi, h1, h2⟩ := hw.glo g hg
      simp only [VRel, Act.eval]
      exact ⟨i, hi, by rw [h1, h2]⟩
    · cases h
  | func f =>
    simp only [opd, Option.some.injEq] at h
    subst h
    simp only [VRel, Act.eval]
    exact ⟨#[], #[], rfl, VRels.nil, VRels.nil⟩

/-! ### Strings as lists of bytes -/

theorem bytesOf_length (a : ByteArray) : (bytesOf a).length = a.size := by
  show (List.map _ a.data.toList).length = a.data.size
  simp

theorem map_toNat_inj : ∀ {x y : List UInt8}, x.map UInt8.toNat = y.map UInt8.toNat → x = y
  | [], [], _ => rfl
  | [], _ :: _, h => by simp at h
  | _ :: _, [], h => by simp at h
  | a :: x, b :: y, h => by
    simp only [List.map_cons, List.cons.injEq] at h
    rw [UInt8.toNat_inj.1 h.1, map_toNat_inj h.2]

theorem bytesOf_inj {a b : ByteArray} (h : bytesOf a = bytesOf b) : a = b := by
  unfold bytesOf at h
  have h1 : a.data.toList = b.data.toList := map_toNat_inj h
  obtain ⟨⟨x⟩⟩ := a
  obtain ⟨⟨y⟩⟩ := b
  simp at h1
  subst h1
  rfl

theorem natsEq_iff : ∀ (x y : List Nat), natsEq x y = true ↔ x = y
  | [], [] => by simp [natsEq]
  | [], _ :: _ => by simp [natsEq]
  | _ :: _, [] => by simp [natsEq]
  | a :: x, b :: y => by
    simp only [natsEq]
    split
    · rename_i h; rw [beq_iff] at h; subst h; rw [natsEq_iff x y]; simp
    · rename_i h; rw [beq_no] at h; simp [h]

theorem toListEq (a b : ByteArray) : (a.toList == b.toList) = natsEq (bytesOf a) (bytesOf b) := by
  rw [Bool.eq_iff_iff, natsEq_iff, beq_iff_eq, ByteArray.toList_eq, ByteArray.toList_eq]
  exact ⟨fun h => by unfold bytesOf; rw [h], map_toNat_inj⟩

theorem natsEq_bytes (a b : ByteArray) : natsEq (bytesOf a) (bytesOf b) = (a == b) := by rw [beq_toListBytes, toListEq]

theorem natsLess_map : ∀ (x y : List UInt8), natsLess (x.map UInt8.toNat) (y.map UInt8.toNat) = Op.bytesLess x y
  | _, [] => by cases ‹List UInt8› <;> rfl
  | [], _ :: _ => rfl
  | a :: x, b :: y => by
    simp only [List.map_cons, natsLess, Op.bytesLess]
    by_cases h : a < b
    · have h1 : Nat.blt a.toNat b.toNat = true := by rw [blt_iff]; exact UInt8.lt_iff_toNat_lt.1 h
      rw [h1]; simp [h]
    · have h1 : Nat.blt a.toNat b.toNat = false := by rw [blt_no]; exact fun h2 => h (UInt8.lt_iff_toNat_lt.2 h2)
      rw [h1]
      by_cases h2 : a = b
      · subst h2
        have h3 : Nat.beq a.toNat a.toNat = true := by rw [beq_iff]
        rw [h3]; simp [natsLess_map x y]
      · have h3 : Nat.beq a.toNat b.toNat = false := by rw [beq_no]; exact fun h4 => h2 (UInt8.toNat_inj.1 h4)
        rw [h3]; simp [h, h2]

theorem natsLess_bytes (a b : ByteArray) : natsLess (bytesOf a) (bytesOf b) = Op.bytesLess a.toList b.toList := by
  rw [ByteArray.toList_eq, ByteArray.toList_eq]; exact natsLess_map _ _

theorem bytesOf_append (a b : ByteArray) : bytesOf (a ++ b) = bytesOf a ++ bytesOf b := by
  simp [bytesOf]

/-! ### Operators -/

theorem bitsV_ok {op : BinOp} {k : IntKind} {x y : Int} {c : CV} (h : bitsV op k x y = some c) : ∃ v, (Op.intBits op k x y).run P w = .ok v w ∧ VRel E c v := by
  unfold bitsV at h
  cases op <;> simp only [okI_eq, Option.some.injEq, reduceCtorEq] at h <;> (subst h; exact ⟨_, rfl, by simp [VRel]⟩)

theorem intOp_ok {op : BinOp} {t : TypeId} {k : IntKind} {x y : Int} {c : CV} (hs : op ≠ .shl) (hs' : op ≠ .shr) (h : intOp op k x y = some c) :
    ∃ v, (binOp op t (.int k x) (.int k y)).run P w = .ok v w ∧ VRel E c v := by
  cases op <;> simp only [intOp, okI_eq, Option.some.injEq, reduceCtorEq] at h <;> first
    | (exact absurd rfl hs)
    | (exact absurd rfl hs')
    | (subst h; exact ⟨_, by simp [binOp, Op.intArith, Op.intCmp]; rfl, by simp [VRel]⟩)
    | skip
  · split at h
    · cases h
    · rename_i hy
      simp only [decide_eq_false_iff_not] at hy
      simp only [Option.some.injEq] at h
      subst h
      exact ⟨_, by simp [binOp, Op.intDiv, hy]; rfl, by simp [VRel]⟩
  · split at h
    · cases h
    · rename_i hy
      simp only [decide_eq_false_iff_not] at hy
      simp only [Option.some.injEq] at h
      subst h
      exact ⟨_, by simp [binOp, Op.intDiv, hy]; rfl, by simp [VRel]⟩
  all_goals
    obtain ⟨v, h1, h2⟩ := bitsV_ok (P := P) (E := E) (w := w) h
    exact ⟨v, by simpa [binOp] using h1, h2⟩

theorem shiftV_ok {op : BinOp} {t : TypeId} {k k' : IntKind} {x y : Int} {c : CV} (h : shiftV op k x y = some c) :
    ∃ v, (binOp op t (.int k x) (.int k' y)).run P w = .ok v w ∧ VRel E c v := by
  unfold shiftV at h
  split at h
  · cases h
  · rename_i hy
    simp only [decide_eq_false_iff_not] at hy
    cases op <;> simp only [okI_eq, Option.some.injEq, reduceCtorEq] at h <;> (subst h; exact ⟨_, by simp [binOp, Op.shift, hy]; rfl, by simp [VRel]⟩)

theorem strOp_ok {op : BinOp} {t : TypeId} {a b : ByteArray} {c : CV} (h : strOp op (bytesOf a) (bytesOf b) = some c) :
    ∃ v, (binOp op t (.string a) (.string b)).run P w = .ok v w ∧ VRel E c v := by
  cases op <;> simp only [strOp, Option.some.injEq, reduceCtorEq] at h
  · split at h
    · rename_i hl
      rw [ble_iff, bytesOf_length, bytesOf_length] at hl
      simp only [Option.some.injEq] at h
      subst h
      refine ⟨.string (a ++ b), ?_, by simp [VRel, bytesOf_append]⟩
      have : ¬ (((a.size + b.size : Nat) : Int) > IntKind.i64.max) := by
        simp only [IntKind.max, IntKind.signed, IntKind.bits]
        omega
      simp only [binOp, Op.stringOp, this, if_false, Sem.run_pure]
    · cases h
  all_goals
    subst h
    refine ⟨_, by simp only [binOp, Op.stringOp]; rfl, ?_⟩
    simp only [VRel, toListEq, natsLess_bytes]

theorem unV_ok {op : UnOp} {x c : CV} {v : Value} (hx : VRel E x v) (h : unV op x = some c) : ∃ u, (Op.unary op v).run P w = .ok u w ∧ VRel E c u := by
  cases op <;> cases x <;> simp only [unV, okI_eq, Option.some.injEq, reduceCtorEq] at h <;> simp only [VRel] at hx <;> subst hx
  · subst h; exact ⟨_, by simp [Op.unary, Op.intArith]; rfl, by simp [VRel]⟩
  · obtain ⟨u, h1, h2⟩ := bitsV_ok (P := P) (E := E) (w := w) h
    exact ⟨u, by simpa [Op.unary] using h1, h2⟩
  · subst h; exact ⟨_, by simp [Op.unary]; rfl, by simp [VRel]⟩

/-! ### Parts of structs and arrays -/

theorem part_ok {t : TypeId} {l : List CV} {vs : Array Value} {off : Nat} {c : CV} (hv : VRels E l vs.toList) (h : part P t l off = some c) :
    ∃ v, (Go.part t vs off).run P w = .ok v w ∧ VRel E c v := by
  unfold part at h
  split at h
  · rename_i ha
    obtain ⟨d, hd⟩ := isAgg_some ha
    split at h
    · rename_i n hn
      simp only [Option.some.injEq] at h
      subst h
      refine ⟨.agg (vs.extract off (off + n)), by simp [Go.part, run_isAgg_ok hd, ha, run_sizeOf_ok hn], ?_⟩
      simp only [VRel]
      refine ⟨_, rfl, ?_⟩
      have := (hv.drop off).take n
      simpa [List.extract_eq_take_drop, Nat.add_sub_cancel_left] using this
    · cases h
  · rename_i ha
    split at h
    · rename_i d hd
      obtain ⟨v, h1, h2⟩ := hv.get off c h
      refine ⟨v, ?_, h2⟩
      simp at h1
      simp [Go.part, run_isAgg_ok hd, ha, h1]
    · cases h

end
end Go.Ae
