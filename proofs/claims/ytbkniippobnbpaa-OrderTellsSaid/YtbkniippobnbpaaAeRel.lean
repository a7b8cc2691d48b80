/-
  The relation between the evaluator's memory and a world of the machine, and what keeps it.
-/
import Derived.Test.YtbkniippobnbpaaAe
import Derived.Laws.Sem
import Derived.Laws.World
import Derived.Below
namespace Go.Ae

/-! ### Tries -/
namespace T
variable {α : Type}

@[simp] theorem get_nil (i : Nat) : (T.nil : T α).get i = none := rfl

theorem get_node (l : T α) (v : Option α) (r : T α) (i : Nat) :
    (T.node l v r).get i = if i = 0 then v else if i % 2 = 1 then l.get (i / 2) else r.get (i / 2 - 1) := by
  show (bif Nat.beq i 0 then v else bif Nat.beq (i % 2) 1 then l.get (i / 2) else r.get (i / 2 - 1)) = _
  by_cases h : i = 0
  · subst h; rfl
  · have h1 : Nat.beq i 0 = false := by rw [Bool.eq_false_iff]; intro h2; exact h (Nat.eq_of_beq_eq_true h2)
    rw [h1, if_neg h]
    by_cases h2 : i % 2 = 1
    · rw [if_pos h2, h2]; rfl
    · have h3 : Nat.beq (i % 2) 1 = false := by rw [Bool.eq_false_iff]; intro h4; exact h2 (Nat.eq_of_beq_eq_true h4)
      rw [if_neg h2, h3]; rfl

theorem setF_succ (f : Nat) (t : T α) (i : Nat) (x : α) : ∃ l v r, (∀ j, t.get j = (T.node l v r).get j) ∧
    T.setF (f + 1) t i x = if i = 0 then .node l (some x) r else if i % 2 = 1 then .node (setF f l (i / 2) x) v r else .node l v (setF f r (i / 2 - 1) x) := by
  cases t with
  | nil =>
    refine ⟨.nil, none, .nil, fun j => by rw [get_node]; simp, ?_⟩
    show (bif Nat.beq i 0 then T.node .nil (some x) .nil else bif Nat.beq (i % 2) 1 then .node (setF f .nil (i / 2) x) none .nil else .node .nil none (setF f .nil (i / 2 - 1) x)) = _
    by_cases h : i = 0
    · subst h; rfl
    · have h1 : Nat.beq i 0 = false := by rw [Bool.eq_false_iff]; intro h2; exact h (Nat.eq_of_beq_eq_true h2)
      rw [h1, if_neg h]
      by_cases h2 : i % 2 = 1
      · rw [if_pos h2, h2]; rfl
      · have h3 : Nat.beq (i % 2) 1 = false := by rw [Bool.eq_false_iff]; intro h4; exact h2 (Nat.eq_of_beq_eq_true h4)
        rw [if_neg h2, h3]; rfl
  | node l v r =>
    refine ⟨l, v, r, fun j => rfl, ?_⟩
    show (bif Nat.beq i 0 then T.node l (some x) r else bif Nat.beq (i % 2) 1 then .node (setF f l (i / 2) x) v r else .node l v (setF f r (i / 2 - 1) x)) = _
    by_cases h : i = 0
    · subst h; rfl
    · have h1 : Nat.beq i 0 = false := by rw [Bool.eq_false_iff]; intro h2; exact h (Nat.eq_of_beq_eq_true h2)
      rw [h1, if_neg h]
      by_cases h2 : i % 2 = 1
      · rw [if_pos h2, h2]; rfl
      · have h3 : Nat.beq (i % 2) 1 = false := by rw [Bool.eq_false_iff]; intro h4; exact h2 (Nat.eq_of_beq_eq_true h4)
        rw [if_neg h2, h3]; rfl

theorem get_setF : ∀ (f : Nat) (t : T α) (i j : Nat) (x : α), i < f → (T.setF f t i x).get j = if j = i then some x else t.get j := by
  intro f
  induction f with
  | zero => intro t i j x h; omega
  | succ f ih =>
    intro t i j x h
    obtain ⟨l, v, r, ht, hs⟩ := setF_succ f t i x
    rw [hs, ht j]
    by_cases hi : i = 0
    · subst hi
      rw [if_pos rfl, get_node, get_node]
      by_cases hj : j = 0
      · subst hj; simp
      · rw [if_neg hj, if_neg hj, if_neg hj]
    · rw [if_neg hi]
      by_cases hm : i % 2 = 1
      · rw [if_pos hm, get_node, get_node]
        by_cases hj : j = 0
        · subst hj; rw [if_pos rfl, if_pos rfl, if_neg (by omega)]
        · rw [if_neg hj, if_neg hj]
          by_cases hjm : j % 2 = 1
          · rw [if_pos hjm, if_pos hjm, ih _ _ _ _ (by omega)]
            by_cases e : j = i
            · subst e; simp
            · rw [if_neg e, if_neg (by omega)]
          · rw [if_neg hjm, if_neg hjm, if_neg (by omega)]
      · rw [if_neg hm, get_node, get_node]
        by_cases hj : j = 0
        · subst hj; rw [if_pos rfl, if_pos rfl, if_neg (by omega)]
        · rw [if_neg hj, if_neg hj]
          by_cases hjm : j % 2 = 1
          · rw [if_pos hjm, if_pos hjm, if_neg (by omega)]
          · rw [if_neg hjm, if_neg hjm, ih _ _ _ _ (by omega)]
            by_cases e : j = i
            · subst e; simp
            · rw [if_neg e, if_neg (by omega)]

theorem get_set (t : T α) (i j : Nat) (x : α) : (t.set i x).get j = if j = i then some x else t.get j :=
  get_setF (i + 1) t i j x (by omega)

@[simp] theorem get_set_same (t : T α) (i : Nat) (x : α) : (t.set i x).get i = some x := by rw [get_set, if_pos rfl]
theorem get_set_ne (t : T α) {i j : Nat} (x : α) (h : j ≠ i) : (t.set i x).get j = t.get j := by rw [get_set, if_neg h]

theorem get_tabF : ∀ (f n : Nat) (g : Nat → α) (i : Nat), n ≤ f → (T.tabF f n g).get i = if i < n then some (g i) else none := by
  intro f
  induction f with
  | zero =>
    intro n g i h
    cases n with
    | zero => rw [if_neg (by omega)]; rfl
    | succ n => omega
  | succ f ih =>
    intro n g i h
    cases n with
    | zero => simp [tabF]
    | succ m =>
      show (T.node (tabF f ((m + 1) / 2) fun k => g (2 * k + 1)) (some (g 0)) (tabF f (m / 2) fun k => g (2 * k + 2))).get i = _
      rw [get_node]
      by_cases hi : i = 0
      · subst hi; simp
      · rw [if_neg hi]
        by_cases hm : i % 2 = 1
        · rw [if_pos hm, ih _ _ _ (by omega)]
          by_cases hlt : i < m + 1
          · rw [if_pos hlt, if_pos (by omega)]; congr 2; omega
          · rw [if_neg hlt, if_neg (by omega)]
        · rw [if_neg hm, ih _ _ _ (by omega)]
          by_cases hlt : i < m + 1
          · rw [if_pos hlt, if_pos (by omega)]; congr 2; omega
          · rw [if_neg hlt, if_neg (by omega)]

theorem get_tab (n : Nat) (g : Nat → α) (i : Nat) : (T.tab n g).get i = if i < n then some (g i) else none := get_tabF n n g i (Nat.le_refl _)

end T

@[simp] theorem fnat_eq {α : Type} (n : Nat) (k : Nat → α) : fnat n k = k n := by cases n <;> rfl
@[simp] theorem fint_eq {α : Type} (n : Int) (k : Int → α) : fint n k = k n := by cases n <;> simp [fint]
@[simp] theorem okI_eq (k : IntKind) (n : Int) : okI k n = some (.int k n) := by simp [okI]

theorem beq_iff (a b : Nat) : Nat.beq a b = true ↔ a = b := ⟨Nat.eq_of_beq_eq_true, fun h => by subst h; exact Nat.beq_refl a⟩
theorem beq_no {a b : Nat} : Nat.beq a b = false ↔ a ≠ b := by rw [← Bool.not_eq_true, beq_iff]
theorem blt_iff (a b : Nat) : Nat.blt a b = true ↔ a < b := by simp [Nat.blt, Nat.ble_eq, Nat.lt_iff_add_one_le]
theorem blt_no (a b : Nat) : Nat.blt a b = false ↔ ¬ a < b := by rw [← Bool.not_eq_true, blt_iff]
theorem ble_iff (a b : Nat) : Nat.ble a b = true ↔ a ≤ b := by simp [Nat.ble_eq]
theorem ble_no (a b : Nat) : Nat.ble a b = false ↔ ¬ a ≤ b := by rw [← Bool.not_eq_true, ble_iff]

/-! ### Values -/

/-- Where a block of the evaluator lies: the machine's block, the shift of its cells, how many, whether the capacity is known, the cells an element, the cells of the machine's block. -/
structure BI where
  blk : Nat
  d : Nat
  n : Nat
  ex : Bool
  esz : Nat
  tot : Nat

abbrev Env := Nat → Option BI

mutual
def VRel (E : Env) : CV → Value → Prop
  | .bool b, v => v = .bool b
  | .int k n, v => v = .int k n
  | .str l, v => ∃ s, v = .string s ∧ bytesOf s = l
  | .ptr b o, v => ∃ i, E b = some i ∧ v = .pointer (some ⟨i.blk, o + i.d, none⟩)
  | .nilptr, v => v = .pointer none
  | .slice b o n c, v => ∃ i, E b = some i ∧
      ((∃ c', v = .slice (some ⟨i.blk, o + i.d, none⟩) n c' ∧ n ≤ c ∧ (c' = c ∨ (i.ex = false ∧ o + c * i.esz = i.n ∧ c ≤ c' ∧ o + i.d + c' * i.esz ≤ i.tot))) ∨
       (∃ a, v = .slice (some a) 0 0 ∧ a.spot = none ∧ n = 0 ∧ c = 0))
  | .nilslice, v => v = .slice none 0 0
  | .map b, v => ∃ i, E b = some i ∧ v = .map (some i.blk)
  | .nilmap, v => v = .map none
  | .func fn a b, v => ∃ x y, v = .func fn x y ∧ VRels E a x.toList ∧ VRels E b y.toList
  | .nilFunc, v => v = .nilFunc
  | .iface t c, v => ∃ u, v = .iface t u ∧ VRel E c u
  | .nilIface, v => v = .nilIface
  | .agg l, v => ∃ x, v = .agg x ∧ VRels E l x.toList
  | .tuple l, v => ∃ x, v = .tuple x ∧ VRels E l x.toList
def VRels (E : Env) : List CV → List Value → Prop
  | [], vs => vs = []
  | c :: l, vs => ∃ v r, vs = v :: r ∧ VRel E c v ∧ VRels E l r
end

def Env.le (E E' : Env) : Prop := ∀ b i, E b = some i → E' b = some i
theorem Env.le_refl (E : Env) : E.le E := fun _ _ h => h
theorem Env.le_trans {E F G : Env} (h : E.le F) (k : F.le G) : E.le G := fun b i e => k b i (h b i e)

mutual
theorem VRel.mono {E E' : Env} (h : E.le E') : ∀ (c : CV) (v : Value), VRel E c v → VRel E' c v
  | .bool _, _, r | .int _ _, _, r | .nilptr, _, r | .nilslice, _, r | .nilmap, _, r | .nilFunc, _, r | .nilIface, _, r => by simpa only [VRel] using r
  | .str _, _, r => by simpa only [VRel] using r
  | .ptr _ _, _, r => by
    simp only [VRel] at r ⊢
    obtain ⟨i, hi, e⟩ := r
    exact ⟨i, h _ _ hi, e⟩
  | .slice _ _ _ _, _, r => by
    simp only [VRel] at r ⊢
    obtain ⟨i, hi, e⟩ := r
    exact ⟨i, h _ _ hi, e⟩
  | .map _, _, r => by
    simp only [VRel] at r ⊢
    obtain ⟨i, hi, e⟩ := r
    exact ⟨i, h _ _ hi, e⟩
  | .func _ a b, _, r => by
    simp only [VRel] at r ⊢
    obtain ⟨x, y, e, r1, r2⟩ := r
    exact ⟨x, y, e, VRels.mono h a _ r1, VRels.mono h b _ r2⟩
  | .iface _ c, _, r => by
    simp only [VRel] at r ⊢
    obtain ⟨u, e, r1⟩ := r
    exact ⟨u, e, VRel.mono h c u r1⟩
  | .agg l, _, r => by
    simp only [VRel] at r ⊢
    obtain ⟨x, e, r1⟩ := r
    exact ⟨x, e, VRels.mono h l _ r1⟩
  | .tuple l, _, r => by
    simp only [VRel] at r ⊢
    obtain ⟨x, e, r1⟩ := r
    exact ⟨x, e, VRels.mono h l _ r1⟩
theorem VRels.mono {E E' : Env} (h : E.le E') : ∀ (l : List CV) (vs : List Value), VRels E l vs → VRels E' l vs
  | [], _, r => by simpa only [VRels] using r
  | c :: l, _, r => by
    simp only [VRels] at r ⊢
    obtain ⟨v, s, e, r1, r2⟩ := r
    exact ⟨v, s, e, VRel.mono h c v r1, VRels.mono h l s r2⟩
end

theorem VRels.length {E : Env} : ∀ {l : List CV} {vs : List Value}, VRels E l vs → vs.length = l.length
  | [], _, h => by simp only [VRels] at h; subst h; rfl
  | _ :: l, _, h => by
    simp only [VRels] at h
    obtain ⟨v, r, rfl, _, h2⟩ := h
    simp [VRels.length h2]

theorem VRels.get {E : Env} : ∀ {l : List CV} {vs : List Value} (i : Nat) (c : CV), VRels E l vs → l[i]? = some c → ∃ v, vs[i]? = some v ∧ VRel E c v
  | [], _, i, c, _, hc => by simp at hc
  | x :: l, _, i, c, h, hc => by
    simp only [VRels] at h
    obtain ⟨v, r, rfl, h1, h2⟩ := h
    cases i with
    | zero => simp at hc; subst hc; exact ⟨v, rfl, h1⟩
    | succ i => simp at hc; obtain ⟨u, hu, h3⟩ := VRels.get i c h2 hc; exact ⟨u, by simpa using hu, h3⟩

theorem VRels.append {E : Env} : ∀ {l m : List CV} {vs us : List Value}, VRels E l vs → VRels E m us → VRels E (l ++ m) (vs ++ us)
  | [], _, _, _, h, k => by simp only [VRels] at h; subst h; exact k
  | _ :: l, m, _, us, h, k => by
    simp only [VRels] at h
    obtain ⟨v, r, rfl, h1, h2⟩ := h
    show VRels E (_ :: (l ++ m)) (v :: (r ++ us))
    simp only [VRels]
    exact ⟨v, _, rfl, h1, VRels.append h2 k⟩

theorem VRels.mk {E : Env} : ∀ {l : List CV} {vs : List Value}, vs.length = l.length → (∀ (i : Nat) (c : CV) (v : Value), l[i]? = some c → vs[i]? = some v → VRel E c v) → VRels E l vs
  | [], vs, hl, _ => by simp only [VRels]; exact List.eq_nil_of_length_eq_zero hl
  | c :: l, [], hl, _ => by simp at hl
  | c :: l, v :: vs, hl, h => by
    simp only [VRels]
    exact ⟨v, vs, rfl, h 0 c v rfl rfl, VRels.mk (by simpa using hl) fun i c' v' hc hv => h (i + 1) c' v' (by simpa using hc) (by simpa using hv)⟩

theorem VRels.take {E : Env} {l : List CV} {vs : List Value} (n : Nat) (h : VRels E l vs) : VRels E (l.take n) (vs.take n) := by
  refine VRels.mk (by simp [h.length]) fun i c v hc hv => ?_
  rw [List.getElem?_take] at hc hv
  split at hc <;> simp_all
  obtain ⟨u, hu, hr⟩ := h.get i c hc
  rw [hv] at hu; cases hu; exact hr

theorem VRels.drop {E : Env} {l : List CV} {vs : List Value} (n : Nat) (h : VRels E l vs) : VRels E (l.drop n) (vs.drop n) := by
  refine VRels.mk (by simp [h.length]) fun i c v hc hv => ?_
  rw [List.getElem?_drop] at hc hv
  obtain ⟨u, hu, hr⟩ := h.get _ c hc
  rw [hv] at hu; cases hu; exact hr

theorem VRels.cons {E : Env} {c : CV} {l : List CV} {v : Value} {vs : List Value} (h : VRel E c v) (k : VRels E l vs) : VRels E (c :: l) (v :: vs) := by
  simp only [VRels]; exact ⟨v, vs, rfl, h, k⟩

theorem VRels.nil {E : Env} : VRels E [] [] := by simp only [VRels]

/-! ### Memory -/

def live : CObj → Bool
  | .dead => false
  | _ => true

/-- Never written by the evaluator. -/
def ro : CObj → Bool
  | .cells _ n true _ lim true _ => Nat.ble n lim
  | _ => false

def MRel (E : Env) : List (CV × CV × Nat) → List MapEntry → Prop
  | [], es => es = []
  | (k, v, b) :: l, es => ∃ e r, es = e :: r ∧ VRel E k e.key ∧ VRel E v e.val ∧ e.born = b ∧ MRel E l r

theorem MRel.mono {E E' : Env} (h : E.le E') : ∀ {l : List (CV × CV × Nat)} {es : List MapEntry}, MRel E l es → MRel E' l es
  | [], _, r => r
  | (_, _, _) :: _, _, r => by
    obtain ⟨e, s, he, h1, h2, h3, h4⟩ := r
    exact ⟨e, s, he, VRel.mono h _ _ h1, VRel.mono h _ _ h2, h3, MRel.mono h h4⟩

def ORel (E : Env) (i : BI) : CObj → Obj → Prop
  | .cells cs n ex esz lim sg ty, o => i.n = n ∧ i.ex = ex ∧ i.esz = esz ∧ ∃ C lo hi, o = .cells C ty (lo, hi) ∧ i.tot = C.size ∧ i.d + n ≤ C.size ∧
      (ex = true → i.d = 0 ∧ n = C.size) ∧ (∀ j c, cs.get j = some c → j < n ∧ ∃ v, C[i.d + j]? = some v ∧ VRel E c v) ∧
      (∀ x, x < C.size → lo ≤ x → x < hi → x < i.d + lim) ∧ (sg = false → lo = hi ∨ hi ≤ i.d + lim)
  | .map es ck, o => ∃ ES, o = .map ES ck ∧ MRel E es ES.toList
  | .iter l pos, o => ∃ s, o = .stringIter s pos ∧ (bytesOf s).drop pos = l
  | .dead, _ => True

theorem ORel.mono {E E' : Env} (h : E.le E') {i : BI} : ∀ {x : CObj} {o : Obj}, ORel E i x o → ORel E' i x o
  | .cells .., _, r => by
    obtain ⟨h1, h2, h3, C, lo, hi, h4, h5, h6, h7, h8, h9⟩ := r
    refine ⟨h1, h2, h3, C, lo, hi, h4, h5, h6, h7, fun j c hc => ?_, h9⟩
    obtain ⟨hj, v, hv, hr⟩ := h8 j c hc
    exact ⟨hj, v, hv, VRel.mono h _ _ hr⟩
  | .map .., _, ⟨ES, h1, h2⟩ => ⟨ES, h1, h2.mono h⟩
  | .iter .., _, r => r
  | .dead, _, _ => trivial

structure WRel (P : Program) (E : Env) (s : St) (w : World) : Prop where
  obj : ∀ b x, s.h.get b = some x → live x = true → ∃ i o, E b = some i ∧ w.heap[i.blk]? = some o ∧ ORel E i x o
  inj : ∀ b c x y i j, s.h.get b = some x → live x = true → s.h.get c = some y → live y = true → E b = some i → E c = some j → i.blk = j.blk → b = c
  new : ∀ b i, E b = some i → b < s.nx
  key : ∀ b x, s.h.get b = some x → b < s.nx
  glo : ∀ g, g < P.globals.size → ∃ i, E g = some i ∧ i.blk = g ∧ i.d = 0

def Own (E : Env) (s : St) (k : Nat) : Prop := ∃ b x i, s.h.get b = some x ∧ live x = true ∧ ro x = false ∧ E b = some i ∧ i.blk = k

structure Keep (E : Env) (s : St) (w : World) (E' : Env) (s' : St) (w' : World) : Prop where
  os : w'.os = w.os
  tape : w'.tape = w.tape
  output : w'.output = w.output
  size : w.heap.size ≤ w'.heap.size
  blk : ∀ k, k < w.heap.size → ¬ Own E s k → w'.heap[k]? = w.heap[k]?
  own : ∀ k, Own E' s' k → Own E s k ∨ w.heap.size ≤ k

structure Goes (P : Program) (E : Env) (s : St) (w : World) (E' : Env) (s' : St) (w' : World) : Prop where
  ext : E.le E'
  rel : WRel P E' s' w'
  keep : Keep E s w E' s' w'

section
variable {P : Program} {E : Env} {s : St} {w : World}

theorem Keep.refl : Keep E s w E s w := ⟨rfl, rfl, rfl, Nat.le_refl _, fun _ _ _ => rfl, fun _ h => .inl h⟩

theorem Keep.trans {E₁ E₂ : Env} {s₁ s₂ : St} {w₁ w₂ : World} (h : Keep E s w E₁ s₁ w₁) (k : Keep E₁ s₁ w₁ E₂ s₂ w₂) : Keep E s w E₂ s₂ w₂ := by
  refine ⟨k.os.trans h.os, k.tape.trans h.tape, k.output.trans h.output, Nat.le_trans h.size k.size, fun b hb ho => ?_, fun b hb => ?_⟩
  · refine (k.blk b (Nat.lt_of_lt_of_le hb h.size) fun ho1 => ?_).trans (h.blk b hb ho)
    rcases h.own b ho1 with h1 | h1
    · exact ho h1
    · omega
  · rcases k.own b hb with h1 | h1
    · exact h.own b h1
    · exact .inr (Nat.le_trans h.size h1)

theorem Goes.refl (h : WRel P E s w) : Goes P E s w E s w := ⟨Env.le_refl E, h, Keep.refl⟩

theorem Goes.trans {E₁ E₂ : Env} {s₁ s₂ : St} {w₁ w₂ : World} (h : Goes P E s w E₁ s₁ w₁) (k : Goes P E₁ s₁ w₁ E₂ s₂ w₂) : Goes P E s w E₂ s₂ w₂ :=
  ⟨Env.le_trans h.ext k.ext, k.rel, h.keep.trans k.keep⟩

theorem WRel.drew (h : WRel P E s w) : WRel P E s w.drew := ⟨h.obj, h.inj, h.new, h.key, h.glo⟩

theorem Goes.drew (h : WRel P E s w) : Goes P E s w E s w.drew :=
  ⟨Env.le_refl E, h.drew, ⟨rfl, rfl, rfl, Nat.le_refl _, fun _ _ _ => rfl, fun _ h => .inl h⟩⟩

/-- The one block b turns, on both sides. -/
theorem Goes.upd (hw : WRel P E s w) {b : Nat} {x x' : CObj} {i : BI} {o' : Obj} (hb : s.h.get b = some x) (lx : live x = true) (hi : E b = some i)
    (hr : ro x = false) (hx : ORel E i x' o') {w' : World} (hh : w'.heap = w.heap.setIfInBounds i.blk o') (ho : w'.os = w.os) (ht : w'.tape = w.tape) (hq : w'.output = w.output) :
    Goes P E s w E { s with h := s.h.set b x' } w' := by
  have hlt : i.blk < w.heap.size := by
    obtain ⟨j, o, hj, hjo, _⟩ := hw.obj b x hb lx
    rw [hi] at hj; cases hj
    exact (Array.getElem?_eq_some_iff.1 hjo).1
  have hsame : w'.heap[i.blk]? = some o' := by rw [hh, Array.getElem?_setIfInBounds_self]; simp [hlt]
  have hoth : ∀ k, k ≠ i.blk → w'.heap[k]? = w.heap[k]? := fun k hk => by rw [hh, Array.getElem?_setIfInBounds_ne (fun e => hk e.symm)]
  have hinj : ∀ c y j, c ≠ b → s.h.get c = some y → live y = true → E c = some j → j.blk ≠ i.blk := fun c y j hc hy ly hj e =>
    hc (hw.inj c b y x j i hy ly hb lx hj hi e)
  refine ⟨Env.le_refl E, ⟨?_, ?_, hw.new, ?_, hw.glo⟩, ⟨ho, ht, hq, by rw [hh]; simp, ?_, ?_⟩⟩
  · intro c y hy ly
    by_cases hc : c = b
    · subst hc
      simp only [T.get_set_same, Option.some.injEq] at hy
      subst hy
      exact ⟨i, o', hi, hsame, hx⟩
    · simp only [T.get_set_ne _ _ hc] at hy
      obtain ⟨j, o, hj, hjo, hr⟩ := hw.obj c y hy ly
      exact ⟨j, o, hj, by rw [hoth _ (hinj c y j hc hy ly hj)]; exact hjo, hr⟩
  · intro c e y z j k hy ly hz lz hj hk he
    by_cases hc : c = b
    · subst hc
      by_cases hd : e = c
      · exact hd.symm
      · simp only [T.get_set_ne _ _ hd] at hz
        rw [hi] at hj; cases hj
        exact absurd he.symm (hinj e z k hd hz lz hk)
    · simp only [T.get_set_ne _ _ hc] at hy
      by_cases hd : e = b
      · subst hd
        rw [hi] at hk; cases hk
        exact absurd he (hinj c y j hc hy ly hj)
      · simp only [T.get_set_ne _ _ hd] at hz
        exact hw.inj c e y z j k hy ly hz lz hj hk he
  · intro c y hy
    by_cases hc : c = b
    · subst hc; exact hw.key _ _ hb
    · simp only [T.get_set_ne _ _ hc] at hy; exact hw.key _ _ hy
  · intro k _ hown
    refine hoth k fun e => hown ⟨b, x, i, hb, lx, hr, hi, e.symm⟩
  · rintro k ⟨c, y, j, hy, ly, ry, hj, hk⟩
    by_cases hc : c = b
    · subst hc
      rw [hi] at hj; cases hj
      exact .inl ⟨c, x, i, hb, lx, hr, hi, hk⟩
    · simp only [T.get_set_ne _ _ hc] at hy
      exact .inl ⟨c, y, j, hy, ly, ry, hj, hk⟩

def Env.add (E : Env) (b : Nat) (i : BI) : Env := fun c => if c = b then some i else E c

theorem Env.le_add {E : Env} {b : Nat} {i : BI} (h : E b = none) : E.le (E.add b i) := fun c j hc => by
  unfold Env.add
  by_cases e : c = b
  · subst e; rw [h] at hc; cases hc
  · rw [if_neg e]; exact hc

theorem WRel.fresh (hw : WRel P E s w) : E s.nx = none := by
  cases h : E s.nx with
  | none => rfl
  | some i => exact absurd (hw.new _ _ h) (by omega)

theorem WRel.fresh' (hw : WRel P E s w) : s.h.get s.nx = none := by
  cases h : s.h.get s.nx with
  | none => rfl
  | some i => exact absurd (hw.key _ _ h) (by omega)

/-- A new block on both sides. -/
theorem Goes.new (hw : WRel P E s w) {x : CObj} {i : BI} {o : Obj} (hk : i.blk = w.heap.size) (hx : ORel E i x o) :
    Goes P E s w (E.add s.nx i) { h := s.h.set s.nx x, nx := s.nx + 1 } (w.alloc o) := by
  have hf := hw.fresh
  have hle : E.le (E.add s.nx i) := Env.le_add hf
  have hE : ∀ c, c ≠ s.nx → E.add s.nx i c = E c := fun c hc => by unfold Env.add; rw [if_neg hc]
  have hEs : E.add s.nx i s.nx = some i := by unfold Env.add; rw [if_pos rfl]
  have hold : ∀ k, k < w.heap.size → (w.alloc o).heap[k]? = w.heap[k]? := fun k hk => Go.RowKit.Below.heap_alloc w o k hk
  have hlt : ∀ c y j, s.h.get c = some y → live y = true → E c = some j → j.blk < w.heap.size := fun c y j hy ly hj => by
    obtain ⟨j', o', hj', hjo, _⟩ := hw.obj c y hy ly
    rw [hj] at hj'; cases hj'
    exact (Array.getElem?_eq_some_iff.1 hjo).1
  refine ⟨hle, ⟨?_, ?_, ?_, ?_, ?_⟩, ⟨rfl, rfl, rfl, by simp, fun k hk _ => hold k hk, ?_⟩⟩
  · intro c y hy ly
    by_cases hc : c = s.nx
    · subst hc
      simp only [T.get_set_same, Option.some.injEq] at hy
      subst hy
      exact ⟨i, o, hEs, by rw [hk]; show (w.heap.push o)[w.heap.size]? = _; simp, hx.mono hle⟩
    · simp only [T.get_set_ne _ _ hc] at hy
      obtain ⟨j, o', hj, hjo, hr⟩ := hw.obj c y hy ly
      exact ⟨j, o', hle _ _ hj, by rw [hold _ (hlt c y j hy ly hj)]; exact hjo, hr.mono hle⟩
  · intro c e y z j k hy ly hz lz hj hk' he
    by_cases hc : c = s.nx
    · subst hc
      by_cases hd : e = s.nx
      · exact hd.symm
      · simp only [T.get_set_ne _ _ hd] at hz
        rw [hEs] at hj; cases hj
        rw [hE e hd] at hk'
        have := hlt e z k hz lz hk'
        omega
    · simp only [T.get_set_ne _ _ hc] at hy
      rw [hE c hc] at hj
      by_cases hd : e = s.nx
      · subst hd
        rw [hEs] at hk'; cases hk'
        have := hlt c y j hy ly hj
        omega
      · simp only [T.get_set_ne _ _ hd] at hz
        rw [hE e hd] at hk'
        exact hw.inj c e y z j k hy ly hz lz hj hk' he
  · intro c j hj
    show c < s.nx + 1
    by_cases hc : c = s.nx
    · omega
    · rw [hE c hc] at hj; have := hw.new c j hj; omega
  · intro c y hy
    show c < s.nx + 1
    by_cases hc : c = s.nx
    · omega
    · simp only [T.get_set_ne _ _ hc] at hy; have := hw.key c y hy; omega
  · intro g hg
    obtain ⟨j, hj, h1⟩ := hw.glo g hg
    exact ⟨j, hle _ _ hj, h1⟩
  · rintro k ⟨c, y, j, hy, ly, ry, hj, hjk⟩
    by_cases hc : c = s.nx
    · subst hc; rw [hEs] at hj; cases hj; exact .inr (by omega)
    · simp only [T.get_set_ne _ _ hc] at hy
      rw [hE c hc] at hj
      exact .inl ⟨c, y, j, hy, ly, ry, hj, hjk⟩

/-- A block is given up. -/
theorem Goes.kill (hw : WRel P E s w) {b : Nat} {x : CObj} (hb : s.h.get b = some x) : Goes P E s w E { s with h := s.h.set b .dead } w := by
  refine ⟨Env.le_refl E, ⟨?_, ?_, hw.new, ?_, hw.glo⟩, ⟨rfl, rfl, rfl, Nat.le_refl _, fun _ _ _ => rfl, ?_⟩⟩
  · intro c y hy ly
    by_cases hc : c = b
    · subst hc; simp only [T.get_set_same, Option.some.injEq] at hy; subst hy; cases ly
    · simp only [T.get_set_ne _ _ hc] at hy; exact hw.obj c y hy ly
  · intro c e y z j k hy ly hz lz hj hk he
    have hc : c ≠ b := fun h => by subst h; simp only [T.get_set_same, Option.some.injEq] at hy; subst hy; cases ly
    have hd : e ≠ b := fun h => by subst h; simp only [T.get_set_same, Option.some.injEq] at hz; subst hz; cases lz
    simp only [T.get_set_ne _ _ hc] at hy
    simp only [T.get_set_ne _ _ hd] at hz
    exact hw.inj c e y z j k hy ly hz lz hj hk he
  · intro c y hy
    by_cases hc : c = b
    · subst hc; exact hw.key _ _ hb
    · simp only [T.get_set_ne _ _ hc] at hy; exact hw.key _ _ hy
  · rintro k ⟨c, y, j, hy, ly, ry, hj, hjk⟩
    by_cases hc : c = b
    · subst hc; simp only [T.get_set_same, Option.some.injEq] at hy; subst hy; cases ly
    · simp only [T.get_set_ne _ _ hc] at hy
      exact .inl ⟨c, y, j, hy, ly, ry, hj, hjk⟩

/-- A block is given up; a new one of the evaluator's lies in its place. -/
theorem Goes.heir (hw : WRel P E s w) {b : Nat} {x x' : CObj} {i i' : BI} {o' : Obj} (hb : s.h.get b = some x) (lx : live x = true) (hi : E b = some i)
    (hr : ro x = false) (hk : i'.blk = i.blk) (hx : ORel E i' x' o') {w' : World} (hh : w'.heap = w.heap.setIfInBounds i.blk o')
    (ho : w'.os = w.os) (ht : w'.tape = w.tape) (hq : w'.output = w.output) :
    Goes P E s w (E.add s.nx i') { h := (s.h.set b .dead).set s.nx x', nx := s.nx + 1 } w' := by
  have hf := hw.fresh
  have hle : E.le (E.add s.nx i') := Env.le_add hf
  have hE : ∀ c, c ≠ s.nx → E.add s.nx i' c = E c := fun c hc => by unfold Env.add; rw [if_neg hc]
  have hEs : E.add s.nx i' s.nx = some i' := by unfold Env.add; rw [if_pos rfl]
  have hlt : i.blk < w.heap.size := by
    obtain ⟨j, o, hj, hjo, _⟩ := hw.obj b x hb lx
    rw [hi] at hj; cases hj
    exact (Array.getElem?_eq_some_iff.1 hjo).1
  have hsame : w'.heap[i.blk]? = some o' := by rw [hh, Array.getElem?_setIfInBounds_self]; simp [hlt]
  have hoth : ∀ k, k ≠ i.blk → w'.heap[k]? = w.heap[k]? := fun k hk => by rw [hh, Array.getElem?_setIfInBounds_ne (fun e => hk e.symm)]
  have hinj : ∀ c y j, c ≠ b → s.h.get c = some y → live y = true → E c = some j → j.blk ≠ i.blk := fun c y j hc hy ly hj e =>
    hc (hw.inj c b y x j i hy ly hb lx hj hi e)
  have hget : ∀ c y, c ≠ s.nx → ((s.h.set b .dead).set s.nx x').get c = some y → live y = true → c ≠ b ∧ s.h.get c = some y := fun c y hc hy ly => by
    rw [T.get_set_ne _ _ hc] at hy
    have hcb : c ≠ b := fun h => by subst h; simp only [T.get_set_same, Option.some.injEq] at hy; subst hy; cases ly
    exact ⟨hcb, by rwa [T.get_set_ne _ _ hcb] at hy⟩
  refine ⟨hle, ⟨?_, ?_, ?_, ?_, ?_⟩, ⟨ho, ht, hq, by rw [hh]; simp, ?_, ?_⟩⟩
  · intro c y hy ly
    by_cases hc : c = s.nx
    · subst hc
      simp only [T.get_set_same, Option.some.injEq] at hy
      subst hy
      exact ⟨i', o', hEs, by rw [hk]; exact hsame, hx.mono hle⟩
    · obtain ⟨hcb, hy'⟩ := hget c y hc hy ly
      obtain ⟨j, o, hj, hjo, hr⟩ := hw.obj c y hy' ly
      exact ⟨j, o, hle _ _ hj, by rw [hoth _ (hinj c y j hcb hy' ly hj)]; exact hjo, hr.mono hle⟩
  · intro c e y z j k hy ly hz lz hj hk' he
    by_cases hc : c = s.nx
    · subst hc
      by_cases hd : e = s.nx
      · exact hd.symm
      · obtain ⟨hdb, hz'⟩ := hget e z hd hz lz
        rw [hEs] at hj; cases hj
        rw [hE e hd] at hk'
        exact absurd (he.symm.trans hk) (hinj e z k hdb hz' lz hk')
    · obtain ⟨hcb, hy'⟩ := hget c y hc hy ly
      rw [hE c hc] at hj
      by_cases hd : e = s.nx
      · subst hd
        rw [hEs] at hk'; cases hk'
        exact absurd (he.trans hk) (hinj c y j hcb hy' ly hj)
      · obtain ⟨_, hz'⟩ := hget e z hd hz lz
        rw [hE e hd] at hk'
        exact hw.inj c e y z j k hy' ly hz' lz hj hk' he
  · intro c j hj
    show c < s.nx + 1
    by_cases hc : c = s.nx
    · omega
    · rw [hE c hc] at hj; have := hw.new c j hj; omega
  · intro c y hy
    show c < s.nx + 1
    by_cases hc : c = s.nx
    · omega
    · rw [show ((s.h.set b .dead).set s.nx x').get c = (s.h.set b .dead).get c from T.get_set_ne _ _ hc] at hy
      by_cases hcb : c = b
      · subst hcb; have := hw.key _ _ hb; omega
      · rw [T.get_set_ne _ _ hcb] at hy; have := hw.key c y hy; omega
  · intro g hg
    obtain ⟨j, hj, h1⟩ := hw.glo g hg
    exact ⟨j, hle _ _ hj, h1⟩
  · intro k _ hown
    exact hoth k fun e => hown ⟨b, x, i, hb, lx, hr, hi, e.symm⟩
  · rintro k ⟨c, y, j, hy, ly, ry, hj, hjk⟩
    by_cases hc : c = s.nx
    · subst hc; rw [hEs] at hj; cases hj; exact .inl ⟨b, x, i, hb, lx, hr, hi, by omega⟩
    · obtain ⟨_, hy'⟩ := hget c y hc hy ly
      rw [hE c hc] at hj
      exact .inl ⟨c, y, j, hy', ly, ry, hj, hjk⟩

end
end Go.Ae
