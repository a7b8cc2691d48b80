/-
  A world mirrored in the evaluator's memory; what a walk over the mirror says of the call.
-/
import Derived.Test.YtbkniippobnbpaaAeDrawW
import Derived.ProofKit
import Derived.Deep.Slices
namespace Go.Ae
set_option linter.unusedSimpArgs false

def fillT {α : Type} (f : Nat → Option α) : Nat → T α
  | 0 => .nil
  | n + 1 => match f n with
    | some x => (fillT f n).set n x
    | none => fillT f n

theorem get_fillT {α : Type} (f : Nat → Option α) : ∀ (n i : Nat), (fillT f n).get i = if i < n then f i else none
  | 0, i => by simp [fillT]
  | n + 1, i => by
    unfold fillT
    by_cases h : i = n
    · subst h
      rw [if_pos (Nat.lt_succ_self i)]
      cases hf : f i with
      | some x => simp only [T.get_set_same]
      | none => simp only [get_fillT f i i, Nat.lt_irrefl, if_false]
    · have he : (i < n + 1) = (i < n) := by apply propext; omega
      cases hf : f n with
      | some x => simp only [T.get_set_ne _ _ h, get_fillT f n i, he]
      | none => simp only [get_fillT f n i, he]

/-- A world's value as the evaluator's: pointers and slices at their own blocks. -/
def mirV (N : Nat) : Value → Option CV
  | .pointer (some ⟨b, o, none⟩) => if b < N then some (.ptr b o) else none
  | .slice (some ⟨b, o, none⟩) n c => if b < N ∧ n ≤ c then some (.slice b o n c) else none
  | v => ofV 4 v

def mirObj (N : Nat) : Obj → Option CObj
  | .cells C ty _ => some (.cells (fillT (fun i => (C[i]?).bind (mirV N)) C.size) C.size true 1 C.size true ty)
  | _ => none

def mirN (P : Program) (w : World) : Nat := max w.heap.size P.globals.size

def mirror (P : Program) (w : World) : St := ⟨fillT (fun b => (w.heap[b]?).bind (mirObj (mirN P w))) (mirN P w), mirN P w⟩

def csize (w : World) (b : Nat) : Nat := match w.heap[b]? with
  | some (.cells C _ _) => C.size
  | _ => 0

def mirE (P : Program) (w : World) : Env := fun b => if b < mirN P w then some ⟨b, 0, csize w b, true, 1, csize w b⟩ else none

theorem mirV_ok {P : Program} {w : World} {v : Value} {c : CV} (h : mirV (mirN P w) v = some c) : VRel (mirE P w) c v := by
  unfold mirV at h
  split at h
  · split at h
    · rename_i hb
      simp only [Option.some.injEq] at h
      subst h
      simp only [VRel]
      exact ⟨_, if_pos hb, rfl⟩
    · cases h
  · split at h
    · rename_i hb
      simp only [Option.some.injEq] at h
      subst h
      simp only [VRel]
      exact ⟨_, if_pos hb.1, .inl ⟨_, rfl, hb.2, .inl rfl⟩⟩
    · cases h
  · exact ofV_ok 4 v c h

theorem mirror_get {P : Program} {w : World} {b : Nat} {x : CObj} (h : (mirror P w).h.get b = some x) :
    b < mirN P w ∧ ∃ C ty frz, w.heap[b]? = some (.cells C ty frz) ∧ x = .cells (fillT (fun i => (C[i]?).bind (mirV (mirN P w))) C.size) C.size true 1 C.size true ty := by
  simp only [mirror, get_fillT] at h
  split at h
  · rename_i hb
    refine ⟨hb, ?_⟩
    cases ho : w.heap[b]? with
    | none => rw [ho] at h; cases h
    | some o =>
      rw [ho] at h
      simp only [Option.bind_some] at h
      unfold mirObj at h
      split at h
      · rename_i C ty frz
        simp only [Option.some.injEq] at h
        exact ⟨C, ty, frz, rfl, h.symm⟩
      · cases h
  · cases h

theorem mirror_ro {P : Program} {w : World} {b : Nat} {x : CObj} (h : (mirror P w).h.get b = some x) : ro x = true := by
  obtain ⟨_, C, ty, frz, _, rfl⟩ := mirror_get h
  simp [ro]

theorem mirror_rel (P : Program) (w : World) : WRel P (mirE P w) (mirror P w) w where
  obj b x h _ := by
    obtain ⟨hb, C, ty, frz, hw, rfl⟩ := mirror_get h
    refine ⟨_, _, if_pos hb, hw, ?_⟩
    have hc : csize w b = C.size := by unfold csize; rw [hw]
    refine ⟨hc, rfl, rfl, C, frz.1, frz.2, rfl, hc, by simp, fun _ => ⟨rfl, rfl⟩, fun j c hj => ?_, fun x hx _ _ => by simpa using hx, fun h => by cases h⟩
    rw [get_fillT] at hj
    split at hj
    · rename_i hlt
      refine ⟨hlt, ?_⟩
      cases hv : C[j]? with
      | none => rw [hv] at hj; cases hj
      | some v =>
        rw [hv] at hj
        exact ⟨v, by rw [Nat.zero_add]; exact hv, mirV_ok hj⟩
    · cases hj
  inj b c x y i j hx _ hy _ hi hj e := by
    unfold mirE at hi hj
    split at hi
    · split at hj
      · cases hi; cases hj; exact e
      · cases hj
    · cases hi
  new b i h := by
    unfold mirE at h
    split at h
    · assumption
    · cases h
  key b x h := (mirror_get h).1
  glo g h := ⟨_, if_pos (by unfold mirN; omega), rfl, rfl⟩

theorem mirror_below {P : Program} {w w' : World} {E' : Env} {s' : St} (g : Goes P (mirE P w) (mirror P w) w E' s' w') : RowKit.Below w.heap.size w w' :=
  ⟨g.keep.os, g.keep.tape, g.keep.output, g.keep.size, fun k hk => g.keep.blk k hk (by
    rintro ⟨b, x, i, hb, _, hr, _⟩
    rw [mirror_ro hb] at hr
    cases hr)⟩

/-- What a walk over the mirror says of the call. -/
theorem enter {P : Program} (hm : P.follows .mixedOrders = true) {H : Hooks} (hH : CallsOk P H) {f : FuncId} {args : List CV} {vs : Array Value} {w : World} {Q : CV → Prop}
    (ha : VRels (mirE P w) args vs.toList) (h : callW P H f args (mirror P w) fun v _ => Q v) :
    Calls P f vs w fun e w' => ∃ u E' v, e = .returned u ∧ VRel E' v u ∧ Q v ∧ RowKit.Below w.heap.size w w' := by
  obtain ⟨n, v, s', h1, h2⟩ := h
  refine ((evOk hm hH n).call f args (mirror P w) v s' h1 (mirE P w) w vs (mirror_rel P w) ha).mono ?_
  rintro e w' ⟨u, E', he, g, hv⟩
  exact ⟨u, E', v, he, hv, h2, mirror_below g⟩

/-- A call that answers true. -/
theorem enter_true {P : Program} (hm : P.follows .mixedOrders = true) {H : Hooks} (hH : CallsOk P H) {f : FuncId} {args : List CV} {vs : Array Value} {w : World}
    (ha : VRels (mirE P w) args vs.toList) (h : callW P H f args (mirror P w) fun v _ => v = .bool true) :
    Calls P f vs w fun e w' => e = .returned (.bool true) ∧ RowKit.Below w.heap.size w w' := by
  refine (enter hm hH ha h).mono ?_
  rintro e w' ⟨u, E', v, rfl, hv, rfl, hb⟩
  simp only [VRel] at hv
  subst hv
  exact ⟨rfl, hb⟩

theorem mirror_ld {P : Program} {w : World} {b o : Nat} {v : Value} {c : CV} (h : w.cell? ⟨b, o, none⟩ = some v) (hv : mirV (mirN P w) v = some c) : Ae.ld (mirror P w) b o = some c := by
  unfold World.cell? at h
  simp only at h
  split at h
  · rename_i C ty frz hb
    have hlt : b < w.heap.size := (Array.getElem?_eq_some_iff.1 hb).1
    have hlo : o < C.size := (Array.getElem?_eq_some_iff.1 (by simpa using h)).1
    unfold Ae.ld
    simp only [mirror, get_fillT]
    rw [if_pos (by unfold mirN; omega), hb]
    simp only [Option.bind_some, mirObj, get_fillT, if_pos hlo]
    rw [show C[o]? = some v by simpa using h]
    exact hv
  · cases h

theorem mirror_lt {P : Program} {w : World} {b : Nat} (h : b < w.heap.size) : b < (mirror P w).nx := by
  show b < mirN P w
  unfold mirN; omega

/-- The slice's cells, opened. -/
theorem okWide_slice {P : Program} {w : World} {r : Reach} {base : Nat} {t e : TypeId} {v : Value} (ht : P.underlying t = some (.slice e)) (h : Value.okWide P w r base t v) :
    v = .slice none 0 0 ∨ ∃ b o n c, v = .slice (some ⟨b, o, none⟩) n c ∧ b < w.heap.size ∧ n ≤ c ∧ (c : Int) ≤ IntKind.i64.max := by
  simp only [Value.okWide, Cell.okWide, Cell.ok, ht] at h
  cases v
  case slice a n c =>
    cases a with
    | none =>
      left
      cases n with
      | zero => cases c with
        | zero => rfl
        | succ c => exact False.elim h
      | succ n => exact False.elim h
    | some a =>
      right
      obtain ⟨b, o, sp⟩ := a
      obtain ⟨h1, h2, _, h3, row, cs, h4, _⟩ := h
      simp only at h3
      subst h3
      refine ⟨b, o, n, c, rfl, ?_, h1, h2⟩
      unfold World.shape? at h4
      split at h4
      · rename_i hb; exact (Array.getElem?_eq_some_iff.1 hb).1
      · cases h4
  all_goals exact False.elim h

end Go.Ae
