/-
  Regions whose order is drawn, in a walk: where every mover only adds to memory.
-/
import Derived.Test.YtbkniippobnbpaaAeOpEq
namespace Go.Ae
set_option linter.unusedSimpArgs false

section
variable {P : Program} {H : Hooks}

theorem mapO_congr {α β : Type} {f g : α → Option β} : ∀ {l : List α}, (∀ x ∈ l, f x = g x) → mapO f l = mapO g l
  | [], _ => rfl
  | x :: l, h => by
    simp only [mapO]
    rw [h x List.mem_cons_self, mapO_congr fun y hy => h y (List.mem_cons_of_mem _ hy)]

theorem pairs_congr {f g : Operand → Option CV} : ∀ {l : List (Nat × Operand)}, (∀ x ∈ l.map (·.2), f x = g x) → pairs f l = pairs g l
  | [], _ => rfl
  | (i, x) :: l, h => by
    simp only [pairs]
    rw [h x (by simp), pairs_congr fun y hy => h y (by simp at hy ⊢; exact .inr hy)]

theorem opV_congr {s : St} {τ τ' : Fr} {o : Op} (h : ∀ x ∈ o.operands, opd P τ x = opd P τ' x) : opV P s τ o = opV P s τ' o := by
  cases o <;> first
    | rfl
    | skip
  all_goals simp only [Op.operands] at h
  all_goals simp only [opV]
  all_goals first
    | rfl
    | (rw [h _ (by simp)]; done)
    | (rw [h _ (by simp), h _ (by simp)]; done)
    | skip
  case pick c a b => rw [h c (by simp), h a (by simp), h b (by simp)]
  case build t ps => rw [pairs_congr fun x hx => h x (by simpa using hx)]
  case buildSlice t n ps => rw [pairs_congr fun x hx => h x (by simpa using hx)]
  case makeFunc fn a b => rw [mapO_congr (l := a.toList) fun x hx => h x (by simp at hx ⊢; exact .inl hx), mapO_congr (l := b.toList) fun x hx => h x (by simp at hx ⊢; exact .inr hx)]
  case slice t x lo hi mx =>
    rw [h x (by simp), mapO_congr (l := lo.toList) fun x hx => h x (by simp at hx ⊢; simp [hx]), mapO_congr (l := hi.toList) fun x hx => h x (by simp at hx ⊢; simp [hx]), mapO_congr (l := mx.toList) fun x hx => h x (by simp at hx ⊢; simp [hx])]
  case call c =>
    obtain ⟨callee, args, ts⟩ := c
    simp only [Call.operands] at h
    simp only [oCall]
    rw [mapO_congr (l := args.toList) fun x hx => h x (by simp at hx ⊢; exact .inr hx)]
    cases callee with
    | builtin b => rfl
    | value f => simp only; rw [h f (by simp)]
    | invoke r n => simp only; rw [h r (by simp)]

theorem opd_only {τ : Fr} {l : List Tmp} {x : Operand} (h : ∀ t, x = .tmp t → t ∈ l) : opd P (τ.only l) x = opd P τ x := by
  cases x with
  | tmp t => show (τ.only l).get t = τ.get t; rw [Fr.only_get, if_pos (h t rfl)]
  | _ => rfl

theorem looks_op {ops : Array Oper} {o : Oper} {t : Tmp} (h : Operand.tmp t ∈ o.op.operands) : t ∈ o.looksAt ops := by
  unfold Oper.looksAt
  rw [List.mem_append]
  refine .inl ?_
  rw [List.mem_filterMap]
  exact ⟨.tmp t, by simpa using h, rfl⟩

theorem opV_only {ops : Array Oper} {s : St} {τ : Fr} {o : Oper} : opV P s (τ.only (o.looksAt ops)) o.op = opV P s τ o.op :=
  opV_congr fun x hx => opd_only fun t ht => looks_op (by rw [← ht]; exact hx)

theorem wantedV_only {ops : Array Oper} {τ : Fr} {o : Oper} : wantedV ops (τ.only (o.looksAt ops)) o = wantedV ops τ o := by
  unfold wantedV
  cases hg : o.guard with
  | none => rfl
  | some g =>
    obtain ⟨j, w⟩ := g
    simp only
    cases hd : (ops[j]?).bind (·.dst) with
    | none => rfl
    | some d =>
      simp only
      rw [Fr.only_get, if_pos]
      unfold Oper.looksAt
      rw [hg]
      simp [hd]

theorem stepOp_only {cl : FuncId → List CV → St → Option (CV × St)} {ops : Array Oper} {s : St} {τ : Fr} {o : Oper} : stepOp P cl ops o (τ.only (o.looksAt ops)) s = stepOp P cl ops o τ s := by
  unfold stepOp
  rw [wantedV_only, opV_only]

/-- What is asked of the text alone. -/
def chainS (ops : Array Oper) (bef : T Nat) : List Oper → Nat → Option Nat → Bool
  | [], _, _ => true
  | o :: l, i, p => match moves o.op with
    | false => chainS ops bef l (i + 1) p
    | true => (match p with | none => true | some j => (bits bef i).testBit j) && chainS ops bef l (i + 1) (some i)

def staticS (ops : Array Oper) : Bool :=
  backOk ops.toList 0 && (apartFrom ops (preds ops.toList 0 .nil) ops.toList 0 && chainS ops (preds ops.toList 0 .nil) ops.toList 0 none)

/-- The text's order: a mover only adds to memory; what moves nothing gives the same in each memory behind s₀. -/
def drawE' (P : Program) (H : Hooks) (ops : Array Oper) (s₀ : St) : List Oper → Fr → St → (Fr → St → Prop) → Prop
  | [], τ, s, Q => Q τ s
  | o :: l, τ, s, Q => match moves o.op with
    | true => stepW P H ops o τ s fun v s' => s₀.le s' ∧ drawE' P H ops s₀ l (τ.put o.dst v) s' Q
    | false => ∃ v, (∀ s', s₀.le s' → stepOp P (fun _ _ _ => none) ops o τ s' = some (v, s')) ∧ drawE' P H ops s₀ l (τ.put o.dst v) s Q

structure drawE (P : Program) (H : Hooks) (ops : Array Oper) (s₀ : St) (l : List Oper) (τ : Fr) (s : St) (Q : Fr → St → Prop) : Prop where
  h : drawE' P H ops s₀ l τ s Q

theorem drawE_nil {ops : Array Oper} {s₀ : St} {τ : Fr} {s : St} {Q : Fr → St → Prop} (h : Q τ s) : drawE P H ops s₀ [] τ s Q := ⟨h⟩

theorem drawE_val {ops : Array Oper} {s₀ : St} {o : Oper} {l : List Oper} {τ : Fr} {s : St} {v : CV} {Q : Fr → St → Prop} (hm : moves o.op = false) (hw : wantedV ops τ o = some true)
    (h : ∀ s', s₀.le s' → opV P s' τ o.op = some (.val v s')) (k : drawE P H ops s₀ l (τ.put o.dst v) s Q) : drawE P H ops s₀ (o :: l) τ s Q := by
  refine ⟨?_⟩
  simp only [drawE', hm]
  exact ⟨v, fun s' hs => by simp only [stepOp, hw, h s' hs], k.h⟩

theorem drawE_skip {ops : Array Oper} {s₀ : St} {o : Oper} {l : List Oper} {τ : Fr} {s : St} {Q : Fr → St → Prop} (hw : wantedV ops τ o = some false) (hs : s₀.le s)
    (k : drawE P H ops s₀ l (τ.put o.dst (.tuple [])) s Q) : drawE P H ops s₀ (o :: l) τ s Q := by
  refine ⟨?_⟩
  simp only [drawE']
  cases moves o.op with
  | true => simp only [stepW, hw]; exact ⟨hs, k.h⟩
  | false => exact ⟨_, fun s' _ => by simp only [stepOp, hw], k.h⟩

theorem drawE_call {ops : Array Oper} {s₀ s₁ : St} {o : Oper} {l : List Oper} {τ : Fr} {s : St} {f : FuncId} {args : List CV} {Q : Fr → St → Prop} (hm : moves o.op = true) (hw : wantedV ops τ o = some true)
    (h : opV P s τ o.op = some (.enter f args s₁)) (k : callW P H f args s₁ fun v s' => s₀.le s' ∧ drawE P H ops s₀ l (τ.put o.dst v) s' Q) : drawE P H ops s₀ (o :: l) τ s Q := by
  refine ⟨?_⟩
  simp only [drawE', hm, stepW, hw, doW, h]
  exact k.mono fun v s' h => ⟨h.1, h.2.h⟩

theorem steady_all {cl : FuncId → List CV → St → Option (CV × St)} {ops : Array Oper} {d : Dr} : ∀ (ms : List St) (mvs : List Dr), (∀ s ∈ ms, ∃ s', stepOp P cl ops d.o d.τ s = some (d.v, s')) → steady P cl ops d mvs ms = true
  | [], mvs, _ => by simp [steady]
  | s :: ms, mvs, h => by
    have ih : ∀ mvs, steady P cl ops d mvs ms = true := fun mvs => steady_all ms mvs fun s hs => h s (List.mem_cons_of_mem _ hs)
    obtain ⟨s', hs⟩ := h s List.mem_cons_self
    unfold steady
    cases mvs with
    | nil => simp [hs, same_refl]
    | cons m mvs =>
      simp only [hs, same_refl, ih]
      cases m.pre.testBit d.i <;> cases ((m :: mvs).any fun m => d.pre.testBit m.i) <;> rfl

theorem drawE_run {ops : Array Oper} {bef : T Nat} {s₀ : St} {Q : Fr → St → Prop} : ∀ {l : List Oper} {i : Nat} {τ : Fr} {s : St} {p : Option Nat}, drawE' P H ops s₀ l τ s Q → s₀.le s → chainS ops bef l i p = true →
    ∃ n ds ms τ' s', drawOps P (ev P H n).call ops bef l i τ s = some (ds, ms, τ') ∧ Q τ' s' ∧ ms.getLast? = some s' ∧ (∀ m ∈ ms, s₀.le m) ∧
      (∀ d ∈ ds, d.mv = true ∨ ∀ s', s₀.le s' → stepOp P (fun _ _ _ => none) ops d.o d.τ s' = some (d.v, s')) ∧
      chainOk (ds.filter (·.mv)) = true ∧ (∀ j d, p = some j → (ds.filter (·.mv)).head? = some d → d.pre.testBit j = true)
  | [], i, τ, s, p, h, hs, _ => ⟨0, [], [s], τ, s, rfl, h, rfl, by simpa using hs, by simp, rfl, by simp⟩
  | o :: l, i, τ, s, p, h, hs, hc => by
    simp only [drawE'] at h
    simp only [chainS] at hc
    cases hm : moves o.op with
    | true =>
      rw [hm] at h hc
      simp only [Bool.and_eq_true] at h hc
      obtain ⟨n, v, s₁, h1, hs1, h2⟩ := stepW_run h
      obtain ⟨m, ds, ms, τ', s', h3, h4, h5, h6, h7, h8, h9⟩ := drawE_run (bef := bef) h2 hs1 hc.2
      refine ⟨max n m, ⟨i, o, τ.only (o.looksAt ops), v, true, bits bef i⟩ :: ds, s :: ms, τ', s', ?_, h4, ?_, ?_, ?_, ?_, ?_⟩
      · simp only [drawOps, stepOp_only]
        rw [stepOp_le (ev_le (Nat.le_max_left n m)).call h1]
        simp only
        rw [drawOps_le (ev_le (Nat.le_max_right n m)).call h3]
        simp only [hm]
      · cases ms with
        | nil => simp at h5
        | cons a b => rw [List.getLast?_cons_cons]; exact h5
      · intro q hq
        rcases List.mem_cons.1 hq with rfl | hq
        · exact hs
        · exact h6 q hq
      · intro d hd
        rcases List.mem_cons.1 hd with rfl | hd
        · exact .inl rfl
        · exact h7 d hd
      · simp only [List.filter_cons, if_true]
        cases hf : ds.filter (·.mv) with
        | nil => rfl
        | cons e r =>
          simp only [chainOk, Bool.and_eq_true]
          rw [hf] at h8 h9
          exact ⟨h9 i e rfl rfl, h8⟩
      · intro j d hj hd
        simp only [List.filter_cons, if_true, List.head?_cons, Option.some.injEq] at hd
        subst hd
        subst hj
        exact hc.1
    | false =>
      rw [hm] at h hc
      simp only at h hc
      obtain ⟨v, h1, h2⟩ := h
      obtain ⟨m, ds, ms, τ', s', h3, h4, h5, h6, h7, h8, h9⟩ := drawE_run (bef := bef) h2 hs hc
      refine ⟨m, ⟨i, o, τ.only (o.looksAt ops), v, false, bits bef i⟩ :: ds, ms, τ', s', ?_, h4, h5, h6, ?_, ?_, ?_⟩
      · simp only [drawOps, stepOp_only]
        rw [stepOp_le (cl := fun _ _ _ => none) (fun _ _ _ _ h => by cases h) (h1 s hs)]
        simp only
        rw [h3]
        simp only [hm]
      · intro d hd
        rcases List.mem_cons.1 hd with rfl | hd
        · exact .inr fun s' hs' => by rw [stepOp_only]; exact h1 s' hs'
        · exact h7 d hd
      · simp only [List.filter_cons, Bool.false_eq_true, if_false]; exact h8
      · simp only [List.filter_cons, Bool.false_eq_true, if_false]; exact h9

theorem codeW_drawE {i : Nat} {ops : Array Oper} {τ : Fr} {s : St} {Q : Ex → Fr → St → Prop} (hst : staticS ops = true) (h : drawE P H ops s ops.toList τ s (Q .norm)) : codeW P H (.region i ops true) τ s Q := by
  simp only [staticS, Bool.and_eq_true] at hst
  obtain ⟨n, ds, ms, τ', s', h1, h2, h3, h4, h5, h6, -⟩ := drawE_run (bef := preds ops.toList 0 .nil) h.h (St.le_refl s) hst.2.2
  refine codeW_draw (n := n) (τ' := τ') (s' := s') ?_ h2
  unfold runDraw
  simp only [hst.1, hst.2.1, h1, h6, h3]
  have h8 : (ds.all fun d => d.mv || steady P (ev P H n).call ops d (ds.filter (·.mv)) ms) = true := by
    rw [List.all_eq_true]
    intro d hd
    rw [Bool.or_eq_true]
    rcases h5 d hd with h | h
    · exact .inl h
    · exact .inr (steady_all _ _ fun s hs => ⟨s, stepOp_le (cl := fun _ _ _ => none) (fun _ _ _ _ h => by cases h) (h s (h4 s hs))⟩)
  rw [h8]

end
end Go.Ae
