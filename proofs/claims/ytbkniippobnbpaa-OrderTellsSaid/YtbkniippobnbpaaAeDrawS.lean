/-
  Regions whose order is drawn, in a walk, where the text's order is as good as any: what is quiet comes ahead of all that moves, or looks at no memory.
-/
import Derived.Test.YtbkniippobnbpaaAeDrawW
namespace Go.Ae
set_option linter.unusedSimpArgs false

def pureBin : BinOp → Bool
  | .add | .sub | .mul | .lss | .leq | .gtr | .geq => true
  | _ => false

/-- Looks at no memory. -/
def pureOp : Op → Bool
  | .move _ | .assign _ | .pick .. | .unOp .. | .extract .. | .indexAddr .. => true
  | .binOp op _ _ _ _ => pureBin op
  | _ => false

section
variable {P : Program} {H : Hooks}

theorem binV_pure {op : BinOp} (h : pureBin op = true) (s s' : St) (t : TypeId) (xo yo : Operand) (x y : CV) : binV P s op t xo yo x y = binV P s' op t xo yo x y := by
  cases op <;> first
    | (cases h; done)
    | skip
  all_goals
    cases x <;> first
      | rfl
      | (cases y <;> rfl)

theorem pure_any {o : Op} (h : pureOp o = true) {s s₁ : St} {τ : Fr} {v : CV} (hv : opV P s τ o = some (.val v s₁)) (s' : St) : ∃ s₂, opV P s' τ o = some (.val v s₂) := by
  have key : ∀ {x : Option CV}, ret1 s x = some (.val v s₁) → ret1 s' x = some (.val v s') := fun {x} hx => by
    cases x with
    | none => simp [ret1] at hx
    | some u => simp only [ret1, Option.some.injEq, Do.val.injEq] at hx ⊢; exact ⟨hx.1, trivial⟩
  cases o <;> first
    | (cases h; done)
    | (exact ⟨s', key hv⟩)
    | skip
  case pick c a b =>
    simp only [opV, oPick] at hv ⊢
    split at hv <;> first
      | exact ⟨s', key hv⟩
      | cases hv
  case binOp op t x y u =>
    simp only [opV, oBin] at hv ⊢
    split at hv
    · rename_i a b ha hb
      rw [binV_pure h s s'] at hv
      exact ⟨s', key hv⟩
    · cases hv
  case unOp op t x =>
    simp only [opV, oUn] at hv ⊢
    split at hv
    · exact ⟨s', key hv⟩
    · cases hv
  case indexAddr t x i =>
    simp only [opV, oIndexAddr] at hv ⊢
    split at hv
    · exact ⟨s', key hv⟩
    · cases hv
  case extract t i =>
    simp only [opV, oExtract] at hv ⊢
    split at hv
    · exact ⟨s', key hv⟩
    · cases hv

/-- The places of what moves. -/
def mvIdx : List Oper → Nat → List Nat
  | [], _ => []
  | o :: l, i => match moves o.op with
    | true => i :: mvIdx l (i + 1)
    | false => mvIdx l (i + 1)

def calmS (bef : T Nat) (ks : List Nat) : List Oper → Nat → Bool
  | [], _ => true
  | o :: l, i => (match moves o.op with
    | true => ks.any fun k => Nat.beq k i
    | false => pureOp o.op || ks.all fun k => Nat.blt i k && (bits bef k).testBit i) && calmS bef ks l (i + 1)

def textS (ops : Array Oper) : Bool :=
  staticS ops && calmS (preds ops.toList 0 .nil) (mvIdx ops.toList 0) ops.toList 0

theorem stepOp_none {ops : Array Oper} {o : Oper} {τ : Fr} {s s' : St} {v : CV} {cl : FuncId → List CV → St → Option (CV × St)} (hm : moves o.op = false) (h : stepOp P cl ops o τ s = some (v, s')) :
    stepOp P (fun _ _ _ => none) ops o τ s = some (v, s') := by
  unfold stepOp at h ⊢
  split at h
  · cases h
  · exact h
  · split at h
    · cases h
    · exact h
    · rename_i hv
      obtain ⟨u, hu⟩ := opV_quiet hm hv
      cases hu

theorem stepOp_pure {ops : Array Oper} {o : Oper} {τ : Fr} {s s' : St} {v : CV} (hp : pureOp o.op = true) (h : stepOp P (fun _ _ _ => none) ops o τ s = some (v, s')) (t : St) :
    ∃ t', stepOp P (fun _ _ _ => none) ops o τ t = some (v, t') := by
  unfold stepOp at h ⊢
  split at h
  · cases h
  · simp only [Option.some.injEq, Prod.mk.injEq] at h; exact ⟨t, by rw [h.1]⟩
  · split at h
    · cases h
    · rename_i hv
      simp only [Option.some.injEq, Prod.mk.injEq] at h
      obtain ⟨t', ht⟩ := pure_any hp hv t
      rw [ht]
      exact ⟨t', by rw [h.1]⟩
    · cases h

theorem drawS_run {ops : Array Oper} {bef : T Nat} {ks : List Nat} {s₀ : St} {Q : Fr → St → Prop} : ∀ {l : List Oper} {i : Nat} {τ : Fr} {s : St} {p : Option Nat}, opsW' P H ops l τ s Q → ((∀ k ∈ ks, i ≤ k) → s = s₀) →
    chainS ops bef l i p = true → calmS bef ks l i = true →
    ∃ n ds ms τ' s', drawOps P (ev P H n).call ops bef l i τ s = some (ds, ms, τ') ∧ Q τ' s' ∧ ms.getLast? = some s' ∧ ms.head? = some s ∧
      (∀ d ∈ ds, d.mv = true ∨ (∀ t, ∃ t', stepOp P (fun _ _ _ => none) ops d.o d.τ t = some (d.v, t')) ∨ ((∃ t', stepOp P (fun _ _ _ => none) ops d.o d.τ s₀ = some (d.v, t')) ∧ ∀ k ∈ ks, (bits bef k).testBit d.i = true)) ∧
      (∀ d ∈ ds, d.mv = true → d.i ∈ ks ∧ d.pre = bits bef d.i) ∧
      chainOk (ds.filter (·.mv)) = true ∧ (∀ j d, p = some j → (ds.filter (·.mv)).head? = some d → d.pre.testBit j = true)
  | [], i, τ, s, p, h, hs, _, _ => ⟨0, [], [s], τ, s, rfl, h, rfl, rfl, by simp, by simp, rfl, by simp⟩
  | o :: l, i, τ, s, p, h, hs, hc, hk => by
    simp only [opsW'] at h
    simp only [chainS] at hc
    simp only [calmS, Bool.and_eq_true] at hk
    cases hm : moves o.op with
    | true =>
      rw [hm] at hc hk
      simp only [Bool.and_eq_true] at hc
      have hin : i ∈ ks := by
        have := hk.1
        simp only [List.any_eq_true, beq_iff] at this
        obtain ⟨k, h1, h2⟩ := this
        rw [← h2]; exact h1
      obtain ⟨n, v, s₁, h1, h2⟩ := stepW_run h
      obtain ⟨m, ds, ms, τ', s', h3, h4, h5, h6, h7, h8, h9, h10⟩ := drawS_run (ks := ks) (s₀ := s₀) h2 (fun hall => absurd (hall i hin) (by omega)) hc.2 hk.2
      refine ⟨max n m, ⟨i, o, τ.only (o.looksAt ops), v, true, bits bef i⟩ :: ds, s :: ms, τ', s', ?_, h4, ?_, rfl, ?_, ?_, ?_, ?_⟩
      · simp only [drawOps, stepOp_only]
        rw [stepOp_le (ev_le (Nat.le_max_left n m)).call h1]
        simp only
        rw [drawOps_le (ev_le (Nat.le_max_right n m)).call h3]
        simp only [hm]
      · cases ms with
        | nil => simp at h5
        | cons a b => rw [List.getLast?_cons_cons]; exact h5
      · intro d hd
        rcases List.mem_cons.1 hd with rfl | hd
        · exact .inl rfl
        · exact h7 d hd
      · intro d hd hdm
        rcases List.mem_cons.1 hd with rfl | hd
        · exact ⟨hin, rfl⟩
        · exact h8 d hd hdm
      · simp only [List.filter_cons, if_true]
        cases hf : ds.filter (·.mv) with
        | nil => rfl
        | cons e r =>
          simp only [chainOk, Bool.and_eq_true]
          rw [hf] at h9 h10
          exact ⟨h10 i e rfl rfl, h9⟩
      · intro j d hj hd
        simp only [List.filter_cons, if_true, List.head?_cons, Option.some.injEq] at hd
        subst hd
        subst hj
        exact hc.1
    | false =>
      rw [hm] at hc hk
      simp only at hc hk
      obtain ⟨n, v, s₁, h1, h2⟩ := stepW_run h
      have hss := stepOp_quiet o τ s v s₁ hm h1
      subst hss
      have h1' := stepOp_none hm h1
      obtain ⟨m, ds, ms, τ', s', h3, h4, h5, h6, h7, h8, h9, h10⟩ := drawS_run (ks := ks) (s₀ := s₀) h2 (fun hall => hs fun k hk => Nat.le_of_succ_le (hall k hk)) hc hk.2
      refine ⟨m, ⟨i, o, τ.only (o.looksAt ops), v, false, bits bef i⟩ :: ds, ms, τ', s', ?_, h4, h5, h6, ?_, ?_, ?_, ?_⟩
      · simp only [drawOps, stepOp_only]
        rw [stepOp_le (cl := fun _ _ _ => none) (fun _ _ _ _ h => by cases h) h1']
        simp only
        rw [h3]
        simp only [hm]
      · intro d hd
        rcases List.mem_cons.1 hd with rfl | hd
        · refine .inr ?_
          have hk1 := hk.1
          rw [Bool.or_eq_true] at hk1
          simp only [stepOp_only]
          rcases hk1 with hp | hall
          · exact .inl (stepOp_pure hp h1')
          · rw [List.all_eq_true] at hall
            have hall' : ∀ k ∈ ks, i < k ∧ (bits bef k).testBit i = true := fun k hk => by
              have := hall k hk
              simp only [Bool.and_eq_true, blt_iff] at this
              exact this
            have : s₁ = s₀ := hs fun k hk => Nat.le_of_lt (hall' k hk).1
            subst this
            exact .inr ⟨⟨_, h1'⟩, fun k hk => (hall' k hk).2⟩
        · exact h7 d hd
      · intro d hd hdm
        rcases List.mem_cons.1 hd with rfl | hd
        · cases hdm
        · exact h8 d hd hdm
      · simp only [List.filter_cons, Bool.false_eq_true, if_false]; exact h9
      · simp only [List.filter_cons, Bool.false_eq_true, if_false]; exact h10

/-- A region that draws, its operations in the text's order. -/
theorem codeW_drawS {i : Nat} {ops : Array Oper} {τ : Fr} {s : St} {Q : Ex → Fr → St → Prop} (hst : textS ops = true) (h : opsW P H ops ops.toList τ s (Q .norm)) : codeW P H (.region i ops true) τ s Q := by
  simp only [textS, staticS, Bool.and_eq_true] at hst
  obtain ⟨⟨hb, ha, hc⟩, hk⟩ := hst
  obtain ⟨n, ds, ms, τ', s', h1, h2, h3, h4, h5, h6, h7, -⟩ := drawS_run (bef := preds ops.toList 0 .nil) (ks := mvIdx ops.toList 0) (s₀ := s) h.h (fun _ => rfl) hc hk
  refine codeW_draw (n := n) (τ' := τ') (s' := s') ?_ h2
  unfold runDraw
  simp only [hb, ha, h1, h7, h3]
  have h8 : (ds.all fun d => d.mv || steady P (ev P H n).call ops d (ds.filter (·.mv)) ms) = true := by
    rw [List.all_eq_true]
    intro d hd
    rw [Bool.or_eq_true]
    have up : ∀ {t t' : St}, stepOp P (fun _ _ _ => none) ops d.o d.τ t = some (d.v, t') → stepOp P (ev P H n).call ops d.o d.τ t = some (d.v, t') := fun h => stepOp_le (cl := fun _ _ _ => none) (fun _ _ _ _ h => by cases h) h
    rcases h5 d hd with h | h | ⟨⟨t', h⟩, hks⟩
    · exact .inl h
    · exact .inr (steady_all _ _ fun t _ => by obtain ⟨t', ht⟩ := h t; exact ⟨t', up ht⟩)
    · refine .inr ?_
      cases ms with
      | nil => simp at h4
      | cons s1 ms =>
        simp only [List.head?_cons, Option.some.injEq] at h4
        subst h4
        unfold steady
        cases hf : ds.filter (·.mv) with
        | nil => simp [up h, same_refl]
        | cons m mvs =>
          have hmem : m ∈ ds.filter (·.mv) := by rw [hf]; exact List.mem_cons_self
          rw [List.mem_filter] at hmem
          obtain ⟨g1, g2⟩ := h6 m hmem.1 hmem.2
          have g3 : m.pre.testBit d.i = true := by rw [g2]; exact hks _ g1
          simp only [g3, up h, same_refl]
          cases ((m :: mvs).any fun m => d.pre.testBit m.i) <;> rfl
  rw [h8]

end
end Go.Ae
