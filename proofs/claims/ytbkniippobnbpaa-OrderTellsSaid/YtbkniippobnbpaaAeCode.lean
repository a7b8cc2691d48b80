/-
  Regions without draws, code, calls.
-/
import Derived.Test.YtbkniippobnbpaaAeOp
import Derived.LoopN
import Derived.Scope
namespace Go.Ae
set_option linter.unusedSimpArgs false

section
variable {P : Program}

/-- What a caller may lean on. -/
def CallPost (P : Program) (E : Env) (s : St) (w : World) (v : CV) (s' : St) (e : Ending) (w' : World) : Prop :=
  ∃ u E', e = .returned u ∧ Goes P E s w E' s' w' ∧ VRel E' v u

def CallsOk (P : Program) (cl : FuncId → List CV → St → Option (CV × St)) : Prop :=
  ∀ f args s v s', cl f args s = some (v, s') → ∀ (E : Env) (w : World) (vs : Array Value), WRel P E s w → VRels E args vs.toList → Calls P f vs w (CallPost P E s w v s')

theorem Act.put_tmps (a : Act) (d : Option Tmp) (u : Value) : (a.put d u).tmps = (match d with | some d => a.tmps.setIfInBounds d u | none => a.tmps) := by cases d <;> rfl
theorem Act.put_defers' (a : Act) (d : Option Tmp) (u : Value) : (a.put d u).defers = a.defers := by cases d <;> rfl

theorem TRel.put {E : Env} {τ : Fr} {a : Act} (h : TRel E τ a.tmps) {d : Option Tmp} {v : CV} {u : Value} (hv : VRel E v u) : TRel E (τ.put d v) (a.put d u).tmps := by
  cases d with
  | none => exact h
  | some d =>
    obtain ⟨t, n⟩ := τ
    rw [Act.put_tmps]
    simp only [Fr.put]
    have hsz : a.tmps.size = n := h.size
    split
    · rename_i hd
      rw [blt_iff] at hd
      refine ⟨by simpa using hsz, fun q c hq => ?_⟩
      rw [T.get_set] at hq
      by_cases hqd : q = d
      · subst hqd
        rw [if_pos rfl, Option.some.injEq] at hq
        subst hq
        refine ⟨hd, ?_⟩
        simp only [Array.getD_eq_getD_getElem?]
        rw [Array.getElem?_setIfInBounds_self]
        simp [hsz, hd, hv]
      · rw [if_neg hqd] at hq
        obtain ⟨h1, h2⟩ := h.get q c hq
        refine ⟨h1, ?_⟩
        simp only [Array.getD_eq_getD_getElem?] at h2 ⊢
        rw [Array.getElem?_setIfInBounds_ne (fun e => hqd e.symm)]
        exact h2
    · rename_i hd
      rw [blt_no] at hd
      have he : a.tmps.setIfInBounds d u = a.tmps := by
        apply Array.ext_getElem?
        intro q
        by_cases hqd : d = q
        · subst hqd
          rw [Array.getElem?_setIfInBounds_self, Array.getElem?_eq_none (by omega)]
          simp [hsz, hd]
        · rw [Array.getElem?_setIfInBounds_ne hqd]
      rw [he]
      exact h

theorem wantedV_ok {E : Env} {τ : Fr} {a : Act} (h : TRel E τ a.tmps) {ops : Array Oper} {o : Oper} {b : Bool} (hw : wantedV ops τ o = some b) : Region.wanted o (yielded ops a.tmps) = b := by
  unfold wantedV at hw
  unfold Region.wanted
  split at hw
  · rename_i hg
    rw [hg]
    simpa using hw
  · rename_i j want hg
    rw [hg]
    split at hw
    · cases hw
    · rename_i d hd
      split at hw
      · rename_i q hq
        simp only [Option.some.injEq] at hw
        obtain ⟨h1, h2⟩ := h.get d _ hq
        simp only [VRel] at h2
        have hs : a.tmps[d]? = some (.bool q) := by
          rw [Array.getD_eq_getD_getElem?, Array.getElem?_eq_getElem (by rw [h.size]; exact h1)] at h2
          rw [Array.getElem?_eq_getElem (by rw [h.size]; exact h1)]
          simpa using h2
        simp only [yielded, hd, Option.bind_some, hs]
        rw [← hw]
        cases q <;> cases want <;> rfl
      · rename_i hq
        simp only [Option.some.injEq] at hw
        obtain ⟨h1, h2⟩ := h.get d _ hq
        simp only [VRel, VRels] at h2
        obtain ⟨x, h2, hx⟩ := h2
        have hs : a.tmps[d]? = some (.tuple x) := by
          rw [Array.getD_eq_getD_getElem?, Array.getElem?_eq_getElem (by rw [h.size]; exact h1)] at h2
          rw [Array.getElem?_eq_getElem (by rw [h.size]; exact h1)]
          simpa using h2
        simp only [yielded, hd, Option.bind_some, hs]
        rw [← hw]
        cases want <;> rfl
      · cases hw

/-- One operation of a region. -/
theorem stepOp_ok {cl : FuncId → List CV → St → Option (CV × St)} (hcl : CallsOk P cl) {ops : Array Oper} {o : Oper} {τ : Fr} {s : St} {v : CV} {s' : St} (h : stepOp P cl ops o τ s = some (v, s'))
    {E : Env} {a : Act} {w : World} (hw : WRel P E s w) (ht : TRel E τ a.tmps) {K : Act → World → Prop} {Q : Exit → Act → World → Prop}
    (hK : ∀ E' u w', Goes P E s w E' s' w' → VRel E' v u → K (a.put o.dst u) w') :
    if Region.wanted o (yielded ops a.tmps) then o.wp P a w K Q ∨ (o.asks P a w ∧ LetsOut Q) else K (a.put o.dst undef) w := by
  unfold stepOp at h
  split at h
  · cases h
  · rename_i hwt
    rw [wantedV_ok ht hwt]
    simp only [Option.some.injEq, Prod.mk.injEq] at h
    obtain ⟨rfl, rfl⟩ := h
    simp only [Bool.false_eq_true, if_false]
    refine hK E undef w (Goes.refl hw) ?_
    simp only [VRel, undef]
    exact ⟨#[], rfl, VRels.nil⟩
  · rename_i hwt
    rw [wantedV_ok ht hwt]
    simp only [if_true]
    left
    unfold Oper.wp
    split at h
    · cases h
    · rename_i v' s1 hop
      simp only [Option.some.injEq, Prod.mk.injEq] at h
      obtain ⟨rfl, rfl⟩ := h
      obtain ⟨u, w', E', hr, g, hv⟩ := opV_ok hw ht hop
      rcases hr with hr | ⟨hr, rfl⟩
      · rw [hr]; exact hK E' u w' g hv
      · rw [hr]; exact hK E' undef w' g hv
    · rename_i f args s1 hop
      obtain ⟨rfl, vs, hr, hvs⟩ := opV_ok hw ht hop
      rw [hr]
      refine (hcl f args s1 v s' h E w vs hw hvs).mono ?_
      rintro e w' ⟨u, E', rfl, g, hv⟩
      exact hK E' u w' g hv

theorem runOps_ok {cl : FuncId → List CV → St → Option (CV × St)} (hcl : CallsOk P cl) {ops : Array Oper} {Q : Exit → Act → World → Prop} : ∀ (l : List Oper) (k : Nat) (τ : Fr) (s : St) (τ' : Fr) (s' : St),
    (∀ j, l[j]? = ops[k + j]?) → runOps P cl ops l τ s = some (τ', s') → ∀ (E : Env) (a : Act) (w : World), WRel P E s w → TRel E τ a.tmps →
    (∀ E' a' w', Goes P E s w E' s' w' → TRel E' τ' a'.tmps → a'.defers = a.defers → Q .normal a' w') → wpOps P ops Q (List.range' k l.length) a w
  | [], k, τ, s, τ', s', _, h, E, a, w, hw, ht, hQ => by
    simp only [runOps, Option.some.injEq, Prod.mk.injEq] at h
    obtain ⟨rfl, rfl⟩ := h
    exact hQ E a w (Goes.refl hw) ht rfl
  | o :: l, k, τ, s, τ', s', hl, h, E, a, w, hw, ht, hQ => by
    simp only [runOps] at h
    split at h
    · cases h
    · rename_i v s1 hs
      have ho : ops[k]? = some o := by have := hl 0; simpa using this.symm
      simp only [List.length_cons, List.range'_succ, wpOps, ho]
      refine stepOp_ok hcl hs hw ht fun E1 u w1 g hv => ?_
      refine runOps_ok hcl l (k + 1) _ s1 τ' s' (fun j => by have := hl (j + 1); simpa [Nat.add_assoc, Nat.add_comm 1 j] using this) h E1 _ w1 g.rel ((ht.mono g.ext).put hv) fun E' a' w' g' ht' hd => ?_
      exact hQ E' a' w' (g.trans g') ht' (by rw [hd, Act.put_defers'])

def exOf : Ex → Exit
  | .norm => .normal
  | .exit id => .exit id
  | .ret => .ret

def CodeOk (P : Program) (cd : Code → Fr → St → Res) : Prop :=
  ∀ c τ s ex τ' s', cd c τ s = some (ex, τ', s') → ∀ (E : Env) (a : Act) (w : World) (Q : Exit → Act → World → Prop), WRel P E s w → TRel E τ a.tmps →
    (∀ E' a' w', Goes P E s w E' s' w' → TRel E' τ' a'.tmps → a'.defers = a.defers → Q (exOf ex) a' w') → c.wp P Q a w

def LoopOk (P : Program) (lp : Code → Fr → St → Res) : Prop :=
  ∀ c τ s ex τ' s', lp c τ s = some (ex, τ', s') → ∃ n, ∀ (E : Env) (a : Act) (w : World) (Q : Exit → Act → World → Prop), WRel P E s w → TRel E τ a.tmps →
    (∀ E' a' w', Goes P E s w E' s' w' → TRel E' τ' a'.tmps → a'.defers = a.defers → Q (exOf ex) a' w') → Code.rounds P c Q n a w

structure EvOk (P : Program) (e : Ev) : Prop where
  code : CodeOk P e.code
  loop : LoopOk P e.loop
  call : CallsOk P e.call

/-- Every order of a region that draws gives what the evaluator says. -/
def DrawOk (P : Program) : Prop :=
  ∀ cl, CallsOk P cl → ∀ ops τ s τ' s', runDraw P cl ops τ s = some (τ', s') → ∀ (E : Env) (a : Act) (w : World) (Q : Exit → Act → World → Prop), WRel P E s w → TRel E τ a.tmps →
    (∀ E' a' w', Goes P E s w E' s' w' → TRel E' τ' a'.tmps → a'.defers = a.defers → Q .normal a' w') → wpAny P .any ops Q ops.size (Array.replicate ops.size false) a w

def resOne (tm : Array Value) : ResultVar → Sem Value
  | .tmp t => Pure.pure (tm.getD t undef)
  | .cell a t => do Go.loadVar t (← asAddr (tm.getD a undef))

theorem results_run {fn : Func} {tm : Array Value} {w : World} {vs : List Value} (h : (fn.results.toList.mapM (resOne tm)).run P w = .ok vs w) :
    (Go.results fn tm).run P w = .ok (if h : vs.toArray.size = 1 then vs.toArray[0] else .tuple vs.toArray) w := by
  have e : Go.results fn tm = (do
      let vs ← fn.results.mapM (resOne tm)
      Pure.pure (if h : vs.size = 1 then vs[0] else .tuple vs)) := by
    unfold Go.results
    congr 1
  rw [e, Array.mapM_eq_mapM_toList, Sem.run_bind, Sem.run_map, h]
  rfl

theorem results_ok {E : Env} {s : St} {w : World} (hw : WRel P E s w) {fn : Func} {τ : Fr} {tm : Array Value} (ht : TRel E τ tm) {v : CV} (h : results P fn τ s = some v) :
    ∃ u, (Go.results fn tm).run P w = .ok u w ∧ VRel E v u := by
  unfold results at h
  have key : ∀ (l : List ResultVar) (cs : List CV), mapO (fun r : ResultVar => match r with
      | .tmp t => τ.get t
      | .cell a t => match τ.get a with
        | some (.ptr b o) => loadVar P s t b o
        | _ => none) l = some cs → ∃ vs : List Value, (l.mapM (resOne tm)).run P w = .ok vs w ∧ VRels E cs vs := by
    intro l
    induction l with
    | nil => intro cs h; simp only [mapO, Option.some.injEq] at h; subst h; exact ⟨[], by simp, VRels.nil⟩
    | cons r l ih =>
      intro cs h
      simp only [mapO] at h
      split at h
      · cases h
      · rename_i y hy
        split at h
        · cases h
        · rename_i ys hys
          simp only [Option.some.injEq] at h
          subst h
          obtain ⟨vs, h1, h2⟩ := ih ys hys
          cases r with
          | tmp t =>
            have hv := (ht.get t y hy).2
            exact ⟨tm.getD t undef :: vs, by simp only [List.mapM_cons, resOne, Sem.run_bind, Sem.run_pure, Result.andThen_ok, h1], VRels.cons hv h2⟩
          | cell a t =>
            simp only at hy
            split at hy
            · rename_i b o hb
              have hv := (ht.get a _ hb).2
              simp only [VRel] at hv
              obtain ⟨i, hi, hv⟩ := hv
              obtain ⟨u, h3, h4⟩ := loadVar_ok hw hi hy
              refine ⟨u :: vs, ?_, VRels.cons h4 h2⟩
              simp only [List.mapM_cons, resOne, Sem.run_bind, hv, asAddr, Sem.run_pure, Result.andThen_ok, h3, h1]
            · cases hy
  split at h
  · cases h
  · rename_i y hy
    simp only [Option.some.injEq] at h
    subst h
    obtain ⟨vs, h1, h2⟩ := key _ _ hy
    simp only [VRels] at h2
    obtain ⟨u, r, rfl, hu, rfl⟩ := h2
    refine ⟨u, ?_, hu⟩
    rw [results_run h1]
    rfl
  · rename_i l hno hy
    simp only [Option.some.injEq] at h
    subst h
    obtain ⟨vs, h1, h2⟩ := key _ _ hy
    refine ⟨.tuple vs.toArray, ?_, by simp only [VRel]; exact ⟨_, rfl, by simpa using h2⟩⟩
    have hl : ¬ vs.toArray.size = 1 := by
      intro h3
      have h4 : l.length = 1 := by rw [← h2.length]; simpa using h3
      match l, h4 with
      | [x], _ => exact hno x rfl
    rw [results_run h1, dif_neg hl]

theorem argsT_get : ∀ (l : List CV) (i : Nat) (t : T CV) (q : Nat), (argsT l i t).get q = if i ≤ q ∧ q < i + l.length then l[q - i]? else t.get q
  | [], i, t, q => by simp only [argsT, List.length_nil, Nat.add_zero]; rw [if_neg (by omega)]
  | v :: l, i, t, q => by
    simp only [argsT, argsT_get l (i + 1), List.length_cons]
    by_cases h1 : i + 1 ≤ q ∧ q < i + 1 + l.length
    · rw [if_pos h1, if_pos (by omega)]
      obtain ⟨k, hk⟩ : ∃ k, q - i = k + 1 := ⟨q - i - 1, by omega⟩
      rw [hk, List.getElem?_cons_succ]
      congr 1
      omega
    · rw [if_neg h1, T.get_set]
      by_cases h2 : q = i
      · subst h2; rw [if_pos rfl, if_pos (by omega)]; simp
      · rw [if_neg h2, if_neg (by omega)]

theorem args_rel {E : Env} {args : List CV} {vs : Array Value} {n : Nat} (h : VRels E args vs.toList) : TRel E ⟨argsT args 0 .nil, max args.length n⟩ (vs ++ Array.replicate (n - vs.size) undef) := by
  have hl : vs.size = args.length := by rw [← h.length]; simp
  refine ⟨by simp; omega, fun t c hc => ?_⟩
  rw [argsT_get] at hc
  split at hc
  · rename_i ht
    simp only [Nat.sub_zero] at hc
    obtain ⟨v, hv, hr⟩ := h.get t c hc
    refine ⟨by show t < max args.length n; omega, ?_⟩
    rw [Array.getD_eq_getD_getElem?, Array.getElem?_append_left (by omega)]
    simp only [Array.getElem?_toList] at hv
    rw [hv]
    exact hr
  · cases hc

theorem next_ok (hm : P.follows .mixedOrders = true) (hdr : DrawOk P) {H : Hooks} (hH : CallsOk P H) {e : Ev} (he : EvOk P e) : EvOk P (Ev.next P H e) := by
  refine ⟨?_, ?_, ?_⟩
  · intro c τ s ex τ' s' h E a w Q hw ht hQ
    simp only [Ev.next] at h
    split at h
    · simp only [Option.some.injEq, Prod.mk.injEq] at h
      obtain ⟨rfl, rfl, rfl⟩ := h
      exact wp_skip (hQ E a w (Goes.refl hw) ht rfl)
    · simp only [Option.some.injEq, Prod.mk.injEq] at h
      obtain ⟨rfl, rfl, rfl⟩ := h
      exact wp_label (hQ E a w (Goes.refl hw) ht rfl)
    · split at h
      · rename_i ops _ τ1 s1 hr
        simp only [Option.some.injEq, Prod.mk.injEq] at h
        obtain ⟨rfl, rfl, rfl⟩ := h
        refine wp_region ?_
        have := runOps_ok (Q := Q) he.call ops.toList 0 τ s τ1 s1 (fun j => by simp) hr E a w hw ht hQ
        rw [List.range_eq_range']
        simpa using this
      · cases h
    · split at h
      · rename_i ops _ τ1 s1 hr
        simp only [Option.some.injEq, Prod.mk.injEq] at h
        obtain ⟨rfl, rfl, rfl⟩ := h
        refine wp_region_any hm ?_
        refine hdr _ he.call ops τ s τ1 s1 hr E a _ Q hw.drew ht fun E' a' w' g ht' hd => hQ E' a' w' ((Goes.drew hw).trans g) ht' hd
      · cases h
    · rename_i x y
      split at h
      · rename_i τ1 s1 hx
        refine wp_seq (he.code x τ s _ τ1 s1 hx E a w _ hw ht fun E1 a1 w1 g ht1 hd => ?_)
        show y.wp P Q a1 w1
        exact he.code y τ1 s1 ex τ' s' h E1 a1 w1 Q g.rel ht1 fun E' a' w' g' ht' hd' => hQ E' a' w' (g.trans g') ht' (hd'.trans hd)
      · rename_i hno
        refine wp_seq (he.code x τ s ex τ' s' h E a w _ hw ht fun E1 a1 w1 g ht1 hd => ?_)
        cases ex with
        | norm => exact absurd h (hno τ' s')
        | exit id => exact hQ E1 a1 w1 g ht1 hd
        | ret => exact hQ E1 a1 w1 g ht1 hd
    · rename_i c x y
      split at h
      · rename_i hc
        have hcv := opd_ok hw ht hc
        simp only [VRel] at hcv
        exact wp_cond_true hcv (he.code x τ s ex τ' s' h E a w Q hw ht hQ)
      · rename_i hc
        have hcv := opd_ok hw ht hc
        simp only [VRel] at hcv
        exact wp_cond_false hcv (he.code y τ s ex τ' s' h E a w Q hw ht hQ)
      · cases h
    · rename_i id b
      refine wp_block ?_
      split at h
      · rename_i j τ1 s1 hb
        split at h
        · rename_i hj
          rw [beq_iff] at hj
          simp only [Option.some.injEq, Prod.mk.injEq] at h
          obtain ⟨rfl, rfl, rfl⟩ := h
          refine he.code b τ s _ τ1 s1 hb E a w _ hw ht fun E1 a1 w1 g ht1 hd => ?_
          show (if j = id then Q .normal a1 w1 else Q (.exit j) a1 w1)
          rw [if_pos hj]
          exact hQ E1 a1 w1 g ht1 hd
        · rename_i hj
          rw [beq_no] at hj
          simp only [Option.some.injEq, Prod.mk.injEq] at h
          obtain ⟨rfl, rfl, rfl⟩ := h
          refine he.code b τ s _ τ1 s1 hb E a w _ hw ht fun E1 a1 w1 g ht1 hd => ?_
          show (if j = id then Q .normal a1 w1 else Q (.exit j) a1 w1)
          rw [if_neg hj]
          exact hQ E1 a1 w1 g ht1 hd
      · rename_i hno
        refine he.code b τ s ex τ' s' h E a w _ hw ht fun E1 a1 w1 g ht1 hd => ?_
        cases ex with
        | norm => exact hQ E1 a1 w1 g ht1 hd
        | exit j => exact absurd h (hno j τ' s')
        | ret => exact hQ E1 a1 w1 g ht1 hd
    · rename_i b
      obtain ⟨n, hn⟩ := he.loop b τ s ex τ' s' h
      exact wp_loop_rounds n (hn E a w Q hw ht hQ)
    · simp only [Option.some.injEq, Prod.mk.injEq] at h
      obtain ⟨rfl, rfl, rfl⟩ := h
      exact wp_exit (hQ E a w (Goes.refl hw) ht rfl)
    · rename_i b
      refine wp_scope_straight (he.code b τ s ex τ' s' h E a w _ hw ht fun E1 a1 w1 g ht1 hd => ?_)
      cases ex <;> exact hQ E1 a1 w1 g ht1 hd
    · simp only [Option.some.injEq, Prod.mk.injEq] at h
      obtain ⟨rfl, rfl, rfl⟩ := h
      exact wp_ret (hQ E a w (Goes.refl hw) ht rfl)
    · cases h
  · intro c τ s ex τ' s' h
    simp only [Ev.next] at h
    split at h
    · rename_i τ1 s1 hx
      obtain ⟨n, hn⟩ := he.loop c τ1 s1 ex τ' s' h
      refine ⟨n + 1, fun E a w Q hw ht hQ => ?_⟩
      rw [rounds_succ]
      refine he.code c τ s _ τ1 s1 hx E a w _ hw ht fun E1 a1 w1 g ht1 hd => ?_
      exact hn E1 a1 w1 Q g.rel ht1 fun E' a' w' g' ht' hd' => hQ E' a' w' (g.trans g') ht' (hd'.trans hd)
    · rename_i hno
      refine ⟨1, fun E a w Q hw ht hQ => ?_⟩
      rw [rounds_succ]
      refine he.code c τ s ex τ' s' h E a w _ hw ht fun E1 a1 w1 g ht1 hd => ?_
      cases ex with
      | norm => exact absurd h (hno τ' s')
      | exit id => exact hQ E1 a1 w1 g ht1 hd
      | ret => exact hQ E1 a1 w1 g ht1 hd
  · intro f args s v s' h E w vs hw hvs
    simp only [Ev.next] at h
    split at h
    · rename_i r hr
      simp only [Option.some.injEq] at h
      subst h
      exact hH f args s v s' hr E w vs hw hvs
    · split at h
      · cases h
      · rename_i fn hf
        split at h
        · cases h
        · rename_i c hc
          have hargs := args_rel (n := fn.ntmps) hvs
          split at h
          · rename_i τ1 s1 hx
            split at h
            · rename_i v1 hv1
              simp only [Option.some.injEq, Prod.mk.injEq] at h
              obtain ⟨rfl, rfl⟩ := h
              refine calls_of_wp hf hc (he.code c _ s _ τ1 s1 hx E _ w _ hw hargs fun E1 a1 w1 g ht1 hd => ?_)
              obtain ⟨u, hu1, hu2⟩ := results_ok g.rel ht1 hv1
              exact ⟨hd, u, hu1, u, E1, rfl, g, hu2⟩
            · cases h
          · rename_i τ1 s1 hx
            split at h
            · rename_i v1 hv1
              simp only [Option.some.injEq, Prod.mk.injEq] at h
              obtain ⟨rfl, rfl⟩ := h
              refine calls_of_wp hf hc (he.code c _ s _ τ1 s1 hx E _ w _ hw hargs fun E1 a1 w1 g ht1 hd => ?_)
              obtain ⟨u, hu1, hu2⟩ := results_ok g.rel ht1 hv1
              exact ⟨hd, u, hu1, u, E1, rfl, g, hu2⟩
            · cases h
          · cases h

end
end Go.Ae
