/-
  The evaluator is sound; closed calls.
-/
import Derived.Test.YtbkniippobnbpaaAeDraw
import Derived.Below
namespace Go.Ae
set_option linter.unusedSimpArgs false

section
variable {P : Program}

theorem evOk (hm : P.follows .mixedOrders = true) {H : Hooks} (hH : CallsOk P H) : ∀ n, EvOk P (ev P H n)
  | 0 => ⟨fun _ _ _ _ _ _ h => by simp [ev, Ev.zero] at h, fun _ _ _ _ _ _ h => by simp [ev, Ev.zero] at h, fun _ _ _ _ _ h => by simp [ev, Ev.zero] at h⟩
  | n + 1 => next_ok hm drawOk hH (evOk hm hH n)

def noHooks : Hooks := fun _ _ _ => none

theorem noHooks_ok : CallsOk P noHooks := fun _ _ _ _ _ h => by simp [noHooks] at h

/-- Memory in which nothing is seen but where the globals lie. -/
def st₀ (P : Program) : St := { h := .nil, nx := P.globals.size }

def env₀ (P : Program) : Env := fun g => if g < P.globals.size then some ⟨g, 0, 0, true, 0, 0⟩ else none

theorem wrel₀ (w : World) : WRel P (env₀ P) (st₀ P) w where
  obj b x h := by simp [st₀, T.get] at h
  inj b c x y i j h := by simp [st₀, T.get] at h
  new b i h := by
    unfold env₀ at h
    split at h
    · assumption
    · cases h
  key b x h := by simp [st₀, T.get] at h
  glo g h := ⟨_, by unfold env₀; rw [if_pos h], rfl, rfl⟩

theorem closed (hm : P.follows .mixedOrders = true) {n : Nat} {f : FuncId} {v : CV} {s' : St} (h : (ev P noHooks n).call f [] (st₀ P) = some (v, s')) (w : World) :
    Calls P f #[] w fun e w' => ∃ u E', e = .returned u ∧ VRel E' v u ∧ RowKit.Below w.heap.size w w' := by
  refine ((evOk hm noHooks_ok n).call f [] (st₀ P) v s' h (env₀ P) w #[] (wrel₀ w) VRels.nil).mono ?_
  rintro e w' ⟨u, E', he, g, hv⟩
  refine ⟨u, E', he, hv, g.keep.os, g.keep.tape, g.keep.output, g.keep.size, fun k hk => g.keep.blk k hk ?_⟩
  rintro ⟨b, x, i, hb, -⟩
  simp [st₀, T.get] at hb

theorem Goes.below {E : Env} {s : St} {w w' : World} (hw : WRel P E s w) (hb : RowKit.Below w.heap.size w w') : Goes P E s w E s w' where
  ext := Env.le_refl E
  rel := {
    obj := fun b x hx hl => by
      obtain ⟨i, o, h1, h2, h3⟩ := hw.obj b x hx hl
      refine ⟨i, o, h1, ?_, h3⟩
      rw [hb.block _ (Array.getElem?_eq_some_iff.1 h2).1]
      exact h2
    inj := hw.inj
    new := hw.new
    key := hw.key
    glo := hw.glo }
  keep := ⟨hb.os, hb.tape, hb.output, hb.size, fun k hk _ => hb.block k hk, fun _ h => .inl h⟩

/-- Calls without arguments that are known to answer a bool and to leave memory alone. -/
def boolHooks (l : List (FuncId × Bool)) : Hooks := fun f args s => match args with
  | [] => match l.lookup f with
    | some b => some (.bool b, s)
    | none => none
  | _ => none

theorem boolHooks_ok {l : List (FuncId × Bool)} (h : ∀ f b, l.lookup f = some b → ∀ w, Calls P f #[] w fun e w' => e = .returned (.bool b) ∧ RowKit.Below w.heap.size w w') : CallsOk P (boolHooks l) := by
  intro f args s v s' hf E w vs hw hvs
  unfold boolHooks at hf
  split at hf
  · split at hf
    · rename_i b hb
      simp only [Option.some.injEq, Prod.mk.injEq] at hf
      obtain ⟨rfl, rfl⟩ := hf
      have hn : vs = #[] := by
        have := hvs.length
        simpa using this
      subst hn
      refine (h f b hb w).mono ?_
      rintro e w' ⟨rfl, hbl⟩
      exact ⟨_, E, rfl, Goes.below hw hbl, by simp only [VRel]⟩
    · cases hf
  · cases hf

theorem closed_bool (hm : P.follows .mixedOrders = true) {n : Nat} {f : FuncId} {b : Bool} (h : (((ev P noHooks n).call f [] (st₀ P)).map fun r => same r.1 (.bool b)) = some true) (w : World) :
    Calls P f #[] w fun e w' => e = .returned (.bool b) ∧ RowKit.Below w.heap.size w w' := by
  cases hr : (ev P noHooks n).call f [] (st₀ P) with
  | none => rw [hr] at h; cases h
  | some r =>
    obtain ⟨v, s'⟩ := r
    rw [hr] at h
    simp only [Option.map_some, Option.some.injEq] at h
    have := same_ok h
    subst this
    refine (closed hm hr w).mono ?_
    rintro e w' ⟨u, E', rfl, hv, hb⟩
    simp only [VRel] at hv
    subst hv
    exact ⟨rfl, hb⟩

/-! ### More steps, no other answer -/

structure Ev.le (e e' : Ev) : Prop where
  code : ∀ c τ s r, e.code c τ s = some r → e'.code c τ s = some r
  loop : ∀ c τ s r, e.loop c τ s = some r → e'.loop c τ s = some r
  call : ∀ f a s r, e.call f a s = some r → e'.call f a s = some r

theorem stepOp_le {cl cl' : FuncId → List CV → St → Option (CV × St)} (h : ∀ f a s r, cl f a s = some r → cl' f a s = some r) {ops : Array Oper} {o : Oper} {τ : Fr} {s : St} {r : CV × St}
    (hr : stepOp P cl ops o τ s = some r) : stepOp P cl' ops o τ s = some r := by
  unfold stepOp at hr ⊢
  split at hr
  · cases hr
  · exact hr
  · split at hr
    · cases hr
    · exact hr
    · exact h _ _ _ _ hr

theorem runOps_le {cl cl' : FuncId → List CV → St → Option (CV × St)} (h : ∀ f a s r, cl f a s = some r → cl' f a s = some r) {ops : Array Oper} : ∀ {l : List Oper} {τ : Fr} {s : St} {r : Fr × St},
    runOps P cl ops l τ s = some r → runOps P cl' ops l τ s = some r
  | [], _, _, _, hr => hr
  | o :: l, τ, s, r, hr => by
    simp only [runOps] at hr ⊢
    split at hr
    · cases hr
    · rename_i v s1 h1
      rw [stepOp_le h h1]
      exact runOps_le h hr

theorem drawOps_le {cl cl' : FuncId → List CV → St → Option (CV × St)} (h : ∀ f a s r, cl f a s = some r → cl' f a s = some r) {ops : Array Oper} {bef : T Nat} : ∀ {l : List Oper} {i : Nat} {τ : Fr} {s : St} {r : List Dr × List St × Fr},
    drawOps P cl ops bef l i τ s = some r → drawOps P cl' ops bef l i τ s = some r
  | [], _, _, _, _, hr => hr
  | o :: l, i, τ, s, r, hr => by
    simp only [drawOps] at hr ⊢
    split at hr
    · cases hr
    · rename_i v s1 h1
      rw [stepOp_le h h1]
      split at hr
      · cases hr
      · rename_i ds ms τ1 h2
        simp only [drawOps_le h h2]
        exact hr

theorem steady_le {cl cl' : FuncId → List CV → St → Option (CV × St)} (h : ∀ f a s r, cl f a s = some r → cl' f a s = some r) {ops : Array Oper} {d : Dr} : ∀ (ms : List St) (mvs : List Dr),
    steady P cl ops d mvs ms = true → steady P cl' ops d mvs ms = true
  | [], _, hr => by simp [steady]
  | s :: ms, mvs, hr => by
    have key : ∀ mvs', steady P cl ops d mvs' ms = true → steady P cl' ops d mvs' ms = true := fun mvs' => steady_le h ms mvs'
    have hl : ∀ mvs : List Dr, (match mvs with
        | [] => true
        | m :: mvs => match m.pre.testBit d.i with
          | true => true
          | false => steady P cl ops d mvs ms) = true → (match mvs with
        | [] => true
        | m :: mvs => match m.pre.testBit d.i with
          | true => true
          | false => steady P cl' ops d mvs ms) = true := by
      intro mvs hm
      cases mvs with
      | nil => rfl
      | cons m mvs =>
        simp only at hm ⊢
        split
        · rfl
        · rename_i hb
          rw [hb] at hm
          exact key _ hm
    unfold steady at hr ⊢
    simp only at hr ⊢
    split at hr
    · exact hl _ hr
    · simp only [Bool.and_eq_true] at hr ⊢
      refine ⟨?_, hl _ hr.2⟩
      have h1 := hr.1
      split at h1
      · rename_i v s1 h2
        rw [stepOp_le h h2]
        exact h1
      · cases h1

theorem runDraw_le {cl cl' : FuncId → List CV → St → Option (CV × St)} (h : ∀ f a s r, cl f a s = some r → cl' f a s = some r) {ops : Array Oper} {τ : Fr} {s : St} {r : Fr × St}
    (hr : runDraw P cl ops τ s = some r) : runDraw P cl' ops τ s = some r := by
  unfold runDraw at hr ⊢
  split at hr
  · split at hr
    · split at hr
      · cases hr
      · rename_i ds ms τ1 h2
        rw [drawOps_le h h2]
        dsimp only at hr ⊢
        split at hr
        · rename_i s1 h3 h4 h5
          have h6 : (ds.all fun d => d.mv || steady P cl' ops d (ds.filter (·.mv)) ms) = true := by
            rw [List.all_eq_true] at h4 ⊢
            intro d hd
            have := h4 d hd
            rw [Bool.or_eq_true] at this ⊢
            exact this.imp id (steady_le h _ _)
          rw [h3, h5, h6]
          exact hr
        · cases hr
    · cases hr
  · cases hr

theorem next_le {H : Hooks} {e e' : Ev} (h : e.le e') : (Ev.next P H e).le (Ev.next P H e') := by
  refine ⟨?_, ?_, ?_⟩
  · intro c τ s r hr
    cases c <;> simp only [Ev.next] at hr ⊢ <;> first | exact hr | (cases hr; done) | skip
    case region id ops dr =>
      cases dr
      · simp only at hr ⊢
        split at hr
        · rename_i h1; rw [runOps_le h.call h1]; exact hr
        · cases hr
      · simp only at hr ⊢
        split at hr
        · rename_i h1; rw [runDraw_le h.call h1]; exact hr
        · cases hr
    case seq a b =>
      split at hr
      · rename_i h1; rw [h.code _ _ _ _ h1]; exact h.code _ _ _ _ hr
      · rename_i hno
        cases h1 : e.code a τ s with
        | none => rw [h1] at hr; cases hr
        | some q =>
          rw [h.code _ _ _ _ h1]
          rw [h1] at hr
          obtain ⟨ex, τ1, s1⟩ := q
          cases ex with
          | norm => exact absurd h1 (hno τ1 s1)
          | exit j => exact hr
          | ret => exact hr
    case cond c a b =>
      split at hr
      · exact h.code _ _ _ _ hr
      · exact h.code _ _ _ _ hr
      · cases hr
    case block id b =>
      cases h1 : e.code b τ s with
      | none => rw [h1] at hr; cases hr
      | some q => rw [h.code _ _ _ _ h1]; rw [h1] at hr; exact hr
    case loop b => exact h.loop _ _ _ _ hr
    case scope b => exact h.code _ _ _ _ hr
  · intro c τ s r hr
    simp only [Ev.next] at hr ⊢
    split at hr
    · rename_i h1; rw [h.code _ _ _ _ h1]; exact h.loop _ _ _ _ hr
    · rename_i hno
      cases h1 : e.code c τ s with
      | none => rw [h1] at hr; cases hr
      | some q =>
        rw [h.code _ _ _ _ h1]
        rw [h1] at hr
        obtain ⟨ex, τ1, s1⟩ := q
        cases ex with
        | norm => exact absurd h1 (hno τ1 s1)
        | exit j => exact hr
        | ret => exact hr
  · intro f args s r hr
    simp only [Ev.next] at hr ⊢
    split at hr
    · exact hr
    · split at hr
      · cases hr
      · rename_i fn _
        split at hr
        · cases hr
        · rename_i c hc
          cases h1 : e.code c ⟨argsT args 0 .nil, max args.length fn.ntmps⟩ s with
          | none => rw [h1] at hr; cases hr
          | some q => rw [h.code _ _ _ _ h1]; rw [h1] at hr; exact hr

theorem ev_succ {H : Hooks} : ∀ n, (ev P H n).le (ev P H (n + 1))
  | 0 => ⟨fun _ _ _ _ h => by simp [ev, Ev.zero] at h, fun _ _ _ _ h => by simp [ev, Ev.zero] at h, fun _ _ _ _ h => by simp [ev, Ev.zero] at h⟩
  | n + 1 => next_le (ev_succ n)

theorem Ev.le_trans {a b c : Ev} (h : a.le b) (k : b.le c) : a.le c :=
  ⟨fun _ _ _ _ x => k.code _ _ _ _ (h.code _ _ _ _ x), fun _ _ _ _ x => k.loop _ _ _ _ (h.loop _ _ _ _ x), fun _ _ _ _ x => k.call _ _ _ _ (h.call _ _ _ _ x)⟩

theorem ev_le {H : Hooks} {n m : Nat} (h : n ≤ m) : (ev P H n).le (ev P H m) := by
  induction h with
  | refl => exact ⟨fun _ _ _ _ x => x, fun _ _ _ _ x => x, fun _ _ _ _ x => x⟩
  | step _ ih => exact Ev.le_trans ih (ev_succ _)

end
end Go.Ae
