/-
  The evaluator's runs, step by step, with what holds behind them.
-/
import Derived.Test.YtbkniippobnbpaaAeMain
namespace Go.Ae
set_option linter.unusedSimpArgs false

section
variable {P : Program} {H : Hooks}

inductive codeW (P : Program) (H : Hooks) (c : Code) (τ : Fr) (s : St) (Q : Ex → Fr → St → Prop) : Prop
  | mk (n : Nat) (ex : Ex) (τ' : Fr) (s' : St) (h : (ev P H n).code c τ s = some (ex, τ', s')) (q : Q ex τ' s') : codeW P H c τ s Q

inductive callW (P : Program) (H : Hooks) (f : FuncId) (args : List CV) (s : St) (Q : CV → St → Prop) : Prop
  | mk (n : Nat) (v : CV) (s' : St) (h : (ev P H n).call f args s = some (v, s')) (q : Q v s') : callW P H f args s Q

def doW (P : Program) (H : Hooks) (d : Option Do) (K : CV → St → Prop) : Prop :=
  match d with
  | some (.val v s) => K v s
  | some (.enter f args s) => callW P H f args s K
  | none => False

def stepW (P : Program) (H : Hooks) (ops : Array Oper) (o : Oper) (τ : Fr) (s : St) (K : CV → St → Prop) : Prop :=
  match wantedV ops τ o with
  | some true => doW P H (opV P s τ o.op) K
  | some false => K (.tuple []) s
  | none => False

def opsW' (P : Program) (H : Hooks) (ops : Array Oper) : List Oper → Fr → St → (Fr → St → Prop) → Prop
  | [], τ, s, Q => Q τ s
  | o :: l, τ, s, Q => stepW P H ops o τ s fun v s => opsW' P H ops l (τ.put o.dst v) s Q

structure opsW (P : Program) (H : Hooks) (ops : Array Oper) (l : List Oper) (τ : Fr) (s : St) (Q : Fr → St → Prop) : Prop where
  h : opsW' P H ops l τ s Q

theorem callW.mono {f : FuncId} {args : List CV} {s : St} {Q R : CV → St → Prop} (h : callW P H f args s Q) (k : ∀ v s', Q v s' → R v s') : callW P H f args s R := by
  obtain ⟨n, v, s', h1, h2⟩ := h
  exact ⟨n, v, s', h1, k _ _ h2⟩

theorem codeW.mono {c : Code} {τ : Fr} {s : St} {Q R : Ex → Fr → St → Prop} (h : codeW P H c τ s Q) (k : ∀ ex τ' s', Q ex τ' s' → R ex τ' s') : codeW P H c τ s R := by
  obtain ⟨n, ex, τ', s', h1, h2⟩ := h
  exact ⟨n, ex, τ', s', h1, k _ _ _ h2⟩

theorem stepW_run {ops : Array Oper} {o : Oper} {τ : Fr} {s : St} {K : CV → St → Prop} (h : stepW P H ops o τ s K) : ∃ n v s', stepOp P (ev P H n).call ops o τ s = some (v, s') ∧ K v s' := by
  unfold stepW at h
  unfold stepOp
  split at h
  · rename_i hw
    simp only [hw]
    unfold doW at h
    split at h
    · rename_i v s1 hv; rw [hv]; exact ⟨0, v, s1, rfl, h⟩
    · rename_i f args s1 hv
      obtain ⟨n, v, s', h1, h2⟩ := h
      rw [hv]
      exact ⟨n, v, s', h1, h2⟩
    · exact h.elim
  · rename_i hw
    simp only [hw]
    exact ⟨0, _, _, rfl, h⟩
  · exact h.elim

theorem opsW_run' {ops : Array Oper} {Q : Fr → St → Prop} : ∀ {l : List Oper} {τ : Fr} {s : St}, opsW' P H ops l τ s Q → ∃ n τ' s', runOps P (ev P H n).call ops l τ s = some (τ', s') ∧ Q τ' s'
  | [], τ, s, h => ⟨0, τ, s, rfl, h⟩
  | o :: l, τ, s, h => by
    obtain ⟨n, v, s1, h1, h2⟩ := stepW_run h
    obtain ⟨m, τ', s', h3, h4⟩ := opsW_run' h2
    refine ⟨max n m, τ', s', ?_, h4⟩
    simp only [runOps]
    rw [stepOp_le (ev_le (Nat.le_max_left n m)).call h1]
    exact runOps_le (ev_le (Nat.le_max_right n m)).call h3

theorem codeW_region {id : Nat} {ops : Array Oper} {τ : Fr} {s : St} {Q : Ex → Fr → St → Prop} (h : opsW P H ops ops.toList τ s (Q .norm)) : codeW P H (.region id ops false) τ s Q := by
  obtain ⟨n, τ', s', h1, h2⟩ := opsW_run' h.h
  refine ⟨n + 1, .norm, τ', s', ?_, h2⟩
  simp only [ev, Ev.next, h1]

theorem codeW_draw {id : Nat} {ops : Array Oper} {τ τ' : Fr} {s s' : St} {Q : Ex → Fr → St → Prop} {n : Nat} (h : runDraw P (ev P H n).call ops τ s = some (τ', s')) (hQ : Q .norm τ' s') : codeW P H (.region id ops true) τ s Q :=
  ⟨n + 1, .norm, τ', s', by simp only [ev, Ev.next, h], hQ⟩

def Ex.andThen (ex : Ex) (Q R : Fr → St → Prop) (Q' : Ex → Fr → St → Prop) (τ : Fr) (s : St) : Prop :=
  match ex with
  | .norm => Q τ s
  | ex => Q' ex τ s

theorem codeW_skip {τ : Fr} {s : St} {Q : Ex → Fr → St → Prop} (h : Q .norm τ s) : codeW P H .skip τ s Q := ⟨1, _, _, _, rfl, h⟩
theorem codeW_label {id : Nat} {τ : Fr} {s : St} {Q : Ex → Fr → St → Prop} (h : Q .norm τ s) : codeW P H (.label id) τ s Q := ⟨1, _, _, _, rfl, h⟩
theorem codeW_exit {id : Nat} {τ : Fr} {s : St} {Q : Ex → Fr → St → Prop} (h : Q (.exit id) τ s) : codeW P H (.exit id) τ s Q := ⟨1, _, _, _, rfl, h⟩
theorem codeW_ret {τ : Fr} {s : St} {Q : Ex → Fr → St → Prop} (h : Q .ret τ s) : codeW P H .ret τ s Q := ⟨1, _, _, _, rfl, h⟩

/-- What holds behind the first part. -/
def seqQ (P : Program) (H : Hooks) (b : Code) (Q : Ex → Fr → St → Prop) : Ex → Fr → St → Prop
  | .norm, τ, s => codeW P H b τ s Q
  | .exit j, τ, s => Q (.exit j) τ s
  | .ret, τ, s => Q .ret τ s

theorem codeW_seq {a b : Code} {τ : Fr} {s : St} {Q : Ex → Fr → St → Prop} (h : codeW P H a τ s (seqQ P H b Q)) : codeW P H (.seq a b) τ s Q := by
  obtain ⟨n, ex, τ', s', h1, h2⟩ := h
  cases ex with
  | norm =>
    obtain ⟨m, ex, τ₂, s₂, h3, h4⟩ := h2
    refine ⟨max n m + 1, ex, τ₂, s₂, ?_, h4⟩
    simp only [ev, Ev.next]
    rw [(ev_le (Nat.le_max_left n m)).code _ _ _ _ h1]
    exact (ev_le (Nat.le_max_right n m)).code _ _ _ _ h3
  | exit j => exact ⟨n + 1, .exit j, τ', s', by simp only [ev, Ev.next, h1], h2⟩
  | ret => exact ⟨n + 1, .ret, τ', s', by simp only [ev, Ev.next, h1], h2⟩

theorem codeW_cond {c : Operand} {x y : Code} {b : Bool} {τ : Fr} {s : St} {Q : Ex → Fr → St → Prop} (hc : opd P τ c = some (.bool b)) (h : codeW P H (bif b then x else y) τ s Q) : codeW P H (.cond c x y) τ s Q := by
  obtain ⟨n, ex, τ', s', h1, h2⟩ := h
  refine ⟨n + 1, ex, τ', s', ?_, h2⟩
  cases b
  · simp only [ev, Ev.next, hc]; exact h1
  · simp only [ev, Ev.next, hc]; exact h1

def blockQ (id : Nat) (Q : Ex → Fr → St → Prop) : Ex → Fr → St → Prop
  | .exit j, τ, s => if j = id then Q .norm τ s else Q (.exit j) τ s
  | .norm, τ, s => Q .norm τ s
  | .ret, τ, s => Q .ret τ s

theorem codeW_block {id : Nat} {b : Code} {τ : Fr} {s : St} {Q : Ex → Fr → St → Prop} (h : codeW P H b τ s (blockQ id Q)) : codeW P H (.block id b) τ s Q := by
  obtain ⟨n, ex, τ', s', h1, h2⟩ := h
  cases ex with
  | norm => exact ⟨n + 1, .norm, τ', s', by simp only [ev, Ev.next, h1], h2⟩
  | ret => exact ⟨n + 1, .ret, τ', s', by simp only [ev, Ev.next, h1], h2⟩
  | exit j =>
    simp only [blockQ] at h2
    by_cases hj : j = id
    · rw [if_pos hj] at h2
      exact ⟨n + 1, .norm, τ', s', by simp only [ev, Ev.next, h1]; rw [(beq_iff j id).2 hj], h2⟩
    · rw [if_neg hj] at h2
      exact ⟨n + 1, .exit j, τ', s', by simp only [ev, Ev.next, h1]; rw [beq_no.2 hj], h2⟩

theorem codeW_scope {b : Code} {τ : Fr} {s : St} {Q : Ex → Fr → St → Prop} (h : codeW P H b τ s Q) : codeW P H (.scope b) τ s Q := by
  obtain ⟨n, ex, τ', s', h1, h2⟩ := h
  exact ⟨n + 1, ex, τ', s', by simp only [ev, Ev.next, h1], h2⟩

def loopQ (P : Program) (H : Hooks) (b : Code) (Q : Ex → Fr → St → Prop) : Ex → Fr → St → Prop
  | .norm, τ, s => codeW P H (.loop b) τ s Q
  | .exit j, τ, s => Q (.exit j) τ s
  | .ret, τ, s => Q .ret τ s

theorem codeW_loop {b : Code} {τ : Fr} {s : St} {Q : Ex → Fr → St → Prop} (h : codeW P H b τ s (loopQ P H b Q)) : codeW P H (.loop b) τ s Q := by
  obtain ⟨n, ex, τ', s', h1, h2⟩ := h
  cases ex with
  | norm =>
    obtain ⟨m, ex, τ₂, s₂, h3, h4⟩ := h2
    cases m with
    | zero => simp [ev, Ev.zero] at h3
    | succ m =>
      simp only [ev, Ev.next] at h3
      refine ⟨max n m + 2, ex, τ₂, s₂, ?_, h4⟩
      simp only [ev, Ev.next]
      rw [(ev_le (Nat.le_max_left n m)).code _ _ _ _ h1]
      exact (ev_le (Nat.le_max_right n m)).loop _ _ _ _ h3
  | exit j => exact ⟨n + 2, .exit j, τ', s', by simp only [ev, Ev.next, h1], h2⟩
  | ret => exact ⟨n + 2, .ret, τ', s', by simp only [ev, Ev.next, h1], h2⟩

/-- What holds behind a function's body. -/
def bodyQ (P : Program) (fn : Func) (Q : CV → St → Prop) : Ex → Fr → St → Prop
  | .exit _, _, _ => False
  | .norm, τ, s => ∃ v, results P fn τ s = some v ∧ Q v s
  | .ret, τ, s => ∃ v, results P fn τ s = some v ∧ Q v s

theorem callW_enter {f : FuncId} {fn : Func} {c : Code} {args : List CV} {s : St} {Q : CV → St → Prop} (hH : H f args s = none) (hf : P.funcs[f]? = some fn) (hc : fn.body = some c)
    (h : codeW P H c ⟨argsT args 0 .nil, max args.length fn.ntmps⟩ s (bodyQ P fn Q)) : callW P H f args s Q := by
  obtain ⟨n, ex, τ', s', h1, h2⟩ := h
  cases ex with
  | exit j => exact h2.elim
  | norm =>
    obtain ⟨v, h3, h4⟩ := h2
    refine ⟨n + 1, v, s', ?_, h4⟩
    simp only [ev, Ev.next, hH, hf, hc, h1, h3]
  | ret =>
    obtain ⟨v, h3, h4⟩ := h2
    refine ⟨n + 1, v, s', ?_, h4⟩
    simp only [ev, Ev.next, hH, hf, hc, h1, h3]

theorem callW_hook {f : FuncId} {args : List CV} {s s' : St} {v : CV} {Q : CV → St → Prop} (hH : H f args s = some (v, s')) (h : Q v s') : callW P H f args s Q :=
  ⟨1, v, s', by simp only [ev, Ev.next, hH], h⟩

/-! ### Memory that only grows -/

def St.le (s s' : St) : Prop := s.nx ≤ s'.nx ∧ ∀ b, b < s.nx → s'.h.get b = s.h.get b

theorem St.le_refl (s : St) : s.le s := ⟨Nat.le_refl _, fun _ _ => rfl⟩
theorem St.le_trans {a b c : St} (h : a.le b) (k : b.le c) : a.le c :=
  ⟨Nat.le_trans h.1 k.1, fun x hx => (k.2 x (Nat.lt_of_lt_of_le hx h.1)).trans (h.2 x hx)⟩

theorem St.le.ld {s s' : St} (h : s.le s') {b : Nat} (hb : b < s.nx) (o : Nat) : Ae.ld s' b o = Ae.ld s b o := by
  unfold Ae.ld; rw [h.2 b hb]

theorem St.le.lds {s s' : St} (h : s.le s') {b : Nat} (hb : b < s.nx) : ∀ (n o : Nat), Ae.lds s' b o n = Ae.lds s b o n
  | 0, _ => rfl
  | n + 1, o => by simp only [Ae.lds, h.ld hb o, St.le.lds h hb n (o + 1)]

/-- A new variable. -/
def St.box (s : St) (l : List CV) (ty : TypeId) : St :=
  { h := s.h.set s.nx (.cells (.tab l.length fun i => l.getD i .nilptr) l.length true 1 0 false ty), nx := s.nx + 1 }

theorem newVar_eq (s : St) (t : TypeId) (v : CV) : newVar s t v = (s.nx, s.box (cellsOf v) t) := by
  simp only [newVar, newCells, newObj, fnat_eq, St.box]

theorem St.box_nx (s : St) (l : List CV) (ty : TypeId) : (s.box l ty).nx = s.nx + 1 := rfl

theorem St.box_le (s : St) (l : List CV) (ty : TypeId) : s.le (s.box l ty) :=
  ⟨Nat.le_succ _, fun b hb => by
    show (s.h.set s.nx _).get b = _
    rw [T.get_set, if_neg (by omega)]⟩

theorem St.box_ld (s : St) (l : List CV) (ty : TypeId) (o : Nat) : ld (s.box l ty) s.nx o = l[o]? := by
  simp only [ld, St.box, T.get_set, if_true, T.get_tab]
  by_cases h : o < l.length
  · rw [if_pos h, List.getD_eq_getElem?_getD, List.getElem?_eq_getElem h]; rfl
  · rw [if_neg h, List.getElem?_eq_none (by omega)]

theorem lds_list {s : St} {b : Nat} : ∀ {l : List CV} {o : Nat}, (∀ i v, l[i]? = some v → ld s b (o + i) = some v) → lds s b o l.length = some l
  | [], _, _ => rfl
  | v :: l, o, h => by
    simp only [List.length_cons, lds]
    rw [show ld s b o = some v from h 0 v rfl, lds_list (l := l) (o := o + 1) fun i u hu => by
      rw [Nat.add_assoc, Nat.add_comm 1 i]; exact h (i + 1) u (by simpa using hu)]

theorem St.box_lds (s : St) (l : List CV) (ty : TypeId) : lds (s.box l ty) s.nx 0 l.length = some l :=
  lds_list fun i v hv => by rw [Nat.zero_add, St.box_ld]; exact hv

theorem codeW_if {c : Operand} {x y : Code} {b : Bool} {τ : Fr} {s : St} {Q : Ex → Fr → St → Prop} (hc : opd P τ c = some (.bool b)) (h1 : b = true → codeW P H x τ s Q) (h2 : b = false → codeW P H y τ s Q) :
    codeW P H (.cond c x y) τ s Q := by
  refine codeW_cond hc ?_
  cases b
  · exact h2 rfl
  · exact h1 rfl

mutual
theorem same_refl : ∀ a : CV, same a a = true
  | .bool a => by simp [same]
  | .int k a => by simp [same]
  | .str a => by simp [same, natsEq_iff]
  | .ptr a c => by simp [same, beq_iff]
  | .nilptr => by simp [same]
  | .slice .. => by simp [same, beq_iff]
  | .nilslice => by simp [same]
  | .map a => by simp [same, beq_iff]
  | .nilmap => by simp [same]
  | .func f x y => by simp [same, sames_refl x, sames_refl y]
  | .nilFunc => by simp [same]
  | .nilIface => by simp [same]
  | .iface t v => by simp [same, same_refl v, beq_iff]
  | .agg l => by simp [same, sames_refl l]
  | .tuple l => by simp [same, sames_refl l]
theorem sames_refl : ∀ a : List CV, sames a a = true
  | [] => by simp [sames]
  | a :: l => by simp [sames, same_refl a, sames_refl l]
end

theorem lite_mem {τ : Fr} : ∀ (l : List Tmp) (t : T CV) (q : Tmp), (lite τ l t).get q = if q ∈ l then (match τ.get q with | some v => some v | none => t.get q) else t.get q
  | [], t, q => by simp [lite]
  | p :: l, t, q => by
    simp only [lite]
    rw [lite_mem l]
    by_cases hq : q = p
    · subst hq
      simp only [List.mem_cons, true_or, if_true]
      cases hv : τ.get q with
      | none => simp
      | some v => simp [T.get_set]
    · cases τ.get p with
      | none => simp only [List.mem_cons, hq, false_or]
      | some v => simp only [T.get_set, hq, if_false, List.mem_cons, false_or]

theorem Fr.only_get (τ : Fr) (l : List Tmp) (q : Tmp) : (τ.only l).get q = if q ∈ l then τ.get q else none := by
  show (lite τ l .nil).get q = _
  rw [lite_mem]
  have h0 : (T.nil : T CV).get q = none := rfl
  rw [h0]
  split
  · cases τ.get q <;> rfl
  · rfl

def drawW (P : Program) (H : Hooks) (ops : Array Oper) (bef : T Nat) : List Oper → Nat → Fr → St → (List Dr → List St → Fr → Prop) → Prop
  | [], _, τ, s, Q => Q [] [s] τ
  | o :: l, i, τ, s, Q => stepW P H ops o (τ.only (o.looksAt ops)) s fun v s' =>
      drawW P H ops bef l (i + 1) (τ.put o.dst v) s' fun ds ms τ' =>
        Q (⟨i, o, τ.only (o.looksAt ops), v, moves o.op, bits bef i⟩ :: ds) (if moves o.op = true then s :: ms else ms) τ'

theorem drawW_run {ops : Array Oper} {bef : T Nat} : ∀ {l : List Oper} {i : Nat} {τ : Fr} {s : St} {Q : List Dr → List St → Fr → Prop}, drawW P H ops bef l i τ s Q →
    ∃ n ds ms τ', drawOps P (ev P H n).call ops bef l i τ s = some (ds, ms, τ') ∧ Q ds ms τ'
  | [], i, τ, s, Q, h => ⟨0, [], [s], τ, rfl, h⟩
  | o :: l, i, τ, s, Q, h => by
    obtain ⟨n, v, s1, h1, h2⟩ := stepW_run h
    obtain ⟨m, ds, ms, τ', h3, h4⟩ := drawW_run h2
    refine ⟨max n m, _, _, τ', ?_, h4⟩
    simp only [drawOps]
    rw [stepOp_le (ev_le (Nat.le_max_left n m)).call h1]
    simp only
    rw [drawOps_le (ev_le (Nat.le_max_right n m)).call h3]
    cases moves o.op <;> rfl

/-- A region whose order is drawn: the text's order, and that the others come to the same. -/
theorem codeW_drawn {id : Nat} {ops : Array Oper} {τ : Fr} {s : St} {Q : Ex → Fr → St → Prop} (bef : T Nat) (hbef : preds ops.toList 0 .nil = bef) (h1 : backOk ops.toList 0 = true) (h2 : apartFrom ops bef ops.toList 0 = true)
    (h : drawW P H ops bef ops.toList 0 τ s fun ds ms τ' => chainOk (ds.filter (·.mv)) = true ∧ (ds.all fun d => d.mv || steady P (fun _ _ _ => none) ops d (ds.filter (·.mv)) ms) = true ∧ ∃ s', ms.getLast? = some s' ∧ Q .norm τ' s') :
    codeW P H (.region id ops true) τ s Q := by
  obtain ⟨n, ds, ms, τ', h3, h4, h5, s', h6, h7⟩ := drawW_run h
  refine codeW_draw (n := n) (τ' := τ') (s' := s') ?_ h7
  unfold runDraw
  rw [h1, hbef]
  simp only [h2, h3, h4, h6]
  have h8 : (ds.all fun d => d.mv || steady P (ev P H n).call ops d (ds.filter (·.mv)) ms) = true := by
    rw [List.all_eq_true] at h5 ⊢
    intro d hd
    have := h5 d hd
    rw [Bool.or_eq_true] at this ⊢
    exact this.imp (fun h => h) (steady_le (fun _ _ _ _ h => by cases h) _ _)
  rw [h8]

theorem opsW_nil {ops : Array Oper} {τ : Fr} {s : St} {Q : Fr → St → Prop} (h : Q τ s) : opsW P H ops [] τ s Q := ⟨h⟩

theorem opsW_val {ops : Array Oper} {o : Oper} {l : List Oper} {τ : Fr} {s s₁ : St} {v : CV} {Q : Fr → St → Prop} (hw : wantedV ops τ o = some true) (h : opV P s τ o.op = some (.val v s₁))
    (k : opsW P H ops l (τ.put o.dst v) s₁ Q) : opsW P H ops (o :: l) τ s Q := by
  refine ⟨?_⟩
  show stepW P H ops o τ s _
  simp only [stepW, hw, doW, h]
  exact k.h

theorem opsW_skip {ops : Array Oper} {o : Oper} {l : List Oper} {τ : Fr} {s : St} {Q : Fr → St → Prop} (hw : wantedV ops τ o = some false)
    (k : opsW P H ops l (τ.put o.dst (.tuple [])) s Q) : opsW P H ops (o :: l) τ s Q := by
  refine ⟨?_⟩
  show stepW P H ops o τ s _
  simp only [stepW, hw]
  exact k.h

theorem opsW_call {ops : Array Oper} {o : Oper} {l : List Oper} {τ : Fr} {s s₁ : St} {f : FuncId} {args : List CV} {Q : Fr → St → Prop} (hw : wantedV ops τ o = some true) (h : opV P s τ o.op = some (.enter f args s₁))
    (k : callW P H f args s₁ fun v s₂ => opsW P H ops l (τ.put o.dst v) s₂ Q) : opsW P H ops (o :: l) τ s Q := by
  refine ⟨?_⟩
  show stepW P H ops o τ s _
  simp only [stepW, hw, doW, h]
  exact k.mono fun v s₂ h => h.h

theorem wantedV_none {ops : Array Oper} {τ : Fr} {o : Oper} (h : o.guard = none) : wantedV ops τ o = some true := by
  unfold wantedV; rw [h]

theorem Fr.get_put_ne {τ : Fr} {d t : Tmp} {v : CV} (h : d ≠ t) : (τ.put (some d) v).get t = τ.get t := by
  rw [Fr.get_put, if_neg]
  rintro ⟨h1, _⟩
  exact h (Option.some.inj h1)

theorem Fr.get_put_eq {τ : Fr} {t : Tmp} {v : CV} (h : t < τ.n) : (τ.put (some t) v).get t = some v := by
  rw [Fr.get_put, if_pos ⟨rfl, h⟩]

theorem Fr.get_put_none {τ : Fr} {t : Tmp} {v : CV} : (τ.put none v).get t = τ.get t := rfl

theorem blockQ_eq {id : Nat} {Q : Ex → Fr → St → Prop} {τ : Fr} {s : St} (h : Q .norm τ s) : blockQ id Q (.exit id) τ s := by
  simp only [blockQ, if_true]; exact h
theorem blockQ_ne {id j : Nat} {Q : Ex → Fr → St → Prop} {τ : Fr} {s : St} (hj : j ≠ id) (h : Q (.exit j) τ s) : blockQ id Q (.exit j) τ s := by
  simp only [blockQ, if_neg hj]; exact h

end
end Go.Ae
