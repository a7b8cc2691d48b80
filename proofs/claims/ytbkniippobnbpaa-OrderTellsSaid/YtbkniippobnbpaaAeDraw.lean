/-
  Regions whose order is drawn: every order gives what the text's order gives.
-/
import Derived.Test.YtbkniippobnbpaaAeCode
namespace Go.Ae
set_option linter.unusedSimpArgs false

section
variable {P : Program}

/-! ### What is listed -/

def Rdy (ops : Array Oper) (L : Nat → Bool) (i : Nat) : Prop :=
  ∃ o, ops[i]? = some o ∧ ∀ e ∈ o.after, Region.binds .any e = true → L e.on = true

def Closed (ops : Array Oper) (L : Nat → Bool) : Prop := ∀ i, L i = true → Rdy ops L i

def PreOk (ops : Array Oper) (bef : T Nat) : Prop :=
  ∀ i b, bef.get i = some b → ∀ L, Closed ops L → Rdy ops L i → ∀ j, b.testBit j = true → L j = true

theorem preOf_ok {ops : Array Oper} {bef : T Nat} (hb : PreOk ops bef) {L : Nat → Bool} (hc : Closed ops L) : ∀ (l : List Edge), (∀ e ∈ l, Region.binds .any e = true → L e.on = true) →
    ∀ j, (preOf bef l).testBit j = true → L j = true
  | [], _, j, h => by simp [preOf] at h
  | e :: l, hl, j, h => by
    have ih := preOf_ok hb hc l (fun e he => hl e (List.mem_cons_of_mem _ he)) j
    simp only [preOf] at h
    split at h
    · rename_i hbe
      have he := hl e List.mem_cons_self hbe
      simp only [Nat.testBit_or, Bool.or_eq_true] at h
      rcases h with (h | h) | h
      · rw [Nat.testBit_two_pow] at h
        simp only [decide_eq_true_eq] at h
        rw [← h]; exact he
      · unfold bits at h
        split at h
        · rename_i b hbe'
          exact hb e.on b hbe' L hc (hc e.on he) j h
        · simp at h
      · exact ih h
    · exact ih h

theorem preds_ok {ops : Array Oper} : ∀ (l : List Oper) (i : Nat) (t : T Nat), (∀ j, l[j]? = ops[i + j]?) → PreOk ops t → PreOk ops (preds l i t)
  | [], _, _, _, h => h
  | o :: l, i, t, hl, h => by
    simp only [preds, fnat_eq]
    refine preds_ok l (i + 1) _ (fun j => by have := hl (j + 1); simpa [Nat.add_assoc, Nat.add_comm 1 j] using this) ?_
    intro q b hq L hc hr j hj
    rw [T.get_set] at hq
    split at hq
    · rename_i hqi
      subst hqi
      simp only [Option.some.injEq] at hq
      subst hq
      obtain ⟨o', ho', he⟩ := hr
      have h0 := hl 0
      simp only [Nat.add_zero, List.getElem?_cons_zero] at h0
      rw [ho'] at h0
      simp only [Option.some.injEq] at h0
      subst h0
      exact preOf_ok h hc _ (fun e hm => he e (by simpa using hm)) j hj
    · exact h q b hq L hc hr j hj

theorem backOk_ok {ops : Array Oper} : ∀ (l : List Oper) (i : Nat), (∀ j, l[j]? = ops[i + j]?) → backOk l i = true → ∀ j o, i ≤ j → ops[j]? = some o → ∀ e ∈ o.after, Region.binds .any e = true → e.on < j
  | [], i, hl, _, j, o, hij, ho => by
    have := hl (j - i)
    rw [show i + (j - i) = j by omega, ho] at this
    simp at this
  | o₁ :: l, i, hl, h, j, o, hij, ho => by
    simp only [backOk, Bool.and_eq_true, List.all_eq_true, Bool.or_eq_true, Bool.not_eq_true', blt_iff] at h
    by_cases hj : j = i
    · subst hj
      have h0 := hl 0
      simp only [Nat.add_zero, List.getElem?_cons_zero] at h0
      rw [ho] at h0
      simp only [Option.some.injEq] at h0
      subst h0
      intro e he hb
      rcases h.1 e (by simpa using he) with h1 | h1
      · rw [hb] at h1; cases h1
      · exact h1
    · exact backOk_ok l (i + 1) (fun q => by have := hl (q + 1); simpa [Nat.add_assoc, Nat.add_comm 1 q] using this) h.2 j o (by omega) ho

def left (L : Nat → Bool) : Nat → Nat
  | 0 => 0
  | n + 1 => left L n + (if L n then 0 else 1)

theorem left_zero {L : Nat → Bool} : ∀ {n : Nat}, left L n = 0 → ∀ i, i < n → L i = true
  | 0, _, i, h => by omega
  | n + 1, h, i, hi => by
    simp only [left] at h
    by_cases hn : L n = true
    · by_cases he : i = n
      · rw [he]; exact hn
      · exact left_zero (n := n) (by omega) i (by omega)
    · rw [if_neg hn] at h; omega

theorem left_congr {L L' : Nat → Bool} : ∀ {n : Nat}, (∀ i, i < n → L i = L' i) → left L n = left L' n
  | 0, _ => rfl
  | n + 1, h => by simp only [left]; rw [left_congr fun i hi => h i (by omega), h n (by omega)]

theorem left_set {L L' : Nat → Bool} {i : Nat} (h0 : L i = false) (h1 : L' i = true) (h : ∀ j, j ≠ i → L' j = L j) : ∀ {n : Nat}, i < n → left L n = left L' n + 1
  | 0, hi => by omega
  | n + 1, hi => by
    simp only [left]
    by_cases he : i = n
    · subst he
      rw [h0, h1, left_congr (L := L) (L' := L') fun j hj => (h j (by omega)).symm]
      simp
    · rw [left_set h0 h1 h (n := n) (by omega), h n (fun e => he e.symm)]
      omega

theorem left_all : ∀ {n : Nat}, left (fun _ => false) n = n
  | 0 => rfl
  | n + 1 => by simp only [left, left_all (n := n)]; simp

/-! ### Temporaries -/

theorem Fr.get_put (τ : Fr) (d : Option Tmp) (v : CV) (t : Tmp) : (τ.put d v).get t = if d = some t ∧ t < τ.n then some v else τ.get t := by
  obtain ⟨tr, n⟩ := τ
  cases d with
  | none => simp [Fr.put]
  | some d =>
    simp only [Fr.put, Fr.get, Option.some.injEq]
    split
    · rename_i hd
      rw [blt_iff] at hd
      simp only [T.get_set]
      by_cases hdt : d = t
      · subst hdt; simp [hd]
      · rw [if_neg (fun e => hdt e.symm), if_neg (fun e => hdt e.1)]
    · rename_i hd
      rw [blt_no] at hd
      rw [if_neg]
      rintro ⟨rfl, h⟩
      exact hd h

theorem Fr.put_n (τ : Fr) (d : Option Tmp) (v : CV) : (τ.put d v).n = τ.n := by
  obtain ⟨tr, n⟩ := τ
  cases d with
  | none => rfl
  | some d => simp only [Fr.put]; split <;> rfl

theorem TRel.congr {E : Env} {τ τ' : Fr} {tm : Array Value} (h : TRel E τ tm) (hn : τ'.n = τ.n) (hg : ∀ t, τ'.get t = τ.get t) : TRel E τ' tm :=
  ⟨by rw [hn]; exact h.size, fun t c hc => by
    have := h.get t c (by have := hg t; simp only [Fr.get] at this; rw [← this]; exact hc)
    rw [hn]; exact this⟩

theorem lite_get {τ : Fr} : ∀ (l : List Tmp) (t : T CV) (q : Tmp) (c : CV), (lite τ l t).get q = some c → τ.get q = some c ∨ t.get q = some c
  | [], t, q, c, h => .inr h
  | p :: l, t, q, c, h => by
    simp only [lite] at h
    rcases lite_get l _ q c h with h1 | h1
    · exact .inl h1
    · split at h1
      · rename_i v hv
        rw [T.get_set] at h1
        split at h1
        · rename_i hq
          subst hq
          rw [← h1]; exact .inl hv
        · exact .inr h1
      · exact .inr h1

theorem TRel.only {E : Env} {τ : Fr} {tm : Array Value} (h : TRel E τ tm) (l : List Tmp) : TRel E (τ.only l) tm :=
  ⟨h.size, fun t c hc => by
    rcases lite_get l .nil t c hc with h1 | h1
    · exact h.get t c h1
    · simp [T.get] at h1⟩

theorem lite_congr {τ τ' : Fr} : ∀ (l : List Tmp) (t : T CV), (∀ q ∈ l, τ.get q = τ'.get q) → lite τ l t = lite τ' l t
  | [], _, _ => rfl
  | p :: l, t, h => by
    simp only [lite]
    rw [h p List.mem_cons_self]
    exact lite_congr l _ fun q hq => h q (List.mem_cons_of_mem _ hq)

theorem Fr.only_congr {τ τ' : Fr} {l : List Tmp} (hn : τ.n = τ'.n) (h : ∀ q ∈ l, τ.get q = τ'.get q) : τ.only l = τ'.only l := by
  simp only [Fr.only, lite_congr l .nil h, hn]

def look (L : Nat → Bool) (n t : Nat) : List Dr → Option CV → Option CV
  | [], b => b
  | d :: l, b => look L n t l (if L d.i = true ∧ d.o.dst = some t ∧ t < n then some d.v else b)

theorem look_congr {L L' : Nat → Bool} {n t : Nat} : ∀ {l : List Dr} {b : Option CV}, (∀ d ∈ l, d.o.dst = some t → t < n → L d.i = L' d.i) → look L n t l b = look L' n t l b
  | [], _, _ => rfl
  | d :: l, b, h => by
    simp only [look]
    rw [look_congr fun e he => h e (List.mem_cons_of_mem _ he)]
    congr 1
    by_cases hd : d.o.dst = some t ∧ t < n
    · rw [h d List.mem_cons_self hd.1 hd.2]
    · rw [if_neg (fun e => hd e.2), if_neg (fun e => hd e.2)]

theorem look_none {L : Nat → Bool} {n t : Nat} : ∀ {l : List Dr} {b : Option CV}, (∀ d ∈ l, d.o.dst = some t → L d.i = false) → look L n t l b = b
  | [], _, _ => rfl
  | d :: l, b, h => by
    simp only [look]
    rw [look_none fun e he => h e (List.mem_cons_of_mem _ he), if_neg]
    rintro ⟨h1, h2, _⟩
    rw [h d List.mem_cons_self h2] at h1
    cases h1

theorem look_last {L : Nat → Bool} {n t : Nat} : ∀ {l : List Dr} {b : Option CV} {k : Nat} {d : Dr}, l[k]? = some d → L d.i = true → d.o.dst = some t → t < n →
    (∀ k' d', k < k' → l[k']? = some d' → d'.o.dst = some t → L d'.i = false) → look L n t l b = some d.v
  | [], _, _, _, h, _, _, _, _ => by simp at h
  | e :: l, b, 0, d, h, h1, h2, h3, h4 => by
    simp only [List.getElem?_cons_zero, Option.some.injEq] at h
    subst h
    simp only [look]
    rw [if_pos ⟨h1, h2, h3⟩, look_none]
    intro d hd
    obtain ⟨q, hq⟩ := List.getElem?_of_mem hd
    exact h4 (q + 1) d (by omega) (by simpa using hq)
  | e :: l, b, k + 1, d, h, h1, h2, h3, h4 => by
    simp only [look]
    exact look_last (k := k) (by simpa using h) h1 h2 h3 fun k' d' hk hd => h4 (k' + 1) d' (by omega) (by simpa using hd)

theorem look_take {n t : Nat} : ∀ {l : List Dr} {b : Option CV} {i₀ k : Nat}, (∀ q d, l[q]? = some d → d.i = i₀ + q) →
    look (fun j => decide (j < i₀ + k)) n t l b = look (fun _ => true) n t (l.take k) b
  | [], b, i₀, k, h => by simp [look]
  | e :: l, b, i₀, 0, h => by
    rw [look_none]
    · simp [look]
    · intro d hd _
      obtain ⟨q, hq⟩ := List.getElem?_of_mem hd
      simp [h q d hq]
  | e :: l, b, i₀, k + 1, h => by
    have he := h 0 e (by simp)
    simp only [List.take_succ_cons, look]
    have hlt : decide (e.i < i₀ + (k + 1)) = true := by rw [decide_eq_true_eq, he]; omega
    have hif : ∀ x : Option CV, (if decide (e.i < i₀ + (k + 1)) = true ∧ e.o.dst = some t ∧ t < n then x else b) = (if (true = true) ∧ e.o.dst = some t ∧ t < n then x else b) := by
      intro x
      by_cases hc : e.o.dst = some t ∧ t < n
      · rw [if_pos ⟨hlt, hc⟩, if_pos ⟨rfl, hc⟩]
      · rw [if_neg (fun h => hc h.2), if_neg (fun h => hc h.2)]
    rw [hif]
    have := look_take (n := n) (t := t) (l := l) (b := (if (true = true) ∧ e.o.dst = some t ∧ t < n then some e.v else b)) (i₀ := i₀ + 1) (k := k) (fun q d hd => by
      have := h (q + 1) d (by simpa using hd); omega)
    rw [show i₀ + 1 + k = i₀ + (k + 1) by omega] at this
    simp only [eq_self, true_and] at this ⊢
    exact this

/-! ### The text's order -/

structure Txt (P : Program) (cl : FuncId → List CV → St → Option (CV × St)) (ops : Array Oper) (bef : T Nat) (l : List Oper) (i : Nat) (τ : Fr) (s : St) (ds : List Dr) (ms : List St) (τ' : Fr) : Prop where
  len : ds.length = l.length
  at_ : ∀ k d, ds[k]? = some d → d.i = i + k ∧ l[k]? = some d.o ∧ d.mv = moves d.o.op ∧ d.pre = bits bef (i + k)
  tmp : ∀ k d, ds[k]? = some d → ∃ σ : Fr, d.τ = σ.only (d.o.looksAt ops) ∧ σ.n = τ.n ∧ ∀ t, σ.get t = look (fun _ => true) τ.n t (ds.take k) (τ.get t)
  last : τ'.n = τ.n ∧ ∀ t, τ'.get t = look (fun _ => true) τ.n t ds (τ.get t)
  mem : ms.length = (ds.filter (·.mv)).length + 1
  mem0 : ms[0]? = some s
  mv : ∀ q m, (ds.filter (·.mv))[q]? = some m → ∃ s₁ s₂, ms[q]? = some s₁ ∧ ms[q + 1]? = some s₂ ∧ stepOp P cl ops m.o m.τ s₁ = some (m.v, s₂)

theorem drawOps_ok {cl : FuncId → List CV → St → Option (CV × St)} {ops : Array Oper} {bef : T Nat} (hq : ∀ o τ s v s', moves o.op = false → stepOp P cl ops o τ s = some (v, s') → s' = s) :
    ∀ (l : List Oper) (i : Nat) (τ : Fr) (s : St) (ds : List Dr) (ms : List St) (τ' : Fr), drawOps P cl ops bef l i τ s = some (ds, ms, τ') → Txt P cl ops bef l i τ s ds ms τ'
  | [], i, τ, s, ds, ms, τ', h => by
    simp only [drawOps, Option.some.injEq, Prod.mk.injEq] at h
    obtain ⟨rfl, rfl, rfl⟩ := h
    exact ⟨rfl, by simp, by simp, ⟨rfl, fun _ => rfl⟩, rfl, rfl, by simp⟩
  | o :: l, i, τ, s, ds, ms, τ', h => by
    simp only [drawOps] at h
    split at h
    · cases h
    · rename_i v s₁ hs
      split at h
      · cases h
      · rename_i ds₁ ms₁ τ₁ hr
        have ih := drawOps_ok hq l (i + 1) (τ.put o.dst v) s₁ ds₁ ms₁ τ₁ hr
        have hput : ∀ t, (τ.put o.dst v).get t = (if (true = true) ∧ o.dst = some t ∧ t < τ.n then some v else τ.get t) := fun t => by
          rw [Fr.get_put]; simp
        have htmp : ∀ b, ∀ k d, ((⟨i, o, τ.only (o.looksAt ops), v, b, bits bef i⟩ : Dr) :: ds₁)[k]? = some d →
            ∃ σ : Fr, d.τ = σ.only (d.o.looksAt ops) ∧ σ.n = τ.n ∧ ∀ t, σ.get t = look (fun _ => true) τ.n t (((⟨i, o, τ.only (o.looksAt ops), v, b, bits bef i⟩ : Dr) :: ds₁).take k) (τ.get t) := by
          intro b k d hd
          cases k with
          | zero =>
            simp only [List.getElem?_cons_zero, Option.some.injEq] at hd
            subst hd
            exact ⟨τ, rfl, rfl, fun t => rfl⟩
          | succ k =>
            obtain ⟨σ, h1, h2, h3⟩ := ih.tmp k d (by simpa using hd)
            refine ⟨σ, h1, by rw [h2, Fr.put_n], fun t => ?_⟩
            rw [h3 t, Fr.put_n, hput t]
            rfl
        have hat : ∀ b, b = moves o.op → ∀ k d, ((⟨i, o, τ.only (o.looksAt ops), v, b, bits bef i⟩ : Dr) :: ds₁)[k]? = some d →
            d.i = i + k ∧ (o :: l)[k]? = some d.o ∧ d.mv = moves d.o.op ∧ d.pre = bits bef (i + k) := by
          intro b hb k d hd
          cases k with
          | zero =>
            simp only [List.getElem?_cons_zero, Option.some.injEq] at hd
            subst hd
            exact ⟨rfl, rfl, hb, rfl⟩
          | succ k =>
            obtain ⟨h1, h2, h3, h4⟩ := ih.at_ k d (by simpa using hd)
            refine ⟨by omega, by simpa using h2, h3, ?_⟩
            rw [h4, show i + 1 + k = i + (k + 1) by omega]
        have hlast : ∀ b, τ₁.n = τ.n ∧ ∀ t, τ₁.get t = look (fun _ => true) τ.n t ((⟨i, o, τ.only (o.looksAt ops), v, b, bits bef i⟩ : Dr) :: ds₁) (τ.get t) := by
          intro b
          refine ⟨by rw [ih.last.1, Fr.put_n], fun t => ?_⟩
          rw [ih.last.2 t, Fr.put_n, hput t]
          rfl
        split at h
        · rename_i hm
          simp only [Option.some.injEq, Prod.mk.injEq] at h
          obtain ⟨rfl, rfl, rfl⟩ := h
          refine ⟨by simp [ih.len], hat true hm.symm, htmp true, hlast true, by simp [ih.mem], rfl, ?_⟩
          intro q m hqm
          simp only [List.filter_cons] at hqm
          cases q with
          | zero =>
            simp only [if_true, List.getElem?_cons_zero, Option.some.injEq] at hqm
            subst hqm
            exact ⟨s, s₁, rfl, by simpa using ih.mem0, hs⟩
          | succ q =>
            simp only [if_true, List.getElem?_cons_succ] at hqm
            obtain ⟨a, b, h1, h2, h3⟩ := ih.mv q m hqm
            exact ⟨a, b, by simpa using h1, by simpa using h2, h3⟩
        · rename_i hm
          simp only [Option.some.injEq, Prod.mk.injEq] at h
          obtain ⟨rfl, rfl, rfl⟩ := h
          have hss := hq o _ s v s₁ hm hs
          subst hss
          refine ⟨by simp [ih.len], hat false hm.symm, htmp false, hlast false, by simp [ih.mem], ih.mem0, ?_⟩
          intro q m hqm
          simp only [List.filter_cons, Bool.false_eq_true, if_false] at hqm
          exact ih.mv q m hqm

theorem filter_at {α : Type} {p : α → Bool} : ∀ {l : List α} {q : Nat} {m : α}, (l.filter p)[q]? = some m → ∃ k, l[k]? = some m ∧ p m = true ∧ ((l.take k).filter p).length = q
  | [], q, m, h => by simp at h
  | x :: l, q, m, h => by
    simp only [List.filter_cons] at h
    split at h
    · rename_i hx
      cases q with
      | zero =>
        simp only [List.getElem?_cons_zero, Option.some.injEq] at h
        subst h
        exact ⟨0, rfl, hx, rfl⟩
      | succ q =>
        obtain ⟨k, h1, h2, h3⟩ := filter_at (l := l) (q := q) (by simpa using h)
        exact ⟨k + 1, by simpa using h1, h2, by simp [List.filter_cons, hx, h3]⟩
    · rename_i hx
      obtain ⟨k, h1, h2, h3⟩ := filter_at (l := l) (q := q) h
      exact ⟨k + 1, by simpa using h1, h2, by simp [List.filter_cons, hx, h3]⟩

theorem at_filter {α : Type} {p : α → Bool} : ∀ {l : List α} {k : Nat} {m : α}, l[k]? = some m → p m = true → (l.filter p)[((l.take k).filter p).length]? = some m
  | [], k, m, h, _ => by simp at h
  | x :: l, 0, m, h, hp => by
    simp only [List.getElem?_cons_zero, Option.some.injEq] at h
    subst h
    simp [List.filter_cons, hp]
  | x :: l, k + 1, m, h, hp => by
    have ih := at_filter (l := l) (k := k) (by simpa using h) hp
    simp only [List.take_succ_cons, List.filter_cons]
    split
    · simpa using ih
    · exact ih

theorem chainOk_ok : ∀ {l : List Dr}, chainOk l = true → ∀ q d e, l[q]? = some d → l[q + 1]? = some e → e.pre.testBit d.i = true
  | [], _, q, d, e, h, _ => by simp at h
  | [x], _, q, d, e, h, h' => by simp at h'
  | x :: y :: l, h, q, d, e, h1, h2 => by
    simp only [chainOk, Bool.and_eq_true] at h
    cases q with
    | zero =>
      simp only [List.getElem?_cons_zero, List.getElem?_cons_succ, Option.some.injEq] at h1 h2
      subst h1; subst h2
      exact h.1
    | succ q => exact chainOk_ok h.2 q d e (by simpa using h1) (by simpa using h2)

theorem steady_ok {cl : FuncId → List CV → St → Option (CV × St)} {ops : Array Oper} {d : Dr} : ∀ (k : Nat) (mvs : List Dr) (ms : List St), steady P cl ops d mvs ms = true → ms.length = mvs.length + 1 → k ≤ mvs.length →
    (∀ q m, q < k → mvs[q]? = some m → m.pre.testBit d.i = false) → (∀ q m, k ≤ q → mvs[q]? = some m → d.pre.testBit m.i = false) →
    ∃ s v s', ms[k]? = some s ∧ stepOp P cl ops d.o d.τ s = some (v, s') ∧ same v d.v = true
  | k, mvs, [], h, hl, _, _, _ => by simp at hl
  | 0, mvs, s :: ms, h, hl, hk, h1, h2 => by
    unfold steady at h
    have hany : (mvs.any fun m => d.pre.testBit m.i) = false := by
      rw [List.any_eq_false]
      intro m hm
      obtain ⟨q, hq⟩ := List.getElem?_of_mem hm
      rw [h2 q m (by omega) hq]
      simp
    rw [hany] at h
    simp only [Bool.and_eq_true] at h
    have h3 := h.1
    split at h3
    · rename_i v s' hs
      exact ⟨s, v, s', rfl, hs, h3⟩
    · cases h3
  | k + 1, [], s :: ms, h, hl, hk, h1, h2 => by simp at hk
  | k + 1, m :: mvs, s :: ms, h, hl, hk, h1, h2 => by
    have hm := h1 0 m (by omega) rfl
    unfold steady at h
    simp only [hm] at h
    have h3 : steady P cl ops d mvs ms = true := by
      split at h
      · exact h
      · simp only [Bool.and_eq_true] at h; exact h.2
    obtain ⟨s', v, s'', h4, h5, h6⟩ := steady_ok k mvs ms h3 (by simpa using hl) (by simpa using hk) (fun q m hq hm => h1 (q + 1) m (by omega) (by simpa using hm)) (fun q m hq hm => h2 (q + 1) m (by omega) (by simpa using hm))
    exact ⟨s', v, s'', by simpa using h4, h5, h6⟩

theorem apartTo_ok {ops : Array Oper} {b : Nat} {y : Oper} : ∀ {l : List Oper} {i : Nat}, apartTo ops b y l i = true → ∀ q x, l[q]? = some x → b.testBit (i + q) = true ∨ x.apart ops y = true
  | [], i, h, q, x, hx => by simp at hx
  | z :: l, i, h, q, x, hx => by
    simp only [apartTo, Bool.and_eq_true, Bool.or_eq_true] at h
    cases q with
    | zero => simp only [List.getElem?_cons_zero, Option.some.injEq] at hx; subst hx; exact h.1
    | succ q =>
      have := apartTo_ok h.2 q x (by simpa using hx)
      rwa [show i + 1 + q = i + (q + 1) by omega] at this

theorem apartFrom_ok {ops : Array Oper} {bef : T Nat} : ∀ {l : List Oper} {i : Nat}, (∀ j, l[j]? = ops[i + j]?) → apartFrom ops bef l i = true → ∀ q j x y, i ≤ j → q < j → ops[q]? = some x → ops[j]? = some y →
    (bits bef j).testBit q = true ∨ x.apart ops y = true
  | [], i, hl, h, q, j, x, y, hi, hj, hx, hy => by
    have := hl (j - i)
    rw [show i + (j - i) = j by omega, hy] at this
    simp at this
  | z :: l, i, hl, h, q, j, x, y, hi, hj, hx, hy => by
    simp only [apartFrom, Bool.and_eq_true] at h
    by_cases hji : j = i
    · subst hji
      have h0 := hl 0
      simp only [Nat.add_zero, List.getElem?_cons_zero] at h0
      rw [hy] at h0
      simp only [Option.some.injEq] at h0
      subst h0
      have := apartTo_ok h.1 q x (by rw [List.getElem?_take, if_pos hj]; simpa using hx)
      simpa using this
    · exact apartFrom_ok (l := l) (i := i + 1) (fun q => by have := hl (q + 1); simpa [Nat.add_assoc, Nat.add_comm 1 q] using this) h.2 q j x y (by omega) hj hx hy

/-! ### Quiet operations leave memory alone -/

theorem ret1_st {s s' : St} {x : Option CV} {v : CV} (h : ret1 s x = some (.val v s')) : s' = s := by
  obtain ⟨u, _, hd⟩ := ret1_eq h
  cases hd; rfl

mutual
theorem same_ok : ∀ {a b : CV}, same a b = true → a = b
  | .bool a, b, h => by cases b <;> simp_all [same]
  | .int k a, b, h => by cases b <;> simp_all [same]
  | .str a, b, h => by cases b <;> simp_all [same, natsEq_iff]
  | .ptr a c, b, h => by cases b <;> simp_all [same, beq_iff]
  | .nilptr, b, h => by cases b <;> simp_all [same]
  | .slice .., b, h => by cases b <;> simp_all [same, beq_iff]
  | .nilslice, b, h => by cases b <;> simp_all [same]
  | .map a, b, h => by cases b <;> simp_all [same, beq_iff]
  | .nilmap, b, h => by cases b <;> simp_all [same]
  | .func f x y, b, h => by
    cases b <;> simp only [same, Bool.and_eq_true, decide_eq_true_eq] at h <;> first | (cases h; done) | skip
    rw [h.1.1, sames_ok h.1.2, sames_ok h.2]
  | .nilFunc, b, h => by cases b <;> simp_all [same]
  | .nilIface, b, h => by cases b <;> simp_all [same]
  | .iface t v, b, h => by
    cases b <;> simp only [same, Bool.and_eq_true, beq_iff] at h <;> first | (cases h; done) | skip
    rw [h.1, same_ok h.2]
  | .agg l, b, h => by
    cases b <;> simp only [same] at h <;> first | (cases h; done) | skip
    rw [sames_ok h]
  | .tuple l, b, h => by
    cases b <;> simp only [same] at h <;> first | (cases h; done) | skip
    rw [sames_ok h]
theorem sames_ok : ∀ {a b : List CV}, sames a b = true → a = b
  | [], [], _ => rfl
  | [], _ :: _, h => by simp [sames] at h
  | _ :: _, [], h => by simp [sames] at h
  | a :: l, b :: m, h => by
    simp only [sames, Bool.and_eq_true] at h
    rw [same_ok h.1, sames_ok h.2]
end

theorem opV_quiet {s : St} {τ : Fr} {o : Op} (hm : moves o = false) {d : Do} (h : opV P s τ o = some d) : ∃ v, d = .val v s := by
  have r1 : ∀ {x : Option CV}, ret1 s x = some d → ∃ v, d = .val v s := fun h => by
    obtain ⟨u, _, hd⟩ := ret1_eq h; exact ⟨u, hd⟩
  have r2 : ∀ {v : CV}, some (Do.val v s) = some d → ∃ v, d = .val v s := fun {v} h => ⟨v, (Option.some.inj h).symm⟩
  cases o <;> first
    | (simp only [moves] at hm; cases hm; done)
    | skip
  all_goals simp only [opV] at h
  all_goals first
    | exact r1 h
    | exact r2 h
    | (cases h; done)
    | skip
  all_goals first
    | (simp only [oPick] at h; split at h <;> first | exact r1 h | cases h; done)
    | (simp only [oBuild] at h; split at h <;> first | exact r1 h | cases h; done)
    | (simp only [oLoad] at h; split at h <;> first | exact r1 h | cases h; done)
    | (simp only [oNil] at h; split at h <;> first | exact r2 h | cases h; done)
    | (simp only [oBin] at h; split at h <;> first | exact r1 h | cases h; done)
    | (simp only [oUn] at h; split at h <;> first | exact r1 h | cases h; done)
    | (simp only [oIface] at h; split at h <;> first | exact r2 h | cases h; done)
    | (simp only [oFunc] at h; split at h <;> first | exact r2 h | cases h; done)
    | (simp only [oSlice] at h; split at h <;> first | exact r1 h | cases h; done)
    | (simp only [oField] at h; split at h <;> first | exact r1 h | cases h; done)
    | (simp only [oIndexAddr] at h; split at h <;> first | exact r1 h | cases h; done)
    | (simp only [oIndex] at h; split at h <;> first | exact r1 h | cases h; done)
    | (simp only [oAssert] at h; split at h <;> first | exact r1 h | cases h; done)
    | (simp only [oExtract] at h; split at h <;> first | exact r1 h | cases h; done)
    | (simp only [oFieldAddr] at h; split at h
       · split at h
         · rw [fnat_eq] at h; exact r2 h
         · cases h
       · cases h)
    | skip
  rename_i c
  obtain ⟨callee, args, argTypes⟩ := c
  cases callee with
  | value f => simp [moves] at hm
  | invoke a b => simp [moves] at hm
  | builtin b =>
    simp only [oCall] at h
    split at h
    · cases h
    · cases b <;> first
        | (simp [moves] at hm; done)
        | (simp only [builtinV] at h
           first
             | exact r1 h
             | (split at h <;> first | exact r1 h | cases h))

theorem stepOp_quiet {cl : FuncId → List CV → St → Option (CV × St)} {ops : Array Oper} (o : Oper) (τ : Fr) (s : St) (v : CV) (s' : St) (hm : moves o.op = false) (h : stepOp P cl ops o τ s = some (v, s')) : s' = s := by
  unfold stepOp at h
  split at h
  · cases h
  · simp only [Option.some.injEq, Prod.mk.injEq] at h; exact h.2.symm
  · split at h
    · cases h
    · rename_i hv
      obtain ⟨u, hu⟩ := opV_quiet hm hv
      simp only [Option.some.injEq, Prod.mk.injEq] at h
      simp only [Do.val.injEq] at hu
      rw [← h.2, hu.2]
    · rename_i hv
      obtain ⟨u, hu⟩ := opV_quiet hm hv
      cases hu

/-! ### Every order -/

def lst (listed : Array Bool) (i : Nat) : Bool := listed.getD i false

structure Inv (P : Program) (ops : Array Oper) (ds : List Dr) (ms : List St) (τ₀ : Fr) (E₀ : Env) (s₀ : St) (w₀ : World) (d₀ : List Deferred) (listed : Array Bool) (a : Act) (w : World) : Prop where
  size : listed.size = ops.size
  closed : Closed ops (lst listed)
  rel : ∃ E k M, ms[k]? = some M ∧ (∀ q m, (ds.filter (·.mv))[q]? = some m → (lst listed m.i = true ↔ q < k)) ∧ k ≤ (ds.filter (·.mv)).length ∧ Goes P E₀ s₀ w₀ E M w ∧
    ∃ F : Fr, F.n = τ₀.n ∧ (∀ t, F.get t = look (lst listed) τ₀.n t ds (τ₀.get t)) ∧ TRel E F a.tmps
  defers : a.defers = d₀

theorem drawOk : DrawOk P := by
  intro cl hcl ops τ₀ s₀ τ' s' h E₀ a₀ w₀ Q hw₀ ht₀ hQ
  unfold runDraw at h
  split at h
  rotate_left
  · cases h
  rename_i _ _ hback
  obtain ⟨bef, hbef⟩ : ∃ bef, preds ops.toList 0 .nil = bef := ⟨_, rfl⟩
  rw [hbef] at h
  split at h
  rotate_left
  · cases h
  rename_i hapart
  split at h
  · cases h
  rename_i ds ms τ₁ hdraw
  dsimp only at h
  split at h
  rotate_left
  · cases h
  rename_i s₁ hchain hsteady hlastm
  simp only [Option.some.injEq, Prod.mk.injEq] at h
  obtain ⟨rfl, rfl⟩ := h
  have hlist : ∀ j, ops.toList[j]? = ops[0 + j]? := fun j => by simp
  have txt := drawOps_ok (P := P) stepOp_quiet ops.toList 0 τ₀ s₀ ds ms τ₁ hdraw
  have hpre : PreOk ops bef := by
    rw [← hbef]
    exact preds_ok ops.toList 0 .nil hlist (fun i b hb => by simp [T.get] at hb)
  have hbk := fun j o => backOk_ok ops.toList 0 hlist hback j o (Nat.zero_le _)
  have hap : ∀ q j x y, q < j → ops[q]? = some x → ops[j]? = some y → (bits bef j).testBit q = true ∨ x.apart ops y = true :=
    fun q j x y => apartFrom_ok hlist hapart q j x y (Nat.zero_le _)
  have hdlen : ds.length = ops.size := by rw [txt.len]; simp
  have hat : ∀ k d, ds[k]? = some d → d.i = k ∧ ops[k]? = some d.o ∧ d.mv = moves d.o.op ∧ d.pre = bits bef k := fun k d hd => by
    obtain ⟨h1, h2, h3, h4⟩ := txt.at_ k d hd
    exact ⟨by omega, by simpa using h2, h3, by simpa using h4⟩
  have hmem : ∀ d ∈ ds, ds[d.i]? = some d := fun d hd => by
    obtain ⟨q, hq⟩ := List.getElem?_of_mem hd
    rw [(hat q d hq).1]; exact hq
  have hpb : ∀ i L, Closed ops L → Rdy ops L i → ∀ j, (bits bef i).testBit j = true → L j = true := by
    intro i L hc hr j hj
    unfold bits at hj
    split at hj
    · rename_i b hb
      exact hpre i b hb L hc hr j hj
    · simp at hj
  have main : ∀ (fuel : Nat) (listed : Array Bool) (a : Act) (w : World), Inv P ops ds ms τ₀ E₀ s₀ w₀ a₀.defers listed a w → left (lst listed) ops.size = fuel → wpAny P .any ops Q fuel listed a w := by
    -- what is left when all is listed
    have fin : ∀ (listed : Array Bool) (a : Act) (w : World), Inv P ops ds ms τ₀ E₀ s₀ w₀ a₀.defers listed a w → (∀ i, i < ops.size → lst listed i = true) → Q .normal a w := by
      intro listed a w inv hall
      obtain ⟨E, k, M, hM, hk, hkl, g, F, hF, hFg, hFt⟩ := inv.rel
      have hall' : ∀ d ∈ ds, lst listed d.i = true := fun d hd => by
        have h1 := hmem d hd
        obtain ⟨h2, _⟩ := List.getElem?_eq_some_iff.1 h1
        exact hall _ (by omega)
      have hkk : k = (ds.filter (·.mv)).length := by
        rcases Nat.lt_or_ge k (ds.filter (·.mv)).length with hlt | hge
        · have hm := List.getElem?_eq_getElem hlt
          have h1 := (hk k _ hm).1 (hall' _ (List.mem_filter.1 (List.mem_of_getElem? hm)).1)
          omega
        · omega
      have hMs : M = s₁ := by
        rw [List.getLast?_eq_getElem?, txt.mem, ← hkk] at hlastm
        simp only [Nat.add_sub_cancel] at hlastm
        rw [hM] at hlastm
        exact Option.some.inj hlastm
      subst hMs
      refine hQ E a w g (hFt.congr (by rw [txt.last.1, hF]) fun t => ?_) inv.defers
      rw [txt.last.2 t, hFg t]
      exact look_congr fun d hd _ _ => (hall' d hd).symm
    -- a step
    have step : ∀ (listed : Array Bool) (a : Act) (w : World) (i : Nat) (K : Act → World → Prop), Inv P ops ds ms τ₀ E₀ s₀ w₀ a₀.defers listed a w → i ∈ Region.ready .any ops listed →
        (∀ a' w', Inv P ops ds ms τ₀ E₀ s₀ w₀ a₀.defers (listed.setIfInBounds i true) a' w' → K a' w') → wpOp P ops Q i K a w := by
      intro listed a w i K inv hi hK
      rw [mem_ready] at hi
      obtain ⟨hi0, o, ho, hie⟩ := hi
      obtain ⟨hin, -⟩ := Array.getElem?_eq_some_iff.1 ho
      have hil : i < listed.size := by rw [inv.size]; exact hin
      have hi0' : lst listed i = false := by
        unfold lst
        rw [Array.getD_eq_getD_getElem?, Array.getElem?_eq_getElem hil] at hi0 ⊢
        exact hi0
      have hrdy : Rdy ops (lst listed) i := ⟨o, ho, hie⟩
      have hset1 : lst (listed.setIfInBounds i true) i = true := by
        unfold lst
        rw [Array.getD_eq_getD_getElem?, Array.getElem?_setIfInBounds_self, if_pos hil]
        rfl
      have hset2 : ∀ j, j ≠ i → lst (listed.setIfInBounds i true) j = lst listed j := fun j hj => getD_set_ne false (fun e => hj e.symm)
      obtain ⟨d, hd⟩ : ∃ d, ds[i]? = some d := ⟨_, List.getElem?_eq_getElem (by omega)⟩
      obtain ⟨hdi, hdo, hdm, hdp⟩ := hat i d hd
      rw [ho, Option.some.injEq] at hdo
      obtain ⟨E, k, M, hM, hk, hkl, g, F, hF, hFg, hFt⟩ := inv.rel
      -- later ones that do not wait are apart
      have hlater : ∀ j d', i < j → ds[j]? = some d' → lst listed d'.i = true → o.apart ops d'.o = true := by
        intro j d' hij hd' hl'
        obtain ⟨h1, h2, h3, h4⟩ := hat j d' hd'
        rcases hap i j o d'.o hij ho h2 with h5 | h5
        · have := hpb j _ inv.closed (inv.closed j (by rw [← h1]; exact hl')) i h5
          rw [hi0'] at this; cases this
        · exact h5
      have hearlier : ∀ j d', j < i → ds[j]? = some d' → lst listed d'.i = false → d'.o.apart ops o = true := by
        intro j d' hij hd' hl'
        obtain ⟨h1, h2, h3, h4⟩ := hat j d' hd'
        rcases hap j i d'.o o hij h2 ho with h5 | h5
        · have := hpb i _ inv.closed hrdy j h5
          rw [← h1, hl'] at this; cases this
        · exact h5
      -- what it looks at
      have hτ : F.only (o.looksAt ops) = d.τ := by
        obtain ⟨σ, h1, h2, h3⟩ := txt.tmp i d hd
        rw [h1, ← hdo]
        refine Fr.only_congr (by rw [hF, h2]) fun t ht => ?_
        rw [hFg t, h3 t, ← look_take (i₀ := 0) (fun q e hq => by rw [(hat q e hq).1]; omega)]
        refine look_congr fun e he het _ => ?_
        have h4 := hmem e he
        obtain ⟨q, hq⟩ : ∃ q, e.i = q := ⟨_, rfl⟩
        rw [hq] at h4
        rcases Nat.lt_trichotomy q i with hlt | heq | hgt
        · have hdec : decide (e.i < 0 + i) = true := by rw [decide_eq_true_eq]; omega
          rw [hdec]
          cases hle : lst listed e.i with
          | true => rfl
          | false =>
            have := (Oper.apart_spec (hearlier q e hlt h4 hle)).1 t het
            exact absurd ht this
        · have hdec : decide (e.i < 0 + i) = false := by rw [decide_eq_false_iff_not]; omega
          rw [hdec, hq, heq, hi0']
        · have hdec : decide (e.i < 0 + i) = false := by rw [decide_eq_false_iff_not]; omega
          rw [hdec]
          cases hle : lst listed e.i with
          | false => rfl
          | true =>
            have := (Oper.apart_spec (hlater q e hgt h4 hle)).2.2 t het
            exact absurd ht this
      -- the memory behind it
      obtain ⟨M', hs, k', hM', hk', hkl'⟩ : ∃ M', stepOp P cl ops o (F.only (o.looksAt ops)) M = some (d.v, M') ∧ ∃ k', ms[k']? = some M' ∧
          (∀ q m, (ds.filter (·.mv))[q]? = some m → (lst (listed.setIfInBounds i true) m.i = true ↔ q < k')) ∧ k' ≤ (ds.filter (·.mv)).length := by
        rw [hτ, hdo]
        cases hmv : d.mv with
        | false =>
          rw [List.all_eq_true] at hsteady
          have h1 := hsteady d (List.mem_of_getElem? hd)
          rw [hmv, Bool.false_or] at h1
          obtain ⟨s, v, s', h2, h3, h4⟩ := steady_ok k _ ms h1 txt.mem hkl (fun q m hq hm => by
              obtain ⟨p, h5, h6, h7⟩ := filter_at hm
              obtain ⟨h8, h9, h10, h11⟩ := hat p m h5
              cases hb : m.pre.testBit d.i with
              | false => rfl
              | true =>
                rw [h11, hdi] at hb
                have := hpb p _ inv.closed (inv.closed p (by rw [← h8]; exact (hk q m hm).2 hq)) i hb
                rw [hi0'] at this; cases this) (fun q m hq hm => by
              cases hb : d.pre.testBit m.i with
              | false => rfl
              | true =>
                rw [hdp] at hb
                have := (hk q m hm).1 (hpb i _ inv.closed hrdy m.i hb)
                omega)
          rw [hM, Option.some.injEq] at h2
          subst h2
          have h5 := stepOp_quiet d.o d.τ M v s' (by rw [← hdm]; exact hmv) h3
          subst h5
          have h6 := same_ok h4
          subst h6
          refine ⟨_, h3, k, hM, fun q m hm => ?_, hkl⟩
          rw [← hk q m hm, hset2]
          intro he
          obtain ⟨p, h5, h6, h7⟩ := filter_at hm
          rw [(hat p m h5).1] at he
          subst he
          rw [hd, Option.some.injEq] at h5
          subst h5
          rw [hmv] at h6; cases h6
        | true =>
          have h1 := at_filter (p := (·.mv)) hd hmv
          obtain ⟨r, hr⟩ : ∃ r, ((ds.take i).filter (·.mv)).length = r := ⟨_, rfl⟩
          rw [hr] at h1
          have hrk : r = k := by
            have h2 : ¬ r < k := fun h3 => by
              have := (hk r d h1).2 h3
              rw [hdi, hi0'] at this; cases this
            rcases Nat.lt_or_ge k r with h3 | h3
            · obtain ⟨p, rfl⟩ : ∃ p, r = p + 1 := ⟨r - 1, by omega⟩
              have hlt : p < (ds.filter (·.mv)).length := by
                obtain ⟨h4, _⟩ := List.getElem?_eq_some_iff.1 h1
                omega
              have hp := List.getElem?_eq_getElem hlt
              have h4 := chainOk_ok hchain p _ d hp h1
              rw [hdp] at h4
              have h5 := (hk p _ hp).1 (hpb i _ inv.closed hrdy _ h4)
              omega
            · omega
          subst hrk
          obtain ⟨s₂, s₃, h2, h3, h4⟩ := txt.mv r d h1
          rw [hM, Option.some.injEq] at h2
          subst h2
          obtain ⟨hlt, _⟩ := List.getElem?_eq_some_iff.1 h1
          refine ⟨s₃, h4, r + 1, h3, fun q m hm => ?_, hlt⟩
          by_cases hqr : q = r
          · subst hqr
            rw [h1, Option.some.injEq] at hm
            subst hm
            rw [hdi, hset1]
            simp
          · rw [hset2, hk q m hm]
            · omega
            · intro he
              obtain ⟨p, h5, h6, h7⟩ := filter_at hm
              rw [(hat p m h5).1] at he
              subst he
              omega
      unfold wpOp
      rw [ho]
      simp only
      refine stepOp_ok hcl hs g.rel (hFt.only _) fun E' u w' g' hv => hK _ _ ?_
      refine ⟨by simp [inv.size], ?_, ⟨E', k', M', hM', hk', hkl', g.trans g', F.put o.dst d.v, by rw [Fr.put_n, hF], fun t => ?_, (hFt.mono g'.ext).put hv⟩, by rw [Act.put_defers', inv.defers]⟩
      · intro j hj
        by_cases hji : j = i
        · subst hji
          exact ⟨o, ho, fun e he hb => getD_set_true (hie e he hb)⟩
        · rw [hset2 j hji] at hj
          obtain ⟨o', ho', he'⟩ := inv.closed j hj
          exact ⟨o', ho', fun e he hb => getD_set_true (he' e he hb)⟩
      · rw [Fr.get_put, hF]
        split
        · rename_i hc
          refine (look_last hd (by rw [hdi]; exact hset1) (by rw [← hdo]; exact hc.1) hc.2 fun j e hj he het => ?_).symm
          have hei := (hat j e he).1
          rw [hset2 _ (by omega)]
          cases hle : lst listed e.i with
          | false => rfl
          | true =>
            have := (Oper.apart_spec (hlater j e hj he hle)).2.1 t hc.1
            exact absurd het this
        · rename_i hc
          rw [hFg t]
          refine look_congr fun e he het htn => ?_
          by_cases hei : e.i = i
          · have h1 := hmem e he
            rw [hei, hd, Option.some.injEq] at h1
            subst h1
            exact absurd ⟨by rw [hdo]; exact het, htn⟩ hc
          · exact (hset2 _ hei).symm
    intro fuel
    induction fuel with
    | zero =>
      intro listed a w inv hl
      have hall := left_zero hl
      refine ⟨?_, fin listed a w inv hall⟩
      rw [List.eq_nil_iff_forall_not_mem]
      intro i hi
      rw [mem_ready] at hi
      obtain ⟨hi0, o, ho, -⟩ := hi
      obtain ⟨hin, -⟩ := Array.getElem?_eq_some_iff.1 ho
      have h1 := hall i hin
      unfold lst at h1
      rw [Array.getD_eq_getD_getElem?, Array.getElem?_eq_getElem (by rw [inv.size]; exact hin)] at hi0 h1
      simp only [Option.getD_some] at hi0 h1
      rw [hi0] at h1; cases h1
    | succ fuel ih =>
      intro listed a w inv hl
      refine ⟨fun hr => ?_, fun i hi => ?_⟩
      · refine fin listed a w inv ?_
        intro i
        induction i using Nat.strongRecOn with
        | _ i ihi =>
          intro hin
          cases hli : lst listed i with
          | true => rfl
          | false =>
            have hm : i ∈ Region.ready .any ops listed := by
              rw [mem_ready]
              refine ⟨?_, ops[i], Array.getElem?_eq_getElem hin, fun e he hb => ?_⟩
              · unfold lst at hli
                rw [Array.getD_eq_getD_getElem?, Array.getElem?_eq_getElem (by rw [inv.size]; exact hin)] at hli ⊢
                simpa using hli
              · have := hbk i ops[i] (Array.getElem?_eq_getElem hin) e he hb
                exact ihi e.on this (by omega)
            rw [hr] at hm
            cases hm
      · refine step listed a w i _ inv hi fun a' w' inv' => ih _ _ _ inv' ?_
        rw [mem_ready] at hi
        obtain ⟨hi0, o, ho, hie⟩ := hi
        obtain ⟨hin, -⟩ := Array.getElem?_eq_some_iff.1 ho
        have hil : i < listed.size := by rw [inv.size]; exact hin
        have := left_set (L := lst listed) (L' := lst (listed.setIfInBounds i true)) (i := i) (by
            unfold lst
            rw [Array.getD_eq_getD_getElem?, Array.getElem?_eq_getElem hil] at hi0 ⊢
            exact hi0) (by
            unfold lst
            rw [Array.getD_eq_getD_getElem?, Array.getElem?_setIfInBounds_self, if_pos hil]
            rfl) (fun j hj => getD_set_ne false (fun e => hj e.symm)) hin
        omega
  have hfalse : ∀ i, lst (Array.replicate ops.size false) i = false := fun i => by
    unfold lst
    rw [Array.getD_eq_getD_getElem?, Array.getElem?_replicate]
    split <;> rfl
  refine main ops.size _ a₀ w₀ ⟨by simp, ?_, ?_, rfl⟩ ?_
  · intro i hi
    rw [hfalse] at hi; cases hi
  · refine ⟨E₀, 0, s₀, txt.mem0, fun q m hm => by rw [hfalse]; simp, Nat.zero_le _, Goes.refl hw₀, τ₀, rfl, fun t => ?_, ht₀⟩
    rw [look_none fun d _ _ => hfalse _]
  · rw [left_congr (L' := fun _ => false) fun i _ => hfalse i, left_all]

end
end Go.Ae
