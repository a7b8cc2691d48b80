/-
  The order of keys, in plain terms.
-/
import Derived.Test.YtbkniippobnbpaaOrdW4
namespace Go.Proofs.Ytbkniippobnbpaa
open Go.Ae
set_option linter.unusedSimpArgs false

/-- A three-way comparison. -/
structure Cmp {α : Type} (f : α → α → Int) : Prop where
  anti : ∀ a b, f b a = - f a b
  trans : ∀ a b c, f a b ≤ 0 → f b c ≤ 0 → f a c ≤ 0

theorem Cmp.self {α : Type} {f : α → α → Int} (h : Cmp f) (a : α) : f a a = 0 := by
  have := h.anti a a; omega

theorem Cmp.lt_le {α : Type} {f : α → α → Int} (h : Cmp f) {a b c : α} (h1 : f a b < 0) (h2 : f b c ≤ 0) : f a c < 0 := by
  have h3 := h.trans a b c (by omega) h2
  have h4 := h.anti a c
  have h5 := h.anti a b
  have h6 := h.trans b c a h2
  omega

theorem Cmp.le_lt {α : Type} {f : α → α → Int} (h : Cmp f) {a b c : α} (h1 : f a b ≤ 0) (h2 : f b c < 0) : f a c < 0 := by
  have h3 := h.trans a b c h1 (by omega)
  have h4 := h.anti a c
  have h5 := h.anti b c
  have h6 := h.trans c a b
  omega

theorem Cmp.flip {α : Type} {f : α → α → Int} (h : Cmp f) : Cmp fun a b => f b a :=
  ⟨fun a b => h.anti b a, fun a b c h1 h2 => h.trans c b a h2 h1⟩

theorem Cmp.lex {α : Type} {f g : α → α → Int} (h : Cmp f) (k : Cmp g) : Cmp fun a b => if f a b ≠ 0 then f a b else g a b := by
  refine ⟨fun a b => ?_, fun a b c h1 h2 => ?_⟩
  · show (if f b a ≠ 0 then f b a else g b a) = - (if f a b ≠ 0 then f a b else g a b)
    rw [h.anti a b, k.anti a b]
    by_cases e : f a b = 0
    · simp [e]
    · rw [if_pos (by omega), if_pos e]
  · show (if f a c ≠ 0 then f a c else g a c) ≤ 0
    have h1 : (if f a b ≠ 0 then f a b else g a b) ≤ 0 := h1
    have h2 : (if f b c ≠ 0 then f b c else g b c) ≤ 0 := h2
    by_cases e1 : f a b = 0
    · rw [if_neg (by simp [e1])] at h1
      by_cases e2 : f b c = 0
      · rw [if_neg (by simp [e2])] at h2
        have h3 := h.trans a b c (by omega) (by omega)
        have h4 := h.trans c b a (by rw [h.anti b c]; omega) (by rw [h.anti a b]; omega)
        rw [h.anti a c] at h4
        rw [if_neg (by simp; omega)]
        exact k.trans a b c h1 h2
      · rw [if_pos e2] at h2
        have h3 := h.le_lt (a := a) (b := b) (c := c) (by omega) (by omega)
        rw [if_pos (by omega)]; omega
    · rw [if_pos e1] at h1
      have h2' : f b c ≤ 0 := by
        by_cases e2 : f b c = 0
        · omega
        · rw [if_pos e2] at h2; exact h2
      have h3 := h.lt_le (a := a) (b := b) (c := c) (by omega) h2'
      rw [if_pos (by omega)]; omega

theorem Cmp.zero {α : Type} : Cmp fun _ _ : α => 0 := ⟨fun _ _ => rfl, fun _ _ _ _ _ => Int.le_refl _⟩

theorem cmpI_le {a b : Int} : cmpI a b ≤ 0 ↔ a ≤ b := by
  unfold cmpI; split <;> (try split) <;> omega

theorem cmpI_Cmp : Cmp cmpI := by
  refine ⟨fun a b => ?_, fun a b c h1 h2 => ?_⟩
  · unfold cmpI; split <;> split <;> (try split) <;> omega
  · rw [cmpI_le] at *; omega

theorem cmpI_zero {a b : Int} (h : cmpI a b = 0) : a = b := by
  unfold cmpI at h; split at h <;> (try split at h) <;> omega

theorem cmpS_cons (x y : Nat) (a b : List Nat) : cmpS (x :: a) (y :: b) = if cmpI x y ≠ 0 then cmpI x y else cmpS a b := by
  rcases Nat.lt_trichotomy x y with h | h | h
  · have h1 : Nat.blt x y = true := (blt_iff _ _).2 h
    have h2 : cmpI x y = -1 := by unfold cmpI; rw [if_pos (by omega)]
    rw [h2]
    simp [cmpS, natsLess, h1]
  · subst h
    have h1 : Nat.blt x x = false := (blt_no _ _).2 (Nat.lt_irrefl _)
    have h2 : cmpI x x = 0 := by simp [cmpI]
    rw [h2]
    simp [cmpS, natsLess, natsEq, h1]
  · have h1 : Nat.blt x y = false := (blt_no _ _).2 (by omega)
    have h2 : cmpI x y = 1 := by unfold cmpI; rw [if_neg (by omega), if_pos (by omega)]
    have h3 : Nat.beq x y = false := beq_no.2 (by omega)
    rw [h2]
    simp [cmpS, natsLess, natsEq, h1, h3]

theorem cmpS_nn : cmpS [] [] = 0 := rfl
theorem cmpS_nc (y : Nat) (b : List Nat) : cmpS [] (y :: b) = -1 := rfl
theorem cmpS_cn (y : Nat) (b : List Nat) : cmpS (y :: b) [] = 1 := rfl

theorem cmpS_anti : ∀ a b : List Nat, cmpS b a = - cmpS a b
  | [], [] => rfl
  | [], _ :: _ => rfl
  | _ :: _, [] => rfl
  | x :: a, y :: b => by
    rw [cmpS_cons, cmpS_cons, cmpI_Cmp.anti x y, cmpS_anti a b]
    by_cases e : cmpI x y = 0
    · simp [e]
    · rw [if_pos (by omega), if_pos e]

theorem cmpS_trans : ∀ a b c : List Nat, cmpS a b ≤ 0 → cmpS b c ≤ 0 → cmpS a c ≤ 0
  | [], _, [], _, _ => by rw [cmpS_nn]; decide
  | [], _, _ :: _, _, _ => by rw [cmpS_nc]; decide
  | _ :: _, [], _, h, _ => by rw [cmpS_cn] at h; omega
  | _ :: _, _ :: _, [], _, h => by rw [cmpS_cn] at h; omega
  | x :: a, y :: b, z :: c, h1, h2 => by
    rw [cmpS_cons] at h1 h2 ⊢
    by_cases e1 : cmpI x y = 0
    · rw [if_neg (by simp [e1])] at h1
      have e1' := cmpI_zero e1
      have e1'' : x = y := by omega
      subst e1''
      by_cases e2 : cmpI x z = 0
      · rw [if_neg (by simp [e2])] at h2 ⊢
        exact cmpS_trans a b c h1 h2
      · rw [if_pos e2] at h2 ⊢; exact h2
    · rw [if_pos e1] at h1
      have h2' : cmpI y z ≤ 0 := by
        by_cases e2 : cmpI y z = 0
        · omega
        · rw [if_pos e2] at h2; exact h2
      have h3 := cmpI_Cmp.lt_le (a := (x : Int)) (b := y) (c := z) (by omega) h2'
      rw [if_pos (by omega)]; omega

theorem cmpS_Cmp : Cmp cmpS := ⟨cmpS_anti, cmpS_trans⟩

theorem cmpB_Cmp : Cmp cmpB := by
  refine ⟨fun a b => ?_, fun a b c => ?_⟩
  · cases a <;> cases b <;> decide
  · cases a <;> cases b <;> cases c <;> decide

theorem Cmp.on {α β : Type} {f : α → α → Int} (h : Cmp f) (g : β → α) : Cmp fun a b => f (g a) (g b) :=
  ⟨fun a b => h.anti _ _, fun a b c h1 h2 => h.trans _ _ _ h1 h2⟩

theorem crit_Cmp (n : Int) : Cmp (crit n) := by
  unfold crit
  by_cases h1 : n = 1
  · simp only [h1, if_true]; exact cmpI_Cmp.on K.at'
  · simp only [h1, if_false]
    by_cases h2 : n = 2
    · simp only [h2, if_true]; exact cmpI_Cmp.on K.size
    · simp only [h2, if_false]
      by_cases h3 : n = 3
      · simp only [h3, if_true]; exact cmpS_Cmp.on K.fr
      · simp only [h3, if_false]
        by_cases h4 : n = 4
        · simp only [h4, if_true]; exact cmpS_Cmp.on K.subj
        · simp only [h4, if_false]; exact cmpB_Cmp.on K.flag

/-- One criterion's part. -/
def part1 (n : Int) (a b : K) : Int := if isOne n = true then (if n > 0 then crit n a b else crit (-n) b a) else 0

theorem part1_Cmp (n : Int) : Cmp (part1 n) := by
  unfold part1
  by_cases h : isOne n = true
  · simp only [h, if_true]
    by_cases h' : n > 0
    · simp only [h', if_true]; exact crit_Cmp n
    · simp only [h', if_false]; exact (crit_Cmp (-n)).flip
  · simp only [h, if_false]; exact Cmp.zero

theorem cmpK_nil (a b : K) : cmpK a b [] = cmpI a.id b.id := rfl
theorem cmpK_cons (a b : K) (n : Int) (l : List Int) : cmpK a b (n :: l) = if part1 n a b ≠ 0 then part1 n a b else cmpK a b l := rfl

theorem cmpK_Cmp : ∀ l : List Int, Cmp fun a b => cmpK a b l
  | [] => cmpI_Cmp.on K.id
  | n :: l => (part1_Cmp n).lex (cmpK_Cmp l)

theorem cmpK_zero {a b : K} : ∀ {l : List Int}, cmpK a b l = 0 → a.id = b.id
  | [], h => cmpI_zero h
  | n :: l, h => by
    rw [cmpK_cons] at h
    by_cases e : part1 n a b = 0
    · rw [if_neg (by simp [e])] at h; exact cmpK_zero h
    · rw [if_pos e] at h; exact absurd h e

theorem part1_neg (n : Int) (a b : K) : part1 (-n) b a = part1 n a b := by
  have h : isOne (-n) = isOne n := by
    unfold isOne
    exact decide_eq_decide.2 ⟨fun h => ⟨by omega, by omega, by omega⟩, fun h => ⟨by omega, by omega, by omega⟩⟩
  unfold part1
  rw [h]
  by_cases h0 : isOne n = true
  · rw [if_pos h0, if_pos h0]
    have h1 : n ≠ 0 := by have := of_decide_eq_true h0; exact this.1
    by_cases h2 : n > 0
    · rw [if_neg (by omega), if_pos h2, Int.neg_neg]
    · rw [if_pos (by omega), if_neg h2]
  · rw [if_neg h0, if_neg h0]

theorem cmpK_neg {a b : K} (h : a.id = b.id) : ∀ l : List Int, cmpK b a (l.map fun n => -n) = cmpK a b l
  | [] => by show cmpI b.id a.id = cmpI a.id b.id; rw [h]
  | n :: l => by
    rw [List.map_cons, cmpK_cons, cmpK_cons, part1_neg, cmpK_neg h l]

/-- Less. -/
def less (a b : K) (l : List Int) : Bool := decide (cmpK a b l < 0)

theorem less_irr (a : K) (l : List Int) : less a a l = false := by
  have h : cmpK a a l = 0 := (cmpK_Cmp l).self a
  exact decide_eq_false (by omega)
theorem less_asym {a b : K} {l : List Int} (h : less a b l = true) : less b a l = false := by
  have h1 := of_decide_eq_true h
  have h2 : cmpK b a l = - cmpK a b l := (cmpK_Cmp l).anti a b
  exact decide_eq_false (by omega)
theorem less_trans {a b c : K} {l : List Int} (h : less a b l = true) (k : less b c l = true) : less a c l = true := by
  have h1 := of_decide_eq_true h
  have h2 := of_decide_eq_true k
  exact decide_eq_true ((cmpK_Cmp l).lt_le (a := a) (b := b) (c := c) h1 (by show cmpK b c l ≤ 0; omega))
theorem less_total {a b : K} {l : List Int} (h : a.id ≠ b.id) (k : less a b l = false) : less b a l = true := by
  have h1 := of_decide_eq_false k
  have h2 : cmpK b a l = - cmpK a b l := (cmpK_Cmp l).anti a b
  have h3 : cmpK a b l ≠ 0 := fun e => h (cmpK_zero e)
  exact decide_eq_true (by omega)
theorem less_neg {a b : K} (h : a.id = b.id) (l : List Int) : less b a (l.map fun n => -n) = less a b l := by
  unfold less; rw [cmpK_neg h]
end Go.Proofs.Ytbkniippobnbpaa
