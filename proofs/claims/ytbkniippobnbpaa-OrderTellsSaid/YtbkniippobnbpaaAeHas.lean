/-
  What a block of cells holds, as a list.
-/
import Derived.Test.YtbkniippobnbpaaAeSym
namespace Go.Ae
set_option linter.unusedSimpArgs false

structure Has (s : St) (b : Nat) (L : List CV) (lim : Nat) (ex : Bool) (esz : Nat) (sg : Bool) (ty : TypeId) : Prop where
  obj : ∃ cs, s.h.get b = some (.cells cs L.length ex esz lim sg ty) ∧ ∀ i, i < L.length → cs.get i = L[i]?

section
variable {s s' : St} {b : Nat} {L : List CV} {lim : Nat} {ex : Bool} {esz : Nat} {sg : Bool} {ty : TypeId}

theorem Has.ld (h : Has s b L lim ex esz sg ty) {o : Nat} (ho : o < L.length) : Ae.ld s b o = L[o]? := by
  obtain ⟨cs, h1, h2⟩ := h.obj
  simp only [Ae.ld, h1]
  exact h2 o ho

theorem Has.lds (h : Has s b L lim ex esz sg ty) : ∀ {n o : Nat}, o + n ≤ L.length → Ae.lds s b o n = some ((L.drop o).take n)
  | 0, o, _ => by simp [Ae.lds]
  | n + 1, o, ho => by
    simp only [Ae.lds]
    rw [h.ld (by omega), List.getElem?_eq_getElem (by omega)]
    simp only
    rw [h.lds (n := n) (o := o + 1) (by omega)]
    simp only
    rw [List.drop_eq_getElem_cons (i := o) (by omega), List.take_succ_cons]

theorem Has.of_le (h : Has s b L lim ex esz sg ty) (hs : s.le s') (hb : b < s.nx) : Has s' b L lim ex esz sg ty := by
  obtain ⟨cs, h1, h2⟩ := h.obj
  exact ⟨cs, by rw [hs.2 b hb]; exact h1, h2⟩

theorem Has.of_get (h : Has s b L lim ex esz sg ty) (hs : s'.h.get b = s.h.get b) : Has s' b L lim ex esz sg ty := by
  obtain ⟨cs, h1, h2⟩ := h.obj
  exact ⟨cs, by rw [hs]; exact h1, h2⟩

theorem Has.box (s : St) (l : List CV) (ty : TypeId) : Has (s.box l ty) s.nx l 0 true 1 false ty := by
  refine ⟨_, by simp only [St.box, T.get_set, if_true]; rfl, fun i hi => ?_⟩
  rw [T.get_tab, if_pos hi, List.getD_eq_getElem?_getD, List.getElem?_eq_getElem hi]
  rfl

theorem St.box_get (s : St) (l : List CV) (ty : TypeId) {b : Nat} (hb : b ≠ s.nx) : (s.box l ty).h.get b = s.h.get b := by
  simp only [St.box, T.get_set, if_neg hb]

/-- Like s, but for block b. -/
structure But (s : St) (b : Nat) (s' : St) : Prop where
  nx : s'.nx = s.nx
  get : ∀ c, c ≠ b → s'.h.get c = s.h.get c

theorem But.refl (s : St) (b : Nat) : But s b s := ⟨rfl, fun _ _ => rfl⟩
theorem But.trans {s₁ s₂ s₃ : St} {b : Nat} (h : But s₁ b s₂) (k : But s₂ b s₃) : But s₁ b s₃ := ⟨k.nx.trans h.nx, fun c hc => (k.get c hc).trans (h.get c hc)⟩

theorem But.le {s₀ : St} (h : But s b s') (h0 : s₀.le s) (hb : s₀.nx ≤ b) : s₀.le s' :=
  ⟨by rw [h.nx]; exact h0.1, fun c hc => by rw [h.get c (by omega)]; exact h0.2 c hc⟩

theorem Has.sto (h : Has s b L lim ex esz sg ty) {o : Nat} {v : CV} (ho : o < L.length) (hl : lim ≤ o) (hv : scalar v = true) :
    ∃ s', Ae.sto s b o v = some s' ∧ Has s' b (L.set o v) lim ex esz sg ty ∧ But s b s' := by
  obtain ⟨cs, h1, h2⟩ := h.obj
  refine ⟨{ s with h := s.h.set b (.cells (cs.set o v) L.length ex esz lim sg ty) }, ?_, ⟨cs.set o v, ?_, fun i hi => ?_⟩, rfl, fun c hc => ?_⟩
  · simp only [Ae.sto, hv, h1, (blt_iff o L.length).2 ho, (ble_iff lim o).2 hl]
  · simp only [T.get_set, if_true, List.length_set]
  · rw [List.length_set] at hi
    rw [T.get_set, List.getElem?_set]
    by_cases hio : i = o
    · subst hio; rw [if_pos rfl, if_pos rfl, if_pos hi]
    · rw [if_neg hio, if_neg (fun e => hio e.symm), h2 i hi]
  · show (s.h.set b _).get c = _
    rw [T.get_set, if_neg hc]

theorem Has.stos : ∀ {vs : List CV} {s : St} {L : List CV} {o : Nat}, Has s b L lim ex esz sg ty → o + vs.length ≤ L.length → lim ≤ o → (∀ v ∈ vs, scalar v = true) →
    ∃ s', Ae.stos s b o vs = some s' ∧ Has s' b (L.take o ++ vs ++ L.drop (o + vs.length)) lim ex esz sg ty ∧ But s b s'
  | [], s, L, o, h, _, _, _ => ⟨s, rfl, by simpa using h, But.refl s b⟩
  | v :: vs, s, L, o, h, ho, hl, hv => by
    obtain ⟨s₁, h1, h2, h3⟩ := h.sto (o := o) (v := v) (by simp at ho; omega) hl (hv v List.mem_cons_self)
    obtain ⟨s₂, h4, h5, h6⟩ := Has.stos (vs := vs) (o := o + 1) h2 (by simp at ho ⊢; omega) (by omega) fun u hu => hv u (List.mem_cons_of_mem _ hu)
    refine ⟨s₂, by simp only [Ae.stos, h1]; exact h4, ?_, h3.trans h6⟩
    have he : (L.set o v).take (o + 1) ++ vs ++ (L.set o v).drop (o + 1 + vs.length) = L.take o ++ (v :: vs) ++ L.drop (o + (v :: vs).length) := by
      simp at ho
      rw [List.take_add_one, List.take_set, List.getElem?_set_self (by omega), List.drop_set]
      rw [if_pos (by omega)]
      have h7 : (L.take o).set o v = L.take o := List.set_eq_of_length_le (by simp; omega)
      rw [h7]
      simp only [List.length_cons, Option.toList_some, List.append_assoc, List.cons_append, List.nil_append]
      congr 3
      congr 1
      omega
    rw [← he]
    exact h5

end
end Go.Ae
