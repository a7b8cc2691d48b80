/-
  Slices that a function builds by append, in a walk.
-/
import Derived.Test.YtbkniippobnbpaaAeEntry
namespace Go.Ae
set_option linter.unusedSimpArgs false

/-- A slice of a function's own, built by append over what s₀ holds: n elements of z cells. -/
structure Acc (s₀ s : St) (e : TypeId) (z : Nat) (v : CV) (n : Nat) (L : List CV) : Prop where
  le : s₀.le s
  len : L.length = n * z
  val : (v = .nilslice ∧ n = 0) ∨ (∃ b, v = .slice b 0 n n ∧ s₀.nx ≤ b ∧ b < s.nx ∧ Has s b L 0 false z false e) ∨ (∃ b, v = .slice b 0 n n ∧ s₀.nx ≤ b ∧ b < s.nx ∧ Has s b L 0 true 1 false e)

section
variable {P : Program} {s₀ s s' : St} {e : TypeId} {z n : Nat} {v : CV} {L : List CV}

theorem Acc.of_le (h : Acc s₀ s e z v n L) (hs : s.le s') : Acc s₀ s' e z v n L := by
  refine ⟨St.le_trans h.le hs, h.len, ?_⟩
  rcases h.val with h1 | ⟨b, h1, h2, h3, h4⟩ | ⟨b, h1, h2, h3, h4⟩
  · exact .inl h1
  · exact .inr (.inl ⟨b, h1, h2, Nat.lt_of_lt_of_le h3 hs.1, h4.of_le hs h3⟩)
  · exact .inr (.inr ⟨b, h1, h2, Nat.lt_of_lt_of_le h3 hs.1, h4.of_le hs h3⟩)

theorem Acc.below {r : St} (h : Acc s₀ s e z v n L) (hr : r.le s₀) : Acc r s e z v n L := by
  refine ⟨St.le_trans hr h.le, h.len, ?_⟩
  rcases h.val with h1 | ⟨b, h1, h2, h3, h4⟩ | ⟨b, h1, h2, h3, h4⟩
  · exact .inl h1
  · exact .inr (.inl ⟨b, h1, Nat.le_trans hr.1 h2, h3, h4⟩)
  · exact .inr (.inr ⟨b, h1, Nat.le_trans hr.1 h2, h3, h4⟩)

theorem Acc.nil (hs : s₀.le s) : Acc s₀ s e z .nilslice 0 [] := ⟨hs, by simp, .inl ⟨rfl, rfl⟩⟩

theorem newCells_eq (s : St) (l : List CV) (n : Nat) (ex : Bool) (z lim : Nat) (ty : TypeId) :
    newCells s l n ex z lim ty = (s.nx, { h := s.h.set s.nx (.cells (.tab n fun i => l.getD i .nilptr) n ex z lim false ty), nx := s.nx + 1 }) := by
  simp only [newCells, newObj, fnat_eq]

theorem Has.new (h : T CObj) (nx : Nat) (l : List CV) (ex : Bool) (z lim : Nat) (ty : TypeId) :
    Has { h := h.set nx (.cells (.tab l.length fun i => l.getD i .nilptr) l.length ex z lim false ty), nx := nx + 1 } nx l lim ex z false ty := by
  refine ⟨_, by simp only [T.get_set, if_true]; rfl, fun i hi => ?_⟩
  rw [T.get_tab, if_pos hi, List.getD_eq_getElem?_getD, List.getElem?_eq_getElem hi]
  rfl

theorem Acc.append (h : Acc s₀ s e z v n L) {bytes m : Nat} {N : List CV} (hN : N.length = m * z) (hsc : ∀ x ∈ N, scalar x = true) (h1 : (n + m) * bytes ≤ 1000000000000) (h2 : n + m ≤ 1000000000000) :
    ∃ v' s', appendTo s e z bytes v m N = some (v', s') ∧ Acc s₀ s' e z v' (n + m) (L ++ N) := by
  have hb1 : Nat.ble ((n + m) * bytes) 1000000000000 = true := (ble_iff _ _).2 h1
  have hb2 : Nat.ble (n + m) 1000000000000 = true := (ble_iff _ _).2 h2
  have hlen : (L ++ N).length = (n + m) * z := by rw [List.length_append, h.len, hN, Nat.add_mul]
  rcases h.val with ⟨rfl, rfl⟩ | ⟨b, rfl, h3, h4, h5⟩ | ⟨b, rfl, h3, h4, h5⟩
  · have hL : L = [] := List.eq_nil_of_length_eq_zero (by rw [h.len]; simp)
    subst hL
    cases m with
    | zero =>
      have : N = [] := List.eq_nil_of_length_eq_zero (by rw [hN]; simp)
      subst this
      exact ⟨.nilslice, s, rfl, h⟩
    | succ k =>
      rw [Nat.zero_add] at hb1 hb2
      refine ⟨.slice s.nx 0 (k + 1) (k + 1), _, by simp only [appendTo, growTo, hb1, hb2, newCells_eq]; rfl, ?_⟩
      refine ⟨⟨Nat.le_succ_of_le h.le.1, fun c hc => ?_⟩, by simpa using hlen, .inr (.inl ⟨s.nx, by simp, h.le.1, Nat.lt_succ_self _, ?_⟩)⟩
      · show (s.h.set s.nx _).get c = _
        rw [T.get_set_ne _ _ (by have := h.le.1; omega)]
        exact h.le.2 c hc
      · rw [← hN]
        exact Has.new s.h s.nx ([] ++ N) false z 0 e
  · cases m with
    | zero =>
      have : N = [] := List.eq_nil_of_length_eq_zero (by rw [hN]; simp)
      subst this
      refine ⟨.slice b 0 n n, s, ?_, by simpa using h⟩
      have : Nat.ble n n = true := (ble_iff _ _).2 (Nat.le_refl _)
      simp only [appendTo, Nat.add_zero, this, stos, fnat_eq]
    | succ k =>
      have hle : Nat.ble (n + (k + 1)) n = false := (ble_no _ _).2 (by omega)
      have hl : lds s b 0 (n * z) = some L := by
        rw [h5.lds (by rw [h.len]; omega), ← h.len]; simp
      obtain ⟨cs, h6, h7⟩ := h5.obj
      have hsure : sure s b 0 n z = some false := by
        simp only [sure, h6, (beq_iff z z).2 rfl, Nat.zero_add, (beq_iff (n * z) L.length).2 h.len.symm]; rfl
      have hall : (Nat.ble 0 (0 + n * z) && Nat.beq e e && N.all scalar) = true := by
        rw [(ble_iff _ _).2 (Nat.zero_le _), (beq_iff e e).2 rfl, List.all_eq_true.2 hsc]; rfl
      refine ⟨.slice s.nx 0 (n + (k + 1)) (n + (k + 1)), _, by simp only [appendTo, hle, hl, h6, hsure, hall, fnat_eq, growTo, hb1, hb2, newCells_eq, Nat.sub_zero]; rfl, ?_⟩
      refine ⟨⟨Nat.le_succ_of_le h.le.1, fun c hc => ?_⟩, hlen, .inr (.inl ⟨s.nx, rfl, h.le.1, Nat.lt_succ_self _, ?_⟩)⟩
      · show ((s.h.set b .dead).set s.nx _).get c = _
        rw [T.get_set_ne _ _ (by have := h.le.1; omega), T.get_set_ne _ _ (by omega)]
        exact h.le.2 c hc
      · rw [← hlen]
        exact Has.new (s.h.set b .dead) s.nx (L ++ N) false z 0 e
  · cases m with
    | zero =>
      have : N = [] := List.eq_nil_of_length_eq_zero (by rw [hN]; simp)
      subst this
      refine ⟨.slice b 0 n n, s, ?_, by simpa using h⟩
      have : Nat.ble n n = true := (ble_iff _ _).2 (Nat.le_refl _)
      simp only [appendTo, Nat.add_zero, this, stos, fnat_eq]
    | succ k =>
      have hle : Nat.ble (n + (k + 1)) n = false := (ble_no _ _).2 (by omega)
      have hl : lds s b 0 (n * z) = some L := by
        rw [h5.lds (by rw [h.len]; omega), ← h.len]; simp
      obtain ⟨cs, h6, h7⟩ := h5.obj
      have hsure : sure s b 0 n z = some true := by
        simp only [sure, h6]
      refine ⟨.slice s.nx 0 (n + (k + 1)) (n + (k + 1)), _, by simp only [appendTo, hle, hl, h6, hsure, fnat_eq, growTo, hb1, hb2, newCells_eq]; rfl, ?_⟩
      refine ⟨⟨Nat.le_succ_of_le h.le.1, fun c hc => ?_⟩, hlen, .inr (.inl ⟨s.nx, rfl, h.le.1, Nat.lt_succ_self _, ?_⟩)⟩
      · show (s.h.set s.nx _).get c = _
        rw [T.get_set_ne _ _ (by have := h.le.1; omega)]
        exact h.le.2 c hc
      · rw [← hlen]
        exact Has.new s.h s.nx (L ++ N) false z 0 e

theorem Acc.ld (h : Acc s₀ s e z v n L) {b o c k : Nat} (hv : v = .slice b o k c) {i : Nat} (hi : i < L.length) : Ae.ld s b (o + i) = L[i]? := by
  rcases h.val with ⟨rfl, _⟩ | ⟨b', rfl, h3, h4, h5⟩ | ⟨b', rfl, h3, h4, h5⟩
  · cases hv
  · cases hv; rw [Nat.zero_add]; exact h5.ld hi
  · cases hv; rw [Nat.zero_add]; exact h5.ld hi

/-- append in a walk: the elements of y's n come behind. -/
theorem append_ok (h : Acc s₀ s e z v n L) {t : TypeId} {ie : TypeInfo} (ht : P.underlying t = some (.slice e)) (hi : P.info? e = some ie) (hz : ie.size = z) (hf : zeroFits ie = true)
    {y : CV} {m : Nat} {N : List CV} (hy : lenOf y = some m) (hc : firstCells s z m y = some N) (hN : N.length = m * z) (hsc : ∀ x ∈ N, scalar x = true) (h1 : (n + m) * ie.bytes ≤ 1000000000000) (h2 : n + m ≤ 1000000000000) :
    ∃ v' s', builtinV P s .append #[t, t] [v, y] = some (.val v' s') ∧ Acc s₀ s' e z v' (n + m) (L ++ N) := by
  obtain ⟨v', s', h3, h4⟩ := h.append (bytes := ie.bytes) hN hsc h1 h2
  refine ⟨v', s', ?_, h4⟩
  have hb : Nat.beq N.length (m * z) = true := (beq_iff _ _).2 hN
  subst hz
  simp only [builtinV, appendV, List.getElem?_toArray, List.getElem?_cons_zero, List.getElem?_cons_succ, ht, hi, hf, appended, hy, hc, hb, h3, ret2]

end
end Go.Ae
