/-
  append.
-/
import Derived.Test.YtbkniippobnbpaaAeOps2
namespace Go.Ae
set_option linter.unusedSimpArgs false

section
variable {P : Program} {E : Env} {s : St} {w : World}

/-! ### Storing into a block from outside the evaluator's cells -/

def putL (C : Array Value) (A : Nat) : List Value → Array Value
  | [] => C
  | v :: vs => putL (C.setIfInBounds A v) (A + 1) vs

theorem putL_size : ∀ (vs : List Value) (C : Array Value) (A : Nat), (putL C A vs).size = C.size
  | [], _, _ => rfl
  | _ :: vs, C, A => by simp [putL, putL_size vs]

theorem putL_get : ∀ (vs : List Value) (C : Array Value) (A x : Nat), A + vs.length ≤ C.size → (putL C A vs)[x]? = if A ≤ x ∧ x < A + vs.length then vs[x - A]? else C[x]?
  | [], C, A, x, _ => by
    simp only [putL, List.length_nil, Nat.add_zero]
    rw [if_neg (by omega)]
  | v :: vs, C, A, x, h => by
    simp only [putL, List.length_cons] at h ⊢
    rw [putL_get vs _ _ _ (by simp; omega)]
    by_cases h1 : A + 1 ≤ x ∧ x < A + 1 + vs.length
    · rw [if_pos h1, if_pos (by omega)]
      obtain ⟨k, hk⟩ : ∃ k, x - A = k + 1 := ⟨x - A - 1, by omega⟩
      rw [hk, List.getElem?_cons_succ]
      congr 1
      omega
    · rw [if_neg h1]
      by_cases h2 : x = A
      · subst h2
        rw [if_pos (by omega), Array.getElem?_setIfInBounds_self]
        simp; omega
      · rw [if_neg (by omega), Array.getElem?_setIfInBounds_ne (by omega)]

theorem rawStores {g : Nat} {ty : TypeId} {lo hi : Nat} : ∀ (vs : List Value) (w : World) (C : Array Value) (A k B : Nat), w.heap[g]? = some (.cells C ty (lo, hi)) → (∀ v ∈ vs, v.oneCell' = true) →
    B + k = A → A + vs.length ≤ C.size → (∀ x, A ≤ x → x < C.size → ¬ (lo ≤ x ∧ x < hi)) →
    ∃ w', (storeCells ⟨g, B, none⟩ vs k).run P w = .ok () w' ∧ w'.heap = w.heap.setIfInBounds g (.cells (putL C A vs) ty (lo, hi)) ∧ w'.os = w.os ∧ w'.tape = w.tape ∧ w'.output = w.output
  | [], w, C, A, k, B, hg, _, _, _, _ => by
    refine ⟨w, by simp [storeCells], ?_, rfl, rfl, rfl⟩
    apply Array.ext_getElem?
    intro j
    by_cases hj : g = j
    · subst hj
      rw [Array.getElem?_setIfInBounds_self, hg]
      simp [putL, (Array.getElem?_eq_some_iff.1 hg).1]
    · rw [Array.getElem?_setIfInBounds_ne hj]
  | v :: vs, w, C, A, k, B, hg, h1, hB, hA, hf => by
    have hlt : A < C.size := by simp only [List.length_cons] at hA; omega
    have hgs : g < w.heap.size := (Array.getElem?_eq_some_iff.1 hg).1
    have hfz : w.frozen? ⟨g, A, none⟩ = false := by
      rw [frozen_at hg]
      have := hf A (Nat.le_refl _) hlt
      cases hd : (decide (lo ≤ A) && decide (A < hi)) with
      | false => rfl
      | true => simp only [Bool.and_eq_true, decide_eq_true_eq] at hd; exact absurd hd this
    have hset : (w.setCell ⟨g, A, none⟩ v).heap = w.heap.setIfInBounds g (.cells (C.setIfInBounds A v) ty (lo, hi)) := by
      unfold World.setCell
      apply Array.ext_getElem?
      intro j
      simp only [Array.getElem?_modify]
      by_cases hj : g = j
      · subst hj
        rw [Array.getElem?_setIfInBounds_self, if_pos rfl, hg]
        simp [hgs]
      · rw [Array.getElem?_setIfInBounds_ne hj, if_neg hj]
    have hg' : (w.setCell ⟨g, A, none⟩ v).heap[g]? = some (.cells (C.setIfInBounds A v) ty (lo, hi)) := by
      rw [hset, Array.getElem?_setIfInBounds_self]; simp [hgs]
    obtain ⟨w', hr, hh, ho, ht, hq⟩ := rawStores vs (w.setCell ⟨g, A, none⟩ v) (C.setIfInBounds A v) (A + 1) (k + 1) B hg' (fun u hu => h1 u (List.mem_cons_of_mem _ hu)) (by omega)
      (by simp only [List.length_cons] at hA; simp; omega) (fun x hx hx' => hf x (by omega) (by simpa using hx'))
    refine ⟨w', ?_, ?_, ho, ht, hq⟩
    · simp only [storeCells, Addr.add_plain, Sem.run_bind]
      rw [hB, run_store P w _ v _ (h1 v List.mem_cons_self), cell_at hg, Array.getElem?_eq_getElem hlt]
      simp only [hfz, Bool.false_eq_true, if_false, Result.andThen_ok]
      exact hr
    · rw [hh, hset]
      simp only [putL]
      apply Array.ext_getElem?
      intro j
      by_cases hj : g = j
      · subst hj; simp [Array.getElem?_setIfInBounds_self]
      · simp [Array.getElem?_setIfInBounds_ne hj]

/-! ### The machine's append, its two ways -/

def SrcOk (P : Program) (w : World) (dx : TypeDesc) (ie : TypeInfo) (vy : Value) (m : Nat) (news : Array Value) : Prop :=
  (∃ k kk l z, dx = .int k ∧ vy = .int kk l ∧ 0 ≤ l ∧ l ≤ 1000000000000 ∧ l * ie.bytes ≤ 1000000000000 ∧ m = l.toNat ∧ ie.zero = some z ∧ z.cells.size = ie.size ∧ news = Builtin.zeroCells z.cells m) ∨
  ((∀ k, dx ≠ .int k) ∧ (Builtin.lenOf vy).run P w = .ok m w ∧ (Builtin.firstCells ie.size m vy).run P w = .ok news w)

theorem wrap_i64 (l : Int) (h0 : 0 ≤ l) (h1 : l ≤ 1000000000000) : IntKind.i64.wrap l = l := by
  unfold IntKind.wrap
  simp only [IntKind.bits, IntKind.signed]
  have : l % (2 ^ 64 : Int) = l := by omega
  simp only [this]
  rw [if_neg]
  simp
  omega

theorem zeroCells_zero (z : Array Value) (n : Nat) (h : n * z.size = 0) : Builtin.zeroCells z n = #[] := by
  unfold Builtin.zeroCells; rw [h]; simp

theorem append_room {argTypes : Array TypeId} {type ts tx e : TypeId} {vy : Value} {dx : TypeDesc} {ie : TypeInfo} {base : Option Addr} {sLen sCap m : Nat} {news : Array Value}
    (h0 : argTypes[0]? = some ts) (h1 : argTypes[1]? = some tx) (hu : P.underlying ts = some (.slice e)) (hdx : P.underlying tx = some dx) (hie : P.info? e = some ie)
    (hs : SrcOk P w dx ie vy m news) (hroom : sLen + m ≤ sCap) :
    (Builtin.append_ argTypes type #[.slice base sLen sCap, vy]).run P w =
      (match base with | some a => (storeCells (a.add (sLen * ie.size)) news.toList).run P w | none => .ok () w).andThen fun _ w' => .ok (.slice base (sLen + m) sCap) w' := by
  have hsz : (sizeOf e).run P w = .ok ie.size w := by simp [sizeOf, run_typeInfo_ok hie]
  rcases hs with ⟨k, kk, l, z, rfl, rfl, hl0, hl1, hl2, rfl, hz, hzs, rfl⟩ | ⟨hk, hl, hf⟩
  · have hw' := wrap_i64 l hl0 hl1
    have hb : ¬ (l * (ie.bytes : Int) > 2 ^ 48) := by omega
    have hzero : (zeroValue e).run P w = .ok z w := by simp [zeroValue, run_typeInfo_ok hie, hz]
    simp only [Builtin.append_, h0, h1, List.getElem?_toArray, List.getElem?_cons_zero, List.getElem?_cons_succ, Sem.run_bind, run_underlying_ok hu, run_underlying_ok hdx, Result.andThen_ok, hsz, Sem.run_pure,
      if_true, asInt, asIntOf, hw', run_typeInfo_ok hie]
    simp only [if_neg (show ¬ (l < 0) by omega), Sem.run_bind, run_typeInfo_ok hie, Result.andThen_ok, if_neg hb, Sem.run_pure, if_pos hroom, Bool.not_true, Bool.false_eq_true, if_false]
    have happ : ((if l.toNat * ie.size = 0 then Pure.pure #[] else do let v ← zeroValue e; Pure.pure (Builtin.zeroCells v.cells l.toNat) : Sem (Array Value))).run P w = .ok (Builtin.zeroCells z.cells l.toNat) w := by
      by_cases hc : l.toNat * ie.size = 0
      · rw [if_pos hc, zeroCells_zero _ _ (by rw [hzs]; exact hc)]; rfl
      · rw [if_neg hc]; simp [hzero]
    rw [happ]
    cases base <;> simp
  · have hm : (match dx with | .int _ => true | _ => false) = false := by cases dx <;> first | rfl | exact absurd rfl (hk _)
    simp only [Builtin.append_, h0, h1, List.getElem?_toArray, List.getElem?_cons_zero, List.getElem?_cons_succ, Sem.run_bind, run_underlying_ok hu, run_underlying_ok hdx, Result.andThen_ok, hsz, Sem.run_pure,
      hm, Bool.false_eq_true, if_false, hl, if_pos hroom, Bool.not_false, if_true, hf]
    cases base <;> simp

theorem nextslicecap_le (need old : Nat) (h : old < need) : Builtin.nextslicecap need old ≤ 2 * need := by
  have hg : ∀ (r c : Nat), 256 ≤ c → c ≤ 2 * need → Builtin.growBy need r c ≤ 2 * need := by
    intro r
    induction r with
    | zero => intro c _ h; exact h
    | succ r ih =>
      intro c h1 h2
      simp only [Builtin.growBy]
      split
      · exact h2
      · exact ih _ (by omega) (by omega)
  unfold Builtin.nextslicecap
  split
  · omega
  · split
    · omega
    · exact hg _ _ (by omega) (by omega)

theorem append_grows {argTypes : Array TypeId} {type ts tx e : TypeId} {vy z : Value} {dx : TypeDesc} {ie : TypeInfo} {base : Option Addr} {sLen sCap m : Nat} {news old : Array Value}
    (h0 : argTypes[0]? = some ts) (h1 : argTypes[1]? = some tx) (hu : P.underlying ts = some (.slice e)) (hdx : P.underlying tx = some dx) (hie : P.info? e = some ie) (hz : ie.zero = some z)
    (hs : SrcOk P w dx ie vy m news) (hs' : SrcOk P w.drew dx ie vy m news) (hold : (Builtin.firstCells ie.size sLen (.slice base sLen sCap)).run P w.drew = .ok old w.drew)
    (hroom : sCap < sLen + m) (hb : (sLen + m) * ie.bytes ≤ 1000000000000) (hb2 : sLen + m ≤ 1000000000000) :
    ∃ newCap, sLen + m ≤ newCap ∧ (Builtin.append_ argTypes type #[.slice base sLen sCap, vy]).run P w =
      .ok (.slice (some ⟨w.heap.size, 0, none⟩) (sLen + m) newCap) (w.drew.alloc (.cells (old ++ news ++ Builtin.zeroCells z.cells (newCap - (sLen + m))) e)) := by
  have hsz : ∀ w' : World, (sizeOf e).run P w' = .ok ie.size w' := fun w' => by simp [sizeOf, run_typeInfo_ok hie]
  have hzero : ∀ w' : World, (zeroValue e).run P w' = .ok z w' := fun w' => by simp [zeroValue, run_typeInfo_ok hie, hz]
  refine ⟨(Question.appendCap (sLen + m) sCap e).cut (w.tape w.drawn (.appendCap (sLen + m) sCap e)), by simp [Question.cut], ?_⟩
  generalize hnew : (Question.appendCap (sLen + m) sCap e).cut (w.tape w.drawn (.appendCap (sLen + m) sCap e)) = newCap
  have hch : (choose (Question.appendCap (sLen + m) sCap e)).run P w = .ok newCap w.drew := by
    rw [run_choose, hnew]; rfl
  have hov : ¬ (((sLen + m : Nat) : Int) > IntKind.i64.max) := by
    simp only [IntKind.max, IntKind.signed, IntKind.bits]; omega
  have hnc : ¬ (Builtin.nextslicecap (sLen + m) sCap * ie.bytes > 2 ^ 48) := by
    have h9 := nextslicecap_le (sLen + m) sCap hroom
    have h8 := Nat.mul_le_mul_right ie.bytes h9
    have h7 : (2 * (sLen + m)) * ie.bytes = 2 * ((sLen + m) * ie.bytes) := by rw [Nat.mul_assoc]
    omega
  have hro : ¬ (sLen + m ≤ sCap) := by omega
  rcases hs with ⟨k, kk, l, z', rfl, rfl, hl0, hl1, hl2, rfl, hz', hzs, rfl⟩ | ⟨hk, hl, hf⟩
  · rw [hz] at hz'; cases hz'
    have hw' := wrap_i64 l hl0 hl1
    have hbb : ¬ (l * (ie.bytes : Int) > 2 ^ 48) := by omega
    have happ : ∀ w' : World, ((if l.toNat * ie.size = 0 then Pure.pure #[] else do let v ← zeroValue e; Pure.pure (Builtin.zeroCells v.cells l.toNat) : Sem (Array Value))).run P w' = .ok (Builtin.zeroCells z.cells l.toNat) w' := by
      intro w'
      by_cases hc : l.toNat * ie.size = 0
      · rw [if_pos hc, zeroCells_zero _ _ (by rw [hzs]; exact hc)]; rfl
      · rw [if_neg hc]; simp [hzero]
    simp only [Builtin.append_, h0, h1, List.getElem?_toArray, List.getElem?_cons_zero, List.getElem?_cons_succ, Sem.run_bind, run_underlying_ok hu, run_underlying_ok hdx, Result.andThen_ok, hsz, Sem.run_pure,
      if_true, asInt, asIntOf, hw', run_typeInfo_ok hie]
    simp only [if_neg (show ¬ (l < 0) by omega), Sem.run_bind, run_typeInfo_ok hie, Result.andThen_ok, if_neg hbb, Sem.run_pure, if_neg hro, Bool.not_true, Bool.false_eq_true, if_false]
    rw [if_neg (fun h => hov h.1)]
    simp only [Sem.run_bind, run_typeInfo_ok hie, Result.andThen_ok, if_neg hnc, Sem.run_pure, hch, run_askRoom, hold, happ, hzero, newRow, run_newObj, World.alloc_eq, World.size_drew]
  · have hm : (match dx with | .int _ => true | _ => false) = false := by cases dx <;> first | rfl | exact absurd rfl (hk _)
    have hf' : (Builtin.firstCells ie.size m vy).run P w.drew = .ok news w.drew := by
      rcases hs' with ⟨k, _, _, _, rfl, _⟩ | ⟨_, _, h⟩
      · exact absurd rfl (hk k)
      · exact h
    simp only [Builtin.append_, h0, h1, List.getElem?_toArray, List.getElem?_cons_zero, List.getElem?_cons_succ, Sem.run_bind, run_underlying_ok hu, run_underlying_ok hdx, Result.andThen_ok, hsz, Sem.run_pure,
      hm, Bool.false_eq_true, if_false, hl, if_neg hro, Bool.not_false, if_true, run_typeInfo_ok hie]
    rw [if_neg (fun h => hov h.1)]
    simp only [Sem.run_bind, run_typeInfo_ok hie, Result.andThen_ok, if_neg hnc, Sem.run_pure, hch, run_askRoom, hold, hf', hzero, newRow, run_newObj, World.alloc_eq, World.size_drew]

end
end Go.Ae
