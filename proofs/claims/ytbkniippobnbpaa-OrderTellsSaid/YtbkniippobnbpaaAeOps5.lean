/-
  append (the end), copy, make.
-/
import Derived.Test.YtbkniippobnbpaaAeOps4
namespace Go.Ae
set_option linter.unusedSimpArgs false

section
variable {P : Program} {E : Env} {s : St} {w : World}

theorem growTo_eq {z bytes lim : Nat} {e : TypeId} {old new : List CV} {k : Nat} {v : CV} {s' : St} (h : growTo z bytes lim e s old k new = some (v, s')) :
    k * bytes ≤ 1000000000000 ∧ k ≤ 1000000000000 ∧ s' = (newCells s (old ++ new) (k * z) false z lim e).2 ∧ v = .slice (newCells s (old ++ new) (k * z) false z lim e).1 0 k k := by
  unfold growTo at h
  split at h
  · rename_i h1 h2
    rw [ble_iff] at h1 h2
    simp only [Option.some.injEq, Prod.mk.injEq] at h
    exact ⟨h1, h2, h.2.symm, h.1.symm⟩
  · cases h

theorem zeroCells_size {z : Value} {n sz : Nat} (h : z.cells.size = sz) : (Builtin.zeroCells z.cells n).size = n * sz := by
  simp [Builtin.zeroCells, h]

theorem appendTo_ok (hw : WRel P E s w) {argTypes : Array TypeId} {type ts tx e : TypeId} {x : CV} {vx vy : Value} {dx : TypeDesc} {ie : TypeInfo} {m : Nat} {new : List CV} {news : Array Value} {v : CV} {s' : St}
    (h0 : argTypes[0]? = some ts) (h1 : argTypes[1]? = some tx) (hu : P.underlying ts = some (.slice e)) (hdx : P.underlying tx = some dx) (hie : P.info? e = some ie) {z : Value} (hz : ie.zero = some z) (hzs : z.cells.size = ie.size)
    (hx : VRel E x vx) (hs : SrcOk P w dx ie vy m news) (hs' : SrcOk P w.drew dx ie vy m news) (hnew : VRels E new news.toList) (hlen : new.length = m * ie.size)
    (h : appendTo s e ie.size ie.bytes x m new = some (v, s')) : SOk P E s w (Builtin.append_ argTypes type #[vx, vy]) v s' := by
  unfold appendTo at h
  split at h
  · simp only [VRel] at hx
    subst hx
    split at h
    · simp only [Option.some.injEq, Prod.mk.injEq] at h
      obtain ⟨rfl, rfl⟩ := h
      have hr := append_room (type := type) (base := none) (sLen := 0) (sCap := 0) h0 h1 hu hdx hie hs (by omega)
      refine ⟨.slice none 0 0, w, E, ?_, Goes.refl hw, by simp [VRel]⟩
      rw [hr]; rfl
    · rename_i k
      obtain ⟨hb, hb2, rfl, rfl⟩ := growTo_eq h
      obtain ⟨newCap, hcap, hr⟩ := append_grows (type := type) (base := none) (sLen := 0) (sCap := 0) (old := #[]) h0 h1 hu hdx hie hz hs hs' (by simp [Builtin.firstCells]) (by omega) (by simpa using hb) (by simpa using hb2)
      simp only [Nat.zero_add] at hcap hr
      obtain ⟨E', g, hv⟩ := grown_ok hw.drew (old := []) (new := new) (ov := #[]) (nv := news) (rest := Builtin.zeroCells z.cells (newCap - (k + 1))) (k := k + 1) (z := ie.size) (lim := 0) (e := e) (newCap := newCap)
        VRels.nil hnew (by simpa using hlen) hcap (by rw [zeroCells_size hzs, ← Nat.add_mul]; congr 1; omega)
      refine ⟨_, _, E', hr, (Goes.drew hw).trans g, ?_⟩
      simpa using hv
  · rename_i b o n c
    have hx0 := hx
    simp only [VRel] at hx
    obtain ⟨i, hi, hx⟩ := hx
    split at h
    · rename_i hroom
      rw [ble_iff] at hroom
      split at h
      · rename_i s1 hst
        simp only [fnat_eq, Option.some.injEq, Prod.mk.injEq] at h
        obtain ⟨rfl, rfl⟩ := h
        obtain ⟨c', rfl, hnc, hcc⟩ | ⟨A, rfl, hA, rfl, rfl⟩ := hx
        · have hle : c ≤ c' := by rcases hcc with h | ⟨_, _, h, _⟩ <;> omega
          have hr := append_room (type := type) (base := some ⟨i.blk, o + i.d, none⟩) (sLen := n) (sCap := c') h0 h1 hu hdx hie hs (by omega)
          obtain ⟨w', hst', g⟩ := stores_ok hw hi hst hnew
          refine ⟨.slice (some ⟨i.blk, o + i.d, none⟩) (n + m) c', w', E, ?_, g, ?_⟩
          · rw [hr]
            simp only [Addr.add_plain]
            rw [show o + i.d + n * ie.size = o + n * ie.size + i.d by omega, hst']
            rfl
          · simp only [VRel]
            exact ⟨i, hi, .inl ⟨c', rfl, hroom, hcc⟩⟩
        · have hm0 : m = 0 := by omega
          subst hm0
          have hn0 : new = [] := List.eq_nil_of_length_eq_zero (by simpa using hlen)
          subst hn0
          simp only [stos, Option.some.injEq] at hst
          subst hst
          have hnv : news = #[] := by
            simp only [VRels] at hnew
            exact Array.toList_eq_nil_iff.1 hnew
          subst hnv
          have hr := append_room (type := type) (base := some A) (sLen := 0) (sCap := 0) h0 h1 hu hdx hie hs (by omega)
          refine ⟨.slice (some A) 0 0, w, E, ?_, Goes.refl hw, ?_⟩
          · rw [hr]; simp [storeCells]
          · simp only [VRel]
            exact ⟨i, hi, .inr ⟨A, by simp, hA, by simp, by simp⟩⟩
      · cases h
    · rename_i hroom
      rw [ble_no] at hroom
      split at h
      · rename_i old cs nb ex esz lim sg ty hold hb
        have hlold := lds_length _ _ _ hold
        obtain ⟨j, o', hj, ho', hrel⟩ := hw.obj b _ hb rfl
        rw [hi] at hj; cases hj
        split at h
        · -- the capacity is known: a new row
          rename_i hsure
          simp only [fnat_eq] at h
          obtain ⟨hb1, hb2, rfl, rfl⟩ := growTo_eq h
          have hcap := (sure_ok hw hi hsure).1 rfl
          obtain ⟨c', rfl, hnc, hcc⟩ | ⟨A, rfl, hA, rfl, rfl⟩ := hx
          · obtain rfl := hcap c' hcc
            obtain ⟨ov, hov, hovr⟩ := loads_ok hw.drew hi hold
            obtain ⟨newCap, hcap2, hr⟩ := append_grows (type := type) (base := some ⟨i.blk, o + i.d, none⟩) (sLen := n) (sCap := c') (old := ov.toArray) h0 h1 hu hdx hie hz hs hs' (by simpa [Builtin.firstCells] using hov) (by omega) hb1 hb2
            obtain ⟨E', g, hv⟩ := grown_ok hw.drew (old := old) (new := new) (ov := ov.toArray) (nv := news) (rest := Builtin.zeroCells z.cells (newCap - (n + m))) (k := n + m) (z := ie.size) (lim := 0) (e := e) (newCap := newCap)
              (by simpa using hovr) hnew (by rw [hlold, hlen, ← Nat.add_mul]) hcap2 (by rw [zeroCells_size hzs, ← Nat.add_mul]; congr 1; omega)
            exact ⟨_, _, E', hr, (Goes.drew hw).trans g, hv⟩
          · have hold0 : old = [] := List.eq_nil_of_length_eq_zero (by simpa using hlold)
            subst hold0
            obtain ⟨newCap, hcap2, hr⟩ := append_grows (type := type) (base := some A) (sLen := 0) (sCap := 0) (old := #[]) h0 h1 hu hdx hie hz hs hs' (by simp [Builtin.firstCells, loadCells, loadCellsFrom]) (by omega) hb1 hb2
            obtain ⟨E', g, hv⟩ := grown_ok hw.drew (old := []) (new := new) (ov := #[]) (nv := news) (rest := Builtin.zeroCells z.cells (newCap - (0 + m))) (k := 0 + m) (z := ie.size) (lim := 0) (e := e) (newCap := newCap)
              VRels.nil hnew (by simpa using hlen) hcap2 (by rw [zeroCells_size hzs, ← Nat.add_mul]; congr 1; omega)
            exact ⟨_, _, E', hr, (Goes.drew hw).trans g, hv⟩
        · -- the slice reaches the end of its block: a new row, or the same
          rename_i hsure hlt
          simp only [Bool.and_eq_true, ble_iff, beq_iff, List.all_eq_true] at hlt
          obtain ⟨⟨hlim, rfl⟩, hsc⟩ := hlt
          simp only [fnat_eq] at h
          obtain ⟨hb1, hb2, rfl, rfl⟩ := growTo_eq h
          obtain ⟨hex, hez, hend⟩ := (sure_ok hw hi hsure).2 rfl
          obtain ⟨e1, e2, e3, C, lo, hi', rfl, e4, e5, e6, e8, e9, e10⟩ := hrel
          have hex2 : ex = false := by rw [← e2]; exact hex
          subst hex2
          have gk := Goes.kill hw hb
          obtain ⟨c', rfl, hnc, hcc⟩ | ⟨A, rfl, hA, rfl, rfl⟩ := hx
          · by_cases hro : n + m ≤ c'
            · -- in place
              have hfin : o + i.d + c' * i.esz ≤ i.tot := by
                rcases hcc with rfl | ⟨_, _, _, h⟩
                · omega
                · exact h
              have hr := append_room (type := type) (base := some ⟨i.blk, o + i.d, none⟩) (sLen := n) (sCap := c') h0 h1 hu hdx hie hs hro
              have hne1 : (n + m) * ie.size ≤ c' * ie.size := Nat.mul_le_mul_right _ hro
              have hne2 : (n + m) * ie.size = n * ie.size + m * ie.size := Nat.add_mul _ _ _
              have hnl : news.toList.length = m * ie.size := by rw [hnew.length, hlen]
              have hone : ∀ u ∈ news.toList, u.oneCell' = true := by
                intro u hu
                obtain ⟨q, hq⟩ := List.getElem?_of_mem hu
                have hql : q < new.length := by rw [← hnew.length]; exact (List.getElem?_eq_some_iff.1 hq).1
                obtain ⟨u', hu', hr'⟩ := hnew.get q _ (List.getElem?_eq_getElem hql)
                rw [hq] at hu'; cases hu'
                exact hr'.one (hsc _ (List.getElem_mem hql))
              obtain ⟨w', hst, hh, hos, hta, hou⟩ := rawStores (ty := ty) (lo := lo) (hi := hi') news.toList w C (o + i.d + n * ie.size) 0 (o + i.d + n * ie.size) ho' hone (by omega) (by rw [hnl, ← e4]; rw [hez] at hfin; omega)
                (fun x hx1 hx2 hx3 => by have := e9 x hx2 hx3.1 hx3.2; omega)
              have hCs : (putL C (o + i.d + n * ie.size) news.toList).size = C.size := putL_size _ _ _
              have hfin2 : o + i.d + c' * ie.size ≤ C.size := by rw [← e4, ← hez]; exact hfin
              have hx' : ORel E ⟨i.blk, o + i.d, (n + m) * ie.size, false, ie.size, C.size⟩ (.cells (.tab ((n + m) * ie.size) fun q => (old ++ new).getD q .nilptr) ((n + m) * ie.size) false ie.size (lim - o) false ty)
                  (.cells (putL C (o + i.d + n * ie.size) news.toList) ty (lo, hi')) := by
                refine ⟨rfl, rfl, rfl, _, lo, hi', rfl, hCs.symm, by rw [hCs]; show o + i.d + (n + m) * ie.size ≤ C.size; omega, (fun h => (by cases h)), ?_, ?_, ?_⟩
                · intro q cq hq
                  rw [T.get_tab] at hq
                  split at hq
                  · rename_i hqn
                    simp only [Option.some.injEq] at hq
                    subst hq
                    refine ⟨hqn, ?_⟩
                    show ∃ v, (putL C (o + i.d + n * ie.size) news.toList)[o + i.d + q]? = some v ∧ _
                    rw [putL_get _ _ _ _ (by rw [hnl]; omega), hnl]
                    by_cases hqo : q < n * ie.size
                    · rw [if_neg (by omega)]
                      have hgo : (old ++ new).getD q .nilptr = old[q]'(by omega) := by
                        rw [List.getD_eq_getElem?_getD, List.getElem?_append_left (by omega), List.getElem?_eq_getElem (by omega)]; rfl
                      rw [hgo]
                      have hlq : ∀ (N o2 : Nat) (l : List CV), lds s b o2 N = some l → ∀ q (hq : q < l.length), ld s b (o2 + q) = some l[q] := by
                        intro N
                        induction N with
                        | zero => intro o2 l hl q hq; simp only [lds, Option.some.injEq] at hl; subst hl; simp at hq
                        | succ N ih =>
                          intro o2 l hl q hq
                          simp only [lds] at hl
                          split at hl
                          · cases hl
                          · rename_i c0 hc0
                            split at hl
                            · cases hl
                            · rename_i r0 hr0
                              simp only [Option.some.injEq] at hl
                              subst hl
                              cases q with
                              | zero => simpa using hc0
                              | succ q => have := ih (o2 + 1) r0 hr0 q (by simpa using hq); simpa [Nat.add_assoc, Nat.add_comm 1 q] using this
                      obtain ⟨v, hv1, hv2⟩ := ld_ok' hw hi (hlq _ _ _ hold q (by omega))
                      rw [cell_at ho'] at hv1
                      exact ⟨v, by rw [show o + i.d + q = o + q + i.d by omega]; exact hv1, hv2⟩
                    · rw [if_pos (by omega)]
                      have hgn : (old ++ new).getD q .nilptr = new[q - n * ie.size]'(by omega) := by
                        rw [List.getD_eq_getElem?_getD, List.getElem?_append_right (by omega), List.getElem?_eq_getElem (by omega)]
                        simp [hlold]
                      rw [hgn]
                      obtain ⟨v, hv1, hv2⟩ := hnew.get (q - n * ie.size) _ (List.getElem?_eq_getElem (by omega))
                      exact ⟨v, by rw [show o + i.d + q - (o + i.d + n * ie.size) = q - n * ie.size by omega]; exact hv1, hv2⟩
                  · cases hq
                · intro q hq1 hq2 hq3
                  rw [hCs] at hq1
                  have := e9 q hq1 hq2 hq3
                  show q < o + i.d + (lim - o)
                  omega
                · intro _
                  rcases e10 rfl with h | h
                  · exact .inl h
                  · right; show hi' ≤ o + i.d + (lim - o); omega
              have g := Goes.heir hw hb rfl hi (by rfl) (i' := ⟨i.blk, o + i.d, (n + m) * ie.size, false, ie.size, C.size⟩) rfl hx' hh hos hta hou
              refine ⟨.slice (some ⟨i.blk, o + i.d, none⟩) (n + m) c', w', E.add s.nx ⟨i.blk, o + i.d, (n + m) * ie.size, false, ie.size, C.size⟩, ?_, ?_, ?_⟩
              · rw [hr]
                simp only [Addr.add_plain]
                have hst2 : (storeCells ⟨i.blk, o + i.d + n * ie.size, none⟩ news.toList).run P w = .ok () w' := hst
                rw [hst2]
                rfl
              · unfold newCells newObj
                rw [fnat_eq]
                exact g
              · unfold newCells newObj
                rw [fnat_eq]
                simp only [VRel]
                refine ⟨_, by unfold Env.add; rw [if_pos rfl], .inl ⟨c', by simp, Nat.le_refl _, .inr ⟨rfl, by simp, hro, ?_⟩⟩⟩
                simp only [Nat.zero_add]
                omega
            · -- a new row
              obtain ⟨ov, hov, hovr⟩ := loads_ok hw.drew hi hold
              obtain ⟨newCap, hcap2, hr⟩ := append_grows (type := type) (base := some ⟨i.blk, o + i.d, none⟩) (sLen := n) (sCap := c') (old := ov.toArray) h0 h1 hu hdx hie hz hs hs' (by simpa [Builtin.firstCells] using hov) (by omega) hb1 hb2
              obtain ⟨E', g, hv⟩ := grown_ok gk.rel.drew (old := old) (new := new) (ov := ov.toArray) (nv := news) (rest := Builtin.zeroCells z.cells (newCap - (n + m))) (k := n + m) (z := ie.size) (lim := lim - o) (e := ty) (newCap := newCap)
                (by simpa using hovr) hnew (by rw [hlold, hlen, ← Nat.add_mul]) hcap2 (by rw [zeroCells_size hzs, ← Nat.add_mul]; congr 1; omega)
              exact ⟨_, _, E', hr, (gk.trans (Goes.drew gk.rel)).trans g, hv⟩
          · have hold0 : old = [] := List.eq_nil_of_length_eq_zero (by simpa using hlold)
            subst hold0
            obtain ⟨newCap, hcap2, hr⟩ := append_grows (type := type) (base := some A) (sLen := 0) (sCap := 0) (old := #[]) h0 h1 hu hdx hie hz hs hs' (by simp [Builtin.firstCells, loadCells, loadCellsFrom]) (by omega) hb1 hb2
            obtain ⟨E', g, hv⟩ := grown_ok gk.rel.drew (old := []) (new := new) (ov := #[]) (nv := news) (rest := Builtin.zeroCells z.cells (newCap - (0 + m))) (k := 0 + m) (z := ie.size) (lim := lim - o) (e := ty) (newCap := newCap)
              VRels.nil hnew (by simpa using hlen) hcap2 (by rw [zeroCells_size hzs, ← Nat.add_mul]; congr 1; omega)
            exact ⟨_, _, E', hr, (gk.trans (Goes.drew gk.rel)).trans g, hv⟩
        · cases h
      · cases h
  · cases h

end
end Go.Ae
