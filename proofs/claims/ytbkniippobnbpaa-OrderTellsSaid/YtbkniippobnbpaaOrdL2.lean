/-
  Rows of keys in order, in plain terms.
-/
import Derived.Test.YtbkniippobnbpaaOrdL1
namespace Go.Proofs.Ytbkniippobnbpaa
set_option linter.unusedSimpArgs false
open Go.Ae

/-- In order by the criteria l. -/
def Srt (l : List Int) (L : List K) : Prop := L.Pairwise fun a b => cmpK a b l ≤ 0

theorem srt_le {l : List Int} {a b c : K} (h : cmpK a b l ≤ 0) (k : cmpK b c l ≤ 0) : cmpK a c l ≤ 0 := (cmpK_Cmp l).trans a b c h k
theorem cmpK_anti (l : List Int) (a b : K) : cmpK b a l = - cmpK a b l := (cmpK_Cmp l).anti a b

theorem srt_insert {l : List Int} {U V : List K} {x : K} (h : Srt l (U ++ V)) (h1 : ∀ u ∈ U, cmpK u x l ≤ 0) (h2 : ∀ v ∈ V, cmpK x v l ≤ 0) : Srt l (U ++ x :: V) := by
  unfold Srt at h ⊢
  rw [List.pairwise_append] at h ⊢
  refine ⟨h.1, List.pairwise_cons.2 ⟨h2, h.2.1⟩, fun a ha b hb => ?_⟩
  rcases List.mem_cons.1 hb with rfl | hb
  · exact h1 a ha
  · exact h.2.2 a ha b hb

/-- Rows in order of the same keys have the same Ids. -/
theorem srt_ids {l : List Int} : ∀ {A B : List K}, A.Perm B → Srt l A → Srt l B → A.map K.id = B.map K.id
  | [], B, hp, _, _ => by rw [List.nil_perm.1 hp]
  | a :: A, B, hp, h1, h2 => by
    have hA := List.pairwise_cons.1 h1
    have ha : a ∈ B := hp.subset List.mem_cons_self
    obtain ⟨B1, B2, rfl⟩ := List.append_of_mem ha
    have hmin : ∀ y ∈ B1, cmpK a y l ≤ 0 := fun y hy => by
      have : y ∈ a :: A := hp.symm.subset (by simp [hy])
      rcases List.mem_cons.1 this with rfl | h
      · rw [(cmpK_Cmp l).self]; exact Int.le_refl _
      · exact hA.1 y h
    have hB := List.pairwise_append.1 h2
    have hid : ∀ y ∈ B1, y.id = a.id := fun y hy => by
      have h3 := hmin y hy
      have h4 := hB.2.2 y hy a List.mem_cons_self
      refine cmpK_zero (l := l) ?_
      have := cmpK_anti l a y
      omega
    have hp' : A.Perm (B1 ++ B2) := (hp.trans List.perm_middle).cons_inv
    have hs' : Srt l (B1 ++ B2) := List.pairwise_append.2 ⟨hB.1, (List.pairwise_cons.1 hB.2.1).2, fun x hx y hy => hB.2.2 x hx y (List.mem_cons_of_mem _ hy)⟩
    have hr : B1.map K.id = List.replicate B1.length a.id := by
      rw [List.eq_replicate_iff]
      refine ⟨by simp, fun z hz => ?_⟩
      obtain ⟨y, hy, rfl⟩ := List.mem_map.1 hz
      exact hid y hy
    rw [List.map_cons, srt_ids hp' hA.2 hs', List.map_append, List.map_append, List.map_cons, hr, ← List.cons_append, ← List.replicate_succ, List.replicate_succ', List.append_assoc]
    rfl
end Go.Proofs.Ytbkniippobnbpaa
