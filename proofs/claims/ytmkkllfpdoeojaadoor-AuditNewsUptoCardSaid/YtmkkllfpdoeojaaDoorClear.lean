/- granarylaw19.made: the lists are written over. -/
import Derived.Test.YtmkkllfpdoeojaaDoorStay
namespace Go.Proofs.YtmkkllfpdoeojaaDoor
open Go.RowKit
set_option linter.unusedVariables false

theorem OwnM.below {w w' : World} {B : Nat} {v : Value} {ts : List MNd} (h : OwnM w B v ts) (hb : Below w.heap.size w w') : OwnM w' B v ts :=
  ⟨World.ownsRow.kept h.row (row := none) ⟨hb.os, hb.tape, hb.output, hb.size, fun i hi _ => hb.block i hi⟩ (by cases v.ownBlock <;> simp), fun y hy => (h.each y hy).below hb, h.apart⟩
theorem flat_set_same {α β : Type} {f : α → List β} {l : List α} {q : Nat} {x y : α} (h : l[q]? = some x) (he : f y = f x) : (l.set q y).flatMap f = l.flatMap f := by
  rw [List.flatMap_def, List.flatMap_def, map_set_same h he]
theorem set_from {l : List MNd} {q i : Nat} {x y a : MNd} (h : l[q]? = some x) (hv : y.1 = x.1) (ha : (l.set q y)[i]? = some a) : ∃ a0, l[i]? = some a0 ∧ a0.1 = a.1 := by
  rw [List.getElem?_set] at ha
  split at ha
  · rename_i e
    subst e
    split at ha
    · cases ha; exact ⟨x, h, hv.symm⟩
    · cases ha
  · exact ⟨a, ha, rfl⟩
theorem OwnM.mark {w : World} {B n g c q j h0 m cap : Nat} {ts : List MNd} {nd : Nd} {ext : List Int} (x : Int) (h : OwnM w B (.slice (some ⟨g, 0, none⟩) n c) ts) (hq : ts[q]? = some (.slice (some ⟨h0, 0, none⟩) m cap, nd, ext)) (hj : j < nd.parts.length) :
    OwnM (w.setCell ⟨h0, j, none⟩ (.int .i64 x)) B (.slice (some ⟨g, 0, none⟩) n c) (ts.set q (.slice (some ⟨h0, 0, none⟩) m cap, ⟨nd.zone, nd.parts.set j x⟩, ext)) := by
  have h1 := h.each _ (List.mem_of_getElem? hq)
  have hw := (Wrote.setCell w h0 j (.int .i64 x)).grown
  refine ⟨?_, fun t ht => ?_, fun i k a b hne ha hb => ?_⟩
  · rw [List.length_set, flat_set_same hq (by simp [mCells])]
    exact World.ownsRow.kept h.row hw (by simpa [Value.ownBlock] using own_type_ne h.row h1 (by decide))
  · obtain ⟨i, hi⟩ := List.mem_iff_getElem?.1 ht
    rw [List.getElem?_set] at hi
    split at hi
    · split at hi
      · cases hi
        have := Own.set h1 j x
        rwa [List.set_append_left _ _ hj] at this
      · cases hi
    · rename_i hne
      exact World.ownsRow.kept (h.each t (List.mem_of_getElem? hi)) hw (by simpa [Value.ownBlock] using h.apart i q _ _ (Ne.symm hne) hi hq)
  · obtain ⟨a0, ha0, ea⟩ := set_from hq (by rfl) ha
    obtain ⟨b0, hb0, eb⟩ := set_from hq (by rfl) hb
    rw [← ea, ← eb]
    exact h.apart i k _ _ hne ha0 hb0
theorem mCells_clear : ∀ (ts : List MNd) (i : Nat) (t : MNd), ts[i]? = some t →
    ((ts.flatMap mCells).set (i * 2) (.int .i64 0)).set (i * 2 + 1) (.slice none 0 0) = (ts.set i (.slice none 0 0, ⟨0, []⟩, [])).flatMap mCells
  | [], i, t, h => by simp at h
  | t :: ts, 0, _, _ => by simp [mCells, shortV]
  | t :: ts, i + 1, t0, h => by
    have ih := mCells_clear ts i t0 (by simpa using h)
    simp only [List.flatMap_cons, List.set_cons_succ]
    rw [← ih]
    simp [mCells, show (i + 1) * 2 = (i * 2) + 2 by omega, show (i * 2 + 2) + 1 = (i * 2 + 1) + 2 by omega]
theorem OwnM.clear {w : World} {B n g c q : Nat} {ts : List MNd} {t : MNd} (h : OwnM w B (.slice (some ⟨g, 0, none⟩) n c) ts) (hq : ts[q]? = some t) :
    OwnM ((w.setCell ⟨g, q * 2, none⟩ (.int .i64 0)).setCell ⟨g, q * 2 + 1, none⟩ (.slice none 0 0)) B (.slice (some ⟨g, 0, none⟩) n c) (ts.set q (.slice none 0 0, ⟨0, []⟩, [])) := by
  obtain ⟨A', c', e⟩ := row_shape h.row
  injection e with _ e2 _
  subst e2
  have s1 := World.ownsRow.stored h.row (q * 2) (.int .i64 0)
  have s2 := World.ownsRow.stored s1.1 (q * 2 + 1) (.slice none 0 0)
  have hin : ∀ {xs : List Int} {u : Value}, Own w B u xs → Own ((w.setCell ⟨g, q * 2, none⟩ (.int .i64 0)).setCell ⟨g, q * 2 + 1, none⟩ (.slice none 0 0)) B u xs := fun hu =>
    have k1 : Own (w.setCell ⟨g, q * 2, none⟩ (.int .i64 0)) B _ _ := World.ownsRow.kept hu s1.2 (by simpa [Value.ownBlock] using own_type_ne hu h.row (by decide))
    World.ownsRow.kept k1 s2.2 (by simpa [Value.ownBlock] using own_type_ne k1 s1.1 (by decide))
  refine ⟨?_, fun t ht => ?_, fun i k a b hne ha hb => ?_⟩
  · have := s2.1
    rw [mCells_clear ts q t hq] at this
    rwa [List.length_set]
  · obtain ⟨i, hi⟩ := List.mem_iff_getElem?.1 ht
    rw [List.getElem?_set] at hi
    split at hi
    · split at hi
      · cases hi; exact Own.nil _ _
      · cases hi
    · exact hin (h.each t (List.mem_of_getElem? hi))
  · rw [List.getElem?_set] at ha hb
    split at ha
    · split at ha
      · cases ha; exact .inl rfl
      · cases ha
    · split at hb
      · split at hb
        · cases hb
          cases a.1.ownBlock with
          | none => exact .inl rfl
          | some k => exact .inr (by simp [Value.ownBlock])
        · cases hb
      · exact h.apart i k _ _ hne ha hb
end Go.Proofs.YtmkkllfpdoeojaaDoor
