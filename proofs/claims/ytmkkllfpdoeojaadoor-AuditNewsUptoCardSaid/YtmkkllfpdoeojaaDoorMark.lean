/- granarylaw19.marked: the memory that it writes. -/
import Derived.Test.YtmkkllfpdoeojaaDoorAud
namespace Go.Proofs.YtmkkllfpdoeojaaDoor
open Go.RowKit
set_option linter.unusedVariables false

/-- Behind appends to one row that began as v0 in world w: of what was there only v0's row may have turned; the row is v0's or a new one. -/
structure Turned (w w' : World) (v0 v : Value) : Prop where
  grown : w.grownBy w' v0.ownBlock
  where_ : v.ownBlock = v0.ownBlock ∨ ∀ k, v.ownBlock = some k → w.heap.size ≤ k
theorem Turned.refl (w : World) (v : Value) : Turned w w v v := ⟨⟨rfl, rfl, rfl, Nat.le_refl _, fun _ _ _ => rfl⟩, .inl rfl⟩
theorem Turned.step {w w1 w2 : World} {v0 v v' : Value} (h : Turned w w1 v0 v) (hg : w1.grownBy w2 v.ownBlock) (hv : v'.ownBlock = v.ownBlock ∨ ∀ k, v'.ownBlock = some k → w1.heap.size ≤ k) : Turned w w2 v0 v' := by
  refine ⟨⟨hg.os.trans h.grown.os, hg.tape.trans h.grown.tape, hg.output.trans h.grown.output, Nat.le_trans h.grown.size hg.size, fun k hk hne => ?_⟩, ?_⟩
  · rw [hg.block k (Nat.lt_of_lt_of_le hk h.grown.size) (fun e => ?_), h.grown.block k hk hne]
    rcases h.where_ with h1 | h1
    · exact hne (e.trans h1)
    · have := h1 k e.symm; omega
  · rcases hv with h1 | h1
    · rcases h.where_ with h2 | h2
      · exact .inl (h1.trans h2)
      · exact .inr fun k hk => h2 k (h1 ▸ hk)
    · exact .inr fun k hk => Nat.le_trans h.grown.size (h1 k hk)

section
variable {ops : Array Oper} {rest : List Oper} {o : Oper} {a : Act} {Q : Exit → Act → World → Prop}
/-- 'append' of one int, and where the row lies. -/
theorem app_int_at {W : World} (B : Nat) (hgd : o.guard = none) (s x : Operand)
    (ho : o.op = .call { callee := .builtin .append, args := #[s, x], argTypes := #[26, 26] })
    (v : Value) (xs : List Int) (y : Int) (hs : a.eval s = v) (hx : a.eval x = .slice (some ⟨W.heap.size, 0, none⟩) 1 1)
    (HO : Own W B v xs) (hbase : B ≤ W.heap.size) (hl : (xs.length + 1) * 8 ≤ 140737488355328)
    (h : ∀ v1 w1, Own w1 B v1 (xs ++ [y]) → W.grownBy w1 v.ownBlock → (v1.ownBlock = v.ownBlock ∨ ∀ k, v1.ownBlock = some k → W.heap.size ≤ k) → wpList Tryd.prog ops Q rest (a.put o.dst v1) w1) :
    wpList Tryd.prog ops Q (o :: rest) a (W.alloc (.cells #[.int .i64 y] 3)) := by
  obtain ⟨i0, hi, hzz⟩ := Option.map_eq_some_iff.1 info_int
  simp only [Prod.mk.injEq] at hzz
  obtain ⟨hz0, hz1, hz2⟩ := hzz
  refine wpList_append_own_at (W.alloc (.cells #[.int .i64 y] 3)) hgd s x 26 ho B 3 i0 (.int .i64 0) 1 8 Tryd.underlying26 hi hz0 hz1 hz2 rfl (by decide) v xs.length (xs.map (Value.int .i64)) hs (World.ownsRow.alloc HO _) ⟨W.heap.size, 0, none⟩ 1 1 [.int .i64 y] hx (by simp)
    (fun j u hj => ?_) (by simp [Value.oneCell']) (by simp only [maxLen]; omega) hl (by simp; omega) ?_
  · have hadd : (⟨W.heap.size, 0, none⟩ : Addr).add j = ⟨W.heap.size, j, none⟩ := by unfold Addr.add; split <;> simp_all
    rw [hadd]
    unfold World.cell?
    rw [show (W.alloc (.cells #[.int .i64 y] 3)).heap[W.heap.size]? = some (.cells #[.int .i64 y] 3) by show (W.heap.push _)[W.heap.size]? = _; simp]
    simpa using hj
  · intro v1 w1 hown hg _ hat
    refine h v1 w1 (by unfold Own; simpa using hown) (World.grownBy.trans (World.grownBy_alloc W _ _) hg) ?_
    rcases hat with h1 | h1
    · exact .inl h1
    · refine .inr fun k hk => ?_
      rw [h1] at hk
      simp at hk
      omega
end

/-- A slice's value with another length. -/
def shortV : Value → Nat → Value
  | .slice A n c, m => .slice A m c
  | u, _ => u
theorem shortV_block (v : Value) (m : Nat) : (shortV v m).ownBlock = v.ownBlock := by
  cases v with
  | slice A n c => cases A <;> rfl
  | _ => rfl
/-- A node under way: the value of its grown list, the node, what was put behind its end. -/
abbrev MNd := Value × Nd × List Int
def mCells (t : MNd) : List Value := [.int .i64 t.2.1.zone, shortV t.1 t.2.1.parts.length]
structure OwnM (w : World) (B : Nat) (v : Value) (ts : List MNd) : Prop where
  row : w.ownsRow B 90 2 v ts.length (ts.flatMap mCells)
  each : ∀ t ∈ ts, Own w B t.1 (t.2.1.parts ++ t.2.2)
  apart : ∀ (i j : Nat) (a b : MNd), i ≠ j → ts[i]? = some a → ts[j]? = some b → a.1.ownBlock = none ∨ a.1.ownBlock ≠ b.1.ownBlock
theorem OwnM.of {w : World} {B : Nat} {v : Value} {ys : List (Value × Nd)} (h : OwnN w B v ys) : OwnM w B v (ys.map fun y => (y.1, y.2, [])) := by
  have hc : (ys.map fun y => ((y.1, y.2, []) : MNd)).flatMap mCells = ys.flatMap nodeCells := by
    have he := h.each
    clear h
    induction ys with
    | nil => rfl
    | cons y ys ih =>
      rw [List.map_cons, List.flatMap_cons, List.flatMap_cons, ih (fun z hz => he z (List.mem_cons_of_mem _ hz))]
      obtain ⟨A, c, hs⟩ := (he y (List.mem_cons_self ..)).shape
      simp [mCells, nodeCells, hs, shortV]
  refine ⟨by rw [hc, List.length_map]; exact h.row, fun t ht => ?_, ?_⟩
  · obtain ⟨y, hy, rfl⟩ := List.mem_map.1 ht
    simpa using h.each y hy
  · intro i j a b hne ha hb
    rw [List.getElem?_map, Option.map_eq_some_iff] at ha hb
    obtain ⟨y, hy, rfl⟩ := ha
    obtain ⟨z, hz, rfl⟩ := hb
    obtain ⟨hi, rfl⟩ := List.getElem?_eq_some_iff.1 hy
    obtain ⟨hj, rfl⟩ := List.getElem?_eq_some_iff.1 hz
    have hp := List.pairwise_iff_getElem.1 h.apart
    rcases Nat.lt_or_gt_of_ne hne with h1 | h1
    · exact hp i j hi hj h1
    · rcases hp j i hj hi h1 with h2 | h2
      · cases h3 : (ys[i]).1.ownBlock with
        | none => exact .inl rfl
        | some k => exact .inr (by simp [h2])
      · exact .inr (Ne.symm h2)
theorem mCells_set : ∀ (ts : List MNd) (i : Nat) (v0 v' : Value) (nd : Nd) (e0 ext : List Int), ts[i]? = some (v0, nd, e0) →
    (ts.flatMap mCells).set (i * 2 + 1) (shortV v' nd.parts.length) = (ts.set i (v', nd, ext)).flatMap mCells
  | [], i, v0, v', nd, e0, ext, h => by simp at h
  | t :: ts, 0, v0, v', nd, e0, ext, h => by
    have : t = (v0, nd, e0) := by simpa using h
    subst this
    simp [mCells]
  | t :: ts, i + 1, v0, v', nd, e0, ext, h => by
    have ih := mCells_set ts i v0 v' nd e0 ext (by simpa using h)
    simp only [List.flatMap_cons, List.set_cons_succ]
    rw [← ih]
    simp [mCells, show (i + 1) * 2 + 1 = (i * 2 + 1) + 2 by omega]
theorem OwnM.at {w : World} {B n : Nat} {A : Option Addr} {c : Nat} {ts : List MNd} (h : OwnM w B (.slice A n c) ts) {j : Nat} {t : MNd} (hj : ts[j]? = some t) :
    ∃ g, A = some ⟨g, 0, none⟩ ∧ w.cell? ⟨g, j * 2, none⟩ = some (.int .i64 t.2.1.zone) ∧ w.cell? ⟨g, j * 2 + 1, none⟩ = some (shortV t.1 t.2.1.parts.length) := by
  have hl : j < ts.length := (List.getElem?_eq_some_iff.1 hj).1
  obtain ⟨g, cap, e, _, _⟩ := World.ownsRow.form h.row (by omega)
  injection e with e1 e2 e3
  subst e1
  have hadd : ∀ k, (⟨g, 0, none⟩ : Addr).add k = ⟨g, k, none⟩ := fun k => by unfold Addr.add; split <;> simp_all
  have hc : ∀ (ts : List MNd) (j : Nat) (t : MNd), ts[j]? = some t → (ts.flatMap mCells)[j * 2]? = some (.int .i64 t.2.1.zone) ∧ (ts.flatMap mCells)[j * 2 + 1]? = some (shortV t.1 t.2.1.parts.length) := by
    intro ts
    induction ts with
    | nil => intro j t h; simp at h
    | cons a l ih =>
      intro j t h
      cases j with
      | zero => cases (by simpa using h : a = t); simp [mCells]
      | succ j =>
        have := ih j t (by simpa using h)
        rw [List.flatMap_cons]
        constructor
        · rw [List.getElem?_append_right (by simp [mCells]; omega)]
          simpa [mCells, show (j + 1) * 2 - 2 = j * 2 by omega] using this.1
        · rw [List.getElem?_append_right (by simp [mCells]; omega)]
          simpa [mCells, show (j + 1) * 2 + 1 - 2 = j * 2 + 1 by omega] using this.2
  refine ⟨g, rfl, ?_, ?_⟩
  · have := World.ownsRow.cells (g := g) h.row rfl (j * 2) _ (hc ts j t hj).1
    rwa [hadd] at this
  · have := World.ownsRow.cells (g := g) h.row rfl (j * 2 + 1) _ (hc ts j t hj).2
    rwa [hadd] at this
/-- One node's list has grown; the node's cell takes its head. -/
theorem OwnM.put {w w1 : World} {B n g c i : Nat} {ts : List MNd} {v0 v' : Value} {nd : Nd} {e0 ext : List Int} (h : OwnM w B (.slice (some ⟨g, 0, none⟩) n c) ts) (hi : ts[i]? = some (v0, nd, e0)) (ht : Turned w w1 v0 v') (ho : Own w1 B v' (nd.parts ++ ext)) :
    OwnM (w1.setCell ⟨g, i * 2 + 1, none⟩ (shortV v' nd.parts.length)) B (.slice (some ⟨g, 0, none⟩) n c) (ts.set i (v', nd, ext)) := by
  obtain ⟨A', c', e⟩ := row_shape h.row
  injection e with _ e2 _
  subst e2
  have h0 := h.each _ (List.mem_of_getElem? hi)
  have hr1 := World.ownsRow.kept h.row ht.grown (own_type_ne h.row h0 (by decide))
  have hst := World.ownsRow.stored hr1 (i * 2 + 1) (shortV v' nd.parts.length)
  have hin : ∀ {xs : List Int} {u : Value}, Own w1 B u xs → Own (w1.setCell ⟨g, i * 2 + 1, none⟩ (shortV v' nd.parts.length)) B u xs := fun hu =>
    World.ownsRow.kept hu hst.2 (by simpa [Value.ownBlock] using own_type_ne hu hr1 (by decide))
  refine ⟨?_, fun t hm => ?_, ?_⟩
  · have := hst.1
    rw [mCells_set ts i v0 v' nd e0 ext hi] at this
    rwa [List.length_set]
  · obtain ⟨j, hj⟩ := List.mem_iff_getElem?.1 hm
    rw [List.getElem?_set] at hj
    split at hj
    · split at hj
      · cases hj; exact hin ho
      · cases hj
    · rename_i hne
      exact hin (World.ownsRow.kept (h.each t (List.mem_of_getElem? hj)) ht.grown (h.apart j i _ _ (Ne.symm hne) hj hi))
  · intro j k a b hne ha hb
    have hfar : ∀ j t, j ≠ i → ts[j]? = some t → t.1.ownBlock = none ∨ t.1.ownBlock ≠ v'.ownBlock := fun j t hji hj => by
      rcases ht.where_ with h1 | h1
      · rw [h1]; exact h.apart j i _ _ hji hj hi
      · cases h2 : t.1.ownBlock with
        | none => exact .inl rfl
        | some m =>
          refine .inr fun h3 => ?_
          have := h1 m h3.symm
          have := (World.ownsRow.lt (h.each t (List.mem_of_getElem? hj)) m h2).2
          omega
    rw [List.getElem?_set] at ha hb
    split at ha
    · rename_i hij
      split at ha
      · cases ha
        rw [if_neg (by omega)] at hb
        rcases hfar k b (by omega) hb with h2 | h2
        · cases h3 : v'.ownBlock with
          | none => exact .inl rfl
          | some m => exact .inr (by simp [h2])
        · exact .inr (Ne.symm h2)
      · cases ha
    · rename_i hij
      split at hb
      · rename_i hik
        split at hb
        · cases hb
          exact hfar j a (by omega) ha
        · cases hb
      · exact h.apart j k a b hne ha hb
end Go.Proofs.YtmkkllfpdoeojaaDoor
