/- granarylaw19.twin: a definition in memory of its own. -/
import Derived.Test.YtmkkllfpdoeojaaDoorClu
namespace Go.Proofs.YtmkkllfpdoeojaaDoor
open Go.RowKit
set_option linter.unusedVariables false

theorem Wrote.setCell (w : World) (g j : Nat) (v : Value) : Wrote w (w.setCell ⟨g, j, none⟩ v) g :=
  ⟨rfl, rfl, rfl, by simp [World.setCell], fun k hk => by simp only [World.setCell, Array.getElem?_modify]; rw [if_neg (fun e => hk e.symm)]⟩
theorem Blk.set {w : World} {b t : Nat} {cs : Array Value} (h : Blk w b cs t) (j : Nat) (v : Value) : Blk (w.setCell ⟨b, j, none⟩ v) b (cs.setIfInBounds j v) t := by
  unfold Blk at *
  simp [World.setCell, Array.getElem?_modify, h]
theorem Blk.wrote {w w' : World} {b g t : Nat} {cs : Array Value} (h : Blk w b cs t) (hw : Wrote w w' g) (hne : b ≠ g) : Blk w' b cs t := (hw.block b hne).trans h
theorem Wrote.grown {w w' : World} {g : Nat} (h : Wrote w w' g) : w.grownBy w' (some g) := ⟨h.os, h.tape, h.output, by rw [h.size]; exact Nat.le_refl _, fun k hk hne => h.block k (fun e => hne (by rw [e]))⟩

/-- A row of nodes of the call's own: the row, each node's list, and no two lists in one block. -/
def nodeCells (y : Value × Nd) : List Value := [.int .i64 y.2.zone, y.1]
structure OwnN (w : World) (B : Nat) (v : Value) (ys : List (Value × Nd)) : Prop where
  row : w.ownsRow B 90 2 v ys.length (ys.flatMap nodeCells)
  each : ∀ y ∈ ys, Own w B y.1 y.2.parts
  apart : ys.Pairwise fun a b => a.1.ownBlock = none ∨ a.1.ownBlock ≠ b.1.ownBlock
theorem OwnN.nil (w : World) (B : Nat) : OwnN w B (.slice none 0 0) [] := ⟨⟨by simp, .inl ⟨rfl, rfl⟩⟩, by simp, List.Pairwise.nil⟩
theorem OwnN.below {w w' : World} {B : Nat} {v : Value} {ys : List (Value × Nd)} (h : OwnN w B v ys) (hb : Below w.heap.size w w') : OwnN w' B v ys :=
  ⟨World.ownsRow.kept h.row (row := none) ⟨hb.os, hb.tape, hb.output, hb.size, fun i hi _ => hb.block i hi⟩ (by cases v.ownBlock <;> simp), fun y hy => (h.each y hy).below hb, h.apart⟩
theorem OwnN.wrote {w w' : World} {B g : Nat} {v : Value} {ys : List (Value × Nd)} (h : OwnN w B v ys) (hw : Wrote w w' g) (hg : g < B) : OwnN w' B v ys := by
  have hne : ∀ {e : TypeId} {s n : Nat} {u : Value} {xs : List Value}, w.ownsRow B e s u n xs → w'.ownsRow B e s u n xs := fun h => World.ownsRow.kept h hw.grown (by
    rename_i u xs
    cases hk : u.ownBlock with
    | none => exact .inl rfl
    | some k => have := (World.ownsRow.lt h k hk).1; exact .inr (by simp; omega))
  exact ⟨hne h.row, fun y hy => hne (h.each y hy), h.apart⟩
theorem OwnN.mono {w : World} {B B' : Nat} {v : Value} {ys : List (Value × Nd)} (h : OwnN w B v ys) (hb : B' ≤ B) : OwnN w B' v ys :=
  ⟨World.ownsRow.mono h.row hb, fun y hy => World.ownsRow.mono (h.each y hy) hb, h.apart⟩
theorem OwnN.shape {w : World} {B : Nat} {v : Value} {ys : List (Value × Nd)} (h : OwnN w B v ys) : ∃ A c, v = .slice A ys.length c ∧ ys.length ≤ c := by
  rcases h.row.2 with ⟨rfl, hn⟩ | ⟨g, cap, cur, rfl, _, _, hc, _⟩
  · exact ⟨none, 0, by rw [hn], by omega⟩
  · exact ⟨_, cap, rfl, hc⟩
theorem nodeCells_at {ys : List (Value × Nd)} {j : Nat} {y : Value × Nd} (h : ys[j]? = some y) : (ys.flatMap nodeCells)[j * 2]? = some (.int .i64 y.2.zone) ∧ (ys.flatMap nodeCells)[j * 2 + 1]? = some y.1 := by
  induction ys generalizing j with
  | nil => simp at h
  | cons a t ih =>
    cases j with
    | zero => cases (by simpa using h : a = y); simp [nodeCells]
    | succ j =>
      have := ih (by simpa using h)
      rw [List.flatMap_cons]
      constructor
      · rw [List.getElem?_append_right (by simp [nodeCells]; omega)]
        simpa [nodeCells, show (j + 1) * 2 - 2 = j * 2 by omega] using this.1
      · rw [List.getElem?_append_right (by simp [nodeCells]; omega)]
        simpa [nodeCells, show (j + 1) * 2 + 1 - 2 = j * 2 + 1 by omega] using this.2
theorem OwnN.cells {w : World} {B n : Nat} {A : Option Addr} {c : Nat} {ys : List (Value × Nd)} (h : OwnN w B (.slice A n c) ys) {j : Nat} {y : Value × Nd} (hj : ys[j]? = some y) :
    ∃ g, A = some ⟨g, 0, none⟩ ∧ w.cell? ⟨g, j * 2, none⟩ = some (.int .i64 y.2.zone) ∧ w.cell? ⟨g, j * 2 + 1, none⟩ = some y.1 := by
  have hl : j < ys.length := (List.getElem?_eq_some_iff.1 hj).1
  obtain ⟨g, cap, e, _, _⟩ := World.ownsRow.form h.row (by omega)
  injection e with e1 e2 e3
  subst e1
  have hadd : ∀ k, (⟨g, 0, none⟩ : Addr).add k = ⟨g, k, none⟩ := fun k => by unfold Addr.add; split <;> simp_all
  refine ⟨g, rfl, ?_, ?_⟩
  · have := World.ownsRow.cells (g := g) h.row rfl (j * 2) _ (nodeCells_at hj).1
    rwa [hadd] at this
  · have := World.ownsRow.cells (g := g) h.row rfl (j * 2 + 1) _ (nodeCells_at hj).2
    rwa [hadd] at this
theorem OwnN.read {w : World} {B n : Nat} {A : Option Addr} {c : Nat} {ys : List (Value × Nd)} (h : OwnN w B (.slice A n c) ys) : RdN w A n (ys.map (·.2)) := by
  obtain ⟨A', c', e, _⟩ := h.shape
  injection e with e1 e2 e3
  subst e1
  subst e2
  refine ⟨by simp, ?_, fun hn => ?_⟩
  · rcases h.row.2 with ⟨_, h1⟩ | ⟨g', cap', cur, he, _, _, h1, h2, _⟩
    · omega
    · simp only [maxLen] at h2
      omega
  · obtain ⟨y0, hy0⟩ : ∃ y, ys[0]? = some y := ⟨_, List.getElem?_eq_getElem hn⟩
    obtain ⟨g, hA, _⟩ := h.cells hy0
    subst hA
    refine ⟨g, 0, rfl, fun j x hj => ?_⟩
    rw [List.getElem?_map, Option.map_eq_some_iff] at hj
    obtain ⟨y, hy, rfl⟩ := hj
    obtain ⟨g', e, h1, h2⟩ := h.cells hy
    cases e
    have ho := h.each y (List.mem_of_getElem? hy)
    obtain ⟨B', c2, hs⟩ := ho.shape
    have hle : y.2.parts.length ≤ c2 := by
      rcases ho.2 with ⟨h3, h4⟩ | ⟨g', cap', cur, he, _, _, h3, _⟩
      · omega
      · rw [hs] at he; injection he with _ _ e3; omega
    rw [hs] at ho h2
    exact ⟨by simpa using h1, B', _, c2, by simpa using h2, hle, ho.read⟩

theorem info_node : (Tryd.prog.info? 90).map (fun i => (i.zero, i.size, i.bytes)) = some (some (.agg #[.int .i64 0, .slice none 0 0]), 2, 32) := by kernel_rfl
section
variable {ops : Array Oper} {rest : List Oper} {o : Oper} {a : Act} {Q : Exit → Act → World → Prop}
theorem app_node {w0 W : World} (B B3 : Nat) (hgd : o.guard = none) (s x : Operand)
    (ho : o.op = .call { callee := .builtin .append, args := #[s, x], argTypes := #[22, 22] })
    (v : Value) (ys : List (Value × Nd)) (y : Value × Nd) (hs : a.eval s = v) (hx : a.eval x = .slice (some ⟨W.heap.size, 0, none⟩) 1 1)
    (HO : OwnN W B v ys) (hB3 : B ≤ B3) (hold : ∀ z ∈ ys, ∀ k, z.1.ownBlock = some k → k < B3) (HY : Own W B3 y.1 y.2.parts) (HB : Below B w0 W) (hbase : B ≤ W.heap.size) (hl : (ys.length + 1) * 32 ≤ 140737488355328)
    (h : ∀ v1 w1, OwnN w1 B v1 (ys ++ [y]) → Below B w0 w1 → W.grownBy w1 v.ownBlock → wpList Tryd.prog ops Q rest (a.put o.dst v1) w1) :
    wpList Tryd.prog ops Q (o :: rest) a (W.alloc (.cells #[.int .i64 y.2.zone, y.1] 90)) := by
  obtain ⟨A', c', hsh⟩ := HY.shape
  refine app_one B 2 32 hgd s x 22 90 (.agg #[.int .i64 0, .slice none 0 0]) ho Tryd.underlying22 info_node rfl (by decide) (by decide) v ys.length (ys.flatMap nodeCells) #[.int .i64 y.2.zone, y.1] hs hx rfl (by simp [hsh, Value.oneCell']) HO.row HB hbase hl ?_
  intro v1 w1 hown hB hg
  refine h v1 w1 ⟨by simpa [nodeCells] using hown, fun z hz => ?_, ?_⟩ hB hg
  · rcases List.mem_append.1 hz with hz | hz
    · exact World.ownsRow.kept (HO.each z hz) hg (own_type_ne (HO.each z hz) HO.row (by decide))
    · cases List.mem_singleton.1 hz
      exact World.ownsRow.mono (World.ownsRow.kept HY hg (own_type_ne HY HO.row (by decide))) hB3
  · rw [List.pairwise_append]
    refine ⟨HO.apart, List.pairwise_singleton _ _, fun z hz z' hz' => ?_⟩
    cases List.mem_singleton.1 hz'
    cases hk : z.1.ownBlock with
    | none => exact .inl rfl
    | some k =>
      refine .inr fun he => ?_
      have h1 := hold z hz k hk
      have h2 := (World.ownsRow.lt HY k he.symm).1
      omega
end
end Go.Proofs.YtmkkllfpdoeojaaDoor
