/- Definitions (api.Cluster) as they are read; a parameter's box; no condition. -/
import Derived.Test.YtmkkllfpdoeojaaDoorRound
import Derived.Test.YtmkkllfpdoeojaaDoorSettings
import Derived.Deep.OwnRows
import Derived.Laws.Rows
import Derived.Laws.Tables
import Derived.Deep.Onto
namespace Go.Proofs.YtmkkllfpdoeojaaDoor
open Go.RowKit

structure Nd where
  zone : Int
  parts : List Int
structure Clu where
  store : ByteArray
  s1 : Int
  s2 : Int
  s3 : Int
  s4 : Int
  s5 : Int
  s6 : Int
  s7 : Int
  s8 : Int
  s9 : Int
  s10 : Int
  s11 : Int
  s12 : Int
  s13 : Int
  s14 : Int
  s15 : Int
  s16 : Int
  s17 : Int
  s18 : Int
  s19 : Int
  s20 : Int
  s21 : Int
  nodes : List Nd
def Clu.cells (c : Clu) (v : Value) : Array Value := #[.string c.store, .int .i64 c.s1, .int .i64 c.s2, .int .i64 c.s3, .int .i64 c.s4, .int .i64 c.s5, .int .i64 c.s6, .int .i64 c.s7, .int .i64 c.s8, .int .i64 c.s9, .int .i64 c.s10, .int .i64 c.s11, .int .i64 c.s12, .int .i64 c.s13, .int .i64 c.s14, .int .i64 c.s15, .int .i64 c.s16, .int .i64 c.s17, .int .i64 c.s18, .int .i64 c.s19, .int .i64 c.s20, .int .i64 c.s21, v]
def Clu.val (c : Clu) (v : Value) : Value := .agg (c.cells v)
def Clu.sets (c : Clu) : List Int := [c.s1, c.s2, c.s3, c.s4, c.s5, c.s6, c.s7, c.s8, c.s9, c.s10, c.s11, c.s12, c.s13, c.s14, c.s15, c.s16, c.s17, c.s18, c.s19, c.s20, c.s21]
def Clu.set (c : Clu) (k : Nat) : Int := c.sets.getD k 0
theorem Clu.cells_set (c : Clu) (v : Value) (k : Nat) (hk : k < 21) : (c.cells v)[k + 1]? = some (.int .i64 (c.set k)) := by
  match k, hk with
  | 0, _ | 1, _ | 2, _ | 3, _ | 4, _ | 5, _ | 6, _ | 7, _ | 8, _ | 9, _ | 10, _ | 11, _ | 12, _ | 13, _ | 14, _ | 15, _ | 16, _ | 17, _ | 18, _ | 19, _ | 20, _ => rfl
  | k + 21, h => omega
theorem Clu.cells_nodes (c : Clu) (v : Value) : (c.cells v)[22]? = some v := rfl
theorem Clu.cells_store (c : Clu) (v : Value) : (c.cells v)[0]? = some (.string c.store) := rfl

def KN (w : World) (x : Nd) (b o : Nat) : Prop := w.cell? ⟨b, o, none⟩ = some (.int .i64 x.zone) ∧ ∃ A m c, w.cell? ⟨b, o + 1, none⟩ = some (.slice A m c) ∧ m ≤ c ∧ RdI w A m x.parts
abbrev RdN (w : World) (A : Option Addr) (n : Nat) (ns : List Nd) : Prop := Rd KN 2 w A n ns
theorem cell_below {w w1 : World} (h : Below w.heap.size w w1) {a : Addr} {v : Value} (hc : w.cell? a = some v) : w1.cell? a = some v := (h.cell (World.block_lt_of_cell? w a hc)).trans hc
theorem KN.below {w w' : World} {x : Nd} {b o : Nat} (h : KN w x b o) (hb : Below w.heap.size w w') : KN w' x b o := by
  obtain ⟨h1, A, m, c, h2, h3, h4⟩ := h
  exact ⟨cell_below hb h1, A, m, c, cell_below hb h2, h3, h4.below hb⟩
theorem RdN.below {w w' : World} {A : Option Addr} {n : Nat} {ns : List Nd} (h : RdN w A n ns) (hb : Below w.heap.size w w') : RdN w' A n ns := h.imp fun _ _ _ hk => hk.below hb
/-- Node j of what is read. -/
theorem RdN.at {w : World} {A : Option Addr} {n : Nat} {ns : List Nd} (h : RdN w A n ns) {j : Nat} {x : Nd} (hj : ns[j]? = some x) :
    ∃ b o B m c, A = some ⟨b, o, none⟩ ∧ w.cell? ⟨b, o + j * 2, none⟩ = some (.int .i64 x.zone) ∧ w.cell? ⟨b, o + j * 2 + 1, none⟩ = some (.slice B m c) ∧ m ≤ c ∧ RdI w B m x.parts := by
  have hl : j < ns.length := (List.getElem?_eq_some_iff.1 hj).1
  obtain ⟨b, o, e, hc⟩ := h.2.2 (by have := h.1; omega)
  obtain ⟨h1, B, m, c, h2, h3, h4⟩ := hc j x hj
  exact ⟨b, o, B, m, c, e, h1, h2, h3, h4⟩

/-- A block of cells that is not frozen. -/
def Blk (w : World) (b : Nat) (cs : Array Value) (t : Nat) : Prop := w.heap[b]? = some (.cells cs t (0, 0))
theorem Blk.cell {w : World} {b t : Nat} {cs : Array Value} (h : Blk w b cs t) {j : Nat} {v : Value} (hj : cs[j]? = some v) : w.cell? ⟨b, j, none⟩ = some v := by
  unfold World.cell?; rw [h]; simpa using hj
theorem Blk.free {w : World} {b t : Nat} {cs : Array Value} (h : Blk w b cs t) (j : Nat) : w.frozen? ⟨b, j, none⟩ = false := by
  unfold World.frozen?; rw [h]; simp
theorem Blk.lt {w : World} {b t : Nat} {cs : Array Value} (h : Blk w b cs t) : b < w.heap.size := (Array.getElem?_eq_some_iff.1 h).1
theorem Blk.below {w w' : World} {b t B : Nat} {cs : Array Value} (h : Blk w b cs t) (hb : Below B w w') (hB : b < B) : Blk w' b cs t := (hb.block b hB).trans h
theorem Blk.alloc (w : World) (cs : Array Value) (t : Nat) : Blk (w.alloc (.cells cs t)) w.heap.size cs t := by
  show (w.heap.push _)[w.heap.size]? = _; simp
theorem below_alloc {w W : World} {B : Nat} (h : Below B w W) (hB : B ≤ W.heap.size) (o : Obj) : Below B w (W.alloc o) := h.alloc hB o
theorem cell_alloc_old {w : World} {a : Addr} {v : Value} (h : w.cell? a = some v) (o : Obj) : (w.alloc o).cell? a = some v := cell_below (below_alloc (Below.refl _ _) (Nat.le_refl _) o) h
theorem alloc_size (w : World) (o : Obj) : (w.alloc o).heap.size = w.heap.size + 1 := by show (w.heap.push o).size = _; simp

section
variable {P : Program} {ops : Array Oper} {rest : List Oper} {o : Oper} {a : Act} {Q : Exit → Act → World → Prop}
/-- A parameter is boxed: the walk goes on in a world with a name. -/
theorem box_arm {W : World} (hgd : o.guard = none) (t : TypeId) (x : Operand) (ho : o.op = .box t x) (v : Value) (cs : Array Value) (hx : a.eval x = v) (hcs : v.cells = cs)
    (h : ∀ w1, Blk w1 W.heap.size cs t → Below W.heap.size W w1 → w1.heap.size = W.heap.size + 1 → wpList P ops Q rest (a.put o.dst (.pointer (some ⟨W.heap.size, 0, none⟩))) w1) :
    wpList P ops Q (o :: rest) a W := by
  refine wpList_plain hgd fun K hK => ?_
  subst hcs
  subst hx
  have hr : (execOp a.eval o).run P W = .ok (.value (.pointer (some ⟨W.heap.size, 0, none⟩))) (W.alloc (.cells (a.eval x).cells t)) := by
    unfold execOp
    rw [ho]
    rfl
  unfold Oper.wp
  rw [hr]
  exact hK _ _ (h _ (Blk.alloc _ _ _) (below_alloc (Below.refl _ _) (Nat.le_refl _) _) (alloc_size _ _))
end

section
variable {P : Program} {ops : Array Oper} {rest : List Oper} {o : Oper} {a : Act} {Q : Exit → Act → World → Prop}
/-- A variable is made: zero cells. -/
theorem alloc_arm {W : World} (hgd : o.guard = none) (t : TypeId) (n : Nat) (ho : o.op = .alloc t) (z : Value) (hz : (P.info? t).map (·.zero) = some (some z)) (hn : z.cells.size = n)
    (h : ∀ w1 cs, Blk w1 W.heap.size cs t → cs.size = n → Below W.heap.size W w1 → w1.heap.size = W.heap.size + 1 → wpList P ops Q rest (a.put o.dst (.pointer (some ⟨W.heap.size, 0, none⟩))) w1) :
    wpList P ops Q (o :: rest) a W := by
  refine wpList_plain hgd fun K hK => ?_
  obtain ⟨i, hi, hzi⟩ := Option.map_eq_some_iff.1 hz
  have hr : (execOp a.eval o).run P W = .ok (.value (.pointer (some ⟨W.heap.size, 0, none⟩))) (W.alloc (.cells z.cells t)) := by
    unfold execOp
    rw [ho]
    simp [Instr.alloc, zeroValue, typeInfo, hi, hzi, newVar, newRow]
  unfold Oper.wp
  rw [hr]
  exact hK _ _ (h _ _ (Blk.alloc _ _ _) hn (below_alloc (Below.refl _ _) (Nat.le_refl _) _) (alloc_size _ _))
/-- What a store into block g leaves alone. -/
structure Wrote (w w1 : World) (g : Nat) : Prop where
  os : w1.os = w.os
  tape : w1.tape = w.tape
  output : w1.output = w.output
  size : w1.heap.size = w.heap.size
  block : ∀ k, k ≠ g → w1.heap[k]? = w.heap[k]?
theorem Wrote.below {B g : Nat} {w W w1 : World} (h : Below B w W) (hw : Wrote W w1 g) (hg : B ≤ g) : Below B w w1 :=
  h.trans ⟨hw.os, hw.tape, hw.output, by rw [hw.size]; exact Nat.le_refl _, fun k hk => hw.block k (by omega)⟩
/-- A whole block is written. -/
theorem store_arm {W : World} (hgd : o.guard = none) (ty : TypeId) (x y : Operand) (ho : o.op = .store ty x y) (g : Nat) (cs old : Array Value) (hx : a.eval x = .pointer (some ⟨g, 0, none⟩)) (hy : a.eval y = .agg cs)
    (t : TypeId) (hg : Blk W g old t) (hi : (P.info? ty).map (·.size) = some cs.size) (hold : old.size = cs.size) (h1 : cs.all (·.oneCell') = true)
    (h : ∀ w1, Blk w1 g cs t → Wrote W w1 g → wpList P ops Q rest (a.put o.dst undef) w1) : wpList P ops Q (o :: rest) a W := by
  refine wpList_store_row hgd ty x y ho g cs hx hy t old hg hi hold h1 (h _ ?_ ⟨rfl, rfl, rfl, ?_, fun k hk => ?_⟩)
  · unfold Blk at *
    simp only [World.setRow, Array.getElem?_modify, if_true, hg]
    rfl
  · simp [World.setRow]
  · simp only [World.setRow, Array.getElem?_modify]
    rw [if_neg (fun e => hk e.symm)]
end

/-! A row of ints that was made, and is written. -/
theorem make_int (m : Nat) (hn : m * 8 ≤ 281474976710656) :
    ∀ W : World, (Instr.makeSlice 26 (.int .i64 (m : Int)) (.int .i64 (m : Int))).run Tryd.prog W = .ok (.slice (some ⟨W.heap.size, 0, none⟩) m m) (W.alloc (.cells (madeCells #[.int .i64 0] m) 3)) := by
  intro W
  exact run_make_row' 26 3 (.int .i64 0) 8 Tryd.underlying26 info_int rfl .i64 .i64 m (by rw [Nat.mul_comm]; exact hn) (by omega) W
theorem own_made (W : World) (B m : Nat) (hb : B ≤ W.heap.size) (hm : m ≤ 9223372036854775807) :
    Own (W.alloc (.cells (madeCells #[.int .i64 0] m) 3)) B (.slice (some ⟨W.heap.size, 0, none⟩) m m) (List.replicate m 0) := by
  have h := World.ownsRow_lit (base := B) (e := 3) (size := 1) W (madeCells #[.int .i64 0] m) m hb (by simpa [maxLen] using hm) (by simp [size_madeCells])
  have hl : (madeCells #[Value.int .i64 0] m).toList = (List.replicate m (0 : Int)).map (Value.int .i64) := by
    apply List.ext_getElem
    · simp [madeCells]
    · intro i h1 h2
      simp [madeCells, Nat.mod_one]
  unfold Own
  rw [hl] at h
  simpa using h
theorem Own.set {w : World} {B g n cap : Nat} {xs : List Int} (h : Own w B (.slice (some ⟨g, 0, none⟩) n cap) xs) (j : Nat) (x : Int) :
    Own (w.setCell ⟨g, j, none⟩ (.int .i64 x)) B (.slice (some ⟨g, 0, none⟩) n cap) (xs.set j x) := by
  obtain ⟨A', c', e⟩ := h.shape
  injection e with e1 e2 e3
  subst e2
  have hs := (World.ownsRow.stored h j (.int .i64 x)).1
  unfold Own
  rw [List.length_set, List.map_set]
  exact hs
theorem Own.free {w : World} {B g n cap : Nat} {xs : List Int} (h : Own w B (.slice (some ⟨g, 0, none⟩) n cap) xs) (j : Nat) : w.frozen? ⟨g, j, none⟩ = false := by
  obtain ⟨A', c', e⟩ := h.shape
  injection e with e1 e2 e3
  subst e2
  exact World.ownsRow.frozenAt h j
theorem Own.ge {w : World} {B g n cap : Nat} {xs : List Int} (h : Own w B (.slice (some ⟨g, 0, none⟩) n cap) xs) : B ≤ g ∧ g < w.heap.size := World.ownsRow.lt h g rfl
theorem Own.cell {w : World} {B g n cap : Nat} {xs : List Int} (h : Own w B (.slice (some ⟨g, 0, none⟩) n cap) xs) {j : Nat} (hj : j < xs.length) : w.cell? ⟨g, j, none⟩ = some (.int .i64 (xs.getD j 0)) := by
  obtain ⟨g', e, hc⟩ := h.cells hj
  cases e
  exact hc
theorem below_setCell {B : Nat} {w W : World} (h : Below B w W) {b j : Nat} (hb : B ≤ b) (u : Value) : Below B w (W.setCell ⟨b, j, none⟩ u) := h.setCell hb u
end Go.Proofs.YtmkkllfpdoeojaaDoor
