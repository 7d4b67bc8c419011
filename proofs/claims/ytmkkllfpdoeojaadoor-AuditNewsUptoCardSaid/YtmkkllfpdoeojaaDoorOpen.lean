/- An argument that is a definition (api.Cluster), opened: its cells, its nodes, what its bulk bounds; no condition. -/
import Derived.Test.YtmkkllfpdoeojaaDoorRows
import Derived.Test.YtmkkllfpdoeojaaDoorClu
import Derived.Deep.Slices
import Derived.ChangeSame
import Derived.ChangeSlices
import Derived.WideShapes
namespace Go.Proofs.YtmkkllfpdoeojaaDoor
open Go.RowKit Go.ChangeShapes Go.WideShapes Go.Deep
set_option linter.unusedVariables false

theorem bulk_pos {H : Type} (d : DataW H) : 1 ≤ Rows.uptoBulk d := by
  cases d with
  | lit l => cases l <;> simp [Rows.uptoBulk]
  | _ => simp [Rows.uptoBulk]
theorem bulk_mem {H : Type} {d : DataW H} : ∀ {l : List (DataW H)}, d ∈ l → Rows.uptoBulk d ≤ Rows.uptoBulkAll l
  | x :: r, h => by
    simp only [Rows.uptoBulkAll]
    rcases List.mem_cons.1 h with e | e
    · subst e; omega
    · have := bulk_mem e; omega
theorem bulk_len {H : Type} : ∀ l : List (DataW H), l.length ≤ Rows.uptoBulkAll l
  | [] => by simp [Rows.uptoBulkAll]
  | x :: r => by have := bulk_pos x; have := bulk_len r; simp only [Rows.uptoBulkAll, List.length_cons]; omega
theorem small_bound {H : Type} {l : List (DataW H)} (hk : Rows.uptoSmall H l = true) : Rows.uptoBulkAll l ≤ 1048576 := of_decide_eq_true hk

theorem spot_none {w : World} {a : Addr} {v : Value} (h : w.cell? a = some v) : a = ⟨a.block, a.off, none⟩ := by
  obtain ⟨b, o, s⟩ := a
  cases s with
  | none => rfl
  | some s =>
    unfold World.cell? at h
    simp at h
    split at h <;> simp at h
theorem add_none (b o j : Nat) : (⟨b, o, none⟩ : Addr).add j = ⟨b, o + j, none⟩ := by unfold Addr.add; split <;> simp_all

theorem oneCell_int : Tryd.prog.cellsOf 3 = 1 := by kernel_rfl
theorem oneCell_ints : Tryd.prog.cellsOf 26 = 1 := by kernel_rfl
theorem cells_node : Tryd.prog.cellsOf 90 = 2 := by kernel_rfl
theorem cells_clu : Tryd.prog.cellsOf 24 = 23 := by kernel_rfl
theorem oneCell_nodes : Tryd.prog.cellsOf 22 = 1 := by kernel_rfl
theorem oneCell_str : Tryd.prog.cellsOf 9 = 1 := by kernel_rfl

section
variable {H : Type} {enc : TypeId × Value → H} {W : World} {base : Nat} {spare : Nat → Bool} {held : Bool}
theorem open_ints_rd {fuel : Nat} {cs : List Value} {x : DataW H × List MemPlace} (h : DataW.trod enc Tryd.prog W base spare held fuel 26 cs = some x) :
    ∃ A m c xs, cs = [.slice A m c] ∧ m ≤ c ∧ RdI W A m xs ∧ m ≤ Rows.uptoBulk x.1 ∧ ∀ n ∈ xs, (Lit.int .i64 n).wf = true := by
  rcases open_ints Tryd.underlying26 Tryd.underlying3 oneCell_int h with ⟨rfl, rfl⟩ | ⟨a, len, cap, zs, rfl, hb, hl, hm, hz, rfl, hc, hw⟩
  · exact ⟨none, 0, 0, [], rfl, Nat.le_refl _, ⟨rfl, by omega, fun h => by omega⟩, Nat.zero_le _, by simp⟩
  · have hle : len ≤ zs.length := by rw [hz]; split <;> omega
    refine ⟨some a, len, cap, zs.take len, rfl, hl, ⟨by rw [List.length_take]; omega, by simp only [maxLen] at hm; omega, fun hn => ?_⟩, ?_, fun n hn => hw n (List.mem_of_mem_take hn)⟩
    · have h0 := hc 0 (by omega)
      have hs : a = ⟨a.block, a.off, none⟩ := spot_none (a := a) h0
      refine ⟨a.block, a.off, by rw [← hs], fun j y hj => ?_⟩
      have hjl : j < len := by have := (List.getElem?_eq_some_iff.1 hj).1; rw [List.length_take] at this; omega
      have h1 := hc j (by omega)
      rw [hs, add_none] at h1
      rw [List.getElem?_take, if_pos hjl] at hj
      rw [List.getD_eq_getElem?_getD, hj] at h1
      simpa [KI] using h1
    · show len ≤ Rows.uptoBulk (DataW.slice _ _)
      have := bulk_len (lits (H := H) .i64 (zs.take len))
      simp only [Rows.uptoBulk]
      have hll : (lits (H := H) .i64 (zs.take len)).length = len := by simp [lits, List.length_take]; omega
      omega
set_option maxRecDepth 100000 in
theorem open_node_rd {fuel : Nat} {cs : List Value} {x : DataW H × List MemPlace} (h : DataW.trod enc Tryd.prog W base spare held fuel 90 cs = some x) :
    ∃ z A m c xs, cs = [.int .i64 z, .slice A m c] ∧ m ≤ c ∧ RdI W A m xs ∧ m ≤ Rows.uptoBulk x.1 := by
  obtain ⟨y0, y1, n, rfl, hl, h0, h1⟩ := trod_struct2 Tryd.underlying90 h
  rw [cells_node] at hl
  match cs, hl with
  | [c0, c1], _ =>
    change DataW.trod enc Tryd.prog W base spare held n 3 (([c0, c1].drop 0).take (Tryd.prog.cellsOf 3)) = _ at h0
    change DataW.trod enc Tryd.prog W base spare held n 26 (([c0, c1].drop 1).take (Tryd.prog.cellsOf 26)) = _ at h1
    rw [oneCell_int] at h0
    rw [oneCell_ints] at h1
    change DataW.trod enc Tryd.prog W base spare held n 3 [c0] = _ at h0
    change DataW.trod enc Tryd.prog W base spare held n 26 [c1] = _ at h1
    obtain ⟨z, hz, _, _⟩ := DataW.trod_int Tryd.underlying3 h0
    obtain ⟨A, m, c, xs, hs, hmc, hr, hb, _⟩ := open_ints_rd h1
    injection hz with hz _
    injection hs with hs _
    subst hz
    subst hs
    refine ⟨z, A, m, c, xs, rfl, hmc, hr, ?_⟩
    simp only [Rows.uptoBulk, Rows.uptoBulkAll]
    omega
theorem choose_list {α : Type} {P : Nat → α → Prop} : ∀ n : Nat, (∀ i, i < n → ∃ x, P i x) → ∃ l : List α, l.length = n ∧ ∀ i x, l[i]? = some x → P i x
  | 0, _ => ⟨[], rfl, fun i x h => by simp at h⟩
  | n + 1, h => by
    obtain ⟨l, hl, hp⟩ := choose_list n fun i hi => h i (by omega)
    obtain ⟨x, hx⟩ := h n (by omega)
    refine ⟨l ++ [x], by simp [hl], fun i y hy => ?_⟩
    rw [List.getElem?_append] at hy
    split at hy
    · exact hp i y hy
    · rename_i hge
      have hi : i = n := by
        have := (List.getElem?_eq_some_iff.1 hy).1
        simp at this; omega
      subst hi
      rw [hl] at hy
      simp at hy
      exact hy ▸ hx
theorem open_nodes_rd {fuel : Nat} {cs : List Value} {x : DataW H × List MemPlace} (h : DataW.trod enc Tryd.prog W base spare held fuel 22 cs = some x) :
    ∃ A m c ns, cs = [.slice A m c] ∧ m ≤ c ∧ RdN W A m ns ∧ m ≤ Rows.uptoBulk x.1 ∧ ∀ y ∈ ns, y.parts.length ≤ Rows.uptoBulk x.1 := by
  rcases open_slice Tryd.underlying22 h with ⟨rfl, rfl⟩ | ⟨a, len, cap, m, n, D, Pl, rfl, hb, hl, hm, hmm, rfl, hx⟩
  · exact ⟨none, 0, 0, [], rfl, Nat.le_refl _, ⟨rfl, by omega, fun h => by omega⟩, Nat.zero_le _, by simp⟩
  · have hlm : len ≤ m := by rw [hmm]; split <;> omega
    rw [cells_node] at hx
    have each : ∀ i, i < len → ∃ y : Nd, (w0 : True) → KN W y a.block (a.off + i * 2) ∧ a = ⟨a.block, a.off, none⟩ ∧ y.parts.length ≤ Rows.uptoBulk (D i) := by
      intro i hi
      obtain ⟨cs', h1, h2⟩ := hx i (by omega)
      obtain ⟨z, A, mm, c, xs, rfl, hmc, hr, hbk⟩ := open_node_rd h2
      obtain ⟨_, _, hat⟩ := World.cells?_some h1
      have a0 := hat 0 (by decide)
      have a1 := hat 1 (by decide)
      have sp : a = ⟨a.block, a.off, none⟩ := by
        obtain ⟨cs0, g1, _⟩ := hx 0 (by omega)
        obtain ⟨_, gl, gat⟩ := World.cells?_some g1
        have g0 := gat 0 (by decide)
        match cs0, gl with
        | [u0, u1], _ => exact spot_none (w := W) (a := a) (v := u0) (by simpa [Addr.add] using g0)
      rw [sp, add_none, add_none] at a0 a1
      refine ⟨⟨z, xs⟩, fun _ => ⟨⟨by simpa using a0, A, mm, c, by simpa using a1, hmc, hr⟩, sp, ?_⟩⟩
      have h1 := hr.1
      have h2 : mm ≤ Rows.uptoBulk (D i) := hbk
      show xs.length ≤ Rows.uptoBulk (D i)
      omega
    obtain ⟨ns, hnl, hns⟩ := choose_list len each
    have hbk : ∀ i, i < len → Rows.uptoBulk (D i) ≤ Rows.uptoBulk (DataW.slice ((List.range len).map D) ((List.range (m - len)).map fun j => D (len + j))) := fun i hi => by
      have := bulk_mem (show D i ∈ (List.range len).map D from List.mem_map.2 ⟨i, by simpa using hi, rfl⟩)
      simp only [Rows.uptoBulk]; omega
    refine ⟨some a, len, cap, ns, rfl, hl, ⟨hnl, by simp only [maxLen] at hm; omega, fun hn => ⟨a.block, a.off, ?_, fun j y hj => (hns j y hj trivial).1⟩⟩, ?_, fun y hy => ?_⟩
    · obtain ⟨y, hy⟩ : ∃ y, ns[0]? = some y := ⟨_, List.getElem?_eq_getElem (by omega)⟩
      rw [← (hns 0 y hy trivial).2.1]
    · have := bulk_len ((List.range len).map D)
      simp only [Rows.uptoBulk]
      simp at this
      omega
    · obtain ⟨j, hj⟩ := List.getElem?_of_mem hy
      have hjl : j < len := by rw [← hnl]; exact (List.getElem?_eq_some_iff.1 hj).1
      exact Nat.le_trans (hns j y hj trivial).2.2 (hbk j hjl)

set_option maxRecDepth 100000 in
theorem open_clu {v : Value} {d : DataW H} {p : List MemPlace} {r : Reach} {b0 : Nat} (hv : Value.okWide Tryd.prog W r b0 24 v) (h : DataW.Trod enc Tryd.prog W base spare held 24 v d p) :
    ∃ (c : Clu) (A : Option Addr) (n cp : Nat), v = .agg (c.cells (.slice A n cp)) ∧ n ≤ cp ∧ RdN W A n c.nodes ∧ c.store.size ≤ 9223372036854775807 ∧ n ≤ Rows.uptoBulk d ∧ ∀ y ∈ c.nodes, y.parts.length ≤ Rows.uptoBulk d := by
  obtain ⟨cs, rfl, hsz⟩ := okWide_struct Tryd.underlying24 hv
  rw [cells_clu] at hsz
  obtain ⟨l⟩ := cs
  obtain ⟨fuel, hf⟩ := h
  obtain ⟨xs, n, _, hx, _, hxl, hg⟩ := DataW.trod_struct Tryd.underlying24 hf
  simp only [Prod.mk.injEq] at hx
  simp only [Value.cells] at hg
  match l, hsz with
  | [c0, c1, c2, c3, c4, c5, c6, c7, c8, c9, c10, c11, c12, c13, c14, c15, c16, c17, c18, c19, c20, c21, c22], _ =>
    have hxl2 : xs.length = 23 := hxl
    have hget : ∀ i, i < xs.length → xs[i]? = some (xs.getD i (.nil, [])) := fun i hi => by rw [List.getD_eq_getElem?_getD, List.getElem?_eq_getElem hi]; rfl
    have g0 : DataW.trod enc Tryd.prog W base spare held n 9 (([c0, c1, c2, c3, c4, c5, c6, c7, c8, c9, c10, c11, c12, c13, c14, c15, c16, c17, c18, c19, c20, c21, c22].drop 0).take (Tryd.prog.cellsOf 9)) = xs[0]? := hg 0 _ rfl
    rw [oneCell_str, hget 0 (by omega)] at g0
    change DataW.trod enc Tryd.prog W base spare held n 9 [c0] = _ at g0
    have g1 : DataW.trod enc Tryd.prog W base spare held n 3 (([c0, c1, c2, c3, c4, c5, c6, c7, c8, c9, c10, c11, c12, c13, c14, c15, c16, c17, c18, c19, c20, c21, c22].drop 1).take (Tryd.prog.cellsOf 3)) = xs[1]? := hg 1 _ rfl
    rw [oneCell_int, hget 1 (by omega)] at g1
    change DataW.trod enc Tryd.prog W base spare held n 3 [c1] = _ at g1
    have g2 : DataW.trod enc Tryd.prog W base spare held n 3 (([c0, c1, c2, c3, c4, c5, c6, c7, c8, c9, c10, c11, c12, c13, c14, c15, c16, c17, c18, c19, c20, c21, c22].drop 2).take (Tryd.prog.cellsOf 3)) = xs[2]? := hg 2 _ rfl
    rw [oneCell_int, hget 2 (by omega)] at g2
    change DataW.trod enc Tryd.prog W base spare held n 3 [c2] = _ at g2
    have g3 : DataW.trod enc Tryd.prog W base spare held n 3 (([c0, c1, c2, c3, c4, c5, c6, c7, c8, c9, c10, c11, c12, c13, c14, c15, c16, c17, c18, c19, c20, c21, c22].drop 3).take (Tryd.prog.cellsOf 3)) = xs[3]? := hg 3 _ rfl
    rw [oneCell_int, hget 3 (by omega)] at g3
    change DataW.trod enc Tryd.prog W base spare held n 3 [c3] = _ at g3
    have g4 : DataW.trod enc Tryd.prog W base spare held n 3 (([c0, c1, c2, c3, c4, c5, c6, c7, c8, c9, c10, c11, c12, c13, c14, c15, c16, c17, c18, c19, c20, c21, c22].drop 4).take (Tryd.prog.cellsOf 3)) = xs[4]? := hg 4 _ rfl
    rw [oneCell_int, hget 4 (by omega)] at g4
    change DataW.trod enc Tryd.prog W base spare held n 3 [c4] = _ at g4
    have g5 : DataW.trod enc Tryd.prog W base spare held n 3 (([c0, c1, c2, c3, c4, c5, c6, c7, c8, c9, c10, c11, c12, c13, c14, c15, c16, c17, c18, c19, c20, c21, c22].drop 5).take (Tryd.prog.cellsOf 3)) = xs[5]? := hg 5 _ rfl
    rw [oneCell_int, hget 5 (by omega)] at g5
    change DataW.trod enc Tryd.prog W base spare held n 3 [c5] = _ at g5
    have g6 : DataW.trod enc Tryd.prog W base spare held n 3 (([c0, c1, c2, c3, c4, c5, c6, c7, c8, c9, c10, c11, c12, c13, c14, c15, c16, c17, c18, c19, c20, c21, c22].drop 6).take (Tryd.prog.cellsOf 3)) = xs[6]? := hg 6 _ rfl
    rw [oneCell_int, hget 6 (by omega)] at g6
    change DataW.trod enc Tryd.prog W base spare held n 3 [c6] = _ at g6
    have g7 : DataW.trod enc Tryd.prog W base spare held n 3 (([c0, c1, c2, c3, c4, c5, c6, c7, c8, c9, c10, c11, c12, c13, c14, c15, c16, c17, c18, c19, c20, c21, c22].drop 7).take (Tryd.prog.cellsOf 3)) = xs[7]? := hg 7 _ rfl
    rw [oneCell_int, hget 7 (by omega)] at g7
    change DataW.trod enc Tryd.prog W base spare held n 3 [c7] = _ at g7
    have g8 : DataW.trod enc Tryd.prog W base spare held n 3 (([c0, c1, c2, c3, c4, c5, c6, c7, c8, c9, c10, c11, c12, c13, c14, c15, c16, c17, c18, c19, c20, c21, c22].drop 8).take (Tryd.prog.cellsOf 3)) = xs[8]? := hg 8 _ rfl
    rw [oneCell_int, hget 8 (by omega)] at g8
    change DataW.trod enc Tryd.prog W base spare held n 3 [c8] = _ at g8
    have g9 : DataW.trod enc Tryd.prog W base spare held n 3 (([c0, c1, c2, c3, c4, c5, c6, c7, c8, c9, c10, c11, c12, c13, c14, c15, c16, c17, c18, c19, c20, c21, c22].drop 9).take (Tryd.prog.cellsOf 3)) = xs[9]? := hg 9 _ rfl
    rw [oneCell_int, hget 9 (by omega)] at g9
    change DataW.trod enc Tryd.prog W base spare held n 3 [c9] = _ at g9
    have g10 : DataW.trod enc Tryd.prog W base spare held n 3 (([c0, c1, c2, c3, c4, c5, c6, c7, c8, c9, c10, c11, c12, c13, c14, c15, c16, c17, c18, c19, c20, c21, c22].drop 10).take (Tryd.prog.cellsOf 3)) = xs[10]? := hg 10 _ rfl
    rw [oneCell_int, hget 10 (by omega)] at g10
    change DataW.trod enc Tryd.prog W base spare held n 3 [c10] = _ at g10
    have g11 : DataW.trod enc Tryd.prog W base spare held n 3 (([c0, c1, c2, c3, c4, c5, c6, c7, c8, c9, c10, c11, c12, c13, c14, c15, c16, c17, c18, c19, c20, c21, c22].drop 11).take (Tryd.prog.cellsOf 3)) = xs[11]? := hg 11 _ rfl
    rw [oneCell_int, hget 11 (by omega)] at g11
    change DataW.trod enc Tryd.prog W base spare held n 3 [c11] = _ at g11
    have g12 : DataW.trod enc Tryd.prog W base spare held n 3 (([c0, c1, c2, c3, c4, c5, c6, c7, c8, c9, c10, c11, c12, c13, c14, c15, c16, c17, c18, c19, c20, c21, c22].drop 12).take (Tryd.prog.cellsOf 3)) = xs[12]? := hg 12 _ rfl
    rw [oneCell_int, hget 12 (by omega)] at g12
    change DataW.trod enc Tryd.prog W base spare held n 3 [c12] = _ at g12
    have g13 : DataW.trod enc Tryd.prog W base spare held n 3 (([c0, c1, c2, c3, c4, c5, c6, c7, c8, c9, c10, c11, c12, c13, c14, c15, c16, c17, c18, c19, c20, c21, c22].drop 13).take (Tryd.prog.cellsOf 3)) = xs[13]? := hg 13 _ rfl
    rw [oneCell_int, hget 13 (by omega)] at g13
    change DataW.trod enc Tryd.prog W base spare held n 3 [c13] = _ at g13
    have g14 : DataW.trod enc Tryd.prog W base spare held n 3 (([c0, c1, c2, c3, c4, c5, c6, c7, c8, c9, c10, c11, c12, c13, c14, c15, c16, c17, c18, c19, c20, c21, c22].drop 14).take (Tryd.prog.cellsOf 3)) = xs[14]? := hg 14 _ rfl
    rw [oneCell_int, hget 14 (by omega)] at g14
    change DataW.trod enc Tryd.prog W base spare held n 3 [c14] = _ at g14
    have g15 : DataW.trod enc Tryd.prog W base spare held n 3 (([c0, c1, c2, c3, c4, c5, c6, c7, c8, c9, c10, c11, c12, c13, c14, c15, c16, c17, c18, c19, c20, c21, c22].drop 15).take (Tryd.prog.cellsOf 3)) = xs[15]? := hg 15 _ rfl
    rw [oneCell_int, hget 15 (by omega)] at g15
    change DataW.trod enc Tryd.prog W base spare held n 3 [c15] = _ at g15
    have g16 : DataW.trod enc Tryd.prog W base spare held n 3 (([c0, c1, c2, c3, c4, c5, c6, c7, c8, c9, c10, c11, c12, c13, c14, c15, c16, c17, c18, c19, c20, c21, c22].drop 16).take (Tryd.prog.cellsOf 3)) = xs[16]? := hg 16 _ rfl
    rw [oneCell_int, hget 16 (by omega)] at g16
    change DataW.trod enc Tryd.prog W base spare held n 3 [c16] = _ at g16
    have g17 : DataW.trod enc Tryd.prog W base spare held n 3 (([c0, c1, c2, c3, c4, c5, c6, c7, c8, c9, c10, c11, c12, c13, c14, c15, c16, c17, c18, c19, c20, c21, c22].drop 17).take (Tryd.prog.cellsOf 3)) = xs[17]? := hg 17 _ rfl
    rw [oneCell_int, hget 17 (by omega)] at g17
    change DataW.trod enc Tryd.prog W base spare held n 3 [c17] = _ at g17
    have g18 : DataW.trod enc Tryd.prog W base spare held n 3 (([c0, c1, c2, c3, c4, c5, c6, c7, c8, c9, c10, c11, c12, c13, c14, c15, c16, c17, c18, c19, c20, c21, c22].drop 18).take (Tryd.prog.cellsOf 3)) = xs[18]? := hg 18 _ rfl
    rw [oneCell_int, hget 18 (by omega)] at g18
    change DataW.trod enc Tryd.prog W base spare held n 3 [c18] = _ at g18
    have g19 : DataW.trod enc Tryd.prog W base spare held n 3 (([c0, c1, c2, c3, c4, c5, c6, c7, c8, c9, c10, c11, c12, c13, c14, c15, c16, c17, c18, c19, c20, c21, c22].drop 19).take (Tryd.prog.cellsOf 3)) = xs[19]? := hg 19 _ rfl
    rw [oneCell_int, hget 19 (by omega)] at g19
    change DataW.trod enc Tryd.prog W base spare held n 3 [c19] = _ at g19
    have g20 : DataW.trod enc Tryd.prog W base spare held n 3 (([c0, c1, c2, c3, c4, c5, c6, c7, c8, c9, c10, c11, c12, c13, c14, c15, c16, c17, c18, c19, c20, c21, c22].drop 20).take (Tryd.prog.cellsOf 3)) = xs[20]? := hg 20 _ rfl
    rw [oneCell_int, hget 20 (by omega)] at g20
    change DataW.trod enc Tryd.prog W base spare held n 3 [c20] = _ at g20
    have g21 : DataW.trod enc Tryd.prog W base spare held n 3 (([c0, c1, c2, c3, c4, c5, c6, c7, c8, c9, c10, c11, c12, c13, c14, c15, c16, c17, c18, c19, c20, c21, c22].drop 21).take (Tryd.prog.cellsOf 3)) = xs[21]? := hg 21 _ rfl
    rw [oneCell_int, hget 21 (by omega)] at g21
    change DataW.trod enc Tryd.prog W base spare held n 3 [c21] = _ at g21
    have g22 : DataW.trod enc Tryd.prog W base spare held n 22 (([c0, c1, c2, c3, c4, c5, c6, c7, c8, c9, c10, c11, c12, c13, c14, c15, c16, c17, c18, c19, c20, c21, c22].drop 22).take (Tryd.prog.cellsOf 22)) = xs[22]? := hg 22 _ rfl
    rw [oneCell_nodes, hget 22 (by omega)] at g22
    change DataW.trod enc Tryd.prog W base spare held n 22 [c22] = _ at g22
    obtain ⟨s, hs, _, hss⟩ := DataW.trod_string Tryd.underlying9 g0
    obtain ⟨z1, hz1, _, _⟩ := DataW.trod_int Tryd.underlying3 g1
    obtain ⟨z2, hz2, _, _⟩ := DataW.trod_int Tryd.underlying3 g2
    obtain ⟨z3, hz3, _, _⟩ := DataW.trod_int Tryd.underlying3 g3
    obtain ⟨z4, hz4, _, _⟩ := DataW.trod_int Tryd.underlying3 g4
    obtain ⟨z5, hz5, _, _⟩ := DataW.trod_int Tryd.underlying3 g5
    obtain ⟨z6, hz6, _, _⟩ := DataW.trod_int Tryd.underlying3 g6
    obtain ⟨z7, hz7, _, _⟩ := DataW.trod_int Tryd.underlying3 g7
    obtain ⟨z8, hz8, _, _⟩ := DataW.trod_int Tryd.underlying3 g8
    obtain ⟨z9, hz9, _, _⟩ := DataW.trod_int Tryd.underlying3 g9
    obtain ⟨z10, hz10, _, _⟩ := DataW.trod_int Tryd.underlying3 g10
    obtain ⟨z11, hz11, _, _⟩ := DataW.trod_int Tryd.underlying3 g11
    obtain ⟨z12, hz12, _, _⟩ := DataW.trod_int Tryd.underlying3 g12
    obtain ⟨z13, hz13, _, _⟩ := DataW.trod_int Tryd.underlying3 g13
    obtain ⟨z14, hz14, _, _⟩ := DataW.trod_int Tryd.underlying3 g14
    obtain ⟨z15, hz15, _, _⟩ := DataW.trod_int Tryd.underlying3 g15
    obtain ⟨z16, hz16, _, _⟩ := DataW.trod_int Tryd.underlying3 g16
    obtain ⟨z17, hz17, _, _⟩ := DataW.trod_int Tryd.underlying3 g17
    obtain ⟨z18, hz18, _, _⟩ := DataW.trod_int Tryd.underlying3 g18
    obtain ⟨z19, hz19, _, _⟩ := DataW.trod_int Tryd.underlying3 g19
    obtain ⟨z20, hz20, _, _⟩ := DataW.trod_int Tryd.underlying3 g20
    obtain ⟨z21, hz21, _, _⟩ := DataW.trod_int Tryd.underlying3 g21
    obtain ⟨A, m, c, ns, hns, hmc, hr, hb1, hb2⟩ := open_nodes_rd g22
    injection hs with hs _; subst hs
    injection hz1 with hz1 _; subst hz1
    injection hz2 with hz2 _; subst hz2
    injection hz3 with hz3 _; subst hz3
    injection hz4 with hz4 _; subst hz4
    injection hz5 with hz5 _; subst hz5
    injection hz6 with hz6 _; subst hz6
    injection hz7 with hz7 _; subst hz7
    injection hz8 with hz8 _; subst hz8
    injection hz9 with hz9 _; subst hz9
    injection hz10 with hz10 _; subst hz10
    injection hz11 with hz11 _; subst hz11
    injection hz12 with hz12 _; subst hz12
    injection hz13 with hz13 _; subst hz13
    injection hz14 with hz14 _; subst hz14
    injection hz15 with hz15 _; subst hz15
    injection hz16 with hz16 _; subst hz16
    injection hz17 with hz17 _; subst hz17
    injection hz18 with hz18 _; subst hz18
    injection hz19 with hz19 _; subst hz19
    injection hz20 with hz20 _; subst hz20
    injection hz21 with hz21 _; subst hz21
    injection hns with hns _; subst hns
    have hbd : Rows.uptoBulk (xs.getD 22 (.nil, [])).1 ≤ Rows.uptoBulk d := by
      rw [hx.1]
      have hm22 : (xs.getD 22 (.nil, [])).1 ∈ xs.map (·.1) := List.mem_map.2 ⟨_, List.mem_of_getElem? (hget 22 (by omega)), rfl⟩
      have := bulk_mem hm22
      simp only [Rows.uptoBulk]; omega
    refine ⟨⟨s, z1, z2, z3, z4, z5, z6, z7, z8, z9, z10, z11, z12, z13, z14, z15, z16, z17, z18, z19, z20, z21, ns⟩, A, m, c, rfl, hmc, hr, by simpa only [maxLen] using hss, Nat.le_trans hb1 hbd, fun y hy => Nat.le_trans (hb2 y hy) hbd⟩
end
end Go.Proofs.YtmkkllfpdoeojaaDoor
