/- granarylaw19.twin, for every definition that is read. -/
import Derived.Test.YtmkkllfpdoeojaaDoorTwin
import Derived.Test.YtmkkllfpdoeojaaDoorCheck
namespace Go.Proofs.YtmkkllfpdoeojaaDoor
open Go.RowKit
set_option linter.unusedVariables false

theorem zero_clu : (Tryd.prog.info? 24).map (·.zero) = some (some (.agg #[.string ⟨#[]⟩, .int .i64 0, .int .i64 0, .int .i64 0, .int .i64 0, .int .i64 0, .int .i64 0, .int .i64 0, .int .i64 0, .int .i64 0, .int .i64 0, .int .i64 0, .int .i64 0, .int .i64 0, .int .i64 0, .int .i64 0, .int .i64 0, .int .i64 0, .int .i64 0, .int .i64 0, .int .i64 0, .int .i64 0, .slice none 0 0])) := by kernel_rfl
theorem Own.block_lt {w : World} {B : Nat} {v : Value} {xs : List Int} (h : Own w B v xs) {k : Nat} (hk : v.ownBlock = some k) : k < w.heap.size := (World.ownsRow.lt h k hk).2

set_option maxRecDepth 100000 in
set_option maxHeartbeats 1600000 in
theorem twin_any (c : Clu) (A : Option Addr) (n cp : Nat) (w : World) (hN : RdN w A n c.nodes) (hn : n ≤ 1048576) (hlen : ∀ x ∈ c.nodes, x.parts.length ≤ 1048576) :
    Calls Tryd.prog 8 #[.agg (c.cells (.slice A n cp))] w fun e w' => ∃ v ys, e = .returned (.agg (c.cells v)) ∧ OwnN w' w.heap.size v ys ∧ ys.map (·.2) = c.nodes ∧ Below w.heap.size w w' := by
  have hnl : c.nodes.length = n := hN.1
  go_enter Tryd.func8, Tryd.ntmps8
  go_wp2_with (first
    | ((with_reducible refine box_arm (P := Tryd.prog) rfl 24 (.tmp 0) rfl _ (c.cells (.slice A n cp)) rfl rfl ?_); intro w1 hbk hb1 hs1; have HBk := Hid.mk' hbk; have HB1 := Hid.mk' hb1; have Hs1 := Hid.mk' hs1; clear hbk hb1 hs1)
    | ((with_reducible refine alloc_arm (P := Tryd.prog) rfl 24 23 rfl _ zero_clu rfl ?_); intro w2 old hbo hos hb2 hs2; have HBo := Hid.mk' hbo; have Hos := Hid.mk' hos; have HB2 := Hid.mk' hb2; have Hs2 := Hid.mk' hs2; clear hbo hos hb2 hs2))
  have hs1 : w.heap.size < w1.heap.size := by have := Hs1.out; omega
  have hs2 : w1.heap.size < w2.heap.size := by have := Hs2.out; omega
  have HBk2 := Hid.mk' (HBk.out.below HB2.out HBk.out.lt)
  have HBw2 := Hid.mk' (show Below w.heap.size w w2 from below_then HB1.out (by omega) HB2.out)
  have HN2 := Hid.mk' (hN.below HBw2.out)
  go_loopg [3, 4] n (fun k v i wr => ∃ q ys, i = .int .i64 (q : Nat) ∧ q ≤ n ∧ k = n - q ∧ Hid (OwnN wr w2.heap.size v ys) ∧ Hid (ys.map (·.2) = c.nodes.take q) ∧ ys.length = q ∧ Hid (Below w2.heap.size w2 wr))
  case atStart => exact ⟨0, [], rfl, by omega, rfl, OwnN.nil _ _, by simp [Hid], rfl, Below.refl _ _⟩
  case round =>
    obtain ⟨q, ys, rfl, hq, hk, hO, hys, hyl, hB⟩ := hrel
    subst hk
    have hsz := hB.out.size
    have hBk3 := Hid.mk' (HBk2.out.below hB.out HBk2.out.lt)
    have c22 := hBk3.out.cell (Clu.cells_nodes c _)
    obtain ⟨Av, cv, rfl, hcv⟩ := hO.out.shape
    rw [hyl] at hO hcv ⊢
    by_cases hlt : q < n
    · obtain ⟨x, hx⟩ : ∃ x, c.nodes[q]? = some x := ⟨_, List.getElem?_eq_getElem (by omega)⟩
      have HX := Hid.mk' hx
      obtain ⟨b, o, Bp, m, cm, rfl, z1, z2, hmc, hRp⟩ := (HN2.out.below hB.out).at hx
      have hpl : x.parts.length = m := hRp.1
      have hm6 : m ≤ 1048576 := by rw [← hpl]; exact hlen x (List.mem_of_getElem? hx)
      have HRp := Hid.mk' hRp
      clear hx hRp
      obtain ⟨w3, rfl⟩ : ∃ y : World, y = wr := ⟨_, rfl⟩
      go_wp2
      go_loopg [5, 6] m (fun k v i wr => ∃ j : Nat, i = .int .i64 (j : Nat) ∧ j ≤ m ∧ k = m - j ∧ Hid (Own wr w3.heap.size v (x.parts.take j)) ∧ Hid (Below w3.heap.size w3 wr))
      case atStart => exact ⟨0, rfl, by omega, rfl, Own.nil _ _, Below.refl _ _⟩
      case round =>
        obtain ⟨j, rfl, hj, hk, hO5, hB5⟩ := hrel
        subst hk
        have d22 := cell_below hB5.out c22
        have d1 := cell_below hB5.out z1
        have d2 := cell_below hB5.out z2
        have hs5 := hB5.out.size
        by_cases hjm : j < m
        · obtain ⟨bp, op, rfl, hc7⟩ := (HRp.out.below hB5.out).at hjm
          have htk := Hid.mk' (show x.parts.take (j + 1) = x.parts.take j ++ [x.parts.getD j 0] by
            rw [List.take_add_one, List.getD_eq_getElem?_getD, List.getElem?_eq_getElem (by omega)]; rfl)
          have htl : (x.parts.take j).length ≤ j := List.length_take_le _ _
          generalize x.parts.getD j 0 = pj at *
          generalize x.parts.take j = acc at *
          go_wp2_with (at_builtin; refine app_int (W := wr) (w0 := w3) w3.heap.size rfl (.tmp 25) (.tmp 35) rfl _ acc pj rfl rfl hO5.out hB5.out hs5 (by omega) ?_; intro v1 w6 hO6 hB6 hg6; have HO6 := Hid.mk' hO6; have HB6 := Hid.mk' hB6; clear hO6 hB6 hg6)
          go_roundg (m - (j + 1))
          case measure => omega
          case rel => exact ⟨j + 1, by go_num, by omega, rfl, by rw [htk.out]; exact HO6, HB6⟩
        · have hje : j = m := by omega
          subst hje
          have hO6 := Hid.mk' (hO.out.below hB5.out)
          have hO7 : Hid (Own wr w3.heap.size u5 x.parts) := by
            have := hO5.out
            rwa [List.take_of_length_le (by omega)] at this
          have hB7 := Hid.mk' (below_then hB.out hsz hB5.out)
          have hs7 := hB7.out.size
          have hold := Hid.mk' (fun (z : Value × Nd) (hz : z ∈ ys) (k : Nat) (hk : z.1.ownBlock = some k) => (hO.out.each z hz).block_lt hk)
          clear hO5
          obtain ⟨A7, c7, hs8⟩ := hO7.out.shape
          rw [hpl] at hs8
          subst hs8
          go_wp2_with (at_builtin; refine app_node (W := wr) (w0 := w2) w2.heap.size w3.heap.size rfl (.tmp 37) (.tmp 46) rfl _ ys (.slice A7 j c7, x) rfl rfl hO6.out hsz hold.out hO7.out hB7.out hs7 (by omega) ?_; intro v1 w8 hO8 hB8 hg8; have HO8 := Hid.mk' hO8; have HB8 := Hid.mk' hB8; clear hO8 hB8 hg8)
          go_roundg (n - (q + 1))
          case measure => omega
          case rel =>
            refine ⟨q + 1, ys ++ [(.slice A7 j c7, x)], by go_num, by omega, rfl, HO8, ?_, by simp [hyl], HB8⟩
            show _ = _
            rw [List.map_append, hys.out, List.take_add_one, HX.out]
            rfl
    · have hqe : q = n := by omega
      subst hqe
      have f22 := hBk3.out.free 22
      have hbs := Hid.mk' (hBk3.out.set 22 (.slice Av q cv))
      have HBo3 := Hid.mk' (HBo.out.below hB.out (by omega))
      go_wp2_with (first
        | (refine wpList_load_row rfl 24 _ rfl w.heap.size rfl 24 (c.cells (.slice Av q cv)) (0, 0) _ hbs.out Tryd.underlying24 rfl info_clu ?_)
        | ((refine store_arm (P := Tryd.prog) rfl 24 (.tmp 2) (.tmp 50) rfl w1.heap.size (c.cells (.slice Av q cv)) old rfl rfl 24 (HBo3.out.wrote (Wrote.setCell _ _ _ _) (by omega)) info_clu Hos.out (by simp [Clu.cells, Value.oneCell']) ?_); intro w9 hb9 hw9; have HB9 := Hid.mk' hb9; have HW9 := Hid.mk' hw9; clear hb9 hw9))
      refine bodyPost_ret (results_cell_row rfl _ _ w1.heap.size 24 (c.cells (.slice Av q cv)) (0, 0) _ rfl HB9.out Tryd.underlying24 rfl info_clu) rfl ?_
      have hW := Hid.mk' (Wrote.setCell wr w.heap.size 22 (.slice Av q cv))
      refine ⟨_, ys, rfl, ((hO.out.wrote hW.out (by omega)).wrote HW9.out (by omega)).mono (by omega), ?_, ?_⟩
      · have := hys.out
        rwa [List.take_of_length_le (by omega)] at this
      · have hB1 := below_then HB1.out (Nat.le_of_lt hs1) HB2.out
        exact Wrote.below (Wrote.below (below_then HBw2.out (by omega) hB.out) hW.out (Nat.le_refl _)) HW9.out (by omega)
end Go.Proofs.YtmkkllfpdoeojaaDoor
