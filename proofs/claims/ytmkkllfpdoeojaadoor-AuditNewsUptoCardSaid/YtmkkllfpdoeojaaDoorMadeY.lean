/- granarylaw19.made: a definition that Check lets by. -/
import Derived.Test.YtmkkllfpdoeojaaDoorMade
import Derived.Test.YtmkkllfpdoeojaaDoorClear
namespace Go.Proofs.YtmkkllfpdoeojaaDoor
open Go.RowKit
set_option linter.unusedVariables false

set_option maxRecDepth 100000 in
set_option maxHeartbeats 1600000 in
theorem made_yes (c : Clu) (hE : checkE c = 0) (A : Option Addr) (n cp : Nat) (w : World) (h : LawIn c A n cp w) :
    Calls Tryd.prog 21 #[.agg (c.cells (.slice A n cp))] w fun e w' => ∃ p, e = .returned (.tuple #[.pointer (some ⟨p, 0, none⟩), .bool true]) ∧ Below w.heap.size w w' := by
  have HE := Hid.mk' hE
  clear hE
  have hnl : c.nodes.length = n := h.nodes.1
  have HNL := Hid.mk' hnl
  clear hnl
  have hn6 := h.small
  go_enter Tryd.func21, Tryd.ntmps21
  go_wp2_with (first
    | ((with_reducible refine box_arm (P := Tryd.prog) (W := w) rfl 24 (.tmp 0) rfl _ (c.cells (.slice A n cp)) rfl rfl ?_); intro w1 hbk hb1 hs1; have HBk := Hid.mk' hbk; have HB1 := Hid.mk' hb1; have Hs1 := Hid.mk' hs1; clear hbk hb1 hs1)
    | (refine wpList_load_row rfl 24 _ rfl w.heap.size rfl 24 _ (0, 0) _ HBk.out Tryd.underlying24 rfl info_clu ?_)
    | (go_at_call 8; refine (twin_any c A n cp _ (by exact h.nodes.below HB1.out) h.small h.parts).mono ?_; rintro e w2 ⟨v, ys, rfl, ho, hm, hb⟩; have HO2 := Hid.mk' ho; have HY := Hid.mk' hm; have HB2 := Hid.mk' hb; have HBk2 := Hid.mk' (HBk.out.below hb HBk.out.lt); have hyl : ys.length = n := (by rw [← HNL.out, ← hm, List.length_map]); obtain ⟨Ay, cy, hsh, hcy⟩ := ho.shape; rw [hyl] at hsh; subst hsh; have HYL := Hid.mk' hyl; have hcy2 : n ≤ cy := (by rw [hyl] at hcy; exact hcy); clear ho hm hb hyl hcy)
    | ((with_reducible refine alloc_arm (P := Tryd.prog) (W := w2) rfl 24 23 rfl _ zero_clu rfl ?_); intro w3 old hbo hos hb3 hs3; have HBo := Hid.mk' hbo; have Hos := Hid.mk' hos; have HB3 := Hid.mk' hb3; have Hs3 := Hid.mk' hs3; have HO3 := Hid.mk' (HO2.out.below hb3); have HBk3 := Hid.mk' (HBk2.out.below hb3 HBk2.out.lt); clear hbo hos hb3 hs3)
    | ((refine store_arm (P := Tryd.prog) (W := w3) rfl 24 (.tmp 4) (.tmp 13) rfl w2.heap.size (c.cells (.slice Ay n cy)) old rfl rfl 24 HBo.out info_clu Hos.out (by simp [Clu.cells, Value.oneCell']) ?_); intro w4 hb4 hw4; have HG4 := Hid.mk' hb4; have HW4 := Hid.mk' hw4; have HBk4 := Hid.mk' (HBk3.out.wrote hw4 (by have := HBk2.out.lt; omega)); have HO4 := Hid.mk' (HO3.out.wroteT HBo.out hw4 (by decide) (by decide)); have hs14 : w1.heap.size ≤ w4.heap.size := (by have := HB2.out.size; have := HB3.out.size; have := hw4.size; omega); clear hb4 hw4)
    | (refine wpList_load_row rfl 24 _ rfl w2.heap.size rfl 24 _ (0, 0) _ HG4.out Tryd.underlying24 rfl info_clu ?_)
    | (go_at_call 44; refine (marked_any c w1.heap.size Ay n cy _ ys (by exact HO4.out) hs14 h.small (parts_of HY.out h.parts)).mono ?_; rintro e w5 ⟨vf, ts, rfl, hM, hts, hmk, hrow, hb, hK⟩; obtain ⟨Af, cf, hsh, hgv⟩ := given_of (A := A) (cp := cp) HNL.out HB1.out Hs1.out HY.out HB2.out hcy2 HB3.out HG4.out HW4.out HBk4.out hM hts hmk hrow hb hK; subst hsh; have HV := Hid.mk' hgv; clear hM hts hmk hrow hb hK hgv)
    | (refine wpList_load_row rfl 24 _ rfl w2.heap.size rfl 24 _ (0, 0) _ HV.out.box Tryd.underlying24 rfl info_clu ?_)
    | (go_at_call 7; refine (audNew_yes c HE.out Ay n cy _ (by exact HV.out.rd) hcy2 h.store (fun y hy => Nat.le_trans (h.parts y hy) (by decide))).mono ?_; rintro e w6 ⟨ga, m1, m2, vl, yl, rfl, han, hb⟩; have HAN := Hid.mk' han; clear han; have HB6 := Hid.mk' hb; have HBk6 := Hid.mk' (HV.out.cbox.below hb HV.out.cbox.lt); have HBw6 := Hid.mk' (show Below w.heap.size w w6 from below_then HV.out.below HV.out.below.size hb); clear hb)
    | (refine wpList_load_row rfl 24 _ rfl w.heap.size rfl 24 _ (0, 0) _ HBk6.out Tryd.underlying24 rfl info_clu ?_)
    | (go_at_call 8; refine (twin_any c A n cp _ (by exact h.nodes.below HBw6.out) h.small h.parts).mono ?_; rintro e w7 ⟨v, ys2, rfl, ho, hm, hb⟩; have HB7 := Hid.mk' hb; have hyl : ys2.length = n := (by rw [← HNL.out, ← hm, List.length_map]); obtain ⟨A7, c7, hsh, hc7⟩ := ho.shape; rw [hyl] at hsh; subst hsh; have hRd := ho.read; rw [hm] at hRd; have HR7 := Hid.mk' hRd; have hc72 : n ≤ c7 := (by rw [hyl] at hc7; exact hc7); have HBw7 := Hid.mk' (show Below w.heap.size w w7 from below_then HBw6.out HBw6.out.size hb); clear ho hm hb hyl hc7 hRd)
    | (go_at_call 45; refine (refNew_yes c HE.out A7 n c7 _ (by exact ⟨HR7.out, hc72, h.store, fun y hy => Nat.le_trans (h.parts y hy) (by decide), h.tab.below HBw7.out⟩)).mono ?_; rintro e w8 ⟨gr, vs, yt, rfl, hrn, hb⟩; have HRN := Hid.mk' hrn; clear hrn; have HB8 := Hid.mk' hb; have HBw8 := Hid.mk' (show Below w.heap.size w w8 from below_then HBw7.out HBw7.out.size hb); have HB58 := Hid.mk' (show Below w5.heap.size w5 w8 from below_then (below_then HB6.out HB6.out.size HB7.out) (Nat.le_trans HB6.out.size HB7.out.size) hb); have HBk8 := Hid.mk' (HV.out.cbox.below HB58.out HV.out.cbox.lt); have HG8 := Hid.mk' (HV.out.box.below HB58.out HV.out.box.lt); clear hb)
    | (go_at_call 10; refine (num_left _ _).mono ?_; rintro e w' ⟨rfl, rfl⟩)
    | (refine load_row_g 24 (.tmp 4) rfl rfl w2.heap.size rfl 24 _ (0, 0) _ HG8.out Tryd.underlying24 rfl info_clu ?_)
    | (refine load_row_g 24 (.tmp 1) rfl rfl w.heap.size rfl 24 _ (0, 0) _ HBk8.out Tryd.underlying24 rfl info_clu ?_)
    | (go_at_call 46; refine (sameNodes_any c c rfl Ay n cy A cp _ (by exact HV.out.rd.below HB58.out) (by exact h.nodes.below HBw8.out)).mono ?_; rintro e w9 ⟨rfl, hb⟩; have HB9 := Hid.mk' hb; have HBk9 := Hid.mk' (HBk8.out.below hb HBk8.out.lt); have HB59 := Hid.mk' (below_then HB58.out HB58.out.size hb); have HBw9 := Hid.mk' (show Below w.heap.size w w9 from below_then HBw8.out HBw8.out.size hb); clear hb)
    | (refine load_row_g 24 (.tmp 1) rfl rfl w.heap.size rfl 24 _ (0, 0) _ HBk9.out Tryd.underlying24 rfl info_clu ?_)
    | (go_at_call 47; refine (stay_yes c _ HV.out.marks Af cf A n cp _ (by exact h.nodes.below HBw9.out) (by exact HV.out.full.below HB59.out) h.parts).mono ?_; rintro e w10 ⟨rfl, hb⟩; have HB10 := Hid.mk' hb; have HBw10 := Hid.mk' (show Below w.heap.size w w10 from below_then HBw9.out HBw9.out.size hb); clear hb))
  have HB510 := Hid.mk' (show Below w5.heap.size w5 w10 from below_then HB59.out HB59.out.size HB10.out)
  have hM10 := Hid.mk' (HV.out.own.below HB510.out)
  have hG10 := Hid.mk' (HV.out.box.below HB510.out HV.out.box.lt)
  have hbd := Hid.mk' (show ∀ t ∈ ts, t.2.1.parts.length ≤ 1048576 from fun t ht => h.parts _ (by rw [← HV.out.nodes]; exact List.mem_map.2 ⟨t, ht, rfl⟩))
  have htl := Hid.mk' (show ts.length = n by rw [← HNL.out, ← HV.out.nodes, List.length_map])
  have hlow := HV.out.low
  go_loopg [10] n (fun k i wr => ∃ q tq, i = .int .i64 (q : Nat) ∧ q ≤ n ∧ k = n - q ∧ Hid (OwnM wr w1.heap.size (.slice Ay n cy) tq) ∧ Hid (∀ t ∈ tq, t.2.1.parts.length ≤ 1048576) ∧ Hid (tq.length = n) ∧ Hid (Blk wr w2.heap.size (c.cells (.slice Ay n cy)) 24) ∧ Hid (Below w.heap.size w wr))
  case atStart => exact ⟨0, ts, rfl, by omega, rfl, hM10, hbd, htl, hG10, HBw10⟩
  case round =>
    obtain ⟨q, tq, rfl, hq, hk, hM, hbq, htq, hG, hBw⟩ := hrel
    subst hk
    have c22 := hG.out.cell (Clu.cells_nodes c _)
    by_cases hlt : q < n
    · obtain ⟨⟨v0, nd, ext⟩, ht0⟩ : ∃ t, tq[q]? = some t := ⟨_, List.getElem?_eq_getElem (by rw [htq.out]; exact hlt)⟩
      obtain ⟨m, hm⟩ : ∃ m, nd.parts.length = m := ⟨_, rfl⟩
      have hm6 : m ≤ 1048576 := by rw [← hm]; exact hbq.out _ (List.mem_of_getElem? ht0)
      have HT0 := Hid.mk' ht0
      have HM := Hid.mk' hm
      obtain ⟨g, rfl, z1, z2⟩ := hM.out.at ht0
      clear ht0 hm
      obtain ⟨w11, rfl⟩ : ∃ y : World, y = wr := ⟨_, rfl⟩
      clear z1 z2
      go_wp2
      clear c22
      go_loopg [11] m (fun k i wr => ∃ j t2 nd2, i = .int .i64 (j : Nat) ∧ j ≤ m ∧ k = m - j ∧ Hid (OwnM wr w1.heap.size (.slice (some ⟨g, 0, none⟩) n cy) t2) ∧ Hid (∀ t ∈ t2, t.2.1.parts.length ≤ 1048576) ∧ Hid (t2.length = n) ∧ Hid (t2[q]? = some (v0, nd2, ext)) ∧ Hid (nd2.parts.length = m) ∧ Hid (Blk wr w2.heap.size (c.cells (.slice (some ⟨g, 0, none⟩) n cy)) 24) ∧ Hid (Below w.heap.size w wr))
      case atStart => exact ⟨0, tq, nd, rfl, by omega, rfl, hM, hbq, htq, HT0, HM, hG, hBw⟩
      case round =>
        obtain ⟨j, t2, nd2, rfl, hj, hk, hM2, hb2, ht2, hT2, hm2, hG2, hBw2⟩ := hrel
        subst hk
        have c22 := hG2.out.cell (Clu.cells_nodes c _)
        obtain ⟨g', e', z1, z2⟩ := hM2.out.at hT2.out
        cases e'
        have ho2 := hM2.out.each _ (List.mem_of_getElem? hT2.out)
        obtain ⟨A0, c0, hs0⟩ := ho2.shape
        simp only at hs0
        have HS0 := Hid.mk' hs0
        clear hs0
        rw [HS0.out] at z2
        simp only [shortV] at z2
        rw [hm2.out] at z2
        by_cases hjm : j < m
        · rw [HS0.out] at ho2
          obtain ⟨h0, rfl, _⟩ := ho2.cells (j := j) (by rw [List.length_append, hm2.out]; omega)
          have y1 := Own.cell ho2 (j := j) (by rw [List.length_append, hm2.out]; omega)
          have fy := Own.free ho2 j
          have hge := Own.ge ho2
          have HT3 := Hid.mk' (show t2[q]? = some (.slice (some ⟨h0, 0, none⟩) (nd2.parts ++ ext).length c0, nd2, ext) by rw [hT2.out, HS0.out])
          have HM3 := Hid.mk' (hM2.out.mark 63 HT3.out (show j < nd2.parts.length by rw [hm2.out]; exact hjm))
          have hneb := Hid.mk' (show w2.heap.size ≠ h0 by
            rcases blk_row_ne hG2.out ho2 (by decide) with h1 | h1
            · simp [Value.ownBlock] at h1
            · simpa [Value.ownBlock, eq_comm] using h1)
          have hW := Hid.mk' (Wrote.setCell wr h0 j (.int .i64 63))
          clear ho2
          go_wp2
          go_roundg (m - (j + 1))
          case measure => omega
          case rel =>
            refine ⟨j + 1, _, ⟨nd2.zone, nd2.parts.set j 63⟩, by go_num, by omega, rfl, HM3, ?_, ?_, ?_, ?_, ?_, ?_⟩
            · intro t ht
              rcases List.mem_or_eq_of_mem_set ht with h1 | h1
              · exact hb2.out t h1
              · subst h1
                show (nd2.parts.set j 63).length ≤ _
                rw [List.length_set, hm2.out]; exact hm6
            · show _ = _
              rw [List.length_set]; exact ht2.out
            · show _ = _
              rw [List.getElem?_set_self (by rw [ht2.out]; exact hlt), HS0.out]
            · show (nd2.parts.set j 63).length = _
              rw [List.length_set]; exact hm2.out
            · exact hG2.out.wrote hW.out hneb.out
            · exact Wrote.below hBw2.out hW.out (by omega)
        · have hje : j = m := by omega
          subst hje
          have hrw := hM2.out.row
          have f1 := row_free hrw (q * 2)
          have f2 := row_free hrw (q * 2 + 1)
          have HC := Hid.mk' (hM2.out.clear hT2.out)
          have hneg := Hid.mk' (show w2.heap.size ≠ g by
            rcases blk_row_ne hG2.out hrw (by decide) with h1 | h1
            · simp [Value.ownBlock] at h1
            · simpa [Value.ownBlock, eq_comm] using h1)
          have hgB := (World.ownsRow.lt hrw g rfl).1
          have hW1 := Hid.mk' (Wrote.setCell wr g (q * 2) (.int .i64 0))
          have hW2 := Hid.mk' (Wrote.setCell (wr.setCell ⟨g, q * 2, none⟩ (.int .i64 0)) g (q * 2 + 1) (.slice none 0 0))
          clear hrw
          go_wp2
          go_roundg (n - (q + 1))
          case measure => omega
          case rel =>
            refine ⟨q + 1, _, by go_num, by omega, rfl, HC, ?_, ?_, (hG2.out.wrote hW1.out hneg.out).wrote hW2.out hneg.out, Wrote.below (Wrote.below hBw2.out hW1.out (by omega)) hW2.out (by omega)⟩
            · intro t ht
              rcases List.mem_or_eq_of_mem_set ht with h1 | h1
              · exact hb2.out t h1
              · subst h1
                exact Nat.zero_le _
            · show _ = _
              rw [List.length_set]; exact ht2.out
    · have hqe : q = n := by omega
      subst hqe
      go_wp2
      go_ret2
      exact ⟨_, rfl, below_alloc hBw.out hBw.out.size _⟩
end Go.Proofs.YtmkkllfpdoeojaaDoor
