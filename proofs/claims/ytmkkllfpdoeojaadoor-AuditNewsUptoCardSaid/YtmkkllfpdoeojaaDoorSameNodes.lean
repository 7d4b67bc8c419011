/- granarylaw19.sameNodes: two definitions that read alike. -/
import Derived.Test.YtmkkllfpdoeojaaDoorSameInts
import Derived.Test.YtmkkllfpdoeojaaDoorClu
namespace Go.Proofs.YtmkkllfpdoeojaaDoor
open Go.RowKit
set_option linter.unusedVariables false

set_option maxRecDepth 100000 in
set_option maxHeartbeats 1600000 in
theorem sameNodes_any (c d : Clu) (he : c.nodes = d.nodes) (A : Option Addr) (n cp : Nat) (A' : Option Addr) (cp' : Nat) (w : World) (hX : RdN w A n c.nodes) (hY : RdN w A' n d.nodes) :
    Calls Tryd.prog 46 #[.agg (c.cells (.slice A n cp)), .agg (d.cells (.slice A' n cp'))] w fun e w' => e = .returned (.bool true) ∧ Below w.heap.size w w' := by
  have hn63 := hX.2.1
  have hnl := hX.1
  go_enter Tryd.func46, Tryd.ntmps46
  go_wp2_with (first
    | ((with_reducible refine box_arm (P := Tryd.prog) (W := w) rfl 24 (.tmp 0) rfl _ (c.cells (.slice A n cp)) rfl rfl ?_); intro w1 hbk hb1 hs1; have HBk := Hid.mk' hbk; have HB1 := Hid.mk' hb1; have Hs1 := Hid.mk' hs1; clear hbk hb1 hs1)
    | ((with_reducible refine box_arm (P := Tryd.prog) (W := w1) rfl 24 (.tmp 1) rfl _ (d.cells (.slice A' n cp')) rfl rfl ?_); intro w2 hbk hb2 hs2; have HBd := Hid.mk' hbk; have HB2 := Hid.mk' hb2; have Hs2 := Hid.mk' hs2; have c22 := cell_below hb2 (HBk.out.cell (Clu.cells_nodes c _)); have d22 := hbk.cell (Clu.cells_nodes d _); clear hbk hb2 hs2))
  have hB2 := Hid.mk' (show Below w.heap.size w w2 from below_then HB1.out (by have := Hs1.out; omega) HB2.out)
  have HX2 := Hid.mk' (hX.below hB2.out)
  have HY2 := Hid.mk' (hY.below hB2.out)
  have HE := Hid.mk' he
  clear he
  go_loopg [5] n (fun k i wr => ∃ q : Nat, i = .int .i64 q ∧ q ≤ n ∧ k = n - q ∧ Hid (Below w2.heap.size w2 wr))
  case atStart => exact ⟨0, rfl, by omega, rfl, Below.refl _ _⟩
  case round =>
    obtain ⟨q, rfl, hq, hk, hB⟩ := hrel
    subst hk
    have e22 := cell_below hB.out c22
    have f22 := cell_below hB.out d22
    have hBw := Hid.mk' (below_then hB2.out hB2.out.size hB.out)
    by_cases hlt : q < n
    · obtain ⟨x, hx⟩ : ∃ x, c.nodes[q]? = some x := ⟨_, List.getElem?_eq_getElem (by omega)⟩
      have hy : d.nodes[q]? = some x := by rw [← HE.out]; exact hx
      obtain ⟨b, o, Bp, m, cm, rfl, z1, z2, hmc, hRp⟩ := (HX2.out.below hB.out).at hx
      obtain ⟨b', o', Bp', m', cm', rfl, z1', z2', hmc', hRp'⟩ := (HY2.out.below hB.out).at hy
      have HRp := Hid.mk' hRp
      have HRp' := Hid.mk' hRp'
      clear hx hy hRp hRp'
      have hzz : (x.zone != x.zone) = false := by simp
      generalize x.zone = z at *
      go_wp2
      go_quiet ((go_at_call 23; exact Calls.quiet_of (sameInts_eq _ _ _ x.parts _ _ _ _ (by exact HRp.out) (by exact HRp'.out))))
      go_wp2
      go_roundg (n - (q + 1))
      case measure => omega
      case rel => exact ⟨q + 1, by go_num, by omega, rfl, below_drewN hB.out _⟩
    · have hqe : q = n := by omega
      subst hqe
      go_wp2
      go_ret
      exact ⟨rfl, hBw.out⟩
end Go.Proofs.YtmkkllfpdoeojaaDoor
