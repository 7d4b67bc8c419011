/- granarylaw19.sameReport: two reports that read alike. -/
import Derived.Test.YtmkkllfpdoeojaaDoorSameInts
import Derived.Test.YtmkkllfpdoeojaaDoorClu
namespace Go.Proofs.YtmkkllfpdoeojaaDoor
open Go.RowKit
set_option linter.unusedVariables false

def repCells (j v o : Int) (d m : Value) : Array Value := #[.int .i64 j, .int .i64 v, .int .i64 o, d, m]
set_option maxRecDepth 100000 in
set_option maxHeartbeats 1600000 in
theorem sameReport_eq (j v o : Int) (xs ys : List Int) (A1 A2 B1 B2 : Option Addr) (n1 c1 n2 c2 m1 d1 m2 d2 : Nat) (w : World) (hA1 : RdI w A1 n1 xs) (hA2 : RdI w A2 n2 ys) (hB1 : RdI w B1 m1 xs) (hB2 : RdI w B2 m2 ys) :
    Calls Tryd.prog 20 #[.agg (repCells j v o (.slice A1 n1 c1) (.slice A2 n2 c2)), .agg (repCells j v o (.slice B1 m1 d1) (.slice B2 m2 d2))] w fun e w' => e = .returned (.bool true) ∧ Below w.heap.size w w' := by
  have HA1 := Hid.mk' hA1
  have HA2 := Hid.mk' hA2
  have HB1 := Hid.mk' hB1
  have HB2 := Hid.mk' hB2
  clear hA1 hA2 hB1 hB2
  go_enter Tryd.func20, Tryd.ntmps20
  go_wp2_with (first
    | ((with_reducible refine box_arm (P := Tryd.prog) (W := w) rfl 49 (.tmp 0) rfl _ (repCells j v o (.slice A1 n1 c1) (.slice A2 n2 c2)) rfl rfl ?_); intro w1 hbk hb1 hs1; have HBk := Hid.mk' hbk; have HBx1 := Hid.mk' hb1; have Hs1 := Hid.mk' hs1; clear hbk hb1 hs1)
    | ((with_reducible refine box_arm (P := Tryd.prog) (W := w1) rfl 49 (.tmp 1) rfl _ (repCells j v o (.slice B1 m1 d1) (.slice B2 m2 d2)) rfl rfl ?_); intro w2 hbk hb2 hs2; have HBw := Hid.mk' (below_then HBx1.out (by have := Hs1.out; omega) hb2); have a0 := cell_below hb2 (HBk.out.cell (show (repCells j v o (.slice A1 n1 c1) (.slice A2 n2 c2))[0]? = some (.int .i64 j) from rfl)); have a1 := cell_below hb2 (HBk.out.cell (show (repCells j v o (.slice A1 n1 c1) (.slice A2 n2 c2))[1]? = some (.int .i64 v) from rfl)); have a2 := cell_below hb2 (HBk.out.cell (show (repCells j v o (.slice A1 n1 c1) (.slice A2 n2 c2))[2]? = some (.int .i64 o) from rfl)); have a3 := cell_below hb2 (HBk.out.cell (show (repCells j v o (.slice A1 n1 c1) (.slice A2 n2 c2))[3]? = some (.slice A1 n1 c1) from rfl)); have a4 := cell_below hb2 (HBk.out.cell (show (repCells j v o (.slice A1 n1 c1) (.slice A2 n2 c2))[4]? = some (.slice A2 n2 c2) from rfl)); have b0 := hbk.cell (show (repCells j v o (.slice B1 m1 d1) (.slice B2 m2 d2))[0]? = some (.int .i64 j) from rfl); have b1 := hbk.cell (show (repCells j v o (.slice B1 m1 d1) (.slice B2 m2 d2))[1]? = some (.int .i64 v) from rfl); have b2 := hbk.cell (show (repCells j v o (.slice B1 m1 d1) (.slice B2 m2 d2))[2]? = some (.int .i64 o) from rfl); have b3 := hbk.cell (show (repCells j v o (.slice B1 m1 d1) (.slice B2 m2 d2))[3]? = some (.slice B1 m1 d1) from rfl); have b4 := hbk.cell (show (repCells j v o (.slice B1 m1 d1) (.slice B2 m2 d2))[4]? = some (.slice B2 m2 d2) from rfl); clear hbk hb2 hs2)
    | (go_at_call_of 23 (A1); refine (sameInts_eq _ _ _ xs _ _ _ _ (by exact HA1.out.below HBw.out) (by exact HB1.out.below HBw.out)).mono ?_; rintro e w3 ⟨rfl, hw3⟩; have HBw3 := Hid.mk' (show Below w.heap.size w w3 by obtain ⟨m, rfl⟩ := hw3; exact below_drewN HBw.out _); have a4' : w3.cell? ⟨w.heap.size, 4, none⟩ = _ := (by obtain ⟨m, rfl⟩ := hw3; exact a4); have b4' : w3.cell? ⟨w1.heap.size, 4, none⟩ = _ := (by obtain ⟨m, rfl⟩ := hw3; exact b4); clear hw3)
    | (go_at_call_of 23 (A2); refine (sameInts_eq _ _ _ ys _ _ _ _ (by exact HA2.out.below HBw3.out) (by exact HB2.out.below HBw3.out)).mono ?_; rintro e w4 ⟨rfl, hw4⟩; have HBw4 := Hid.mk' (show Below w.heap.size w w4 by obtain ⟨m, rfl⟩ := hw4; exact below_drewN HBw3.out _); clear hw4))
  go_ret
  exact ⟨rfl, HBw4.out⟩
end Go.Proofs.YtmkkllfpdoeojaaDoor
