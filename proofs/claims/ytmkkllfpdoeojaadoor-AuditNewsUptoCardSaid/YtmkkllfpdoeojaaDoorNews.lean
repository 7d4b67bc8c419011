/- granarylaw19.AuditNews, for every definition whose lists are small. -/
import Derived.Test.YtmkkllfpdoeojaaDoorMadeY
import Derived.Test.YtmkkllfpdoeojaaDoorNil2
namespace Go.Proofs.YtmkkllfpdoeojaaDoor
open Go.RowKit
set_option linter.unusedVariables false

theorem made_any (c : Clu) (A : Option Addr) (n cp : Nat) (w : World) (h : LawIn c A n cp w) :
    Calls Tryd.prog 21 #[.agg (c.cells (.slice A n cp))] w fun e w' => ∃ a, e = .returned (.tuple #[.pointer a, .bool true]) ∧ Below w.heap.size w w' := by
  by_cases hE : checkE c = 0
  · exact (made_yes c hE A n cp w h).mono fun e w' ⟨p, h1, h2⟩ => ⟨_, h1, h2⟩
  · exact (made_no c hE A n cp w h).mono fun e w' ⟨h1, h2⟩ => ⟨_, h1, h2⟩
theorem nil_begin' (x : Int) (w : World) : Calls Tryd.prog 11 #[.pointer none, .int .i64 x] w fun e w' => e = .returned (.tuple #[.slice none 0 0, .int .i64 2]) ∧ w = w' := (nil_begin x w).mono fun _ _ ⟨h1, h2⟩ => ⟨h1, h2.symm⟩
theorem nil_tick' (w : World) : Calls Tryd.prog 22 #[.pointer none] w fun e w' => e = .returned (.tuple #[.slice none 0 0, .int .i64 2]) ∧ w = w' := (nil_tick w).mono fun _ _ ⟨h1, h2⟩ => ⟨h1, h2.symm⟩
theorem nil_busy' (w : World) : Calls Tryd.prog 13 #[.pointer none] w fun e w' => e = .returned (.bool false) ∧ w = w' := (nil_busy w).mono fun _ _ ⟨h1, h2⟩ => ⟨h1, h2.symm⟩

set_option maxRecDepth 100000 in
set_option maxHeartbeats 1600000 in
theorem news_any (c : Clu) (A : Option Addr) (n cp : Nat) (w : World) (h : LawIn c A n cp w) :
    Calls Tryd.prog 4 #[.agg (c.cells (.slice A n cp))] w fun e w' => e = .returned (.bool true) ∧ Below w.heap.size w w' := by
  have hr0 : ∀ W : World, RdI W none 0 [] := fun W => ⟨rfl, by omega, fun h => by omega⟩
  have HR0 := Hid.mk' hr0
  clear hr0
  go_enter Tryd.func4, Tryd.ntmps4
  go_wp2_with (first
    | ((with_reducible refine box_arm (P := Tryd.prog) (W := w) rfl 24 (.tmp 0) rfl _ (c.cells (.slice A n cp)) rfl rfl ?_); intro w1 hbk hb1 hs1; have HBk := Hid.mk' hbk; have HB1 := Hid.mk' hb1; clear hbk hb1 hs1)
    | (refine wpList_load_row rfl 24 _ rfl w.heap.size rfl 24 _ (0, 0) _ HBk.out Tryd.underlying24 rfl info_clu ?_)
    | (go_at_call 21; refine (made_any c A n cp _ (by exact h.below HB1.out)).mono ?_; rintro e w2 ⟨a, rfl, hb⟩; have HBw2 := Hid.mk' (show Below w.heap.size w w2 from below_then HB1.out HB1.out.size hb); clear hb)
    | (go_at_call 11; refine (nil_begin' _ _).mono ?_; rintro e w' ⟨rfl, rfl⟩)
    | (go_at_call 17; refine (nil_take _ _).mono ?_; rintro e w3 ⟨rfl, hb⟩; have HBw3 := Hid.mk' (show Below w.heap.size w w3 from below_then HBw2.out HBw2.out.size hb); clear hb)
    | (go_at_call 22; refine (nil_tick' _).mono ?_; rintro e w' ⟨rfl, rfl⟩)
    | (go_at_call 18; refine (nil_report _).mono ?_; rintro e w4 ⟨rfl, hb⟩; have HBw4 := Hid.mk' (show Below w.heap.size w w4 from below_then HBw3.out HBw3.out.size hb); clear hb)
    | ((with_reducible refine alloc_arm (P := Tryd.prog) (W := w4) rfl 49 5 rfl _ zero_rep rfl ?_); intro w5 old hbo hos hb5 hs5; have HBo := Hid.mk' hbo; have Hos := Hid.mk' hos; have HB5 := Hid.mk' hb5; clear hbo hos hb5 hs5)
    | ((refine store_arm (P := Tryd.prog) (W := w5) rfl 49 (.tmp 12) (.tmp 38) rfl w4.heap.size (repCells 0 0 0 (.slice none 0 0) (.slice none 0 0)) old rfl rfl 49 HBo.out info_rep Hos.out (by simp [repCells, Value.oneCell']) ?_); intro w6 hb6 hw6; have HG6 := Hid.mk' hb6; have HBw6 := Hid.mk' (show Below w.heap.size w w6 from Wrote.below (below_then HBw4.out HBw4.out.size HB5.out) hw6 HBw4.out.size); clear hb6 hw6)
    | (go_at_call 10; refine (num_left _ _).mono ?_; rintro e w' ⟨rfl, rfl⟩)
    | (go_at_call 13; refine (nil_busy' _).mono ?_; rintro e w' ⟨rfl, rfl⟩)
    | (refine load_row_g 49 (.tmp 12) rfl rfl w4.heap.size rfl 49 _ (0, 0) _ HG6.out Tryd.underlying49 rfl info_rep ?_)
    | (go_at_call 20; refine (sameReport_eq 0 0 0 [] [] none none none none 0 0 0 0 0 0 0 0 _ (HR0.out _) (HR0.out _) (HR0.out _) (HR0.out _)).mono ?_; rintro e w7 ⟨rfl, hb⟩; have HBw7 := Hid.mk' (show Below w.heap.size w w7 from below_then HBw6.out HBw6.out.size hb); clear hb))
  go_ret
  exact ⟨rfl, HBw7.out⟩
end Go.Proofs.YtmkkllfpdoeojaaDoor
