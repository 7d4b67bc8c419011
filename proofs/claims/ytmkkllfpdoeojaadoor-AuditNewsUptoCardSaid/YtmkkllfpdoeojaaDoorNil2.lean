/- What an auditor that is not there answers: Take, Report. -/
import Derived.Test.YtmkkllfpdoeojaaDoorNil
import Derived.Test.YtmkkllfpdoeojaaDoorSameReport
namespace Go.Proofs.YtmkkllfpdoeojaaDoor
open Go.RowKit
set_option linter.unusedVariables false
theorem nil_take (cs : Array Value) (w : World) : Calls Tryd.prog 17 #[.pointer none, .agg cs] w fun e w' => e = .returned (.tuple #[.slice none 0 0, .int .i64 2]) ∧ Below w.heap.size w w' := by
  go_enter Tryd.func17, Tryd.ntmps17
  go_wp2_with ((with_reducible refine box_arm (P := Tryd.prog) (W := w) rfl 41 (.tmp 1) rfl _ cs rfl rfl ?_); intro w1 hbk hb1 hs1; have HB1 := Hid.mk' hb1; clear hbk hb1 hs1)
  go_ret2
  exact ⟨rfl, HB1.out⟩
theorem results_cell_tmp {P : Program} {fn : Func} {p q : Tmp} {ty : TypeId} (h : fn.results = #[.cell p ty, .tmp q]) (tmps : Array Value) (w : World) (g : Nat) (t : TypeId) (cs : Array Value) (fr : Nat × Nat) (d : TypeDesc) (u : Value)
    (hp : tmps.getD p undef = .pointer (some ⟨g, 0, none⟩)) (hq : tmps.getD q undef = u) (hg : w.heap[g]? = some (.cells cs t fr))
    (hu : P.underlying ty = some d) (hd : (match d with | .struct _ | .array _ _ => true | _ => false) = true) (hi : (P.info? ty).map (·.size) = some cs.size) :
    (results fn tmps).run P w = .ok (.tuple #[.agg cs, u]) w := by
  have hp' : tmps[p]?.getD undef = .pointer (some ⟨g, 0, none⟩) := by simpa using hp
  have hq' : tmps[q]?.getD undef = u := by simpa using hq
  simp [results, h, hp', hq', asAddr, run_loadVar_row w g t ty cs fr d hg hu hd hi]
theorem info_rep : (Tryd.prog.info? 49).map (·.size) = some 5 := by kernel_rfl
theorem zero_rep : (Tryd.prog.info? 49).map (·.zero) = some (some (.agg (repCells 0 0 0 (.slice none 0 0) (.slice none 0 0)))) := by kernel_rfl
set_option maxRecDepth 100000 in
theorem nil_report (w : World) : Calls Tryd.prog 18 #[.pointer none] w fun e w' => e = .returned (.tuple #[.agg (repCells 0 0 0 (.slice none 0 0) (.slice none 0 0)), .int .i64 2]) ∧ Below w.heap.size w w' := by
  go_enter Tryd.func18, Tryd.ntmps18
  go_wp2_with (first
    | ((with_reducible refine alloc_arm (P := Tryd.prog) rfl 49 5 rfl _ zero_rep rfl ?_); intro w2 old hbo hos hb2 hs2; have HBo := Hid.mk' hbo; have Hos := Hid.mk' hos; have HB2 := Hid.mk' hb2; have Hs2 := Hid.mk' hs2; clear hbo hos hb2 hs2)
    | ((refine store_arm (P := Tryd.prog) rfl 49 (.tmp 2) (.tmp 8) rfl w.heap.size (repCells 0 0 0 (.slice none 0 0) (.slice none 0 0)) old rfl rfl 49 HBo.out info_rep Hos.out (by simp [repCells, Value.oneCell']) ?_); intro w9 hb9 hw9; have HB9 := Hid.mk' hb9; have HW9 := Hid.mk' hw9; clear hb9 hw9))
  refine bodyPost_ret (results_cell_tmp rfl _ _ w.heap.size 49 (repCells 0 0 0 (.slice none 0 0) (.slice none 0 0)) (0, 0) _ _ rfl rfl HB9.out Tryd.underlying49 rfl info_rep) rfl ⟨rfl, ?_⟩
  exact Wrote.below HB2.out HW9.out (Nat.le_refl _)
end Go.Proofs.YtmkkllfpdoeojaaDoor
