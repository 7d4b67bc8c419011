/- ring's settings: the table as the code makes it, and where each setting stands in a definition; no condition. -/
import Derived.Test.YtmkkllfpdoeojaaDoorBase
namespace Go.Proofs.YtmkkllfpdoeojaaDoor
open Go.RowKit
set_option linter.unusedVariables false
set_option maxRecDepth 100000
/-- The number of the function that tells where setting k stands. -/
def setFn (k : Nat) : Nat := [77, 78, 79, 80, 81, 82, 83, 84, 85, 86, 87, 88, 89, 90, 91, 92, 93, 94, 95, 96, 97].getD k 0
def setWord (k : Nat) : ByteArray := ([⟨#[114, 101, 112, 108, 105, 99, 97, 115]⟩, ⟨#[119, 105, 100, 116, 104]⟩, ⟨#[99, 104, 117, 110, 107, 115]⟩, ⟨#[114, 101, 116, 97, 105, 110]⟩, ⟨#[98, 108, 111, 99, 107]⟩, ⟨#[114, 97, 116, 101]⟩, ⟨#[112, 101, 114]⟩, ⟨#[98, 117, 114, 115, 116]⟩, ⟨#[116, 114, 105, 101, 115]⟩, ⟨#[98, 97, 115, 101]⟩, ⟨#[109, 111, 115, 116]⟩, ⟨#[113, 117, 111, 116, 97]⟩, ⟨#[114, 111, 111, 109]⟩, ⟨#[100, 101, 112, 111, 116]⟩, ⟨#[114, 101, 115, 101, 110, 100]⟩, ⟨#[108, 105, 109, 105, 116]⟩, ⟨#[112, 97, 116, 105, 101, 110, 99, 101]⟩, ⟨#[103, 101, 116, 119, 97, 105, 116]⟩, ⟨#[115, 116, 114, 105, 107, 101, 115]⟩, ⟨#[98, 97, 110]⟩, ⟨#[104, 111, 109, 101]⟩] : List ByteArray).getD k ⟨#[]⟩
def setLeast (k : Nat) : Int := ([1, 1, 1, 1, 1, 1, 1, 1, 1, 1, 1, 1, 1, 1, 1, 1, 1, 1, 1, 1, 0] : List Int).getD k 0
def setMost (k : Nat) : Int := ([16, 16, 16, 8, 4096, 65536, 1024, 65536, 64, 1024, 1024, 1073741824, 1073741824, 1073741824, 1024, 64, 65536, 1024, 64, 1024, 7] : List Int).getD k 0
/-- The table's cells. -/
def setCells : Array Value := ((List.range 21).flatMap fun k => [.string (setWord k), .int .i64 (setLeast k), .int .i64 (setMost k), .func (.func (setFn k)) #[] #[]]).toArray
theorem settings_any (w : World) : Calls Tryd.prog 68 #[] w fun e w' => e = .returned (.slice (some ⟨w.heap.size, 0, none⟩) 21 21) ∧ w.alloc (.cells setCells 145) = w' :=
  calls_of_line Tryd.func68 (by kernel_rfl)
/-- Setting k stands in cell k + 1. -/
theorem setFn_any (k : Nat) (hk : k < 21) (b : Nat) (w : World) : Calls Tryd.prog (setFn k) #[.pointer (some ⟨b, 0, none⟩)] w fun e w' => e = .returned (.pointer (some ⟨b, k + 1, none⟩)) ∧ w = w' := by
  match k, hk with
  | 0, _ => exact calls_of_line Tryd.func77 (by kernel_rfl)
  | 1, _ => exact calls_of_line Tryd.func78 (by kernel_rfl)
  | 2, _ => exact calls_of_line Tryd.func79 (by kernel_rfl)
  | 3, _ => exact calls_of_line Tryd.func80 (by kernel_rfl)
  | 4, _ => exact calls_of_line Tryd.func81 (by kernel_rfl)
  | 5, _ => exact calls_of_line Tryd.func82 (by kernel_rfl)
  | 6, _ => exact calls_of_line Tryd.func83 (by kernel_rfl)
  | 7, _ => exact calls_of_line Tryd.func84 (by kernel_rfl)
  | 8, _ => exact calls_of_line Tryd.func85 (by kernel_rfl)
  | 9, _ => exact calls_of_line Tryd.func86 (by kernel_rfl)
  | 10, _ => exact calls_of_line Tryd.func87 (by kernel_rfl)
  | 11, _ => exact calls_of_line Tryd.func88 (by kernel_rfl)
  | 12, _ => exact calls_of_line Tryd.func89 (by kernel_rfl)
  | 13, _ => exact calls_of_line Tryd.func90 (by kernel_rfl)
  | 14, _ => exact calls_of_line Tryd.func91 (by kernel_rfl)
  | 15, _ => exact calls_of_line Tryd.func92 (by kernel_rfl)
  | 16, _ => exact calls_of_line Tryd.func93 (by kernel_rfl)
  | 17, _ => exact calls_of_line Tryd.func94 (by kernel_rfl)
  | 18, _ => exact calls_of_line Tryd.func95 (by kernel_rfl)
  | 19, _ => exact calls_of_line Tryd.func96 (by kernel_rfl)
  | 20, _ => exact calls_of_line Tryd.func97 (by kernel_rfl)
  | k + 21, h => omega
theorem setFn_quiet (k : Nat) (hk : k < 21) (b : Nat) (w : World) : Calls Tryd.prog (setFn k) #[.pointer (some ⟨b, 0, none⟩)] w fun e w' => e = .returned (.pointer (some ⟨b, k + 1, none⟩)) ∧ w' = w :=
  (setFn_any k hk b w).mono fun e w' ⟨h1, h2⟩ => ⟨h1, h2.symm⟩
theorem callFunc_set (k : Nat) (hk : k < 21) (args : Array Value) (W : World) : (callFunc (setFn k) args).run Tryd.prog W = .ok (.enter (setFn k) args) W := by
  match k, hk with
  | 0, _ => exact (show (callFunc (setFn 0) args).run Tryd.prog W = .ok (.enter (setFn 0) args) W by kernel_rfl)
  | 1, _ => exact (show (callFunc (setFn 1) args).run Tryd.prog W = .ok (.enter (setFn 1) args) W by kernel_rfl)
  | 2, _ => exact (show (callFunc (setFn 2) args).run Tryd.prog W = .ok (.enter (setFn 2) args) W by kernel_rfl)
  | 3, _ => exact (show (callFunc (setFn 3) args).run Tryd.prog W = .ok (.enter (setFn 3) args) W by kernel_rfl)
  | 4, _ => exact (show (callFunc (setFn 4) args).run Tryd.prog W = .ok (.enter (setFn 4) args) W by kernel_rfl)
  | 5, _ => exact (show (callFunc (setFn 5) args).run Tryd.prog W = .ok (.enter (setFn 5) args) W by kernel_rfl)
  | 6, _ => exact (show (callFunc (setFn 6) args).run Tryd.prog W = .ok (.enter (setFn 6) args) W by kernel_rfl)
  | 7, _ => exact (show (callFunc (setFn 7) args).run Tryd.prog W = .ok (.enter (setFn 7) args) W by kernel_rfl)
  | 8, _ => exact (show (callFunc (setFn 8) args).run Tryd.prog W = .ok (.enter (setFn 8) args) W by kernel_rfl)
  | 9, _ => exact (show (callFunc (setFn 9) args).run Tryd.prog W = .ok (.enter (setFn 9) args) W by kernel_rfl)
  | 10, _ => exact (show (callFunc (setFn 10) args).run Tryd.prog W = .ok (.enter (setFn 10) args) W by kernel_rfl)
  | 11, _ => exact (show (callFunc (setFn 11) args).run Tryd.prog W = .ok (.enter (setFn 11) args) W by kernel_rfl)
  | 12, _ => exact (show (callFunc (setFn 12) args).run Tryd.prog W = .ok (.enter (setFn 12) args) W by kernel_rfl)
  | 13, _ => exact (show (callFunc (setFn 13) args).run Tryd.prog W = .ok (.enter (setFn 13) args) W by kernel_rfl)
  | 14, _ => exact (show (callFunc (setFn 14) args).run Tryd.prog W = .ok (.enter (setFn 14) args) W by kernel_rfl)
  | 15, _ => exact (show (callFunc (setFn 15) args).run Tryd.prog W = .ok (.enter (setFn 15) args) W by kernel_rfl)
  | 16, _ => exact (show (callFunc (setFn 16) args).run Tryd.prog W = .ok (.enter (setFn 16) args) W by kernel_rfl)
  | 17, _ => exact (show (callFunc (setFn 17) args).run Tryd.prog W = .ok (.enter (setFn 17) args) W by kernel_rfl)
  | 18, _ => exact (show (callFunc (setFn 18) args).run Tryd.prog W = .ok (.enter (setFn 18) args) W by kernel_rfl)
  | 19, _ => exact (show (callFunc (setFn 19) args).run Tryd.prog W = .ok (.enter (setFn 19) args) W by kernel_rfl)
  | 20, _ => exact (show (callFunc (setFn 20) args).run Tryd.prog W = .ok (.enter (setFn 20) args) W by kernel_rfl)
  | k + 21, h => omega
theorem setCells_at (k : Nat) (hk : k < 21) : setCells[k * 4]? = some (.string (setWord k)) ∧ setCells[k * 4 + 1]? = some (.int .i64 (setLeast k)) ∧ setCells[k * 4 + 2]? = some (.int .i64 (setMost k)) ∧ setCells[k * 4 + 3]? = some (.func (.func (setFn k)) #[] #[]) := by
  match k, hk with
  | 0, _ => exact ⟨rfl, rfl, rfl, rfl⟩
  | 1, _ => exact ⟨rfl, rfl, rfl, rfl⟩
  | 2, _ => exact ⟨rfl, rfl, rfl, rfl⟩
  | 3, _ => exact ⟨rfl, rfl, rfl, rfl⟩
  | 4, _ => exact ⟨rfl, rfl, rfl, rfl⟩
  | 5, _ => exact ⟨rfl, rfl, rfl, rfl⟩
  | 6, _ => exact ⟨rfl, rfl, rfl, rfl⟩
  | 7, _ => exact ⟨rfl, rfl, rfl, rfl⟩
  | 8, _ => exact ⟨rfl, rfl, rfl, rfl⟩
  | 9, _ => exact ⟨rfl, rfl, rfl, rfl⟩
  | 10, _ => exact ⟨rfl, rfl, rfl, rfl⟩
  | 11, _ => exact ⟨rfl, rfl, rfl, rfl⟩
  | 12, _ => exact ⟨rfl, rfl, rfl, rfl⟩
  | 13, _ => exact ⟨rfl, rfl, rfl, rfl⟩
  | 14, _ => exact ⟨rfl, rfl, rfl, rfl⟩
  | 15, _ => exact ⟨rfl, rfl, rfl, rfl⟩
  | 16, _ => exact ⟨rfl, rfl, rfl, rfl⟩
  | 17, _ => exact ⟨rfl, rfl, rfl, rfl⟩
  | 18, _ => exact ⟨rfl, rfl, rfl, rfl⟩
  | 19, _ => exact ⟨rfl, rfl, rfl, rfl⟩
  | 20, _ => exact ⟨rfl, rfl, rfl, rfl⟩
  | k + 21, h => omega
end Go.Proofs.YtmkkllfpdoeojaaDoor
