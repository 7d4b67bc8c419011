/- What the cards of this seat share: arguments that are left as they were; the table of the greatest values; a world that holds it. -/
import Derived.Test.YtmkkllfpdoeojaaDoorCards
import Derived.Test.YtmkkllfpdoeojaaDoorTie
import Derived.Test.YtmkkllfpdoeojaaDoorOpen
import Derived.Test.YtmkkllfpdoeojaaDoorRef2
import Derived.ProofKit
import Derived.OpenShut
import Derived.Deep.DeepHandedRow
import Derived.Lib.LaidTab
import Derived.WideKeyArgs
namespace Go.Proofs.YtmkkllfpdoeojaaDoor
open Go.ChangeShapes Go.WideShapes Go.ChangeAt Go.RowKit
set_option linter.unusedVariables false

theorem ownKnobs : ownKnob Tryd.prog.godebug = none := by kernel_rfl
theorem gGreat : Tryd.prog.globalNamed "granary/granaryref6.greatest" = some 0 := by kernel_rfl
theorem gGreatType : (Tryd.prog.globals[0]?).map (·.type) = some 129 := by kernel_rfl
theorem cells_tab : Tryd.prog.cellsOf 129 = 21 := by kernel_rfl
theorem laidOut : laidOutB Tryd.prog = true := by kernel_rfl
theorem tab_of {W : World} {rest : List (String × DataW Unit)} (h : laidMet Tryd.prog (("granary/granaryref6.greatest", Rows.laid_granary_granaryref6_greatest) :: rest) W) : Tab W := by
  have ht : Lib.TabIs Tryd.prog W "granary/granaryref6.greatest" .i64 [16, 16, 16, 8, 4096, 65536, 1024, 65536, 64, 1024, 1024, 1073741824, 1073741824, 1073741824, 1024, 64, 65536, 1024, 64, 1024, 7] :=
    Lib.tabIs_of_head (rest := rest) gGreat gGreatType Tryd.underlying129 Tryd.underlying3 oneCell_int cells_tab h
  intro k hk
  exact ht.cell gGreat k hk

section
variable {H : Type} {enc : TypeId × Value → H} {P : Program}
theorem trodAll_still {W W' : World} {sp : Nat → Bool} (hl : laidOutB P = true) : ∀ {ts : List TypeId} {vs : List Value} {ds : List (DataW H)} {ps : List MemPlace}, DataW.TrodAll enc P W 0 (fun _ => true) true ts vs ds ps →
    (∀ t ∈ ts, P.readableRec t = true ∧ t < P.types.size) → (∀ x ∈ ps, W.sameAt W' x) → (∀ x ∈ ps, sp x.block = true) → DataW.TrodAll enc P W' 0 sp true ts vs ds ps
  | [], vs, ds, ps, h, _, _, _ => by
    obtain ⟨rfl, rfl, rfl⟩ := trodAll_nil h
    exact trodAll_mk0
  | t :: ts, vs, ds, ps, h, ht, hs, hp => by
    obtain ⟨v, vs', d, ds', p, q, rfl, rfl, rfl, h0, h1⟩ := trodAll_cons h
    exact trodAll_cons_mk (WideElems.Trod_stays hl (ht t (List.mem_cons_self ..)).1 (ht t (List.mem_cons_self ..)).2 h0 (fun x hx => hs x (List.mem_append_left _ hx)) (fun x hx => hp x (List.mem_append_left _ hx)))
      (trodAll_still hl h1 (fun t' ht' => ht t' (List.mem_cons_of_mem _ ht')) (fun x hx => hs x (List.mem_append_right _ hx)) (fun x hx => hp x (List.mem_append_right _ hx)))
/-- A law that answered true and left what was there as it was. -/
theorem post_true {fn : Func} {s : ChangeSpec} {W W' : World} {args : Array Value} {ds gs : List (DataW H)} {before : List MemPlace} {tb : TypeId} (hl : laidOutB P = true) (htb : P.underlying tb = some .bool)
    (hW : DataW.Whole enc P fn.params.toList s.vars false W args.toList ds gs before) (hv : s.vars = []) (hsp : s.fn H (ds ++ gs) = { results := [.lit (.bool true)], args := ds }) (hr : fn.resultTypes = #[tb])
    (hpt : ∀ t ∈ fn.params.toList, P.readableRec t = true ∧ t < P.types.size) (hb : Below W.heap.size W W') : s.post enc P fn false true false false W args (.bool true) W' := by
  have hlt : ∀ p ∈ before, p.block < W.heap.size := fun p hp => hW.lt p hp
  have hW' := hW
  obtain ⟨p, q, hA, hV, rfl, _, _⟩ := hW
  rw [hv] at hV
  obtain ⟨rfl, rfl⟩ := trodVars_none hV
  refine ⟨ds, [], p ++ [], [], p, [], hW', ?_, ?_, ?_, hb.frame _, fun h => by cases h⟩
  · rw [hsp, hr]
    exact trodAll_cons_mk (shut_bool htb _) trodAll_mk0
  · rw [hsp]
    exact trodAll_still hl hA hpt (fun x hx => hb.same (hlt x (List.mem_append_left _ hx))) (fun x hx => by simpa using hlt x (List.mem_append_left _ hx))
  · rw [hv, hsp]
    exact rfl
end

/-- A world for the witness: the settled one, the table holding what its text lays. -/
noncomputable def laidWorld (os : Os) : World :=
  { World.holding Tryd.prog os ⟨#[], #[], []⟩ with heap := (World.holding Tryd.prog os ⟨#[], #[], []⟩).heap.modify 0 fun
      | .cells _ t frozen => .cells #[.int .i64 16, .int .i64 16, .int .i64 16, .int .i64 8, .int .i64 4096, .int .i64 65536, .int .i64 1024, .int .i64 65536, .int .i64 64, .int .i64 1024, .int .i64 1024, .int .i64 1073741824, .int .i64 1073741824, .int .i64 1073741824, .int .i64 1024, .int .i64 64, .int .i64 65536, .int .i64 1024, .int .i64 64, .int .i64 1024, .int .i64 7] t frozen
      | o => o }
/-- The definition of zeros, and how it reads. -/
def zeroClu : Value := .agg #[.string ⟨#[]⟩, .int .i64 0, .int .i64 0, .int .i64 0, .int .i64 0, .int .i64 0, .int .i64 0, .int .i64 0, .int .i64 0, .int .i64 0, .int .i64 0, .int .i64 0, .int .i64 0, .int .i64 0, .int .i64 0, .int .i64 0, .int .i64 0, .int .i64 0, .int .i64 0, .int .i64 0, .int .i64 0, .int .i64 0, .slice none 0 0]
def zeroCluD {H : Type} : DataW H := .agg [.lit (.string []), .lit (.int .i64 0), .lit (.int .i64 0), .lit (.int .i64 0), .lit (.int .i64 0), .lit (.int .i64 0), .lit (.int .i64 0), .lit (.int .i64 0), .lit (.int .i64 0), .lit (.int .i64 0), .lit (.int .i64 0), .lit (.int .i64 0), .lit (.int .i64 0), .lit (.int .i64 0), .lit (.int .i64 0), .lit (.int .i64 0), .lit (.int .i64 0), .lit (.int .i64 0), .lit (.int .i64 0), .lit (.int .i64 0), .lit (.int .i64 0), .lit (.int .i64 0), .nil]
theorem readable_clu : Tryd.prog.readableRec 24 = true := by kernel_rfl
end Go.Proofs.YtmkkllfpdoeojaaDoor
