/- A region in a straight line is run by the kernel: one equation for all of its operations; no condition. -/
import Derived.Test.YtmkkllfpdoeojaaDoorProg
import Derived.WalkKit
import Derived.KernelRfl
namespace Go.Proofs.YtmkkllfpdoeojaaDoor

/-- The operations of a plain region, one behind the other, as long as each gives a value and none is guarded. -/
def lineRun (P : Program) : List Oper → Act → World → Option (Act × World)
  | [], a, w => some (a, w)
  | o :: rest, a, w =>
    match o.guard with
    | some _ => none
    | none =>
      match (execOp a.eval o).run P w with
      | .ok (.value v) w' => lineRun P rest (a.put o.dst v) w'
      | .ok .skip w' => lineRun P rest (a.put o.dst undef) w'
      | _ => none
theorem lineRun_wp {P : Program} {ops : Array Oper} {Q : Exit → Act → World → Prop} : ∀ (l : List Oper) (a a' : Act) (w w' : World), lineRun P l a w = some (a', w') → Q .normal a' w' → wpList P ops Q l a w
  | [], a, a', w, w', h, hq => by
    simp only [lineRun, Option.some.injEq, Prod.mk.injEq] at h
    obtain ⟨rfl, rfl⟩ := h
    exact wpList_nil hq
  | o :: rest, a, a', w, w', h, hq => by
    unfold lineRun at h
    split at h
    · cases h
    · rename_i hg
      refine wpList_plain hg fun K hK => ?_
      unfold Oper.wp
      split at h
      · rename_i v w1 hr
        rw [hr]
        exact hK _ _ (lineRun_wp rest _ a' w1 w' h hq)
      · rename_i w1 hr
        rw [hr]
        exact hK _ _ (lineRun_wp rest _ a' w1 w' h hq)
      · cases h

/-- A body of plain regions that ends in 'ret'. -/
def lineCode (P : Program) : Code → Act → World → Option (Act × World)
  | .region _ ops false, a, w => lineRun P ops.toList a w
  | .seq x y, a, w =>
    match lineCode P x a w with
    | some (a1, w1) => lineCode P y a1 w1
    | none => none
  | .skip, a, w => some (a, w)
  | _, _, _ => none
theorem lineCode_wp {P : Program} : ∀ (c : Code) (Q : Exit → Act → World → Prop) (a a' : Act) (w w' : World), lineCode P c a w = some (a', w') → Q .normal a' w' → c.wp P Q a w
  | .region _ ops false, Q, a, a', w, w', h, hq => wp_region_list (lineRun_wp _ _ _ _ _ h hq)
  | .seq x y, Q, a, a', w, w', h, hq => by
    simp only [lineCode] at h
    split at h
    · rename_i a1 w1 h1
      exact wp_seq (lineCode_wp x _ a a1 w w1 h1 (lineCode_wp y Q a1 a' w1 w' h hq))
    · cases h
  | .skip, Q, a, a', w, w', h, hq => by
    simp only [lineCode, Option.some.injEq, Prod.mk.injEq] at h
    obtain ⟨rfl, rfl⟩ := h
    exact wp_skip hq
/-- The whole function: everything ahead of the last 'ret' is a line. -/
def lineBody : Code → Option Code
  | .seq x .ret => some x
  | .seq x y => (lineBody y).map (.seq x)
  | _ => none
theorem lineBody_wp {P : Program} : ∀ (c x : Code) (Q : Exit → Act → World → Prop) (a a' : Act) (w w' : World), lineBody c = some x → lineCode P x a w = some (a', w') → Q .ret a' w' → c.wp P Q a w
  | .seq y .ret, x, Q, a, a', w, w', hb, h, hq => by
    simp only [lineBody, Option.some.injEq] at hb
    subst hb
    exact wp_seq (lineCode_wp y _ a a' w w' h (wp_ret hq))
  | .seq y (.seq u v), x, Q, a, a', w, w', hb, h, hq => by
    simp only [lineBody] at hb
    obtain ⟨z, hz, rfl⟩ := Option.map_eq_some_iff.1 hb
    simp only [lineCode] at h
    split at h
    · rename_i a1 w1 h1
      exact wp_seq (lineCode_wp y _ a a1 w w1 h1 (lineBody_wp _ z Q a1 a' w1 w' hz h hq))
    · cases h
def resOf (fn : Func) (tmps : Array Value) : Option Value :=
  match fn.results.toList with
  | [.tmp t] => some (tmps.getD t undef)
  | [.tmp t, .tmp u] => some (.tuple #[tmps.getD t undef, tmps.getD u undef])
  | _ => none
theorem arr_of {α : Type} {x : Array α} {l : List α} (h : x.toList = l) : x = l.toArray := by rw [← h]
theorem resOf_run {P : Program} {fn : Func} {tmps : Array Value} {w : World} {v : Value} (h : resOf fn tmps = some v) : (results fn tmps).run P w = .ok v w := by
  unfold resOf at h
  split at h
  · rename_i t hr
    cases h
    exact results_tmp (arr_of hr) _ _ _
  · rename_i t u hr
    cases h
    exact results_tmp2 (arr_of hr) _ _ _
  · cases h
/-- What the function's result is, and the world behind it. -/
def lineFn (P : Program) (fn : Func) (args : Array Value) (w : World) : Option (Value × World) :=
  match fn.body with
  | none => none
  | some c =>
    match lineBody c with
    | none => none
    | some x =>
      match lineCode P x { tmps := args ++ Array.replicate (fn.ntmps - args.size) undef, defers := [] } w with
      | some (a, w1) =>
        match a.defers with
        | [] => (resOf fn a.tmps).map fun v => (v, w1)
        | _ => none
      | none => none
theorem calls_of_line {P : Program} {f : FuncId} {fn : Func} {args : Array Value} {w w' : World} {v : Value} (hf : P.funcs[f]? = some fn) (h : lineFn P fn args w = some (v, w')) :
    Calls P f args w fun e w1 => e = .returned v ∧ w' = w1 := by
  unfold lineFn at h
  split at h
  · cases h
  · rename_i c hb
    split at h
    · cases h
    · rename_i x hx
      split at h
      · rename_i a w1 hr
        split at h
        · rename_i hd
          obtain ⟨v1, hv1, hv2⟩ := Option.map_eq_some_iff.1 h
          cases hv2
          exact calls_of_wp hf hb (lineBody_wp c x _ _ a w _ hx hr ⟨hd, v, resOf_run hv1, rfl, rfl⟩)
        · cases h
      · cases h
end Go.Proofs.YtmkkllfpdoeojaaDoor
