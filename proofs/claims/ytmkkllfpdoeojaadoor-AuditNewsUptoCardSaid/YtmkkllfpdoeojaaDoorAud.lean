/- audit.New, for every definition that is read. -/
import Derived.Test.YtmkkllfpdoeojaaDoorHolds
import Derived.Test.YtmkkllfpdoeojaaDoorTwin
namespace Go.Proofs.YtmkkllfpdoeojaaDoor
open Go.RowKit
set_option linter.unusedVariables false

theorem blk_row_ne {w : World} {g t B s n : Nat} {cs : Array Value} {e : TypeId} {v : Value} {xs : List Value} (h : Blk w g cs t) (ho : w.ownsRow B e s v n xs) (hne : t ≠ e) : v.ownBlock = none ∨ v.ownBlock ≠ some g := by
  rcases ho.2 with ⟨rfl, _⟩ | ⟨g', cap, cur, rfl, _, hh, _⟩
  · exact .inl rfl
  · refine .inr fun hk => ?_
    have : g' = g := by simpa [Value.ownBlock] using hk
    subst this
    unfold Blk at h
    rw [h] at hh
    injection hh with hh
    injection hh with _ ht
    exact hne ht
theorem map_row_ne {w : World} {m B s n k : Nat} {es : Array MapEntry} {e : TypeId} {v : Value} {xs : List Value} (h : w.heap[m]? = some (.map es k)) (ho : w.ownsRow B e s v n xs) : v.ownBlock = none ∨ v.ownBlock ≠ some m := by
  rcases ho.2 with ⟨rfl, _⟩ | ⟨g', cap, cur, rfl, _, hh, _⟩
  · exact .inl rfl
  · refine .inr fun hk => ?_
    have : g' = m := by simpa [Value.ownBlock] using hk
    subst this
    rw [h] at hh
    injection hh with hh
    cases hh
theorem row_shape {w : World} {B s n : Nat} {e : TypeId} {v : Value} {xs : List Value} (h : w.ownsRow B e s v n xs) : ∃ A c, v = .slice A n c := by
  rcases h.2 with ⟨rfl, rfl⟩ | ⟨g, cap, cur, rfl, _⟩
  · exact ⟨none, 0, rfl⟩
  · exact ⟨_, _, rfl⟩
theorem heap_lt {w : World} {b : Nat} {o : Obj} (h : w.heap[b]? = some o) : b < w.heap.size := (Array.getElem?_eq_some_iff.1 h).1
theorem heap_grown {w w' : World} {b : Nat} {row : Option Nat} {o : Obj} (h : w.heap[b]? = some o) (hg : w.grownBy w' row) (hne : row = none ∨ row ≠ some b) : w'.heap[b]? = some o := by
  rw [hg.block b (heap_lt h) (fun e => by rcases hne with h1 | h1 <;> simp_all)]
  exact h

/-- The lists of slots: a row of rows. -/
structure OwnL (w : World) (B : Nat) (v : Value) (ys : List (Value × List (Nat × Nat))) : Prop where
  row : w.ownsRow B 68 1 v ys.length (ys.map (·.1))
  each : ∀ y ∈ ys, OwnS w B y.1 y.2
theorem OwnL.nil (w : World) (B : Nat) : OwnL w B (.slice none 0 0) [] := ⟨⟨by simp, .inl ⟨rfl, rfl⟩⟩, by simp⟩
theorem OwnL.below {w w' : World} {B : Nat} {v : Value} {ys : List (Value × List (Nat × Nat))} (h : OwnL w B v ys) (hb : Below w.heap.size w w') : OwnL w' B v ys :=
  ⟨World.ownsRow.kept h.row (row := none) ⟨hb.os, hb.tape, hb.output, hb.size, fun i hi _ => hb.block i hi⟩ (by cases v.ownBlock <;> simp), fun y hy => (h.each y hy).below hb⟩
theorem OwnL.mono {w : World} {B B' : Nat} {v : Value} {ys : List (Value × List (Nat × Nat))} (h : OwnL w B v ys) (hb : B' ≤ B) : OwnL w B' v ys :=
  ⟨World.ownsRow.mono h.row hb, fun y hy => World.ownsRow.mono (h.each y hy) hb⟩
/-- Behind a store into a block of another type. -/
theorem OwnL.wrote {w w' : World} {B g t : Nat} {cs : Array Value} {v : Value} {ys : List (Value × List (Nat × Nat))} (h : OwnL w B v ys) (hk : Blk w g cs t) (hw : Wrote w w' g) (h1 : t ≠ 68) (h2 : t ≠ 97) : OwnL w' B v ys :=
  ⟨World.ownsRow.kept h.row hw.grown (blk_row_ne hk h.row h1), fun y hy => World.ownsRow.kept (h.each y hy) hw.grown (blk_row_ne hk (h.each y hy) h2)⟩
theorem OwnL.shape {w : World} {B : Nat} {v : Value} {ys : List (Value × List (Nat × Nat))} (h : OwnL w B v ys) : ∃ A c, v = .slice A ys.length c ∧ ys.length ≤ c := by
  rcases h.row.2 with ⟨rfl, hn⟩ | ⟨g, cap, cur, rfl, _, _, hc, _⟩
  · exact ⟨none, 0, by rw [hn], by omega⟩
  · exact ⟨_, cap, rfl, hc⟩

/-- An auditor's cells. -/
def audCells (rs lm : Int) (vl : Value) (now job ver : Int) (m1 m2 : Nat) (vm : Value) (ended : Bool) (lj lv lo : Int) (vd vx : Value) : Array Value :=
  #[.int .i64 rs, .int .i64 lm, vl, .int .i64 now, .int .i64 job, .int .i64 ver, .map (some m1), .map (some m2), vm, .bool ended, .int .i64 lj, .int .i64 lv, .int .i64 lo, vd, vx]
structure AudNew (c : Clu) (w w' : World) (g m1 m2 : Nat) (vl : Value) (ys : List (Value × List (Nat × Nat))) : Prop where
  blk : Blk w' g (audCells c.s15 c.s16 vl 0 0 0 m1 m2 (.slice none 0 0) false 0 0 0 (.slice none 0 0) (.slice none 0 0)) 88
  map1 : w'.heap[m1]? = some (.map #[] 0)
  map2 : w'.heap[m2]? = some (.map #[] 0)
  ne : m1 ≠ m2
  lists : OwnL w' w.heap.size vl ys
  are : ys.map (·.2) = (List.range c.nodes.length).map fun i => holdsL (homeL c.nodes) c.s1.toNat ((i : Nat) : Int)
  low : w.heap.size ≤ g ∧ w.heap.size ≤ m1 ∧ w.heap.size ≤ m2
theorem check_is (c : Clu) (x : Int) (hx : checkE c = x) (A : Option Addr) (n cp : Nat) (w : World) (hN : RdN w A n c.nodes) (hcp : n ≤ cp) (hs : c.store.size ≤ 9223372036854775807) (hlen : ∀ x ∈ c.nodes, x.parts.length ≤ 17592186044416) :
    Calls Tryd.prog 34 #[.agg (c.cells (.slice A n cp))] w fun e w' => e = .returned (.int .i64 x) ∧ Below w.heap.size w w' :=
  (check_any c A n cp w hN hcp hs hlen).mono fun e w' ⟨h1, h2⟩ => ⟨by rw [h1, hx], h2⟩
theorem holds_yes (c : Clu) (hE : checkE c = 0) (q : Nat) (A : Option Addr) (n cp : Nat) (w : World) (hN : RdN w A n c.nodes) (hcp : n ≤ cp) (hs : c.store.size ≤ 9223372036854775807) (hlen : ∀ x ∈ c.nodes, x.parts.length ≤ 17592186044416) (hq : q < n) :
    Calls Tryd.prog 26 #[.agg (c.cells (.slice A n cp)), .int .i64 (q : Int)] w fun e w' => ∃ v, e = .returned (.tuple #[v, .int .i64 0]) ∧ OwnS w' w.heap.size v (holdsL (homeL c.nodes) c.s1.toNat (q : Int)) ∧ Below w.heap.size w w' :=
  (holds_any c q A n cp w hN hcp hs hlen).mono fun e w' ⟨h1, h2⟩ => by
    rcases h1 with ⟨h1, _⟩ | ⟨_, h1, _⟩ | ⟨_, _, v, h1, h3⟩
    · exact absurd hE h1
    · exact absurd ⟨by omega, by rw [hN.1]; omega⟩ h1
    · exact ⟨v, h1, h3, h2⟩
end Go.Proofs.YtmkkllfpdoeojaaDoor
