/- Words that the walks of this seat share: slices that are read, what a call leaves alone; no condition. -/
import Derived.Test.YtmkkllfpdoeojaaDoorLine
import Derived.WalkKit
import Derived.Outline
import Derived.WalkSpells
import Derived.WalkLawsBesides
import Derived.Lib.ConvBytes
import Derived.Laws.BytesArg
import Derived.Laws.AppendOwn
import Derived.Laws.MakeOwn
import Derived.Below
import Derived.Deep.LoopGhost
import Derived.Deep.QuietTactic
import Derived.BigQuiet
import Derived.Deep.RegionWith
import Derived.Deep.CutBlock
import Derived.Deep.AppendLies
import Derived.Laws.OwnMore
import Derived.WalkMore
import Derived.Laws.EntriesVeiled
import Derived.Maps.AppendAt
import Derived.KernelRfl
namespace Go.Proofs.YtmkkllfpdoeojaaDoor
open Go.RowKit

/-- A fact that the walk shall not take for a rule. -/
theorem Hid.mk' {p : Prop} (h : p) : Hid p := h
/-- An int64's range. -/
def I64 (n : Int) : Prop := -9223372036854775808 ≤ n ∧ n ≤ 9223372036854775807

/-- Elements of one kind, one behind the other, are read. 'K w x b o': x lies at block b from cell o on. -/
def Rd {α : Type} (K : World → α → Nat → Nat → Prop) (sz : Nat) (w : World) (A : Option Addr) (n : Nat) (xs : List α) : Prop :=
  xs.length = n ∧ n ≤ 9223372036854775807 ∧ (0 < n → ∃ b o, A = some ⟨b, o, none⟩ ∧ ∀ j x, xs[j]? = some x → K w x b (o + j * sz))
def KI (k : IntKind) (w : World) (x : Int) (b o : Nat) : Prop := w.cell? ⟨b, o, none⟩ = some (.int k x)
abbrev RdI (w : World) (A : Option Addr) (n : Nat) (xs : List Int) : Prop := Rd (KI .i64) 1 w A n xs

theorem Rd.imp {α : Type} {K K' : World → α → Nat → Nat → Prop} {sz : Nat} {w w' : World} {A : Option Addr} {n : Nat} {xs : List α} (h : Rd K sz w A n xs) (hK : ∀ x b o, K w x b o → K' w' x b o) : Rd K' sz w' A n xs :=
  ⟨h.1, h.2.1, fun hn => by
    obtain ⟨b, o, e, hc⟩ := h.2.2 hn
    exact ⟨b, o, e, fun j x hj => hK _ _ _ (hc j x hj)⟩⟩
theorem KI.below {k : IntKind} {w w' : World} {x : Int} {b o : Nat} (h : KI k w x b o) (hb : Below w.heap.size w w') : KI k w' x b o := by
  have hl : b < w.heap.size := World.block_lt_of_cell? w ⟨b, o, none⟩ h
  exact (hb.cell (p := ⟨b, o, none⟩) hl).trans h
theorem RdI.below {w w' : World} {A : Option Addr} {n : Nat} {xs : List Int} (h : RdI w A n xs) (hb : Below w.heap.size w w') : RdI w' A n xs := h.imp fun _ _ _ hk => hk.below hb
theorem RdI.at {w : World} {A : Option Addr} {n : Nat} {xs : List Int} (h : RdI w A n xs) {j : Nat} (hj : j < n) : ∃ b o, A = some ⟨b, o, none⟩ ∧ w.cell? ⟨b, o + j, none⟩ = some (.int .i64 (xs.getD j 0)) := by
  obtain ⟨b, o, e, hc⟩ := h.2.2 (by omega)
  have hl : j < xs.length := by have := h.1; omega
  refine ⟨b, o, e, ?_⟩
  have := hc j _ (List.getElem?_eq_getElem hl)
  rw [List.getD_eq_getElem?_getD, List.getElem?_eq_getElem hl]
  simpa [KI] using this

/-! A row of the call's own: ints. -/
def Own (w : World) (B : Nat) (v : Value) (xs : List Int) : Prop := w.ownsRow B 3 1 v xs.length (xs.map (Value.int .i64))
theorem Own.nil (w : World) (B : Nat) : Own w B (.slice none 0 0) [] := ⟨by simp, .inl ⟨rfl, rfl⟩⟩
theorem Own.shape {w : World} {B : Nat} {v : Value} {xs : List Int} (h : Own w B v xs) : ∃ A c, v = .slice A xs.length c := by
  rcases h.2 with ⟨rfl, hn⟩ | ⟨g, cap, cur, rfl, _⟩
  · exact ⟨none, 0, by rw [hn]⟩
  · exact ⟨_, cap, rfl⟩
theorem Own.cells {w : World} {B n : Nat} {A : Option Addr} {c : Nat} {xs : List Int} (h : Own w B (.slice A n c) xs) {j : Nat} (hj : j < xs.length) : ∃ g, A = some ⟨g, 0, none⟩ ∧ w.cell? ⟨g, j, none⟩ = some (.int .i64 (xs.getD j 0)) := by
  obtain ⟨g, cap, e, _, _⟩ := World.ownsRow.form h (by omega)
  injection e with e1 e2 e3
  subst e1
  refine ⟨g, rfl, ?_⟩
  have := World.ownsRow.cells (g := g) h rfl j (.int .i64 (xs.getD j 0)) (by simp [List.getD_eq_getElem?_getD, List.getElem?_eq_getElem hj])
  rwa [show (⟨g, 0, none⟩ : Addr).add j = ⟨g, j, none⟩ by unfold Addr.add; split <;> simp_all] at this
theorem Own.below {w w' : World} {B : Nat} {v : Value} {xs : List Int} (h : Own w B v xs) (hb : Below w.heap.size w w') : Own w' B v xs :=
  World.ownsRow.kept h (row := none) ⟨hb.os, hb.tape, hb.output, hb.size, fun i hi _ => hb.block i hi⟩ (by cases v.ownBlock <;> simp)
theorem Own.drewN {w : World} {B : Nat} {v : Value} {xs : List Int} (h : Own w B v xs) (n : Nat) : Own (w.drewN n) B v xs := h
theorem Own.read {w : World} {B : Nat} {A : Option Addr} {n c : Nat} {xs : List Int} (h : Own w B (.slice A n c) xs) : RdI w A n xs := by
  obtain ⟨A', c', e⟩ := h.shape
  injection e with e1 e2 e3
  subst e1
  subst e2
  refine ⟨rfl, ?_, fun hn => ?_⟩
  · rcases h.2 with ⟨_, h1⟩ | ⟨g', cap', cur, he, _, _, h1, h2, _⟩
    · omega
    · simp only [maxLen] at h2
      omega
  · obtain ⟨g, hA, _⟩ := h.cells hn
    subst hA
    refine ⟨g, 0, rfl, fun j x hj => ?_⟩
    have hl : j < xs.length := (List.getElem?_eq_some_iff.1 hj).1
    obtain ⟨g', e, hc⟩ := h.cells hl
    cases e
    rw [List.getD_eq_getElem?_getD, hj] at hc
    simpa [KI] using hc
theorem own_type_ne {w : World} {b b' : Nat} {e e' : TypeId} {s s' n n' : Nat} {v v' : Value} {xs xs' : List Value} (h : w.ownsRow b e s v n xs) (h' : w.ownsRow b' e' s' v' n' xs') (hne : e ≠ e') : v.ownBlock = none ∨ v.ownBlock ≠ v'.ownBlock := by
  rcases h.2 with ⟨rfl, _⟩ | ⟨g, cap, cur, rfl, _, hh, _⟩
  · exact .inl rfl
  · refine .inr fun hk => ?_
    rcases h'.2 with ⟨rfl, _⟩ | ⟨g', cap', cur', rfl, _, hh', _⟩
    · simp [Value.ownBlock] at hk
    · have : g = g' := by simpa [Value.ownBlock] using hk
      subst this
      rw [hh] at hh'
      injection hh' with hh'
      injection hh' with _ ht
      exact hne ht
theorem below_then {B : Nat} {w w1 w2 : World} (h : Below B w w1) (hB : B ≤ w1.heap.size) (k : Below w1.heap.size w1 w2) : Below B w w2 :=
  h.trans ⟨k.os, k.tape, k.output, k.size, fun i hi => k.block i (Nat.lt_of_lt_of_le hi hB)⟩
theorem below_drewN {B : Nat} {w w1 : World} (h : Below B w w1) (n : Nat) : Below B w (w1.drewN n) := ⟨h.os, h.tape, h.output, h.size, h.block⟩
theorem below_of_drewN {w w1 : World} (h : ∃ m, w1 = w.drewN m) : Below w.heap.size w w1 := by
  obtain ⟨m, rfl⟩ := h
  exact below_drewN (Below.refl _ _) m

section
variable {P : Program} {ops : Array Oper} {rest : List Oper} {o : Oper} {a : Act} {Q : Exit → Act → World → Prop}
/-- 'append(v, x)', v a row of the call's own (type e, 'size' cells an element): behind 'at_builtin'; x lies in the block that has just been laid. -/
theorem app_one {w0 W : World} (B size bytes : Nat) (hgd : o.guard = none) (s x : Operand) (t e : TypeId) (z : Value)
    (ho : o.op = .call { callee := .builtin .append, args := #[s, x], argTypes := #[t, t] })
    (ht : P.underlying t = some (.slice e)) (hinfo : (P.info? e).map (fun i => (i.zero, i.size, i.bytes)) = some (some z, size, bytes)) (hz : z.cells.size = size) (h0 : 0 < size) (hb0 : 0 < bytes)
    (v : Value) (n : Nat) (xs : List Value) (cs : Array Value) (hs : a.eval s = v) (hx : a.eval x = .slice (some ⟨W.heap.size, 0, none⟩) 1 1) (hcs : cs.size = size) (h1 : ∀ u ∈ cs.toList, u.oneCell' = true)
    (HO : W.ownsRow B e size v n xs) (HB : Below B w0 W) (hbase : B ≤ W.heap.size) (hl : (n + 1) * bytes ≤ 140737488355328)
    (h : ∀ v1 w1, w1.ownsRow B e size v1 (n + 1) (xs ++ cs.toList) → Below B w0 w1 → W.grownBy w1 v.ownBlock → wpList P ops Q rest (a.put o.dst v1) w1) :
    wpList P ops Q (o :: rest) a (W.alloc (.cells cs e)) := by
  obtain ⟨i0, hi, hzz⟩ := Option.map_eq_some_iff.1 hinfo
  simp only [Prod.mk.injEq] at hzz
  obtain ⟨hz0, hz1, hz2⟩ := hzz
  have hlen : n + 1 ≤ 140737488355328 := Nat.le_trans (Nat.le_mul_of_pos_right _ hb0) hl
  refine wpList_append_own_at (W.alloc (.cells cs e)) hgd s x t ho B e i0 z size bytes ht hi hz0 hz1 hz2 hz h0 v n xs hs (HO.alloc _) ⟨W.heap.size, 0, none⟩ 1 1 cs.toList hx (by simp [hcs])
    (fun j u hj => ?_) h1 (by simp only [maxLen]; omega) hl (by simp; omega) ?_
  · have hadd : (⟨W.heap.size, 0, none⟩ : Addr).add j = ⟨W.heap.size, j, none⟩ := by unfold Addr.add; split <;> simp_all
    rw [hadd]
    unfold World.cell?
    rw [show (W.alloc (.cells cs e)).heap[W.heap.size]? = some (.cells cs e) by show (W.heap.push _)[W.heap.size]? = _; simp]
    simpa using hj
  · intro v1 w1 hown hg _ _
    refine h v1 w1 hown ((HB.alloc hbase _).grown hg (by simp; omega) (fun k hk => ?_)) (World.grownBy.trans (World.grownBy_alloc W _ _) hg)
    rcases HO.2 with ⟨rfl, _⟩ | ⟨g, cap, cur, rfl, hgB, _⟩
    · simp [Value.ownBlock] at hk
    · have : g = k := by simpa [Value.ownBlock] using hk
      omega
end
theorem info_int : (Tryd.prog.info? 3).map (fun i => (i.zero, i.size, i.bytes)) = some (some (.int .i64 0), 1, 8) := by kernel_rfl
section
variable {ops : Array Oper} {rest : List Oper} {o : Oper} {a : Act} {Q : Exit → Act → World → Prop}
/-- The same for ints: '(at_builtin; refine app_int B (.tmp s) (.tmp x) ..)'. -/
theorem app_int {w0 W : World} (B : Nat) (hgd : o.guard = none) (s x : Operand)
    (ho : o.op = .call { callee := .builtin .append, args := #[s, x], argTypes := #[26, 26] })
    (v : Value) (xs : List Int) (y : Int) (hs : a.eval s = v) (hx : a.eval x = .slice (some ⟨W.heap.size, 0, none⟩) 1 1)
    (HO : Own W B v xs) (HB : Below B w0 W) (hbase : B ≤ W.heap.size) (hl : (xs.length + 1) * 8 ≤ 140737488355328)
    (h : ∀ v1 w1, Own w1 B v1 (xs ++ [y]) → Below B w0 w1 → W.grownBy w1 v.ownBlock → wpList Tryd.prog ops Q rest (a.put o.dst v1) w1) :
    wpList Tryd.prog ops Q (o :: rest) a (W.alloc (.cells #[.int .i64 y] 3)) :=
  app_one B 1 8 hgd s x 26 3 (.int .i64 0) ho Tryd.underlying26 info_int rfl (by decide) (by decide) v xs.length (xs.map (Value.int .i64)) #[.int .i64 y] hs hx rfl (by simp [Value.oneCell']) HO HB hbase hl
    fun v1 w1 hown hB hg => h v1 w1 (by unfold Own; simpa using hown) hB hg
end
end Go.Proofs.YtmkkllfpdoeojaaDoor
