/- granaryref19.New, for every definition that is read. -/
import Derived.Test.YtmkkllfpdoeojaaDoorAudNew
import Derived.Test.YtmkkllfpdoeojaaDoorRef8
namespace Go.Proofs.YtmkkllfpdoeojaaDoor
open Go.RowKit
set_option linter.unusedVariables false

theorem flat_at {α : Type} {f : α → List Value} {k : Nat} (hf : ∀ a, (f a).length = k) : ∀ {ys : List α} {j i : Nat} {y : α}, ys[j]? = some y → i < k → (ys.flatMap f)[j * k + i]? = (f y)[i]?
  | [], j, i, y, h, _ => by simp at h
  | a :: t, 0, i, y, h, hi => by
    cases (by simpa using h : a = y)
    rw [List.flatMap_cons, List.getElem?_append_left (by rw [hf]; omega)]
    simp
  | a :: t, j + 1, i, y, h, hi => by
    have ih := flat_at hf (i := i) (by simpa using h : t[j]? = some y) hi
    rw [List.flatMap_cons, List.getElem?_append_right (by rw [hf, Nat.add_mul]; omega), hf, ← ih]
    congr 1
    rw [Nat.add_mul]; omega
theorem OwnS.at {w : World} {B n : Nat} {A : Option Addr} {c : Nat} {xs : List (Nat × Nat)} (h : OwnS w B (.slice A n c) xs) {j : Nat} {x : Nat × Nat} (hj : xs[j]? = some x) :
    ∃ g, A = some ⟨g, 0, none⟩ ∧ w.cell? ⟨g, j * 2, none⟩ = some (.int .i64 (x.1 : Int)) ∧ w.cell? ⟨g, j * 2 + 1, none⟩ = some (.int .i64 (x.2 : Int)) := by
  have hl : j < xs.length := (List.getElem?_eq_some_iff.1 hj).1
  obtain ⟨g, cap, e, _, _⟩ := World.ownsRow.form h (by omega)
  injection e with e1 e2 e3
  subst e1
  have hadd : ∀ k, (⟨g, 0, none⟩ : Addr).add k = ⟨g, k, none⟩ := fun k => by unfold Addr.add; split <;> simp_all
  refine ⟨g, rfl, ?_, ?_⟩
  · have := World.ownsRow.cells (g := g) h rfl (j * 2 + 0) _ ((flat_at (k := 2) (fun _ => rfl) hj (by decide)).trans rfl)
    rwa [hadd] at this
  · have := World.ownsRow.cells (g := g) h rfl (j * 2 + 1) _ ((flat_at (k := 2) (fun _ => rfl) hj (by decide)).trans rfl)
    rwa [hadd] at this

/-- The document's auditor, its cells. -/
def refCells (rs lm now job : Int) (on : Bool) (ver : Int) (vs vw : Value) (ended : Bool) (lj lv lo : Int) (vd vx : Value) : Array Value :=
  #[.string ⟨#[]⟩, .int .i64 0, .int .i64 0, .int .i64 0, .int .i64 0, .int .i64 0, .int .i64 0, .int .i64 0, .int .i64 0, .int .i64 0, .int .i64 0, .int .i64 0, .int .i64 0, .int .i64 0, .int .i64 0, .int .i64 rs, .int .i64 lm, .int .i64 0, .int .i64 0, .int .i64 0, .int .i64 0, .int .i64 0, .slice none 0 0, .int .i64 now, .int .i64 job, .bool on, .int .i64 ver, vs, vw, .bool ended, .int .i64 lj, .int .i64 lv, .int .i64 lo, vd, vx]
structure Seat where
  lst : List Int
  at_ : Int
  gone : Bool
  sent : Int
  when_ : Int
def seat0 (xs : List (Nat × Nat)) : Seat := ⟨xs.map fun s => (s.1 : Int), 0, false, 0, 0⟩
def seatCells (y : Value × Seat) : List Value := [y.1, .int .i64 y.2.at_, .bool y.2.gone, .int .i64 y.2.sent, .int .i64 y.2.when_]
structure OwnT (w : World) (B : Nat) (v : Value) (ys : List (Value × Seat)) : Prop where
  row : w.ownsRow B 139 5 v ys.length (ys.flatMap seatCells)
  each : ∀ y ∈ ys, Own w B y.1 y.2.lst
theorem OwnT.nil (w : World) (B : Nat) : OwnT w B (.slice none 0 0) [] := ⟨⟨by simp, .inl ⟨rfl, rfl⟩⟩, by simp⟩
theorem OwnT.below {w w' : World} {B : Nat} {v : Value} {ys : List (Value × Seat)} (h : OwnT w B v ys) (hb : Below w.heap.size w w') : OwnT w' B v ys :=
  ⟨World.ownsRow.kept h.row (row := none) ⟨hb.os, hb.tape, hb.output, hb.size, fun i hi _ => hb.block i hi⟩ (by cases v.ownBlock <;> simp), fun y hy => (h.each y hy).below hb⟩
theorem OwnT.mono {w : World} {B B' : Nat} {v : Value} {ys : List (Value × Seat)} (h : OwnT w B v ys) (hb : B' ≤ B) : OwnT w B' v ys :=
  ⟨World.ownsRow.mono h.row hb, fun y hy => World.ownsRow.mono (h.each y hy) hb⟩
theorem OwnT.wrote {w w' : World} {B g t : Nat} {cs : Array Value} {v : Value} {ys : List (Value × Seat)} (h : OwnT w B v ys) (hk : Blk w g cs t) (hw : Wrote w w' g) (h1 : t ≠ 139) (h2 : t ≠ 3) : OwnT w' B v ys :=
  ⟨World.ownsRow.kept h.row hw.grown (blk_row_ne hk h.row h1), fun y hy => World.ownsRow.kept (h.each y hy) hw.grown (blk_row_ne hk (h.each y hy) h2)⟩
structure RefNew (c : Clu) (w w' : World) (g : Nat) (vs : Value) (ys : List (Value × Seat)) : Prop where
  blk : Blk w' g (refCells c.s15 c.s16 0 0 false 0 vs (.slice none 0 0) false 0 0 0 (.slice none 0 0) (.slice none 0 0)) 137
  seats : OwnT w' w.heap.size vs ys
  are : ys.map (·.2) = (List.range c.nodes.length).map fun i => seat0 (holdsL (homeL c.nodes) c.s1.toNat ((i : Nat) : Int))
  low : w.heap.size ≤ g
theorem info_seat : (Tryd.prog.info? 139).map (fun i => (i.zero, i.size, i.bytes)) = some (some (.agg #[.slice none 0 0, .int .i64 0, .bool false, .int .i64 0, .int .i64 0]), 5, 56) := by kernel_rfl

set_option maxRecDepth 100000 in
set_option maxHeartbeats 1600000 in
theorem refNew_no (c : Clu) (hE : checkE c ≠ 0) (A : Option Addr) (n cp : Nat) (w : World) (h : CluIn c A n cp w) :
    Calls Tryd.prog 45 #[.agg (c.cells (.slice A n cp))] w fun e w' => e = .returned (.tuple #[.pointer none, .int .i64 (checkE c)]) ∧ Below w.heap.size w w' := by
  obtain ⟨x, hx⟩ : ∃ x, checkE c = x := ⟨_, rfl⟩
  have HX := Hid.mk' hx
  rw [hx] at hE
  have hne : (x != 0) = true := by simpa using hE
  rw [hx]
  clear hE hx
  go_enter Tryd.func45, Tryd.ntmps45
  go_wp2_with (first
    | ((with_reducible refine box_arm (P := Tryd.prog) rfl 24 (.tmp 0) rfl _ (c.cells (.slice A n cp)) rfl rfl ?_); intro w1 hbk hb1 hs1; have HBk := Hid.mk' hbk; have HB1 := Hid.mk' hb1; have Hs1 := Hid.mk' hs1; clear hbk hb1 hs1)
    | (refine wpList_load_row rfl 24 _ rfl w.heap.size rfl 24 _ (0, 0) _ HBk.out Tryd.underlying24 rfl info_clu ?_)
    | (go_at_call 9; refine (refCheck_is c x HX.out A n cp _ (by exact h.below HB1.out)).mono ?_; rintro e w2 ⟨rfl, hb⟩; have HB2 := Hid.mk' (below_then HB1.out (by have := Hs1.out; omega) hb); clear hb))
  go_ret2
  exact ⟨rfl, HB2.out⟩

set_option maxRecDepth 100000 in
set_option maxHeartbeats 1600000 in
theorem refNew_yes (c : Clu) (hE : checkE c = 0) (A : Option Addr) (n cp : Nat) (w : World) (h : CluIn c A n cp w) :
    Calls Tryd.prog 45 #[.agg (c.cells (.slice A n cp))] w fun e w' => ∃ g vs ys, e = .returned (.tuple #[.pointer (some ⟨g, 0, none⟩), .int .i64 0]) ∧ RefNew c w w' g vs ys ∧ Below w.heap.size w w' := by
  have hnl : c.nodes.length = n := h.nodes.1
  have hn16 : n ≤ 16 := by have := (checkE_zero hE).2.2.2.1; omega
  have hv := (checkE_zero hE).1
  have hP2 := hv.2.1
  have hs16 := s1_nat hE
  have HS16 := Hid.mk' hs16
  have HE := Hid.mk' hE
  have HNL := Hid.mk' hnl
  clear hE hv hnl hs16
  go_enter Tryd.func45, Tryd.ntmps45
  go_wp2_with (first
    | ((with_reducible refine box_arm (P := Tryd.prog) (W := w) rfl 24 (.tmp 0) rfl _ (c.cells (.slice A n cp)) rfl rfl ?_); intro w1 hbk hb1 hs1; have HBk := Hid.mk' hbk; have HB1 := Hid.mk' hb1; have Hs1 := Hid.mk' hs1; clear hbk hb1 hs1)
    | (refine wpList_load_row rfl 24 _ rfl w.heap.size rfl 24 _ (0, 0) _ HBk.out Tryd.underlying24 rfl info_clu ?_)
    | (go_at_call 9; refine (refCheck_is c 0 HE.out A n cp _ (by exact h.below HB1.out)).mono ?_; rintro e w2 ⟨rfl, hb⟩; have HBk2 := Hid.mk' (HBk.out.below hb HBk.out.lt); have HB2 := Hid.mk' (below_then HB1.out (by have := Hs1.out; omega) hb); clear hb)
    | ((with_reducible refine box_arm (P := Tryd.prog) (W := w2) rfl 137 (.tmp 16) rfl _ (refCells 0 0 0 0 false 0 (.slice none 0 0) (.slice none 0 0) false 0 0 0 (.slice none 0 0) (.slice none 0 0)) rfl rfl ?_); intro w5 hbk hb5 hs5; have HBa := Hid.mk' hbk; have HB5 := Hid.mk' hb5; have Hs5 := Hid.mk' hs5; have hBk5 := HBk2.out.below hb5 HBk2.out.lt; have c22 := hBk5.cell (Clu.cells_nodes c _); have c15 := hBk5.cell (show (c.cells (.slice A n cp))[15]? = some (.int .i64 c.s15) from rfl); have c16 := hBk5.cell (show (c.cells (.slice A n cp))[16]? = some (.int .i64 c.s16) from rfl); have a15 := hbk.cell (j := 15) rfl; have a16 := hbk.cell (j := 16) rfl; have f15 := hbk.free 15; have f16 := hbk.free 16; clear hbk hb5 hs5 hBk5))
  have hlow : w.heap.size < w2.heap.size := HBk2.out.lt
  clear c22 c15 c16 a15 a16 f15 f16
  have hA6 : Hid (Blk ((w5.setCell ⟨w2.heap.size, 15, none⟩ (.int .i64 c.s15)).setCell ⟨w2.heap.size, 16, none⟩ (.int .i64 c.s16)) w2.heap.size (refCells c.s15 c.s16 0 0 false 0 (.slice none 0 0) (.slice none 0 0) false 0 0 0 (.slice none 0 0) (.slice none 0 0)) 137) := Hid.mk' ((HBa.out.set 15 _).set 16 _)
  have hB6 : Hid (Below w2.heap.size w2 ((w5.setCell ⟨w2.heap.size, 15, none⟩ (.int .i64 c.s15)).setCell ⟨w2.heap.size, 16, none⟩ (.int .i64 c.s16))) := Hid.mk' (Wrote.below (Wrote.below HB5.out (Wrote.setCell _ _ _ _) (Nat.le_refl _)) (Wrote.setCell _ _ _ _) (Nat.le_refl _))
  go_loopg [6] n (fun k i wr => ∃ q vs ys, i = .int .i64 (q : Nat) ∧ q ≤ n ∧ k = n - q ∧ Hid (Blk wr w2.heap.size (refCells c.s15 c.s16 0 0 false 0 vs (.slice none 0 0) false 0 0 0 (.slice none 0 0) (.slice none 0 0)) 137) ∧ Hid (OwnT wr w2.heap.size vs ys) ∧ Hid (ys.map (·.2) = (List.range q).map fun i => seat0 (holdsL (homeL c.nodes) c.s1.toNat ((i : Nat) : Int))) ∧ ys.length = q ∧ Hid (Below w2.heap.size w2 wr))
  case atStart => exact ⟨0, .slice none 0 0, [], rfl, by omega, rfl, hA6, OwnT.nil _ _, rfl, rfl, hB6⟩
  case round =>
    obtain ⟨q, vs, ys, rfl, hq, hk, hA, hT, hys, hyl, hB⟩ := hrel
    subst hk
    have hBk4 := Hid.mk' (HBk2.out.below hB.out HBk2.out.lt)
    have hBw := Hid.mk' (show Below w.heap.size w wr from below_then HB2.out (Nat.le_of_lt hlow) hB.out)
    have h4 := Hid.mk' (h.below hBw.out)
    have hsz := hB.out.size
    have c22 := hBk4.out.cell (Clu.cells_nodes c _)
    by_cases hlt : q < n
    · obtain ⟨As, cs, hsh⟩ := row_shape hT.out.row
      subst hsh
      rw [hyl] at hA hT
      have hll : (holdsL (homeL c.nodes) c.s1.toNat (q : Int)).length ≤ 1024 := by
        obtain ⟨r, _, _, hr16, hrn⟩ := HS16.out
        have h1 := holdsTo_length (homeL c.nodes) c.s1.toNat (q : Int) (homeL c.nodes).length
        rw [hrn] at h1 ⊢
        have h2 : (homeL c.nodes).length ≤ 64 := by rw [homeL_length]; exact hP2
        exact Nat.le_trans h1 (Nat.le_trans (Nat.mul_le_mul h2 hr16) (by decide))
      go_wp2_with (first
        | (refine wpList_load_row rfl 24 _ rfl w.heap.size rfl 24 _ (0, 0) _ hBk4.out Tryd.underlying24 rfl info_clu ?_)
        | (go_at_call 27; refine (refHolds_any c HE.out q A n cp hlt _ (by exact h4.out)).mono ?_; rintro e w6 ⟨v6, rfl, ho, hb⟩; have HO6 := Hid.mk' ho; have HB6 := Hid.mk' hb; obtain ⟨A6, c6, hsh⟩ := ho.shape; subst hsh; clear ho hb))
      have hA6' := Hid.mk' (hA.out.below HB6.out hA.out.lt)
      have hT6 := Hid.mk' (hT.out.below HB6.out)
      have hB66 := Hid.mk' (below_then hB.out hsz HB6.out)
      have hsz6 := hB66.out.size
      obtain ⟨hl, hhl⟩ : ∃ l, holdsL (homeL c.nodes) c.s1.toNat (q : Int) = l := ⟨_, rfl⟩
      rw [hhl] at HO6 hll ⊢
      have HHL := Hid.mk' hhl.symm
      clear hhl
      go_loopg [9, 10] hl.length (fun k v i wr => ∃ j : Nat, i = .int .i64 (j : Nat) ∧ j ≤ hl.length ∧ k = hl.length - j ∧ Hid (Own wr w6.heap.size v ((hl.take j).map fun s => (s.1 : Int))) ∧ Hid (Below w6.heap.size w6 wr))
      case atStart => exact ⟨0, rfl, by omega, rfl, Own.nil _ _, Below.refl _ _⟩
      case round =>
        obtain ⟨j, rfl, hj, hk, hO5, hB5⟩ := hrel
        subst hk
        have hs5 := hB5.out.size
        by_cases hjm : j < hl.length
        · obtain ⟨x, hx⟩ : ∃ x, hl[j]? = some x := ⟨_, List.getElem?_eq_getElem hjm⟩
          obtain ⟨g6, rfl, e1, _⟩ := (HO6.out.below hB5.out).at hx
          have htk := Hid.mk' (show (hl.take (j + 1)).map (fun s => (s.1 : Int)) = (hl.take j).map (fun s => (s.1 : Int)) ++ [(x.1 : Int)] by
            rw [List.take_add_one, hx]; simp)
          have htl : ((hl.take j).map fun s => (s.1 : Int)).length ≤ j := by rw [List.length_map]; exact List.length_take_le _ _
          clear hx
          generalize (hl.take j).map (fun s => (s.1 : Int)) = acc at *
          generalize (x.1 : Int) = pj at *
          go_wp2_with (at_builtin; refine app_int (W := wr) (w0 := w6) w6.heap.size rfl (.tmp 49) (.tmp 55) rfl _ acc pj rfl rfl hO5.out hB5.out hs5 (by omega) ?_; intro v1 w7 hO7 hB7 hg7; have HO7 := Hid.mk' hO7; have HB7 := Hid.mk' hB7; clear hO7 hB7 hg7)
          go_roundg (hl.length - (j + 1))
          case measure => omega
          case rel => exact ⟨j + 1, by go_num, by omega, rfl, by rw [htk.out]; exact HO7, HB7⟩
        · have hje : j = hl.length := by omega
          subst hje
          have hO8 : Hid (Own wr w6.heap.size u9 (hl.map fun s => (s.1 : Int))) := by
            have := hO5.out
            rwa [List.take_length] at this
          have hA8 := Hid.mk' (hA6'.out.below hB5.out hA6'.out.lt)
          have hT8 := Hid.mk' (hT6.out.below hB5.out)
          have hB8 := Hid.mk' (below_then hB66.out hsz6 hB5.out)
          have hs8 := hB8.out.size
          have a27 := hA8.out.cell (j := 27) rfl
          have f27 := hA8.out.free 27
          obtain ⟨A9, c9, hsh9⟩ := hO8.out.shape
          rw [List.length_map] at hsh9
          subst hsh9
          clear hO5
          go_wp2_with (at_builtin; refine app_one (W := wr) (w0 := w2) w2.heap.size 5 56 rfl (.tmp 61) (.tmp 64) 134 139 (.agg #[.slice none 0 0, .int .i64 0, .bool false, .int .i64 0, .int .i64 0]) rfl Tryd.underlying134 info_seat rfl (by decide) (by decide) (.slice As q cs) q (ys.flatMap seatCells) #[.slice A9 hl.length c9, .int .i64 0, .bool false, .int .i64 0, .int .i64 0] rfl rfl rfl (by simp [Value.oneCell']) (by have := hT8.out.row; rwa [hyl] at this) hB8.out hs8 (by omega) ?_; intro v7 w7 ho7 hb7 hg7; obtain ⟨A7, c7, hs7⟩ := row_shape ho7; subst hs7; have HO7 := Hid.mk' ho7; have HB7 := Hid.mk' hb7; have HG7 := Hid.mk' hg7; have hA7 := Hid.mk' (show Blk w7 w2.heap.size _ 137 from heap_grown hA8.out hg7 (blk_row_ne hA8.out hT8.out.row (by decide))); have b27 := hA7.out.cell (j := 27) rfl; have fr27 := hA7.out.free 27; clear ho7 hb7 hg7)
          have hW := Hid.mk' (Wrote.setCell w7 w2.heap.size 27 (.slice A7 (q + 1) c7))
          have hA9 := Hid.mk' (hA7.out.set 27 (.slice A7 (q + 1) c7))
          have hT7 : Hid (OwnT w7 w2.heap.size (.slice A7 (q + 1) c7) (ys ++ [(.slice A9 hl.length c9, seat0 hl)])) := by
            refine ⟨by have := HO7.out; simpa [hyl, seatCells, seat0] using this, fun y hy => ?_⟩
            rcases List.mem_append.1 hy with hy | hy
            · exact World.ownsRow.kept (hT8.out.each y hy) HG7.out (own_type_ne (hT8.out.each y hy) hT8.out.row (by decide))
            · cases List.mem_singleton.1 hy
              exact World.ownsRow.mono (World.ownsRow.kept hO8.out HG7.out (own_type_ne hO8.out hT8.out.row (by decide))) hsz6
          go_roundg (n - (q + 1))
          case measure => omega
          case rel =>
            refine ⟨q + 1, _, _, by go_num, by omega, rfl, hA9, hT7.out.wrote hA7.out hW.out (by decide) (by decide), ?_, by simp [hyl], Wrote.below HB7.out hW.out (Nat.le_refl _)⟩
            show _ = _
            rw [List.map_append, hys.out, List.range_succ, List.map_append, HHL.out]
            rfl
    · have hqe : q = n := by omega
      subst hqe
      go_wp2
      go_ret2
      exact ⟨_, vs, ys, rfl, ⟨hA.out, hT.out.mono (Nat.le_of_lt hlow), by rw [HNL.out]; exact hys.out, by omega⟩, hBw.out⟩
end Go.Proofs.YtmkkllfpdoeojaaDoor
