/- granarylaw19.made: a definition that Check refuses. -/
import Derived.Test.YtmkkllfpdoeojaaDoorStay
import Derived.Test.YtmkkllfpdoeojaaDoorTwinF
import Derived.Test.YtmkkllfpdoeojaaDoorRefNew
import Derived.Test.YtmkkllfpdoeojaaDoorSameNodes
namespace Go.Proofs.YtmkkllfpdoeojaaDoor
open Go.RowKit
set_option linter.unusedVariables false

theorem num_left (x : Int) (w : World) : Calls Tryd.prog 10 #[.int .i64 x] w fun e w' => e = .returned (.int .i64 x) ∧ w = w' := (num_any x w).mono fun _ _ ⟨h1, h2⟩ => ⟨h1, h2.symm⟩

/-- What is asked of the definition that is handed in. -/
structure LawIn (c : Clu) (A : Option Addr) (n cp : Nat) (w : World) : Prop where
  nodes : RdN w A n c.nodes
  cap : n ≤ cp
  store : c.store.size ≤ 9223372036854775807
  small : n ≤ 1048576
  parts : ∀ x ∈ c.nodes, x.parts.length ≤ 1048576
  tab : Tab w
theorem LawIn.below {c : Clu} {A : Option Addr} {n cp : Nat} {w w' : World} (h : LawIn c A n cp w) (hb : Below w.heap.size w w') : LawIn c A n cp w' :=
  ⟨h.nodes.below hb, h.cap, h.store, h.small, h.parts, h.tab.below hb⟩

theorem OwnN.wroteT {w w' : World} {B g t : Nat} {cs : Array Value} {v : Value} {ys : List (Value × Nd)} (h : OwnN w B v ys) (hk : Blk w g cs t) (hw : Wrote w w' g) (h1 : t ≠ 90) (h2 : t ≠ 3) : OwnN w' B v ys :=
  ⟨World.ownsRow.kept h.row hw.grown (blk_row_ne hk h.row h1), fun y hy => World.ownsRow.kept (h.each y hy) hw.grown (blk_row_ne hk (h.each y hy) h2), h.apart⟩
/-- What stands behind twin and marked: the definition that is handed in ('gg': its box), the lists with their marks, the caller's own definition. -/
structure Given (c : Clu) (A : Option Addr) (n cp : Nat) (w w5 : World) (gg : Nat) (Ay : Option Addr) (cy : Nat) (Af : Option Addr) (B : Nat) (ts : List MNd) : Prop where
  own : OwnM w5 B (.slice Ay n cy) ts
  nodes : ts.map (·.2.1) = c.nodes
  full : RdL w5 Af n (ts.map fun t => t.2.1.parts ++ t.2.2)
  marks : ∀ (j : Nat) (x : Nd), c.nodes[j]? = some x → (ts.map fun t => t.2.1.parts ++ t.2.2)[j]? = some (x.parts ++ marks 8)
  box : Blk w5 gg (c.cells (.slice Ay n cy)) 24
  cbox : Blk w5 w.heap.size (c.cells (.slice A n cp)) 24
  rd : RdN w5 Ay n c.nodes
  cap : n ≤ cy
  below : Below w.heap.size w w5
  low : w.heap.size < B ∧ B ≤ gg
theorem full_at {ts : List MNd} {ns : List Nd} (h : ts.map (·.2.1) = ns) (hm : ∀ t ∈ ts, t.2.2 = marks 8) (j : Nat) (x : Nd) (hx : ns[j]? = some x) : (ts.map fun t => t.2.1.parts ++ t.2.2)[j]? = some (x.parts ++ marks 8) := by
  subst h
  rw [List.getElem?_map, Option.map_eq_some_iff] at hx ⊢
  obtain ⟨t, ht, rfl⟩ := hx
  exact ⟨t, ht, by rw [hm t (List.mem_of_getElem? ht)]⟩
theorem parts_of {ys : List (Value × Nd)} {ns : List Nd} {k : Nat} (h : ys.map (·.2) = ns) (hp : ∀ x ∈ ns, x.parts.length ≤ k) : ∀ y ∈ ys, y.2.parts.length ≤ k := fun y hy => hp y.2 (by rw [← h]; exact List.mem_map.2 ⟨y, hy, rfl⟩)
theorem given_of {c : Clu} {A : Option Addr} {n cp : Nat} {w w1 w2 w3 w4 w5 : World} {Ay : Option Addr} {cy : Nat} {vf : Value} {ts : List MNd} {ys : List (Value × Nd)} (hnl : c.nodes.length = n)
    (hb1 : Below w.heap.size w w1) (hs1 : w1.heap.size = w.heap.size + 1) (hy : ys.map (·.2) = c.nodes) (hb2 : Below w1.heap.size w1 w2) (hcy : n ≤ cy) (hb3 : Below w2.heap.size w2 w3) (hg : Blk w4 w2.heap.size (c.cells (.slice Ay n cy)) 24) (hw : Wrote w3 w4 w2.heap.size) (hc : Blk w4 w.heap.size (c.cells (.slice A n cp)) 24)
    (hM : OwnM w5 w1.heap.size (.slice Ay n cy) ts) (hts : ts.map (·.2.1) = ys.map (·.2)) (hm : ∀ t ∈ ts, t.2.2 = marks 8) (hr : w5.ownsRow w4.heap.size 26 1 vf ts.length (ts.map (·.1))) (hb : Below w1.heap.size w4 w5) (hK : KeptT w4 w5) :
    ∃ Af cf, vf = .slice Af n cf ∧ Given c A n cp w w5 w2.heap.size Ay cy Af w1.heap.size ts := by
  have hn : ts.map (·.2.1) = c.nodes := hts.trans hy
  have hl : ts.length = n := by rw [← hnl, ← hn, List.length_map]
  obtain ⟨Af, cf, hsh⟩ := row_shape hr
  rw [hl] at hsh
  subst hsh
  have h12 := hb2.size
  refine ⟨Af, cf, rfl, hM, hn, rdL_of (by rw [hl] at hr ⊢; exact hr) hM.each, full_at hn hm, hK _ _ _ _ hg (by decide) (by decide), hK _ _ _ _ hc (by decide) (by decide), ?_, hcy, ?_, by omega, h12⟩
  · have := hM.read
    rwa [hn] at this
  · refine below_then hb1 (by omega) ?_
    exact (Wrote.below (below_then hb2 h12 hb3) hw h12).trans hb
theorem audNew_is_no (c : Clu) (hE : checkE c ≠ 0) (x : Int) (hx : checkE c = x) (A : Option Addr) (n cp : Nat) (w : World) (hN : RdN w A n c.nodes) (hcp : n ≤ cp) (hs : c.store.size ≤ 9223372036854775807) (hlen : ∀ x ∈ c.nodes, x.parts.length ≤ 17592186044416) :
    Calls Tryd.prog 7 #[.agg (c.cells (.slice A n cp))] w fun e w' => e = .returned (.tuple #[.pointer none, .int .i64 x]) ∧ Below w.heap.size w w' := by
  subst hx
  exact audNew_no c hE A n cp w hN hcp hs hlen
theorem refNew_is_no (c : Clu) (hE : checkE c ≠ 0) (x : Int) (hx : checkE c = x) (A : Option Addr) (n cp : Nat) (w : World) (h : CluIn c A n cp w) :
    Calls Tryd.prog 45 #[.agg (c.cells (.slice A n cp))] w fun e w' => e = .returned (.tuple #[.pointer none, .int .i64 x]) ∧ Below w.heap.size w w' := by
  subst hx
  exact refNew_no c hE A n cp w h
set_option maxRecDepth 100000 in
set_option maxHeartbeats 1600000 in
theorem made_no (c : Clu) (hE : checkE c ≠ 0) (A : Option Addr) (n cp : Nat) (w : World) (h : LawIn c A n cp w) :
    Calls Tryd.prog 21 #[.agg (c.cells (.slice A n cp))] w fun e w' => e = .returned (.tuple #[.pointer none, .bool true]) ∧ Below w.heap.size w w' := by
  obtain ⟨x, hx⟩ : ∃ x, checkE c = x := ⟨_, rfl⟩
  have HE := Hid.mk' hE
  rw [hx] at hE
  have HX := Hid.mk' hx
  clear hx
  have hne : (x != 0) = true := by simpa using hE
  have hxx : (x != x) = false := by simp
  clear hE
  have hnl : c.nodes.length = n := h.nodes.1
  have HNL := Hid.mk' hnl
  clear hnl
  have hn6 := h.small
  go_enter Tryd.func21, Tryd.ntmps21
  go_wp2_with (first
    | ((with_reducible refine box_arm (P := Tryd.prog) (W := w) rfl 24 (.tmp 0) rfl _ (c.cells (.slice A n cp)) rfl rfl ?_); intro w1 hbk hb1 hs1; have HBk := Hid.mk' hbk; have HB1 := Hid.mk' hb1; have Hs1 := Hid.mk' hs1; clear hbk hb1 hs1)
    | (refine wpList_load_row rfl 24 _ rfl w.heap.size rfl 24 _ (0, 0) _ HBk.out Tryd.underlying24 rfl info_clu ?_)
    | (go_at_call 8; refine (twin_any c A n cp _ (by exact h.nodes.below HB1.out) h.small h.parts).mono ?_; rintro e w2 ⟨v, ys, rfl, ho, hm, hb⟩; have HO2 := Hid.mk' ho; have HY := Hid.mk' hm; have HB2 := Hid.mk' hb; have HBk2 := Hid.mk' (HBk.out.below hb HBk.out.lt); have hyl : ys.length = n := (by rw [← HNL.out, ← hm, List.length_map]); obtain ⟨Ay, cy, hsh, hcy⟩ := ho.shape; rw [hyl] at hsh; subst hsh; have HYL := Hid.mk' hyl; have hcy2 : n ≤ cy := (by rw [hyl] at hcy; exact hcy); clear ho hm hb hyl hcy)
    | ((with_reducible refine alloc_arm (P := Tryd.prog) (W := w2) rfl 24 23 rfl _ zero_clu rfl ?_); intro w3 old hbo hos hb3 hs3; have HBo := Hid.mk' hbo; have Hos := Hid.mk' hos; have HB3 := Hid.mk' hb3; have Hs3 := Hid.mk' hs3; have HO3 := Hid.mk' (HO2.out.below hb3); have HBk3 := Hid.mk' (HBk2.out.below hb3 HBk2.out.lt); clear hbo hos hb3 hs3)
    | ((refine store_arm (P := Tryd.prog) (W := w3) rfl 24 (.tmp 4) (.tmp 13) rfl w2.heap.size (c.cells (.slice Ay n cy)) old rfl rfl 24 HBo.out info_clu Hos.out (by simp [Clu.cells, Value.oneCell']) ?_); intro w4 hb4 hw4; have HG4 := Hid.mk' hb4; have HW4 := Hid.mk' hw4; have HBk4 := Hid.mk' (HBk3.out.wrote hw4 (by have := HBk2.out.lt; omega)); have HO4 := Hid.mk' (HO3.out.wroteT HBo.out hw4 (by decide) (by decide)); have hs14 : w1.heap.size ≤ w4.heap.size := (by have := HB2.out.size; have := HB3.out.size; have := hw4.size; omega); clear hb4 hw4)
    | (refine wpList_load_row rfl 24 _ rfl w2.heap.size rfl 24 _ (0, 0) _ HG4.out Tryd.underlying24 rfl info_clu ?_)
    | (go_at_call 44; refine (marked_any c w1.heap.size Ay n cy _ ys (by exact HO4.out) hs14 h.small (parts_of HY.out h.parts)).mono ?_; rintro e w5 ⟨vf, ts, rfl, hM, hts, hmk, hrow, hb, hK⟩; obtain ⟨Af, cf, hsh, hgv⟩ := given_of (A := A) (cp := cp) HNL.out HB1.out Hs1.out HY.out HB2.out hcy2 HB3.out HG4.out HW4.out HBk4.out hM hts hmk hrow hb hK; subst hsh; have HV := Hid.mk' hgv; clear hM hts hmk hrow hb hK hgv)
    | (refine wpList_load_row rfl 24 _ rfl w2.heap.size rfl 24 _ (0, 0) _ HV.out.box Tryd.underlying24 rfl info_clu ?_)
    | (go_at_call 7; refine (audNew_is_no c HE.out x HX.out Ay n cy _ (by exact HV.out.rd) hcy2 h.store (fun y hy => Nat.le_trans (h.parts y hy) (by decide))).mono ?_; rintro e w6 ⟨rfl, hb⟩; have HB6 := Hid.mk' hb; have HBk6 := Hid.mk' (HV.out.cbox.below hb HV.out.cbox.lt); have HBw6 := Hid.mk' (show Below w.heap.size w w6 from below_then HV.out.below HV.out.below.size hb); clear hb)
    | (refine wpList_load_row rfl 24 _ rfl w.heap.size rfl 24 _ (0, 0) _ HBk6.out Tryd.underlying24 rfl info_clu ?_)
    | (go_at_call 8; refine (twin_any c A n cp _ (by exact h.nodes.below HBw6.out) h.small h.parts).mono ?_; rintro e w7 ⟨v, ys2, rfl, ho, hm, hb⟩; have HB7 := Hid.mk' hb; have hyl : ys2.length = n := (by rw [← HNL.out, ← hm, List.length_map]); obtain ⟨A7, c7, hsh, hc7⟩ := ho.shape; rw [hyl] at hsh; subst hsh; have hRd := ho.read; rw [hm] at hRd; have HR7 := Hid.mk' hRd; have hc72 : n ≤ c7 := (by rw [hyl] at hc7; exact hc7); have HBw7 := Hid.mk' (show Below w.heap.size w w7 from below_then HBw6.out HBw6.out.size hb); clear ho hm hb hyl hc7 hRd)
    | (go_at_call 45; refine (refNew_is_no c HE.out x HX.out A7 n c7 _ (by exact ⟨HR7.out, hc72, h.store, fun y hy => Nat.le_trans (h.parts y hy) (by decide), h.tab.below HBw7.out⟩)).mono ?_; rintro e w8 ⟨rfl, hb⟩; have HB8 := Hid.mk' hb; have HBw8 := Hid.mk' (show Below w.heap.size w w8 from below_then HBw7.out HBw7.out.size hb); have HB58 := Hid.mk' (show Below w5.heap.size w5 w8 from below_then (below_then HB6.out HB6.out.size HB7.out) (Nat.le_trans HB6.out.size HB7.out.size) hb); have HBk8 := Hid.mk' (HV.out.cbox.below HB58.out HV.out.cbox.lt); have HG8 := Hid.mk' (HV.out.box.below HB58.out HV.out.box.lt); clear hb)
    | (go_at_call 10; refine (num_left _ _).mono ?_; rintro e w' ⟨rfl, rfl⟩)
    | (refine load_row_g 24 (.tmp 4) rfl rfl w2.heap.size rfl 24 _ (0, 0) _ HG8.out Tryd.underlying24 rfl info_clu ?_)
    | (refine load_row_g 24 (.tmp 1) rfl rfl w.heap.size rfl 24 _ (0, 0) _ HBk8.out Tryd.underlying24 rfl info_clu ?_)
    | (go_at_call 46; refine (sameNodes_any c c rfl Ay n cy A cp _ (by exact HV.out.rd.below HB58.out) (by exact h.nodes.below HBw8.out)).mono ?_; rintro e w9 ⟨rfl, hb⟩; have HB9 := Hid.mk' hb; have HBk9 := Hid.mk' (HBk8.out.below hb HBk8.out.lt); have HB59 := Hid.mk' (below_then HB58.out HB58.out.size hb); have HBw9 := Hid.mk' (show Below w.heap.size w w9 from below_then HBw8.out HBw8.out.size hb); clear hb)
    | (refine load_row_g 24 (.tmp 1) rfl rfl w.heap.size rfl 24 _ (0, 0) _ HBk9.out Tryd.underlying24 rfl info_clu ?_)
    | (go_at_call 47; refine (stay_yes c _ HV.out.marks Af cf A n cp _ (by exact h.nodes.below HBw9.out) (by exact HV.out.full.below HB59.out) h.parts).mono ?_; rintro e w10 ⟨rfl, hb⟩; have HB10 := Hid.mk' hb; have HBw10 := Hid.mk' (show Below w.heap.size w w10 from below_then HBw9.out HBw9.out.size hb); clear hb))
  go_ret2
  exact ⟨rfl, HBw10.out⟩
end Go.Proofs.YtmkkllfpdoeojaaDoor
