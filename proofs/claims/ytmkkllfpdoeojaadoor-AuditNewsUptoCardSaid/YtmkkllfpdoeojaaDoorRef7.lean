/- granaryref6.Walk, Owners, Holds: for every definition that is read. -/
import Derived.Test.YtmkkllfpdoeojaaDoorRef6
namespace Go.Proofs.YtmkkllfpdoeojaaDoor
open Go.RowKit Go.Sort
set_option linter.unusedVariables false

/-- What the contracts of a definition that is read ask for. -/
structure CluIn (c : Clu) (A : Option Addr) (n cp : Nat) (w : World) : Prop where
  nodes : RdN w A n c.nodes
  cap : n ≤ cp
  store : c.store.size ≤ 9223372036854775807
  parts : ∀ x ∈ c.nodes, x.parts.length ≤ 17592186044416
  tab : Tab w
theorem CluIn.below {c : Clu} {A : Option Addr} {n cp : Nat} {w w' : World} (h : CluIn c A n cp w) (hb : Below w.heap.size w w') : CluIn c A n cp w' :=
  ⟨h.nodes.below hb, h.cap, h.store, h.parts, h.tab.below hb⟩
theorem refCheck_is (c : Clu) (x : Int) (hx : checkE c = x) (A : Option Addr) (n cp : Nat) (w : World) (h : CluIn c A n cp w) :
    Calls Tryd.prog 9 #[.agg (c.cells (.slice A n cp))] w fun e w' => e = .returned (.int .i64 x) ∧ Below w.heap.size w w' :=
  (refCheck_any c A n cp w h.nodes h.store h.parts h.tab).mono fun e w' ⟨h1, h2⟩ => ⟨by rw [h1, hx], h2⟩
theorem s1_nat {c : Clu} (h : checkE c = 0) : ∃ r : Nat, c.s1 = r ∧ 1 ≤ r ∧ r ≤ 16 ∧ c.s1.toNat = r := by
  obtain ⟨_, hok, _⟩ := checkE_zero h
  obtain ⟨h1, h2, _, _⟩ := set_bounds hok
  exact ⟨c.s1.toNat, by omega, by omega, by omega, rfl⟩

set_option maxRecDepth 100000 in
set_option maxHeartbeats 1600000 in
theorem refWalk_any (c : Clu) (hE : checkE c = 0) (part reps : Nat) (hr : c.s1 = reps) (hr16 : reps ≤ 16) (hp : part < cnt c.nodes) (A : Option Addr) (n cp : Nat) (w : World) (h : CluIn c A n cp w) :
    Calls Tryd.prog 70 #[.agg (c.cells (.slice A n cp)), .int .i64 (part : Int)] w fun e w' => ∃ v, e = .returned (.tuple #[v, .int .i64 0]) ∧ Own w' w.heap.size v (ints (roundF (homeL c.nodes) part reps)) ∧ Below w.heap.size w w' := by
  have hv := (checkE_zero hE).1
  have HE := Hid.mk' hE
  have HR := Hid.mk' hr
  have hP2 := hv.2.1
  clear hE hr
  go_enter Tryd.func70, Tryd.ntmps70
  go_wp2_with (first
    | ((with_reducible refine box_arm (P := Tryd.prog) rfl 24 (.tmp 0) rfl _ (c.cells (.slice A n cp)) rfl rfl ?_); intro w1 hbk hb1 hs1; have HBk := Hid.mk' hbk; have HB1 := Hid.mk' hb1; have Hs1 := Hid.mk' hs1; clear hbk hb1 hs1)
    | (go_at_call 9; refine (refCheck_is c 0 HE.out A n cp _ (by exact h.below HB1.out)).mono ?_; rintro e w2 ⟨rfl, hb⟩; have HB2 := Hid.mk' hb; have Hs2 := Hid.mk' hb.size; have HBk2 := Hid.mk' (HBk.out.below hb HBk.out.lt); have HBw2 := Hid.mk' (below_then HB1.out (by have := Hs1.out; omega) hb); clear hb)
    | (go_at_call 38; refine (parts_any c A n cp _ (by exact h.nodes.below HBw2.out) (by omega)).mono ?_; rintro e w3 ⟨rfl, hb⟩; have HB3 := Hid.mk' hb; have HBk3 := Hid.mk' (HBk2.out.below hb HBk2.out.lt); have HBw3 := Hid.mk' (below_then HBw2.out (Nat.le_of_lt HBk2.out.lt) hb); clear hb)
    | (go_at_call 99; refine (walk_any c hv part reps HR.out hr16 hp A n cp _ (by exact h.nodes.below HBw3.out)).mono ?_; rintro e w4 ⟨v, rfl, ho, hb⟩; have HO4 := Hid.mk' ho; have HB4 := Hid.mk' hb; clear ho hb)
    | (refine load_row_g 24 (.tmp 2) rfl rfl w.heap.size rfl 24 _ (0, 0) _ HBk3.out Tryd.underlying24 rfl info_clu ?_)
    | (refine load_row_g 24 (.tmp 2) rfl rfl w.heap.size rfl 24 _ (0, 0) _ HBk2.out Tryd.underlying24 rfl info_clu ?_)
    | (refine load_row_g 24 (.tmp 2) rfl rfl w.heap.size rfl 24 _ (0, 0) _ HBk.out Tryd.underlying24 rfl info_clu ?_))
  go_ret2
  exact ⟨_, rfl, World.ownsRow.mono HO4.out (Nat.le_of_lt HBk3.out.lt), below_then HBw3.out (Nat.le_of_lt HBk3.out.lt) HB4.out⟩

theorem ints_append (a b : List Nat) : ints (a ++ b) = ints a ++ ints b := by simp [ints]
def ownersL (home : List Nat) (part reps : Nat) : List Nat := (roundF home part reps).map fun p => home.getD p 0
theorem ownersL_length (home : List Nat) (part reps : Nat) : (ownersL home part reps).length = (roundF home part reps).length := by simp [ownersL]
set_option maxRecDepth 100000 in
set_option maxHeartbeats 1600000 in
theorem refOwners_any (c : Clu) (hE : checkE c = 0) (part reps : Nat) (hr : c.s1 = reps) (hr16 : reps ≤ 16) (hp : part < cnt c.nodes) (A : Option Addr) (n cp : Nat) (w : World) (h : CluIn c A n cp w) :
    Calls Tryd.prog 54 #[.agg (c.cells (.slice A n cp)), .int .i64 (part : Int)] w fun e w' => ∃ v, e = .returned (.tuple #[v, .int .i64 0]) ∧ Own w' w.heap.size v (ints (ownersL (homeL c.nodes) part reps)) ∧ Below w.heap.size w w' := by
  have hv := (checkE_zero hE).1
  have HE := Hid.mk' hE
  have HR := Hid.mk' hr
  have hP2 := hv.2.1
  have HV := Hid.mk' hv
  have hlt := Hid.mk' (fun (t : Nat) (ht : t ∈ roundF (homeL c.nodes) part reps) => roundF_lt (homeL c.nodes) part reps (by rw [homeL_length]; exact hv.1) ht)
  clear hE hr hv
  go_enter Tryd.func54, Tryd.ntmps54
  go_wp2_with (first
    | ((with_reducible refine box_arm (P := Tryd.prog) rfl 24 (.tmp 0) rfl _ (c.cells (.slice A n cp)) rfl rfl ?_); intro w1 hbk hb1 hs1; have HBk := Hid.mk' hbk; have HB1 := Hid.mk' hb1; have Hs1 := Hid.mk' hs1; clear hbk hb1 hs1)
    | (go_at_call 70; refine (refWalk_any c HE.out part reps HR.out hr16 hp A n cp _ (by exact h.below HB1.out)).mono ?_; rintro e w2 ⟨v, rfl, ho, hb⟩; have HO2 := Hid.mk' ho; obtain ⟨A2, c2, hsh⟩ := ho.shape; subst hsh; have HB2 := Hid.mk' hb; have HBk2 := Hid.mk' (HBk.out.below hb HBk.out.lt); have HBw2 := Hid.mk' (below_then HB1.out (by have := Hs1.out; omega) hb); clear hb ho)
    | (refine load_row_g 24 (.tmp 2) rfl rfl w.heap.size rfl 24 _ (0, 0) _ HBk.out Tryd.underlying24 rfl info_clu ?_))
  have hlen := ownersL_length (homeL c.nodes) part reps
  have hle16 := Hid.mk' (Nat.le_trans (roundF_length (homeL c.nodes) part reps) hr16)
  obtain ⟨rl, hrl⟩ : ∃ r, roundF (homeL c.nodes) part reps = r := ⟨_, rfl⟩
  have HRL := Hid.mk' hrl
  rw [hrl] at hlt hle16 HO2
  rw [hrl]
  clear hrl hlen
  have hbx := Nat.le_of_lt HBk2.out.lt
  rw [ints_length]
  go_loopg [8, 9] rl.length (fun k v i wr => ∃ q : Nat, i = .int .i64 q ∧ q ≤ rl.length ∧ k = rl.length - q ∧ Hid (Own wr w2.heap.size v (ints ((rl.take q).map fun p => (homeL c.nodes).getD p 0))) ∧ Hid (Below w2.heap.size w2 wr))
  case atStart => exact ⟨0, rfl, by omega, rfl, Own.nil _ _, Below.refl _ _⟩
  case round =>
    obtain ⟨q, rfl, hq, hk, hO, hB⟩ := hrel
    subst hk
    have hBk4 := Hid.mk' (HBk2.out.below hB.out HBk2.out.lt)
    have hBw := Hid.mk' (show Below w.heap.size w wr from below_then HBw2.out (Nat.le_of_lt HBk2.out.lt) hB.out)
    have hN4 := Hid.mk' (h.nodes.below hBw.out)
    have h16 := hle16.out
    by_cases hx : q < rl.length
    · obtain ⟨g, rfl, c1⟩ := (HO2.out.below hB.out).cells (show q < (ints rl).length by rw [ints_length]; exact hx)
      rw [ints_getD] at c1
      have hxh := Hid.mk' (show homeI c.nodes ((rl.getD q 0 : Nat) : Int) = (((homeL c.nodes).getD (rl.getD q 0) 0 : Nat) : Int) by
        refine homeI_valid HV.out ?_
        rw [← homeL_length]
        exact hlt.out _ (by rw [List.getD_eq_getElem?_getD, List.getElem?_eq_getElem hx]; exact List.getElem_mem hx))
      generalize hp : rl.getD q 0 = pq at c1 hxh
      have hPQ := Hid.mk' hp
      clear hp
      generalize hxe : (homeL c.nodes).getD pq 0 = xq at hxh
      have hXQ := Hid.mk' hxe
      clear hxe
      go_wp2
      refine wp_region_any (by kernel_rfl) ?_
      change wpAny _ _ _ _ _ _ _ (World.drew _)
      refine wpAny_take (i := 0) (v := ?_) rfl (by kernel_rfl) (by kernel_rfl) (by kernel_rfl) (fun _ _ _ h => h) (Or.inl ⟨by rfl, ?_⟩) ?_
      rotate_left
      · intro w; go_simp; with_reducible rfl
      refine wpAny_take (i := 2) (v := ?_) rfl (by kernel_rfl) (by kernel_rfl) (by kernel_rfl) (fun _ _ _ h => h) (Or.inl ⟨by rfl, ?_⟩) ?_
      rotate_left
      · intro w; go_simp; with_reducible rfl
      refine wpAny_take (i := 3) (v := ?_) rfl (by kernel_rfl) (by kernel_rfl) (by kernel_rfl) (fun _ _ _ h => h) (Or.inl ⟨by rfl, ?_⟩) ?_
      rotate_left
      · intro w; go_simp; with_reducible rfl
      refine wpAny_take (i := 4) (v := ?_) rfl (by kernel_rfl) (by kernel_rfl) (by kernel_rfl) (fun _ _ _ h => h) (Or.inl ⟨by rfl, ?_⟩) ?_
      rotate_left
      · intro w; go_simp; with_reducible rfl
      refine wpAny_ready (rs := [1, 5]) (by kernel_rfl) (by simp) ?_
      refine AllReady.cons rfl (fun K hK => ?_) (AllReady.cons rfl (fun K hK => ?_) AllReady.nil)
      · refine step_load_row rfl 24 (.tmp 2) rfl w.heap.size rfl 24 _ _ _ hBk4.out Tryd.underlying24 rfl info_clu ?_
        refine hK _ _ ?_
        clear hK K
        refine wpAny_ready (rs := [5]) (by kernel_rfl) (by simp) ?_
        refine AllReady.cons rfl (fun K hK => ?_) AllReady.nil
        go_simp
        refine hK _ _ ?_
        clear hK K
        refine wpAny_ready (rs := [6]) (by kernel_rfl) (by simp) ?_
        refine AllReady.cons rfl (fun K hK => ?_) AllReady.nil
        go_simp
        go_wp2_with (go_at_call 71; refine (home_is c _ _ hxh.out A n cp _ (by exact hN4.out)).mono ?_; rintro e w5 ⟨rfl, hb5⟩; have HB5 := Hid.mk' (show Below wr.heap.size wr w5 from ⟨hb5.os, hb5.tape, hb5.output, hb5.size, hb5.block⟩); clear hb5)
        refine wpAny_ready (rs := [7]) (by kernel_rfl) (by simp) ?_
        refine AllReady.cons rfl (fun K hK => ?_) AllReady.nil
        go_simp
        refine hK _ _ ?_
        clear hK K
        refine wpAny_ready (rs := [8]) (by kernel_rfl) (by simp) ?_
        refine AllReady.cons rfl (fun K hK => ?_) AllReady.nil
        refine step_app_int (W := w5) (w0 := w2) w2.heap.size rfl (.tmp 25) (.tmp 32) rfl _ _ xq rfl rfl (by exact hO.out.below HB5.out) (by exact below_then hB.out hB.out.size HB5.out) (by exact Nat.le_trans hB.out.size HB5.out.size) (by rw [ints_length, List.length_map, List.length_take]; omega) ?_
        intro v1 w6 hO6 hB6 hg6
        have HO6 := Hid.mk' hO6
        have HB6 := Hid.mk' hB6
        clear hO6 hB6 hg6
        refine hK _ _ ?_
        clear hK K
        refine wpAny_ready (rs := [9]) (by kernel_rfl) (by simp) ?_
        refine AllReady.cons rfl (fun K hK => ?_) AllReady.nil
        go_simp
        refine hK _ _ ?_
        clear hK K
        refine wpAny_done (by kernel_rfl) ?_ _
        go_wp2
        go_roundg (rl.length - (q + 1))
        case measure => omega
        case rel =>
          refine ⟨q + 1, by go_num, by omega, rfl, ?_, HB6⟩
          have ht : rl.take (q + 1) = rl.take q ++ [pq] := by rw [List.take_add_one, ← hPQ.out]; simp [List.getD, hx]
          rw [ht, List.map_append, ints_append, List.map_singleton, hXQ.out]
          exact HO6
      · go_simp
        refine hK _ _ ?_
        clear hK K
        refine wpAny_ready (rs := [1]) (by kernel_rfl) (by simp) ?_
        refine AllReady.cons rfl (fun K hK => ?_) AllReady.nil
        refine step_load_row rfl 24 (.tmp 2) rfl w.heap.size rfl 24 _ _ _ hBk4.out Tryd.underlying24 rfl info_clu ?_
        refine hK _ _ ?_
        clear hK K
        refine wpAny_ready (rs := [6]) (by kernel_rfl) (by simp) ?_
        refine AllReady.cons rfl (fun K hK => ?_) AllReady.nil
        go_simp
        go_wp2_with (go_at_call 71; refine (home_is c _ _ hxh.out A n cp _ (by exact hN4.out)).mono ?_; rintro e w5 ⟨rfl, hb5⟩; have HB5 := Hid.mk' (show Below wr.heap.size wr w5 from ⟨hb5.os, hb5.tape, hb5.output, hb5.size, hb5.block⟩); clear hb5)
        refine wpAny_ready (rs := [7]) (by kernel_rfl) (by simp) ?_
        refine AllReady.cons rfl (fun K hK => ?_) AllReady.nil
        go_simp
        refine hK _ _ ?_
        clear hK K
        refine wpAny_ready (rs := [8]) (by kernel_rfl) (by simp) ?_
        refine AllReady.cons rfl (fun K hK => ?_) AllReady.nil
        refine step_app_int (W := w5) (w0 := w2) w2.heap.size rfl (.tmp 25) (.tmp 32) rfl _ _ xq rfl rfl (by exact hO.out.below HB5.out) (by exact below_then hB.out hB.out.size HB5.out) (by exact Nat.le_trans hB.out.size HB5.out.size) (by rw [ints_length, List.length_map, List.length_take]; omega) ?_
        intro v1 w6 hO6 hB6 hg6
        have HO6 := Hid.mk' hO6
        have HB6 := Hid.mk' hB6
        clear hO6 hB6 hg6
        refine hK _ _ ?_
        clear hK K
        refine wpAny_ready (rs := [9]) (by kernel_rfl) (by simp) ?_
        refine AllReady.cons rfl (fun K hK => ?_) AllReady.nil
        go_simp
        refine hK _ _ ?_
        clear hK K
        refine wpAny_done (by kernel_rfl) ?_ _
        go_wp2
        go_roundg (rl.length - (q + 1))
        case measure => omega
        case rel =>
          refine ⟨q + 1, by go_num, by omega, rfl, ?_, HB6⟩
          have ht : rl.take (q + 1) = rl.take q ++ [pq] := by rw [List.take_add_one, ← hPQ.out]; simp [List.getD, hx]
          rw [ht, List.map_append, ints_append, List.map_singleton, hXQ.out]
          exact HO6
    · have hqe : q = rl.length := by omega
      subst hqe
      go_wp2
      go_ret2
      refine ⟨_, rfl, ?_, hBw.out⟩
      unfold ownersL
      rw [HRL.out]
      have := hO.out
      rw [List.take_length] at this
      exact World.ownsRow.mono this hbx
end Go.Proofs.YtmkkllfpdoeojaaDoor
