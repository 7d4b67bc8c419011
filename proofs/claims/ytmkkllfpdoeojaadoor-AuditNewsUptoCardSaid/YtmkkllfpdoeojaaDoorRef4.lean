/- granaryref6.dealt, Check: for every definition that is read. -/
import Derived.Test.YtmkkllfpdoeojaaDoorRef2
import Derived.Test.YtmkkllfpdoeojaaDoorRef3
namespace Go.Proofs.YtmkkllfpdoeojaaDoor
open Go.RowKit
set_option linter.unusedVariables false

noncomputable def validB (ns : List Nd) : Bool := @decide (Valid ns) (Classical.propDecidable _)
theorem validB_true {ns : List Nd} (h : Valid ns) : validB ns = true := by unfold validB; exact @decide_eq_true _ (Classical.propDecidable _) h
theorem validB_false {ns : List Nd} (h : ¬ Valid ns) : validB ns = false := by unfold validB; exact @decide_eq_false _ (Classical.propDecidable _) h
def Str (xs : List Int) : Prop := ∀ j, j + 1 < xs.length → xs.getD j 0 < xs.getD (j + 1) 0
theorem count_upto (P : Nat) (j : Nat) (h : j < P) : (upto P).count (j : Int) = 1 := by
  have h1 := List.count_pos_iff.2 (mem_upto.2 (⟨by omega, by omega⟩ : 0 ≤ (j : Int) ∧ (j : Int) < P))
  have h2 := List.nodup_iff_count.1 (upto_nodup P) (j : Int)
  omega
theorem Valid.count {ns : List Nd} (h : Valid ns) {j : Nat} (hj : j < cnt ns) : (flat ns).count (j : Int) = 1 := by
  rw [h.2.2.1.count_eq]
  exact count_upto _ _ hj
theorem parts_nodup {ns : List Nd} (h : (flat ns).Nodup) {x : Nd} (hx : x ∈ ns) : x.parts.Nodup := by
  induction ns with
  | nil => simp at hx
  | cons y ys ih =>
    rw [flat_cons] at h
    rcases List.mem_cons.1 hx with rfl | hx
    · exact (List.nodup_append.1 h).1
    · exact ih (List.nodup_append.1 h).2.1 hx
theorem nodup_getD {xs : List Int} (h : xs.Nodup) {j : Nat} (hj : j + 1 < xs.length) : xs.getD j 0 ≠ xs.getD (j + 1) 0 := by
  rw [List.getD_eq_getElem?_getD, List.getD_eq_getElem?_getD, List.getElem?_eq_getElem hj, List.getElem?_eq_getElem (by omega : j < xs.length)]
  intro e
  have := (List.getElem_inj h).1 e
  omega
theorem Valid.str {ns : List Nd} (h : Valid ns) {x : Nd} (hx : x ∈ ns) : Str x.parts := fun j hj => by
  have h1 := h.2.2.2 x hx j hj
  have h2 := nodup_getD (parts_nodup (h.2.2.1.nodup_iff.2 (upto_nodup _)) hx) hj
  omega
theorem valid_of {ns : List Nd} (h1 : 1 ≤ cnt ns) (h2 : cnt ns ≤ 64) (hc : ∀ j : Nat, j < cnt ns → (flat ns).count (j : Int) = 1) (hs : ∀ x ∈ ns, Str x.parts) : Valid ns := by
  refine ⟨h1, h2, perm_of _ _ (upto_nodup _) (fun x hx => ?_) (by rw [upto_length, cnt_flat]; exact Nat.le_refl _), fun x hx j hj => Int.le_of_lt (hs x hx j hj)⟩
  have hm := mem_upto.1 hx
  have := hc x.toNat (by omega)
  rw [Int.toNat_of_nonneg hm.1] at this
  exact List.count_pos_iff.1 (by omega)

set_option maxRecDepth 100000 in
set_option maxHeartbeats 1600000 in
theorem dealt_any (c : Clu) (A : Option Addr) (n cp : Nat) (w : World) (hN : RdN w A n c.nodes) (hc : cnt c.nodes ≤ 4611686018427387904) :
    Calls Tryd.prog 37 #[.agg (c.cells (.slice A n cp))] w fun e w' => e = .returned (.bool (validB c.nodes)) ∧ Below w.heap.size w w' := by
  have hnl : c.nodes.length = n := hN.1
  have hn63 := hN.2.1
  go_enter Tryd.func37, Tryd.ntmps37
  go_wp2_with (first
    | ((with_reducible refine box_arm (P := Tryd.prog) rfl 24 (.tmp 0) rfl _ (c.cells (.slice A n cp)) rfl rfl ?_); intro w1 hbk hb1 hs1; have HBk := Hid.mk' hbk; have HB1 := Hid.mk' hb1; have Hs1 := Hid.mk' hs1; clear hbk hb1 hs1)
    | (refine wpList_load_row rfl 24 _ rfl w.heap.size rfl 24 _ (0, 0) _ HBk.out Tryd.underlying24 rfl info_clu ?_)
    | (go_at_call 38; refine (parts_any c A n cp _ (by exact hN.below HB1.out) hc).mono ?_; rintro e w2 ⟨rfl, hb⟩; have HB2 := Hid.mk' hb; have Hs2 := Hid.mk' hb.size; have HBk2 := Hid.mk' (HBk.out.below hb HBk.out.lt); clear hb))
  · have hbad : (cnt c.nodes : Int) < 1 ∨ 64 < (cnt c.nodes : Int) := by omega
    have hv := Hid.mk' (validB_false (ns := c.nodes) fun h => by have := h.1; have := h.2.1; omega)
    go_ret
    exact ⟨by rw [hv.out]; rfl, below_then HB1.out (by have := Hs1.out; omega) HB2.out⟩
  · have hP1 : 1 ≤ cnt c.nodes := by omega
    have hP2 : cnt c.nodes ≤ 64 := by omega
    have hBw2 := Hid.mk' (show Below w.heap.size w w2 from below_then HB1.out (by have := Hs1.out; omega) HB2.out)
    have hN2 := Hid.mk' (hN.below hBw2.out)
    have hs2 := HBk2.out.lt
    clear hN HB2 HB1 Hs1 HBk Hs2
    obtain ⟨P, hPe⟩ : ∃ k, cnt c.nodes = k := ⟨_, rfl⟩
    rw [hPe] at hP1 hP2
    rw [hPe]
    have HP := Hid.mk' hPe
    clear hPe
    go_loopg [4] P (fun k i wr => ∃ q : Nat, i = .int .i64 q ∧ q ≤ P ∧ k = P - q ∧ Hid (∀ j : Nat, j < q → (flat c.nodes).count (j : Int) = 1) ∧ Hid (Below w2.heap.size w2 wr))
    case atStart => exact ⟨0, rfl, by omega, rfl, fun j hj => absurd hj (by omega), Below.refl _ _⟩
    case round =>
      obtain ⟨q, rfl, hq, hk, hC, hB⟩ := hrel
      subst hk
      have hBw := Hid.mk' (show Below w.heap.size w wr from below_then hBw2.out (Nat.le_of_lt hs2) hB.out)
      have hBk := Hid.mk' (HBk2.out.below hB.out hs2)
      by_cases hlt : q < P
      · by_cases hone : (flat c.nodes).count (q : Int) = 1
        · have hne : ((((flat c.nodes).count (q : Int) : Nat) : Int) != 1) = false := by simp [hone]
          have hC' := Hid.mk' (show ∀ j : Nat, j < q + 1 → (flat c.nodes).count (j : Int) = 1 from fun j hj => by
            by_cases e : j = q
            · subst e; exact hone
            · exact hC.out j (by omega))
          clear hone
          go_wp2_with (first
            | (refine wpList_load_row rfl 24 _ rfl w.heap.size rfl 24 _ (0, 0) _ hBk.out Tryd.underlying24 rfl info_clu ?_)
            | (go_at_call 62; refine (times_any c _ A n cp _ (by exact hN2.out.below hB.out) hc).mono ?_; rintro e w4 ⟨rfl, hb⟩; have HB4 := Hid.mk' hb; clear hb))
          go_roundg (P - (q + 1))
          case measure => omega
          case rel => exact ⟨q + 1, by go_num, by omega, rfl, hC', below_then hB.out hB.out.size HB4.out⟩
        · have hne : ((((flat c.nodes).count (q : Int) : Nat) : Int) != 1) = true := by simp; omega
          have hv := Hid.mk' (validB_false (ns := c.nodes) fun h => hone (h.count (by rw [HP.out]; exact hlt)))
          clear hone
          go_wp2_with (first
            | (refine wpList_load_row rfl 24 _ rfl w.heap.size rfl 24 _ (0, 0) _ hBk.out Tryd.underlying24 rfl info_clu ?_)
            | (go_at_call 62; refine (times_any c _ A n cp _ (by exact hN2.out.below hB.out) hc).mono ?_; rintro e w4 ⟨rfl, hb⟩; have HB4 := Hid.mk' hb; clear hb))
          go_ret
          exact ⟨by rw [hv.out]; rfl, below_then hBw.out hBw.out.size HB4.out⟩
      · have hqe : P = q := by omega
        subst hqe
        have c22 := Blk.cell hBk.out (Clu.cells_nodes c _)
        have hN3 := Hid.mk' (hN2.out.below hB.out)
        obtain ⟨w3, rfl⟩ : ∃ y : World, y = wr := ⟨_, rfl⟩
        go_wp2
        go_loopg [5] n (fun k i wr => ∃ q : Nat, i = .int .i64 q ∧ q ≤ n ∧ k = n - q ∧ Hid (∀ x ∈ c.nodes.take q, Str x.parts) ∧ Hid (∃ d, wr = w3.drewN d))
        case atStart => exact ⟨0, rfl, by omega, rfl, fun x hx => by simp at hx, ⟨0, rfl⟩⟩
        case round =>
          obtain ⟨q, rfl, hq, hk, hS, hd⟩ := hrel
          subst hk
          have c22' : wr.cell? ⟨w.heap.size, 22, none⟩ = some (.slice A n cp) := by obtain ⟨d, rfl⟩ := hd.out; exact c22
          by_cases hlt2 : q < n
          · obtain ⟨x, hx⟩ : ∃ x, c.nodes[q]? = some x := ⟨_, List.getElem?_eq_getElem (by omega)⟩
            obtain ⟨b, o, B, m, cm, hA, e1', e2', h3, h4⟩ := hN3.out.at hx
            subst hA
            have e2 : wr.cell? ⟨b, o + q * 2 + 1, none⟩ = some (.slice B m cm) := by obtain ⟨d, rfl⟩ := hd.out; exact e2'
            clear e1' e2'
            have H4 := Hid.mk' h4
            have HM := Hid.mk' h4.1
            have hm63 := h4.2.1
            clear h4
            have hS' := Hid.mk' (show Str x.parts → ∀ y ∈ c.nodes.take (q + 1), Str y.parts from fun h y hy => by
              rw [take_at hx] at hy
              rcases List.mem_append.1 hy with hy | hy
              · exact hS.out y hy
              · rw [List.mem_singleton.1 hy]; exact h)
            have hv := Hid.mk' (show ¬ Str x.parts → validB c.nodes = false from fun h => validB_false fun hh => h (hh.str (List.mem_of_getElem? hx)))
            obtain ⟨w4, rfl⟩ : ∃ y : World, y = wr := ⟨_, rfl⟩
            go_wp2
            go_loopg [7] (m - 1) (fun k i wr => ∃ r : Nat, i = .int .i64 r ∧ 1 ≤ r ∧ (r ≤ m ∨ r = 1) ∧ k = m - r ∧ Hid (∀ j, j + 1 < r → j + 1 < m → x.parts.getD j 0 < x.parts.getD (j + 1) 0) ∧ Hid (∃ d, wr = w3.drewN d))
            case atStart => exact ⟨1, rfl, by omega, by omega, rfl, fun j hj => absurd hj (by omega), hd⟩
            case round =>
              obtain ⟨r, rfl, hr1, hr2, hk, hR, hd2⟩ := hrel
              subst hk
              by_cases hlt3 : r < m
              · obtain ⟨j, rfl⟩ : ∃ j, r = j + 1 := ⟨r - 1, by omega⟩
                obtain ⟨b', o', hA', hp0⟩ := H4.out.at (j := j) (by omega)
                obtain ⟨b'', o'', hA'', hp1⟩ := H4.out.at (j := j + 1) hlt3
                rw [hA'] at hA''
                cases hA''
                subst hA'
                have f0 : wr.cell? ⟨b', o' + j, none⟩ = some (.int .i64 (x.parts.getD j 0)) := by obtain ⟨d, rfl⟩ := hd2.out; exact hp0
                have f1 : wr.cell? ⟨b', o' + (j + 1), none⟩ = some (.int .i64 (x.parts.getD (j + 1) 0)) := by obtain ⟨d, rfl⟩ := hd2.out; exact hp1
                clear hp0 hp1
                have hR' := Hid.mk' (show x.parts.getD j 0 < x.parts.getD (j + 1) 0 → ∀ i, i + 1 < j + 1 + 1 → i + 1 < m → x.parts.getD i 0 < x.parts.getD (i + 1) 0 from fun h i h1 h2 => by
                  by_cases e : i = j
                  · subst e; exact h
                  · exact hR.out i (by omega) h2)
                have hbad := Hid.mk' (show ¬ x.parts.getD j 0 < x.parts.getD (j + 1) 0 → validB c.nodes = false from fun h => hv.out fun hh => h (hh j (by have := HM.out; omega)))
                generalize x.parts.getD j 0 = x0 at *
                generalize x.parts.getD (j + 1) 0 = x1 at *
                go_wp2
                go_quiet (fail)
                go_wp2
                · have hx1 : x1 ≤ x0 := (by assumption)
                  go_ret
                  refine ⟨by rw [hbad.out (by omega)]; rfl, ?_⟩
                  obtain ⟨d, rfl⟩ := hd2.out
                  exact below_drewN (below_drewN hBw.out _) _
                · have hx1 : x0 < x1 := (by assumption)
                  go_roundg (m - (j + 1 + 1))
                  case measure => omega
                  case rel =>
                    refine ⟨j + 1 + 1, by go_num, by omega, by omega, rfl, hR'.out hx1, ?_⟩
                    obtain ⟨d, rfl⟩ := hd2.out
                    exact ⟨_, World.drewN_drewN ..⟩
              · have hst := Hid.mk' (hS'.out fun j hj => hR.out j (by have := HM.out; omega) (by have := HM.out; omega))
                go_wp2
                go_roundg (n - (q + 1))
                case measure => omega
                case rel => exact ⟨q + 1, by go_num, by omega, rfl, hst, hd2⟩
          · have hqe : n = q := by omega
            subst hqe
            have ht : c.nodes.take n = c.nodes := by rw [← hnl]; exact List.take_length
            rw [ht] at hS
            have hv := Hid.mk' (validB_true (valid_of (ns := c.nodes) (by rw [HP.out]; exact hP1) (by rw [HP.out]; exact hP2) (by rw [HP.out]; exact hC.out) hS.out))
            go_wp2
            go_ret
            refine ⟨by rw [hv.out]; rfl, ?_⟩
            obtain ⟨d, rfl⟩ := hd.out
            exact below_drewN hBw.out _
  · have hv := Hid.mk' (validB_false (ns := c.nodes) fun h => by have := h.1; omega)
    go_ret
    exact ⟨by rw [hv.out]; rfl, below_then HB1.out (by have := Hs1.out; omega) HB2.out⟩
end Go.Proofs.YtmkkllfpdoeojaaDoor
