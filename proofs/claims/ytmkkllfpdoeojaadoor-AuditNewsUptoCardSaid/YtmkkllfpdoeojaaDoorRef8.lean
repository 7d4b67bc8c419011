/- granaryref6.Holds: for every definition that Check lets by, every node of it. -/
import Derived.Test.YtmkkllfpdoeojaaDoorRef7
namespace Go.Proofs.YtmkkllfpdoeojaaDoor
open Go.RowKit Go.Sort
set_option linter.unusedVariables false

theorem ownersL_getD (home : List Nat) (part reps m : Nat) (hm : m < (ownersL home part reps).length) : (ownersL home part reps).getD m 0 = home.getD ((roundF home part reps).getD m 0) 0 := by
  have hm' : m < (roundF home part reps).length := by rwa [ownersL_length] at hm
  simp [ownersL, List.getD, hm']
theorem pick_owner (home : List Nat) (node : Int) (part reps m : Nat) (hm : m < (ownersL home part reps).length) :
    pick home node part 0 ((roundF home part reps).take (m + 1)) = pick home node part 0 ((roundF home part reps).take m) ++ (if (((ownersL home part reps).getD m 0 : Nat) : Int) = node then [(part, m)] else []) := by
  rw [ownersL_getD home part reps m hm]
  have hm' : m < (roundF home part reps).length := by rwa [ownersL_length] at hm
  have hrm : (roundF home part reps)[m]? = some ((roundF home part reps).getD m 0) := by rw [List.getD_eq_getElem?_getD, List.getElem?_eq_getElem hm']; rfl
  rw [List.take_add_one, hrm]
  simp only [Option.toList]
  rw [pick_append]
  simp [pick, List.length_take, Nat.min_eq_left (Nat.le_of_lt hm')]

set_option maxRecDepth 100000 in
set_option maxHeartbeats 1600000 in
theorem refHolds_any (c : Clu) (hE : checkE c = 0) (node : Nat) (A : Option Addr) (n cp : Nat) (hnd : node < n) (w : World) (h : CluIn c A n cp w) :
    Calls Tryd.prog 27 #[.agg (c.cells (.slice A n cp)), .int .i64 (node : Int)] w fun e w' => ∃ v, e = .returned (.tuple #[v, .int .i64 0]) ∧ OwnS w' w.heap.size v (holdsL (homeL c.nodes) c.s1.toNat node) ∧ Below w.heap.size w w' := by
  have hn63 := h.nodes.2.1
  obtain ⟨reps, hr, hr1, hr16, hrn⟩ := s1_nat hE
  have HR := Hid.mk' hr
  have HRN := Hid.mk' hrn
  have hv := (checkE_zero hE).1
  have hP2 := hv.2.1
  have HE := Hid.mk' hE
  clear hr hrn hE hv
  have d1 : decide (n ≤ node) = false := decide_eq_false (by omega)
  have d2 : decide ((node : Int) < 0) = false := decide_eq_false (by omega)
  go_enter Tryd.func27, Tryd.ntmps27
  go_wp2_with (first
    | ((with_reducible refine box_arm (P := Tryd.prog) rfl 24 (.tmp 0) rfl _ (c.cells (.slice A n cp)) rfl rfl ?_); intro w1 hbk hb1 hs1; have HBk := Hid.mk' hbk; have HB1 := Hid.mk' hb1; have Hs1 := Hid.mk' hs1; clear hbk hb1 hs1)
    | (go_at_call 9; refine (refCheck_is c 0 HE.out A n cp _ (by exact h.below HB1.out)).mono ?_; rintro e w2 ⟨rfl, hb⟩; have HBk2 := Hid.mk' (HBk.out.below hb HBk.out.lt); have HBw2 := Hid.mk' (below_then HB1.out (by have := Hs1.out; omega) hb); have c22 := HBk2.out.cell (Clu.cells_nodes c _); clear hb)
    | (refine load_row_g 24 (.tmp 2) rfl rfl w.heap.size rfl 24 _ (0, 0) _ HBk.out Tryd.underlying24 rfl info_clu ?_))
  clear c22
  try simp only [d1, d2, Bool.or_self]
  clear d1 d2
  have hbx := Nat.le_of_lt HBk2.out.lt
  have hcl := homeL_length c.nodes
  obtain ⟨P, hPe⟩ : ∃ k, cnt c.nodes = k := ⟨_, rfl⟩
  rw [hPe] at hcl hP2
  have HP := Hid.mk' hPe
  clear hPe
  go_loopg [7, 8] P (fun k v i wr => ∃ q : Nat, i = .int .i64 q ∧ q ≤ P ∧ k = P - q ∧ Hid (OwnS wr w2.heap.size v (holdsTo (homeL c.nodes) reps node q)) ∧ Hid (Below w2.heap.size w2 wr))
  case atStart => exact ⟨0, rfl, by omega, rfl, OwnS.nil _ _, Below.refl _ _⟩
  case round =>
    obtain ⟨q, rfl, hq, hk, hO, hB⟩ := hrel
    subst hk
    have hBk4 := Hid.mk' (HBk2.out.below hB.out HBk2.out.lt)
    have hBw := Hid.mk' (show Below w.heap.size w wr from below_then HBw2.out (Nat.le_of_lt HBk2.out.lt) hB.out)
    have h4 := Hid.mk' (h.below hBw.out)
    obtain ⟨w3, rfl⟩ : ∃ y : World, y = wr := ⟨_, rfl⟩
    by_cases hlt : q < P
    · have hsz := hB.out.size
      have hll := holdsTo_length (homeL c.nodes) reps node q
      have hll2 : (holdsTo (homeL c.nodes) reps node q).length ≤ 1024 := Nat.le_trans hll (Nat.le_trans (Nat.mul_le_mul (show q ≤ 64 by omega) (show reps ≤ 16 by omega)) (by decide))
      clear hll
      have hsc := Hid.mk' (holdsTo_succ (homeL c.nodes) reps node q)
      go_wp2_with (first
        | (refine load_row_g 24 (.tmp 2) rfl rfl w.heap.size rfl 24 _ (0, 0) _ hBk4.out Tryd.underlying24 rfl info_clu ?_)
        | (refine load_row_g 24 (.tmp 2) rfl rfl w.heap.size rfl 24 _ (0, 0) _ hBk5.out Tryd.underlying24 rfl info_clu ?_)
        | (go_at_call 38; refine (parts_any c A n cp _ (by exact h4.out.nodes) (by rw [HP.out]; omega)).mono ?_; rintro e w5 ⟨rfl, hb⟩; rw [HP.out]; have HB5 := Hid.mk' hb; have hBk5 := Hid.mk' (hBk4.out.below hb hBk4.out.lt); clear hb)
        | (go_at_call 54; refine (refOwners_any c HE.out q reps HR.out hr16 (by rw [HP.out]; exact hlt) A n cp _ (by exact h4.out.below HB5.out)).mono ?_; rintro e w6 ⟨v6, rfl, ho, hb⟩; have HB6 := Hid.mk' hb; have HO6 := Hid.mk' ho; obtain ⟨A6, c6, hsh⟩ := ho.shape; subst hsh; clear ho hb))
      rw [ints_length] at *
      have hB6 := Hid.mk' (below_then hB.out hsz (HB5.out.trans (HB6.out.mono HB5.out.size)))
      have hO6 := Hid.mk' (hO.out.below (HB5.out.trans (HB6.out.mono HB5.out.size)))
      have hol := ownersL_length (homeL c.nodes) q reps
      have hrl := roundF_length (homeL c.nodes) q reps
      have hpo := Hid.mk' (pick_owner (homeL c.nodes) node q reps)
      have hpl := Hid.mk' (fun m => Nat.le_trans (pick_length (homeL c.nodes) node q 0 ((roundF (homeL c.nodes) q reps).take m)) (List.length_take_le _ _))
      have hpe := Hid.mk' (show pick (homeL c.nodes) node q 0 ((roundF (homeL c.nodes) q reps).take (ownersL (homeL c.nodes) q reps).length) = pick (homeL c.nodes) node q 0 (roundF (homeL c.nodes) q reps) by rw [hol, List.take_length])
      rw [← hol] at hrl
      clear hol
      generalize ownersL (homeL c.nodes) q reps = ol at *
      generalize holdsTo (homeL c.nodes) reps node q = acc at *
      generalize roundF (homeL c.nodes) q reps = rs at *
      generalize homeL c.nodes = home at *
      go_loopg [7, 11] ol.length (fun k v j wr => ∃ m : Nat, j = .int .i64 m ∧ m ≤ ol.length ∧ k = ol.length - m ∧ Hid (OwnS wr w2.heap.size v (acc ++ pick home node q 0 (rs.take m))) ∧ Hid (Own wr w5.heap.size (.slice A6 ol.length c6) (ints ol)) ∧ Hid (Below w2.heap.size w2 wr))
      case atStart => exact ⟨0, rfl, by omega, rfl, Hid.mk' (by simpa [pick] using hO6.out), HO6, hB6⟩
      case round =>
        obtain ⟨m, rfl, hm, hk, hO7, hO8, hB7⟩ := hrel
        subst hk
        have hsz7 := hB7.out.size
        by_cases hm' : m < ol.length
        · obtain ⟨g, rfl, hc7⟩ := hO8.out.cells (show m < (ints ol).length by rw [ints_length]; exact hm')
          rw [ints_getD] at hc7
          have hpick := Hid.mk' (hpo.out m hm')
          have hpl3 := hpl.out m
          generalize ol.getD m 0 = hp at *
          by_cases heq : (hp : Int) = (node : Int)
          · have hbe : ((hp : Int) == (node : Int)) = true := by simp [heq]
            have hpick' := Hid.mk' (show acc ++ pick home node q 0 (rs.take (m + 1)) = (acc ++ pick home node q 0 (rs.take m)) ++ [(q, m)] from by rw [hpick.out, if_pos heq, List.append_assoc])
            have hql : (acc ++ pick home node q 0 (rs.take m)).length ≤ 2048 := by rw [List.length_append]; omega
            clear hpick heq hpl3
            generalize acc ++ pick home node q 0 (rs.take m) = acc' at *
            go_wp2_with (at_builtin; refine app_slot (W := wr) (w0 := w2) w2.heap.size rfl (.tmp 50) (.tmp 54) rfl _ acc' q m rfl rfl hO7.out hB7.out hsz7 (by omega) ?_; intro v8 w8 hO8' hB8 hg8; have HO9 := Hid.mk' hO8'; have HB8 := Hid.mk' hB8; have HG8 := Hid.mk' hg8; clear hO8' hB8 hg8)
            go_roundg (ol.length - (m + 1))
            case measure => omega
            case rel =>
              refine ⟨m + 1, by go_num, by omega, rfl, ?_, ?_, HB8⟩
              · rw [hpick'.out]; exact HO9
              · exact World.ownsRow.kept hO8.out HG8.out (own_type_ne hO8.out hO7.out (by decide))
          · have hbe : ((hp : Int) == (node : Int)) = false := by simp [heq]
            have hpick' := Hid.mk' (show acc ++ pick home node q 0 (rs.take (m + 1)) = acc ++ pick home node q 0 (rs.take m) from by rw [hpick.out, if_neg heq, List.append_nil])
            clear hpick heq
            go_wp2
            go_roundg (ol.length - (m + 1))
            case measure => omega
            case rel =>
              refine ⟨m + 1, by go_num, by omega, rfl, ?_, hO8, hB7⟩
              rw [hpick'.out]; exact hO7
        · have hme : m = ol.length := by omega
          subst hme
          have hO9 : Hid (OwnS wr w2.heap.size u7 (holdsTo home reps node (q + 1))) := by
            rw [hsc.out]
            have := hO7.out
            rwa [hpe.out] at this
          go_wp2
          go_roundg (P - (q + 1))
          case measure => omega
          case rel => exact ⟨q + 1, by go_num, by omega, rfl, hO9, hB7⟩
    · have hqe : P = q := by omega
      subst hqe
      go_wp2_with (first
        | (refine load_row_g 24 (.tmp 2) rfl rfl w.heap.size rfl 24 _ (0, 0) _ hBk4.out Tryd.underlying24 rfl info_clu ?_)
        | (go_at_call 38; refine (parts_any c A n cp _ (by exact h4.out.nodes) (by rw [HP.out]; omega)).mono ?_; rintro e w5 ⟨rfl, hb⟩; rw [HP.out]; have HB5 := Hid.mk' hb; clear hb))
      go_ret2
      refine ⟨_, rfl, ?_, below_then hBw.out (Nat.le_of_lt hBk4.out.lt) HB5.out⟩
      rw [HRN.out]
      unfold holdsL
      rw [hcl]
      exact World.ownsRow.mono (hO.out.below HB5.out) hbx
end Go.Proofs.YtmkkllfpdoeojaaDoor
