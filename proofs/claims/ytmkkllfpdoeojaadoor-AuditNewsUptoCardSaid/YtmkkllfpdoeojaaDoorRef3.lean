/- granaryref6.Parts, times, Home: for every definition that is read. -/
import Derived.Test.YtmkkllfpdoeojaaDoorQuiet
import Derived.Test.YtmkkllfpdoeojaaDoorPure1
namespace Go.Proofs.YtmkkllfpdoeojaaDoor
open Go.RowKit
set_option linter.unusedVariables false

theorem cnt_take_le (ns : List Nd) : ∀ k, cnt (ns.take k) ≤ cnt ns := by
  induction ns with
  | nil => intro k; simp [cnt]
  | cons x xs ih =>
    intro k
    cases k with
    | zero => simp [cnt]
    | succ k => simp only [List.take_succ_cons, cnt]; have := ih k; omega
set_option maxRecDepth 100000 in
set_option maxHeartbeats 1600000 in
theorem parts_any (c : Clu) (A : Option Addr) (n cp : Nat) (w : World) (hN : RdN w A n c.nodes) (hc : cnt c.nodes ≤ 4611686018427387904) :
    Calls Tryd.prog 38 #[.agg (c.cells (.slice A n cp))] w fun e w' => e = .returned (.int .i64 (cnt c.nodes)) ∧ Below w.heap.size w w' := by
  have hnl : c.nodes.length = n := hN.1
  have hn63 := hN.2.1
  go_enter Tryd.func38, Tryd.ntmps38
  go_wp2_with ((with_reducible refine box_arm (P := Tryd.prog) rfl 24 (.tmp 0) rfl _ (c.cells (.slice A n cp)) rfl rfl ?_); intro w1 hbk hb1 hs1; have HBk := Hid.mk' hbk; have HB1 := Hid.mk' hb1; have c22 := Blk.cell hbk (Clu.cells_nodes c _); clear hbk hb1 hs1)
  have hN1 := Hid.mk' (hN.below HB1.out)
  clear hN
  go_loopg [3, 4] n (fun k s i wr => ∃ q : Nat, i = .int .i64 q ∧ q ≤ n ∧ k = n - q ∧ s = .int .i64 (cnt (c.nodes.take q)) ∧ Hid (wr = w1))
  case atStart => exact ⟨0, rfl, by omega, rfl, rfl, rfl⟩
  case round =>
    obtain ⟨q, rfl, hq, hk, rfl, hB⟩ := hrel
    subst hk
    obtain rfl := hB.out
    by_cases hlt : q < n
    · obtain ⟨x, hx⟩ : ∃ x, c.nodes[q]? = some x := ⟨_, List.getElem?_eq_getElem (by omega)⟩
      obtain ⟨b, o, B, m, cm, hA, h1, h2, h3, h4⟩ := hN1.out.at hx
      subst hA
      have HM := Hid.mk' h4.1
      have hcnt := Hid.mk' (cnt_drop hx)
      have hle := cnt_take_le c.nodes q
      have hle2 : cnt (c.nodes.take q) + m ≤ 4611686018427387904 := by
        have e1 := cnt_take_le c.nodes (q + 1)
        have e2 := hcnt.out
        have e3 := h4.1
        omega
      clear h4 hle
      generalize cnt (c.nodes.take q) = cq at *
      go_wp2
      go_roundg (n - (q + 1))
      case measure => omega
      case rel =>
        refine ⟨q + 1, by go_num, by omega, rfl, ?_, rfl⟩
        rw [hcnt.out, HM.out]
        go_num
    · have hqe : n = q := by omega
      subst hqe
      have ht : c.nodes.take n = c.nodes := by rw [← hnl]; exact List.take_length
      rw [ht]
      go_wp2
      go_ret
      exact ⟨rfl, HB1.out⟩

theorem flat_take {ns : List Nd} {q : Nat} {x : Nd} (h : ns[q]? = some x) : flat (ns.take (q + 1)) = flat (ns.take q) ++ x.parts := by
  unfold flat
  rw [List.take_add_one, h]
  simp
theorem take_at {α : Type} {l : List α} {m : Nat} {y : α} (h : l[m]? = some y) : l.take (m + 1) = l.take m ++ [y] := by
  rw [List.take_add_one, h]; rfl
theorem getD_at {l : List Int} {m : Nat} (h : m < l.length) : l[m]? = some (l.getD m 0) := by
  rw [List.getD_eq_getElem?_getD, List.getElem?_eq_getElem h]; rfl
set_option maxRecDepth 100000 in
set_option maxHeartbeats 1600000 in
theorem times_any (c : Clu) (p : Int) (A : Option Addr) (n cp : Nat) (w : World) (hN : RdN w A n c.nodes) (hc : cnt c.nodes ≤ 4611686018427387904) :
    Calls Tryd.prog 62 #[.agg (c.cells (.slice A n cp)), .int .i64 p] w fun e w' => e = .returned (.int .i64 ((flat c.nodes).count p : Nat)) ∧ Below w.heap.size w w' := by
  have hnl : c.nodes.length = n := hN.1
  have hn63 := hN.2.1
  go_enter Tryd.func62, Tryd.ntmps62
  go_wp2_with ((with_reducible refine box_arm (P := Tryd.prog) rfl 24 (.tmp 0) rfl _ (c.cells (.slice A n cp)) rfl rfl ?_); intro w1 hbk hb1 hs1; have HBk := Hid.mk' hbk; have HB1 := Hid.mk' hb1; have c22 := Blk.cell hbk (Clu.cells_nodes c _); clear hbk hb1 hs1)
  have hN1 := Hid.mk' (hN.below HB1.out)
  clear hN
  go_loopg [5, 6] n (fun k s i wr => ∃ q : Nat, i = .int .i64 q ∧ q ≤ n ∧ k = n - q ∧ s = .int .i64 ((flat (c.nodes.take q)).count p : Nat) ∧ Hid (wr = w1))
  case atStart => exact ⟨0, rfl, by omega, rfl, by simp [flat], rfl⟩
  case round =>
    obtain ⟨q, rfl, hq, hk, rfl, hB⟩ := hrel
    subst hk
    obtain rfl := hB.out
    by_cases hlt : q < n
    · obtain ⟨x, hx⟩ : ∃ x, c.nodes[q]? = some x := ⟨_, List.getElem?_eq_getElem (by omega)⟩
      obtain ⟨b, o, B, m, cm, hA, h1, h2, h3, h4⟩ := hN1.out.at hx
      subst hA
      have HM := Hid.mk' h4.1
      have H4 := Hid.mk' h4
      have hm63 := h4.2.1
      have hft := Hid.mk' (flat_take hx)
      have hle2 : (flat (c.nodes.take q)).count p + m ≤ 4611686018427387904 := by
        have e1 := cnt_take_le c.nodes (q + 1)
        have e2 := cnt_drop hx
        have e3 := h4.1
        have e4 := List.count_le_length (a := p) (l := flat (c.nodes.take q))
        have e5 := cnt_flat (c.nodes.take q)
        omega
      clear h4
      obtain ⟨cq, hcqe⟩ : ∃ k, (flat (c.nodes.take q)).count p = k := ⟨_, rfl⟩
      rw [hcqe] at hle2
      rw [hcqe]
      have hcq := Hid.mk' hcqe
      clear hcqe
      obtain ⟨w2, rfl⟩ : ∃ y : World, y = wr := ⟨_, rfl⟩
      go_wp2
      go_loopg [5, 7] m (fun k s i wr => ∃ r : Nat, i = .int .i64 r ∧ r ≤ m ∧ k = m - r ∧ s = .int .i64 ((cq + (x.parts.take r).count p : Nat) : Int) ∧ Hid (wr = w2))
      case atStart => exact ⟨0, rfl, by omega, rfl, by simp, rfl⟩
      case round =>
        obtain ⟨r, rfl, hr, hk, rfl, hB⟩ := hrel
        subst hk
        obtain rfl := hB.out
        by_cases hlt2 : r < m
        · obtain ⟨b', o', hA', hp⟩ := H4.out.at hlt2
          subst hA'
          have hcl := List.count_le_length (a := p) (l := x.parts.take r)
          have hcl2 : (x.parts.take r).length ≤ r := List.length_take_le _ _
          have htk := Hid.mk' (take_at (getD_at (l := x.parts) (m := r) (by have := HM.out; omega)))
          generalize x.parts.getD r 0 = y at *
          by_cases hy : y = p
          · have hye : (y == p) = true := by simp [hy]
            have hcn := Hid.mk' (show (x.parts.take (r + 1)).count p = (x.parts.take r).count p + 1 by rw [htk.out, hy]; simp)
            clear hy htk
            generalize (x.parts.take r).count p = cr at *
            go_wp2
            go_roundg (m - (r + 1))
            case measure => omega
            case rel =>
              refine ⟨r + 1, by go_num, by omega, rfl, ?_, rfl⟩
              rw [hcn.out]
              go_num
          · have hye : (y == p) = false := by simp [hy]
            have hcn := Hid.mk' (show (x.parts.take (r + 1)).count p = (x.parts.take r).count p by rw [htk.out, List.count_append]; simp [hy])
            clear hy htk
            generalize (x.parts.take r).count p = cr at *
            go_wp2
            go_roundg (m - (r + 1))
            case measure => omega
            case rel =>
              refine ⟨r + 1, by go_num, by omega, rfl, ?_, rfl⟩
              rw [hcn.out]
              go_num
        · have hre : m = r := by omega
          subst hre
          have hft2 := Hid.mk' (show (flat (c.nodes.take (q + 1))).count p = cq + (x.parts.take m).count p by
            rw [hft.out, List.count_append, hcq.out, show x.parts.take m = x.parts from List.take_of_length_le (by have := HM.out; omega)])
          go_wp2
          go_roundg (n - (q + 1))
          case measure => omega
          case rel =>
            refine ⟨q + 1, by go_num, by omega, rfl, ?_, rfl⟩
            rw [hft2.out]
            go_num
    · have hqe : n = q := by omega
      subst hqe
      have ht : c.nodes.take n = c.nodes := by rw [← hnl]; exact List.take_length
      rw [ht]
      go_wp2
      go_ret
      exact ⟨rfl, HB1.out⟩

def homeI (ns : List Nd) (p : Int) : Int := if p ∈ flat ns then (homeN ns p : Nat) else -1
theorem homeN_at {ns : List Nd} {p : Int} : ∀ {q : Nat} {x : Nd}, ns[q]? = some x → p ∉ flat (ns.take q) → p ∈ x.parts → homeN ns p = q := by
  induction ns with
  | nil => intro q x h; simp at h
  | cons y ys ih =>
    intro q x h hn hp
    cases q with
    | zero => simp at h; subst h; simp [homeN, hp]
    | succ q =>
      simp at h
      rw [List.take_succ_cons, flat_cons] at hn
      have h1 : p ∉ y.parts := fun hh => hn (List.mem_append_left _ hh)
      rw [homeN, if_neg h1, ih h (fun hh => hn (List.mem_append_right _ hh)) hp]
      omega
theorem mem_flat_at {ns : List Nd} {q : Nat} {x : Nd} {p : Int} (h : ns[q]? = some x) (hp : p ∈ x.parts) : p ∈ flat ns := by
  unfold flat
  rw [List.mem_flatMap]
  exact ⟨x, List.mem_of_getElem? h, hp⟩
theorem mem_at {l : List Int} {m : Nat} (h : m < l.length) : l.getD m 0 ∈ l := List.mem_of_getElem? (getD_at h)
set_option maxRecDepth 100000 in
set_option maxHeartbeats 1600000 in
theorem home_any (c : Clu) (p : Int) (A : Option Addr) (n cp : Nat) (w : World) (hN : RdN w A n c.nodes) :
    Calls Tryd.prog 71 #[.agg (c.cells (.slice A n cp)), .int .i64 p] w fun e w' => e = .returned (.int .i64 (homeI c.nodes p)) ∧ Below w.heap.size w w' := by
  have hnl : c.nodes.length = n := hN.1
  have hn63 := hN.2.1
  go_enter Tryd.func71, Tryd.ntmps71
  go_wp2_with ((with_reducible refine box_arm (P := Tryd.prog) rfl 24 (.tmp 0) rfl _ (c.cells (.slice A n cp)) rfl rfl ?_); intro w1 hbk hb1 hs1; have HBk := Hid.mk' hbk; have HB1 := Hid.mk' hb1; have c22 := Blk.cell hbk (Clu.cells_nodes c _); clear hbk hb1 hs1)
  have hN1 := Hid.mk' (hN.below HB1.out)
  clear hN
  go_loopg [5] n (fun k i wr => ∃ q : Nat, i = .int .i64 q ∧ q ≤ n ∧ k = n - q ∧ Hid (p ∉ flat (c.nodes.take q)) ∧ Hid (wr = w1))
  case atStart => exact ⟨0, rfl, by omega, rfl, by simp [flat, Hid], rfl⟩
  case round =>
    obtain ⟨q, rfl, hq, hk, hF, hB⟩ := hrel
    subst hk
    obtain rfl := hB.out
    by_cases hlt : q < n
    · obtain ⟨x, hx⟩ : ∃ x, c.nodes[q]? = some x := ⟨_, List.getElem?_eq_getElem (by omega)⟩
      obtain ⟨b, o, B, m, cm, hA, h1, h2, h3, h4⟩ := hN1.out.at hx
      subst hA
      have HM := Hid.mk' h4.1
      have H4 := Hid.mk' h4
      have hm63 := h4.2.1
      have hft := Hid.mk' (flat_take hx)
      have hyes := Hid.mk' (show p ∈ x.parts → homeI c.nodes p = q from fun h => by unfold homeI; rw [if_pos (mem_flat_at hx h), homeN_at hx hF.out h])
      clear h4
      obtain ⟨w2, rfl⟩ : ∃ y : World, y = wr := ⟨_, rfl⟩
      go_wp2
      go_loopg [6] m (fun k i wr => ∃ r : Nat, i = .int .i64 r ∧ r ≤ m ∧ k = m - r ∧ Hid (p ∉ x.parts.take r) ∧ Hid (wr = w2))
      case atStart => exact ⟨0, rfl, by omega, rfl, by simp [Hid], rfl⟩
      case round =>
        obtain ⟨r, rfl, hr, hk, hG, hB⟩ := hrel
        subst hk
        obtain rfl := hB.out
        by_cases hlt2 : r < m
        · obtain ⟨b', o', hA', hp⟩ := H4.out.at hlt2
          subst hA'
          have hmem := Hid.mk' (mem_at (l := x.parts) (m := r) (by have := HM.out; omega))
          have htk := Hid.mk' (take_at (getD_at (l := x.parts) (m := r) (by have := HM.out; omega)))
          generalize x.parts.getD r 0 = y at *
          by_cases hy : y = p
          · have hye : (y == p) = true := by simp [hy]
            have hr := Hid.mk' (hyes.out (hy ▸ hmem.out))
            clear hy
            go_wp2
            go_ret
            exact ⟨by rw [hr.out]; rfl, HB1.out⟩
          · have hye : (y == p) = false := by simp [hy]
            have hcn := Hid.mk' (show p ∉ x.parts.take (r + 1) by
              rw [htk.out]
              intro h
              rcases List.mem_append.1 h with h | h
              · exact hG.out h
              · exact hy (List.mem_singleton.1 h).symm)
            clear hy
            go_wp2
            go_roundg (m - (r + 1))
            case measure => omega
            case rel => exact ⟨r + 1, by go_num, by omega, rfl, hcn, rfl⟩
        · have hre : m = r := by omega
          subst hre
          have hft2 := Hid.mk' (show p ∉ flat (c.nodes.take (q + 1)) by
            rw [hft.out]
            intro h
            rcases List.mem_append.1 h with h | h
            · exact hF.out h
            · exact hG.out (by rw [show x.parts.take m = x.parts from List.take_of_length_le (by have := HM.out; omega)]; exact h))
          go_wp2
          go_roundg (n - (q + 1))
          case measure => omega
          case rel => exact ⟨q + 1, by go_num, by omega, rfl, hft2, rfl⟩
    · have hqe : n = q := by omega
      subst hqe
      have ht : c.nodes.take n = c.nodes := by rw [← hnl]; exact List.take_length
      rw [ht] at hF
      have hr := Hid.mk' (show homeI c.nodes p = -1 from by unfold homeI; rw [if_neg hF.out])
      go_wp2
      go_ret
      exact ⟨by rw [hr.out]; rfl, HB1.out⟩
end Go.Proofs.YtmkkllfpdoeojaaDoor
