/- granarylaw19.stay: lists as they were, with their marks. -/
import Derived.Test.YtmkkllfpdoeojaaDoorMarkF
namespace Go.Proofs.YtmkkllfpdoeojaaDoor
open Go.RowKit
set_option linter.unusedVariables false

def KL (w : World) (x : List Int) (b o : Nat) : Prop := ∃ A m c, w.cell? ⟨b, o, none⟩ = some (.slice A m c) ∧ RdI w A m x
/-- A list of lists of ints is read. -/
abbrev RdL (w : World) (A : Option Addr) (n : Nat) (xs : List (List Int)) : Prop := Rd KL 1 w A n xs
theorem KL.below {w w' : World} {x : List Int} {b o : Nat} (h : KL w x b o) (hb : Below w.heap.size w w') : KL w' x b o := by
  obtain ⟨A, m, c, h1, h2⟩ := h
  exact ⟨A, m, c, cell_below hb h1, h2.below hb⟩
theorem RdL.below {w w' : World} {A : Option Addr} {n : Nat} {xs : List (List Int)} (h : RdL w A n xs) (hb : Below w.heap.size w w') : RdL w' A n xs := h.imp fun _ _ _ hk => hk.below hb
theorem RdL.at {w : World} {A : Option Addr} {n : Nat} {xs : List (List Int)} (h : RdL w A n xs) {j : Nat} {x : List Int} (hj : xs[j]? = some x) :
    ∃ b o B m c, A = some ⟨b, o, none⟩ ∧ w.cell? ⟨b, o + j, none⟩ = some (.slice B m c) ∧ RdI w B m x := by
  have hl : j < xs.length := (List.getElem?_eq_some_iff.1 hj).1
  obtain ⟨b, o, e, hc⟩ := h.2.2 (by have := h.1; omega)
  obtain ⟨B, m, c, h2, h3⟩ := hc j x hj
  rw [Nat.mul_one] at h2
  exact ⟨b, o, B, m, c, e, h2, h3⟩
theorem cap_le {w : World} {B s n m c : Nat} {A : Option Addr} {e : TypeId} {xs : List Value} (h : w.ownsRow B e s (.slice A m c) n xs) : n ≤ c := by
  rcases h.2 with ⟨h1, h2⟩ | ⟨g', cap', cur, he, _, _, h3, _⟩
  · omega
  · injection he with _ e2 e3; omega
theorem len_max {w : World} {B s n : Nat} {v : Value} {e : TypeId} {xs : List Value} (h : w.ownsRow B e s v n xs) : n ≤ 9223372036854775807 := by
  rcases h.2 with ⟨h1, h2⟩ | ⟨g', cap', cur, he, _, _, h3, h4, _⟩
  · omega
  · simp only [maxLen] at h4; omega
/-- The head of what is read. -/
theorem RdI.head {w : World} {A : Option Addr} {n m : Nat} {xs ys : List Int} (h : RdI w A n (xs ++ ys)) (hm : xs.length = m) : RdI w A m xs := by
  have h1 := h.1
  rw [List.length_append] at h1
  refine ⟨hm, by have := h.2.1; omega, fun hp => ?_⟩
  obtain ⟨b, o, e, hc⟩ := h.2.2 (by omega)
  refine ⟨b, o, e, fun j x hj => hc j x ?_⟩
  rw [List.getElem?_append_left (List.getElem?_eq_some_iff.1 hj).1]
  exact hj
theorem OwnM.read {w : World} {B n : Nat} {A : Option Addr} {c : Nat} {ts : List MNd} (h : OwnM w B (.slice A n c) ts) : RdN w A n (ts.map (·.2.1)) := by
  obtain ⟨A', c', e⟩ := row_shape h.row
  injection e with e1 e2 e3
  subst e1
  subst e2
  refine ⟨by simp, len_max h.row, fun hn => ?_⟩
  obtain ⟨t0, ht0⟩ : ∃ t, ts[0]? = some t := ⟨_, List.getElem?_eq_getElem hn⟩
  obtain ⟨g, hA, _⟩ := h.at ht0
  subst hA
  refine ⟨g, 0, rfl, fun j x hj => ?_⟩
  rw [List.getElem?_map, Option.map_eq_some_iff] at hj
  obtain ⟨t, ht, rfl⟩ := hj
  obtain ⟨g', e, h1, h2⟩ := h.at ht
  cases e
  have ho := h.each t (List.mem_of_getElem? ht)
  obtain ⟨B', c2, hs⟩ := ho.shape
  rw [hs] at ho h2
  have hcap := cap_le ho
  rw [List.length_append] at hcap
  refine ⟨by simpa using h1, B', _, c2, by simpa [shortV] using h2, by omega, RdI.head ho.read rfl⟩
theorem rdL_of {w : World} {B B' n c : Nat} {A : Option Addr} {ts : List MNd} (hr : w.ownsRow B 26 1 (.slice A n c) ts.length (ts.map (·.1))) (he : ∀ t ∈ ts, Own w B' t.1 (t.2.1.parts ++ t.2.2)) : RdL w A n (ts.map fun t => t.2.1.parts ++ t.2.2) := by
  obtain ⟨A', c', e⟩ := row_shape hr
  injection e with e1 e2 e3
  subst e1
  subst e2
  refine ⟨by simp, len_max hr, fun hn => ?_⟩
  obtain ⟨g, cap, e, _, _⟩ := World.ownsRow.form hr (by omega)
  injection e with e1 e2 e3
  subst e1
  refine ⟨g, 0, rfl, fun j x hj => ?_⟩
  rw [List.getElem?_map, Option.map_eq_some_iff] at hj
  obtain ⟨t, ht, rfl⟩ := hj
  have hc := World.ownsRow.cells (g := g) hr rfl j t.1 (by rw [List.getElem?_map, ht]; rfl)
  have hadd : ∀ k, (⟨g, 0, none⟩ : Addr).add k = ⟨g, k, none⟩ := fun k => by unfold Addr.add; split <;> simp_all
  rw [hadd] at hc
  have ho := he t (List.mem_of_getElem? ht)
  obtain ⟨B', c2, hs⟩ := ho.shape
  rw [hs] at ho hc
  exact ⟨B', _, c2, by simpa using hc, ho.read⟩

set_option maxRecDepth 100000 in
set_option maxHeartbeats 1600000 in
theorem stay_yes (c : Clu) (xs : List (List Int)) (hxs : ∀ (j : Nat) (x : Nd), c.nodes[j]? = some x → xs[j]? = some (x.parts ++ marks 8)) (Af : Option Addr) (cf : Nat) (A : Option Addr) (n cp : Nat) (w : World) (hN : RdN w A n c.nodes) (hF : RdL w Af n xs) (hlen : ∀ x ∈ c.nodes, x.parts.length ≤ 1048576) :
    Calls Tryd.prog 47 #[.slice Af n cf, .agg (c.cells (.slice A n cp))] w fun e w' => e = .returned (.bool true) ∧ Below w.heap.size w w' := by
  have hnm := hN.2.1
  have hnl := Hid.mk' hN.1
  have HX := Hid.mk' hxs
  clear hxs
  go_enter Tryd.func47, Tryd.ntmps47
  go_wp2_with (first
    | ((with_reducible refine box_arm (P := Tryd.prog) rfl 24 (.tmp 1) rfl _ (c.cells (.slice A n cp)) rfl rfl ?_); intro w1 hbk hb1 hs1; have HBk := Hid.mk' hbk; have HB1 := Hid.mk' hb1; have Hs1 := Hid.mk' hs1; clear hbk hb1 hs1))
  go_loopg [5] n (fun k i wr => ∃ q, i = .int .i64 (q : Nat) ∧ q ≤ n ∧ k = n - q ∧ Hid (Below w1.heap.size w1 wr))
  case atStart => exact ⟨0, rfl, by omega, rfl, Below.refl _ _⟩
  case round =>
    obtain ⟨q, rfl, hq, hk, hB⟩ := hrel
    subst hk
    have hBw := Hid.mk' (show Below w.heap.size w wr from below_then HB1.out (by have := Hs1.out; omega) hB.out)
    by_cases hlt : q < n
    · obtain ⟨x, hx⟩ : ∃ x, c.nodes[q]? = some x := ⟨_, List.getElem?_eq_getElem (by rw [hnl.out]; exact hlt)⟩
      have hF1 := HX.out q x hx
      obtain ⟨b, o, Bp, m, cm, rfl, z1, z2, hmc, hRp⟩ := (hN.below hBw.out).at hx
      obtain ⟨bf, of_, Bf, mf, cF, rfl, y1, hRf⟩ := (hF.below hBw.out).at hF1
      have hpl : x.parts.length = m := hRp.1
      have hm6 : m ≤ 1048576 := by rw [← hpl]; exact hlen x (List.mem_of_getElem? hx)
      have hml : mf = m + 8 := by rw [← hRf.1, List.length_append, hpl]; simp [marks]
      subst hml
      have hBk3 := Hid.mk' (HBk.out.below hB.out HBk.out.lt)
      have c22 := hBk3.out.cell (Clu.cells_nodes c _)
      have HRp := Hid.mk' hRp
      have HRf := Hid.mk' hRf
      have HPL := Hid.mk' hpl
      clear hx hRp hRf hF1 hpl
      obtain ⟨w3, rfl⟩ : ∃ y : World, y = wr := ⟨_, rfl⟩
      go_wp2
      go_loopg [7] (m + 8) (fun k i wr => ∃ j : Nat, i = .int .i64 (j : Nat) ∧ j ≤ m + 8 ∧ k = m + 8 - j ∧ Hid (Below w3.heap.size w3 wr))
      case atStart => exact ⟨0, rfl, by omega, rfl, Below.refl _ _⟩
      case round =>
        obtain ⟨j, rfl, hj, hk, hB5⟩ := hrel
        subst hk
        have d22 := cell_below hB5.out c22
        have d1 := cell_below hB5.out z1
        have d2 := cell_below hB5.out z2
        have d3 := cell_below hB5.out y1
        by_cases hj8 : j < m + 8
        · obtain ⟨bg, og, rfl, e1⟩ := (HRf.out.below hB5.out).at hj8
          by_cases hjm : j < m
          · obtain ⟨bp, op, rfl, e2⟩ := (HRp.out.below hB5.out).at hjm
            have hv : (x.parts ++ marks 8).getD j 0 = x.parts.getD j 0 := by
              rw [List.getD_eq_getElem?_getD, List.getElem?_append_left (by rw [HPL.out]; exact hjm), ← List.getD_eq_getElem?_getD]
            rw [hv] at e1
            generalize x.parts.getD j 0 = a at *
            clear hv
            have g1 : decide (j < m) = true := by simpa using hjm
            have g2 : decide (m ≤ j) = false := by simp; omega
            have g3 : (a != a) = false := by simp
            go_wp2
            go_quiet (fail)
            go_wp2
            go_roundg (m + 8 - (j + 1))
            case measure => omega
            case rel => exact ⟨j + 1, by go_num, by omega, rfl, below_drewN hB5.out _⟩
          · have hv : (x.parts ++ marks 8).getD j 0 = -77 := by
              rw [List.getD_eq_getElem?_getD, List.getElem?_append_right (by rw [HPL.out]; omega), HPL.out]
              unfold marks
              rw [List.getElem?_replicate, if_pos (by omega)]
              rfl
            rw [hv] at e1
            clear hv
            have g1 : decide (j < m) = false := by simpa using hjm
            have g2 : decide (m ≤ j) = true := by simp; omega
            go_wp2
            go_quiet (fail)
            go_wp2
            go_roundg (m + 8 - (j + 1))
            case measure => omega
            case rel => exact ⟨j + 1, by go_num, by omega, rfl, below_drewN hB5.out _⟩
        · have hje : j = m + 8 := by omega
          subst hje
          have hB7 := Hid.mk' (below_then hB.out hB.out.size hB5.out)
          go_wp2
          go_roundg (n - (q + 1))
          case measure => omega
          case rel => exact ⟨q + 1, by go_num, by omega, rfl, hB7⟩
    · have hqe : q = n := by omega
      subst hqe
      go_wp2
      go_ret
      exact ⟨rfl, hBw.out⟩
end Go.Proofs.YtmkkllfpdoeojaaDoor
