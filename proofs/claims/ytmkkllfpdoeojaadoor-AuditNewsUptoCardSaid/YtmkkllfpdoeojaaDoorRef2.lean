/- granaryref6.Values, set: for every definition; the table of the greatest values is read. -/
import Derived.Test.YtmkkllfpdoeojaaDoorRef1
import Derived.Test.YtmkkllfpdoeojaaDoorCheck
import Derived.Test.YtmkkllfpdoeojaaDoorPure1
import Derived.Great.BuildSlice
namespace Go.Proofs.YtmkkllfpdoeojaaDoor
open Go.RowKit
set_option linter.unusedVariables false

def Clu.arr (c : Clu) : Array Value := #[.int .i64 c.s1, .int .i64 c.s2, .int .i64 c.s3, .int .i64 c.s4, .int .i64 c.s5, .int .i64 c.s6, .int .i64 c.s7, .int .i64 c.s8, .int .i64 c.s9, .int .i64 c.s10, .int .i64 c.s11, .int .i64 c.s12, .int .i64 c.s13, .int .i64 c.s14, .int .i64 c.s15, .int .i64 c.s16, .int .i64 c.s17, .int .i64 c.s18, .int .i64 c.s19, .int .i64 c.s20, .int .i64 c.s21]
theorem Clu.arr_at (c : Clu) (k : Nat) (hk : k < 21) : c.arr[k]? = some (.int .i64 (c.set k)) := by
  match k, hk with
  | 0, _ | 1, _ | 2, _ | 3, _ | 4, _ | 5, _ | 6, _ | 7, _ | 8, _ | 9, _ | 10, _ | 11, _ | 12, _ | 13, _ | 14, _ | 15, _ | 16, _ | 17, _ | 18, _ | 19, _ | 20, _ => rfl
  | k + 21, h => omega
theorem info_arr : (Tryd.prog.info? 129).map (·.size) = some 21 := by kernel_rfl
theorem zero_arr : (Tryd.prog.info? 129).map (·.zero) = some (some (.agg (Array.replicate 21 (.int .i64 0)))) := by kernel_rfl
set_option maxRecDepth 100000 in
set_option maxHeartbeats 1600000 in
theorem values_any (c : Clu) (A : Option Addr) (n cp : Nat) (w : World) :
    Calls Tryd.prog 61 #[.agg (c.cells (.slice A n cp))] w fun e w' => e = .returned (.agg c.arr) ∧ Below w.heap.size w w' := by
  go_enter Tryd.func61, Tryd.ntmps61
  go_wp2_with (first
    | ((with_reducible refine box_arm (P := Tryd.prog) rfl 24 (.tmp 0) rfl _ (c.cells (.slice A n cp)) rfl rfl ?_); intro w1 hbk hb1 hs1; have HBk := Hid.mk' hbk; have HB1 := Hid.mk' hb1; have Hs1 := Hid.mk' hs1; clear hbk hb1 hs1)
    | ((with_reducible refine alloc_arm (P := Tryd.prog) rfl 129 21 rfl _ zero_arr rfl ?_); intro w2 old hbo hos hb12 hs2; have hb2 := HBk.out.below hb12 HBk.out.lt; have HBo := Hid.mk' hbo; have Hos := Hid.mk' hos; have HB12 := Hid.mk' hb12; clear hbo hos hb12 hs2; have d1 := hb2.cell (show (c.cells (.slice A n cp))[1]? = some (.int .i64 c.s1) from rfl); have d2 := hb2.cell (show (c.cells (.slice A n cp))[2]? = some (.int .i64 c.s2) from rfl); have d3 := hb2.cell (show (c.cells (.slice A n cp))[3]? = some (.int .i64 c.s3) from rfl); have d4 := hb2.cell (show (c.cells (.slice A n cp))[4]? = some (.int .i64 c.s4) from rfl); have d5 := hb2.cell (show (c.cells (.slice A n cp))[5]? = some (.int .i64 c.s5) from rfl); have d6 := hb2.cell (show (c.cells (.slice A n cp))[6]? = some (.int .i64 c.s6) from rfl); have d7 := hb2.cell (show (c.cells (.slice A n cp))[7]? = some (.int .i64 c.s7) from rfl); have d8 := hb2.cell (show (c.cells (.slice A n cp))[8]? = some (.int .i64 c.s8) from rfl); have d9 := hb2.cell (show (c.cells (.slice A n cp))[9]? = some (.int .i64 c.s9) from rfl); have d10 := hb2.cell (show (c.cells (.slice A n cp))[10]? = some (.int .i64 c.s10) from rfl); have d11 := hb2.cell (show (c.cells (.slice A n cp))[11]? = some (.int .i64 c.s11) from rfl); have d12 := hb2.cell (show (c.cells (.slice A n cp))[12]? = some (.int .i64 c.s12) from rfl); have d13 := hb2.cell (show (c.cells (.slice A n cp))[13]? = some (.int .i64 c.s13) from rfl); have d14 := hb2.cell (show (c.cells (.slice A n cp))[14]? = some (.int .i64 c.s14) from rfl); have d15 := hb2.cell (show (c.cells (.slice A n cp))[15]? = some (.int .i64 c.s15) from rfl); have d16 := hb2.cell (show (c.cells (.slice A n cp))[16]? = some (.int .i64 c.s16) from rfl); have d17 := hb2.cell (show (c.cells (.slice A n cp))[17]? = some (.int .i64 c.s17) from rfl); have d18 := hb2.cell (show (c.cells (.slice A n cp))[18]? = some (.int .i64 c.s18) from rfl); have d19 := hb2.cell (show (c.cells (.slice A n cp))[19]? = some (.int .i64 c.s19) from rfl); have d20 := hb2.cell (show (c.cells (.slice A n cp))[20]? = some (.int .i64 c.s20) from rfl); have d21 := hb2.cell (show (c.cells (.slice A n cp))[21]? = some (.int .i64 c.s21) from rfl); clear hb2)
    | (refine wpList_buildTo rfl 129 _ rfl (some 45) rfl c.arr (by kernel_rfl) ?_)
    | ((refine store_arm (P := Tryd.prog) rfl 129 (.tmp 2) (.tmp 45) rfl w1.heap.size c.arr old rfl rfl 129 HBo.out info_arr Hos.out (by kernel_rfl) ?_); intro w3 hb3 hw3; have HB3 := Hid.mk' hb3; have HW3 := Hid.mk' hw3; clear hb3 hw3))
  refine bodyPost_ret (results_cell_row rfl _ _ w1.heap.size 129 c.arr (0, 0) _ rfl HB3.out Tryd.underlying129 rfl info_arr) rfl ⟨rfl, ?_⟩
  have hs := Hs1.out
  exact Wrote.below (below_then HB1.out (by omega) HB12.out) HW3.out (by omega)

/-- The table of the greatest values lies as the program's text lays it. -/
def great (k : Nat) : Int := ([16, 16, 16, 8, 4096, 65536, 1024, 65536, 64, 1024, 1024, 1073741824, 1073741824, 1073741824, 1024, 64, 65536, 1024, 64, 1024, 7] : List Int).getD k 0
def Tab (w : World) : Prop := ∀ k, k < 21 → w.cell? ⟨0, k, none⟩ = some (.int .i64 (great k))
theorem Tab.below {w w' : World} (h : Tab w) (hb : Below w.heap.size w w') : Tab w' := fun k hk => cell_below hb (h k hk)
theorem great_eq (k : Nat) : great k = setMost k := rfl
/-- One setting, as the document's own answer looks at it. -/
def refOK (c : Clu) (k : Nat) : Prop := 0 ≤ c.set k ∧ c.set k ≤ great k ∧ ¬ (c.set k = 0 ∧ k < 20)
theorem refOK_iff (c : Clu) (k : Nat) (hk : k < 21) : refOK c k ↔ setOK c k := by
  unfold refOK setOK
  rw [great_eq]
  have hl : setLeast k = if k < 20 then 1 else 0 := by
    match k, hk with
    | 0, _ | 1, _ | 2, _ | 3, _ | 4, _ | 5, _ | 6, _ | 7, _ | 8, _ | 9, _ | 10, _ | 11, _ | 12, _ | 13, _ | 14, _ | 15, _ | 16, _ | 17, _ | 18, _ | 19, _ | 20, _ => rfl
    | k + 21, h => omega
  rw [hl]
  split <;> omega
noncomputable def setB (c : Clu) : Bool := @decide ((∀ k, k < 21 → setOK c k) ∧ c.s5 ≤ c.s8 ∧ c.s10 ≤ c.s11) (Classical.propDecidable _)
theorem setB_true {c : Clu} (h : (∀ k, k < 21 → setOK c k) ∧ c.s5 ≤ c.s8 ∧ c.s10 ≤ c.s11) : setB c = true := by unfold setB; exact @decide_eq_true _ (Classical.propDecidable _) h
theorem setB_false {c : Clu} (h : ¬ ((∀ k, k < 21 → setOK c k) ∧ c.s5 ≤ c.s8 ∧ c.s10 ≤ c.s11)) : setB c = false := by unfold setB; exact @decide_eq_false _ (Classical.propDecidable _) h

set_option maxRecDepth 100000 in
set_option maxHeartbeats 1600000 in
theorem set_any (c : Clu) (A : Option Addr) (n cp : Nat) (w : World) (hT : Tab w) :
    Calls Tryd.prog 36 #[.agg (c.cells (.slice A n cp))] w fun e w' => e = .returned (.bool (setB c)) ∧ Below w.heap.size w w' := by
  go_enter Tryd.func36, Tryd.ntmps36
  go_wp2_with (first
    | ((with_reducible refine box_arm (P := Tryd.prog) rfl 24 (.tmp 0) rfl _ (c.cells (.slice A n cp)) rfl rfl ?_); intro w1 hbk hb1 hs1; have HBk := Hid.mk' hbk; have HB1 := Hid.mk' hb1; have Hs1 := Hid.mk' hs1; clear hbk hb1 hs1)
    | (refine wpList_load_row rfl 24 _ rfl w.heap.size rfl 24 _ (0, 0) _ HBk.out Tryd.underlying24 rfl info_clu ?_)
    | (go_at_call 61; refine (values_any c A n cp _).mono ?_; rintro e w2 ⟨rfl, hb⟩; have HB2 := Hid.mk' hb; have Hs2 := Hid.mk' hb.size; have HBk2 := Hid.mk' (HBk.out.below hb HBk.out.lt); clear hb)
    | ((with_reducible refine alloc_arm (P := Tryd.prog) rfl 129 21 rfl _ zero_arr rfl ?_); intro w3 old hbo hos hb23 hs3; have HBo := Hid.mk' hbo; have Hos := Hid.mk' hos; have HB23 := Hid.mk' hb23; have Hs3 := Hid.mk' hs3; clear hbo hos hb23 hs3)
    | ((refine store_arm (P := Tryd.prog) rfl 129 (.tmp 3) (.tmp 6) rfl w2.heap.size c.arr old rfl rfl 129 HBo.out info_arr Hos.out (by kernel_rfl) ?_); intro w4 hb4 hw4; have HB4 := Hid.mk' hb4; have HW4 := Hid.mk' hw4; clear hb4 hw4))
  have hs4 : w.heap.size < w4.heap.size := by have h1 := Hs1.out; have h2 := Hs2.out; have h3 := Hs3.out; have h4 := HW4.out.size; omega
  have hg2 : w1.heap.size ≤ w2.heap.size := Hs2.out
  have hBw := Hid.mk' (show Below w.heap.size w w4 from by
    have h1 := Hs1.out
    exact Wrote.below (below_then (below_then HB1.out (by omega) HB2.out) (by omega) HB23.out) HW4.out (by omega))
  have hT4 := Hid.mk' (hT.below hBw.out)
  have hBk4 : Hid (Blk w4 w.heap.size (c.cells (.slice A n cp)) 24) := by
    have h1 := Hs1.out
    have := (HW4.out.block w.heap.size (by omega)).trans (HBk2.out.below HB23.out HBk2.out.lt)
    exact this
  clear hT HBk HBk2 HB1 HB2 HB23 HW4 HBo Hos Hs3 Hs1 Hs2
  generalize w2.heap.size = g at *
  go_loopg [4] 21 (fun k i wr => ∃ q : Nat, i = .int .i64 q ∧ q ≤ 21 ∧ k = 21 - q ∧ Hid (∀ k, k < q → refOK c k) ∧ Hid (∃ d, wr = w4.drewN d))
  case atStart => exact ⟨0, rfl, by omega, rfl, fun k hk => absurd hk (by omega), ⟨0, rfl⟩⟩
  case round =>
    obtain ⟨q, rfl, hq, hk, hOK, hd⟩ := hrel
    subst hk
    by_cases hlt : q < 21
    · have ca : wr.cell? ⟨g, q, none⟩ = some (.int .i64 (c.set q)) := by obtain ⟨d, rfl⟩ := hd.out; exact HB4.out.cell (c.arr_at q hlt)
      have ct : wr.cell? ⟨0, q, none⟩ = some (.int .i64 (great q)) := by obtain ⟨d, rfl⟩ := hd.out; exact hT4.out q hlt
      have hgood := Hid.mk' (show 0 ≤ c.set q ∧ c.set q ≤ great q ∧ ¬ (c.set q = 0 ∧ q < 20) → ∀ k, k < q + 1 → refOK c k from fun h k hk => by
        by_cases e : k = q
        · subst e; exact h
        · exact hOK.out k (by omega))
      have hbad := Hid.mk' (show ¬ (0 ≤ c.set q ∧ c.set q ≤ great q ∧ ¬ (c.set q = 0 ∧ q < 20)) → setB c = false from fun h => setB_false fun hh => h ((refOK_iff c q hlt).2 (hh.1 q hlt)))
      generalize great q = gr at *
      generalize c.set q = v at *
      by_cases h1 : v < 0
      · have b1 : decide (v < 0) = true := by simp [h1]
        go_wp2
        go_quiet (fail)
        go_wp2
        go_ret
        refine ⟨by rw [hbad.out (by first | omega | (intro hx; first | omega | (have := hx.2.2; omega)) | (simp; omega))]; rfl, ?_⟩
        obtain ⟨d, rfl⟩ := hd.out
        exact below_drewN (below_drewN hBw.out _) _
      · have b1 : decide (v < 0) = false := by simp; omega
        by_cases h2 : gr < v
        · have b2 : decide (gr < v) = true := by simp [h2]
          go_wp2
          go_quiet (fail)
          go_wp2
          go_ret
          refine ⟨by rw [hbad.out (by first | omega | (intro hx; first | omega | (have := hx.2.2; omega)) | (simp; omega))]; rfl, ?_⟩
          obtain ⟨d, rfl⟩ := hd.out
          exact below_drewN (below_drewN hBw.out _) _
        · have b2 : decide (gr < v) = false := by simp; omega
          by_cases h3 : v = 0
          · subst h3
            by_cases h4 : q < 20
            · have b4 : decide ((q : Int) < 20) = true := by simp; omega
              go_wp2
              go_quiet (fail)
              go_wp2
              go_ret
              refine ⟨by rw [hbad.out (by first | omega | (intro hx; first | omega | (have := hx.2.2; omega)) | (simp; omega))]; rfl, ?_⟩
              obtain ⟨d, rfl⟩ := hd.out
              exact below_drewN (below_drewN hBw.out _) _
            · have b4 : decide ((q : Int) < 20) = false := by simp; omega
              go_wp2
              go_quiet (fail)
              go_wp2
              go_roundg (21 - (q + 1))
              case measure => omega
              case rel =>
                refine ⟨q + 1, by go_num, by omega, rfl, hgood.out (by omega), ?_⟩
                obtain ⟨d, rfl⟩ := hd.out
                exact ⟨_, World.drewN_drewN ..⟩
          · have b3 : (v == 0) = false := by simp [h3]
            go_wp2
            go_quiet (fail)
            go_wp2
            go_roundg (21 - (q + 1))
            case measure => omega
            case rel =>
              refine ⟨q + 1, by go_num, by omega, rfl, hgood.out (by omega), ?_⟩
              obtain ⟨d, rfl⟩ := hd.out
              exact ⟨_, World.drewN_drewN ..⟩
    · have hqe : q = 21 := by omega
      subst hqe
      have hall : ∀ k, k < 21 → setOK c k := fun k hk => (refOK_iff c k hk).1 (hOK.out k hk)
      obtain ⟨d, rfl⟩ := hd.out
      have c8 := hBk4.out.cell (show (c.cells (.slice A n cp))[8]? = some (.int .i64 c.s8) from rfl)
      have c5 := hBk4.out.cell (show (c.cells (.slice A n cp))[5]? = some (.int .i64 c.s5) from rfl)
      have c11 := hBk4.out.cell (show (c.cells (.slice A n cp))[11]? = some (.int .i64 c.s11) from rfl)
      have c10 := hBk4.out.cell (show (c.cells (.slice A n cp))[10]? = some (.int .i64 c.s10) from rfl)
      have hb := Hid.mk' (below_drewN hBw.out d)
      have hY := Hid.mk' (fun h => setB_true (c := c) ⟨hall, h⟩)
      have hN := Hid.mk' (fun (h : ¬ (c.s5 ≤ c.s8 ∧ c.s10 ≤ c.s11)) => setB_false (c := c) fun hh => h hh.2)
      clear hall hOK
      by_cases h1 : c.s5 ≤ c.s8
      · by_cases h2 : c.s10 ≤ c.s11
        · go_wp2
          go_ret
          exact ⟨by rw [hY.out ⟨h1, h2⟩]; rfl, hb.out⟩
        · have h2' : c.s11 < c.s10 := by omega
          go_wp2
          go_ret
          exact ⟨by rw [hN.out (by omega)]; rfl, hb.out⟩
      · have h1' : c.s8 < c.s5 := by omega
        go_wp2
        go_ret
        exact ⟨by rw [hN.out (by omega)]; rfl, hb.out⟩
end Go.Proofs.YtmkkllfpdoeojaaDoor
