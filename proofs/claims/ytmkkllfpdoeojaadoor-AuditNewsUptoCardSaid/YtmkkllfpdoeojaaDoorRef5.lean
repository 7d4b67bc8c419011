/- granaryref6.Check: for every definition that is read. -/
import Derived.Test.YtmkkllfpdoeojaaDoorRef4
namespace Go.Proofs.YtmkkllfpdoeojaaDoor
open Go.RowKit Go.Sort
set_option linter.unusedVariables false

theorem checkE_name {c : Clu} (h : nameB c.store = false) : checkE c = 63 := by unfold checkE; rw [if_pos h]
theorem checkE_set {c : Clu} (h : nameB c.store = true) (hs : setB c = false) : checkE c = 64 := by
  unfold checkE
  rw [if_neg (by simp [h])]
  by_cases h1 : ∀ k, k < 21 → setOK c k
  · rw [if_neg (fun hh => hh h1), if_pos]
    by_cases h2 : c.s5 ≤ c.s8 ∧ c.s10 ≤ c.s11
    · rw [setB_true ⟨h1, h2⟩] at hs; cases hs
    · omega
  · rw [if_pos h1]
theorem setB_iff {c : Clu} (h : setB c = true) : (∀ k, k < 21 → setOK c k) ∧ c.s5 ≤ c.s8 ∧ c.s10 ≤ c.s11 := by
  apply Classical.byContradiction
  intro hh
  rw [setB_false hh] at h
  cases h
theorem checkE_rest {c : Clu} (h : nameB c.store = true) (hs : setB c = true) : checkE c = (if ¬ (1 ≤ c.nodes.length ∧ c.nodes.length ≤ 16) then 65
    else @ite _ (¬ (∀ x ∈ c.nodes, 0 ≤ x.zone ∧ x.zone ≤ 7)) (Classical.propDecidable _) 65
    (if validB c.nodes = false then 66 else if (fullN c.nodes : Int) < c.s1 then 67 else if 512 < (cnt c.nodes : Int) * c.s1 * c.s3 then 3 else 0)) := by
  obtain ⟨h1, h2, h3⟩ := setB_iff hs
  unfold checkE
  rw [if_neg (by simp [h]), if_neg (fun hh => hh h1), if_neg (by omega)]
  by_cases a : 1 ≤ c.nodes.length ∧ c.nodes.length ≤ 16
  · have ea : (¬ (1 ≤ c.nodes.length ∧ c.nodes.length ≤ 16)) = False := by simp [a]
    simp only [ea, if_false]
    by_cases b : ∀ x ∈ c.nodes, 0 ≤ x.zone ∧ x.zone ≤ 7
    · have eb : (¬ (∀ x ∈ c.nodes, 0 ≤ x.zone ∧ x.zone ≤ 7)) = False := eq_false (fun h => h b)
      simp only [eb, if_false]
      by_cases d : Valid c.nodes
      · have e := homesF_valid c.nodes d
        rw [e, if_neg (by rw [validB_true d]; simp)]
        simp only []
        rw [(homesF_length e).1]
      · rw [homesF_none c.nodes d, if_pos (validB_false d)]
    · have eb : (¬ (∀ x ∈ c.nodes, 0 ≤ x.zone ∧ x.zone ≤ 7)) = True := eq_true b
      simp only [eb, if_true]
  · have ea : (¬ (1 ≤ c.nodes.length ∧ c.nodes.length ≤ 16)) = True := eq_true a
    simp only [ea, if_true]
theorem wrapEq (x : Int) : IntKind.i64.wrap x = wrap64 x := by rw [IntKind.wrap_i64]; unfold wrap64; omega
theorem named_yes (s : ByteArray) (hs : s.size ≤ 9223372036854775807) (w : World) (h : nameB s = true) : Calls Tryd.prog 35 #[.string s] w fun e w' => e = .returned (.bool true) ∧ w = w' :=
  (named_any s hs w).mono fun e w' ⟨h1, h2⟩ => ⟨by rw [h1, h], h2.symm⟩
theorem named_no (s : ByteArray) (hs : s.size ≤ 9223372036854775807) (w : World) (h : nameB s = false) : Calls Tryd.prog 35 #[.string s] w fun e w' => e = .returned (.bool false) ∧ w = w' :=
  (named_any s hs w).mono fun e w' ⟨h1, h2⟩ => ⟨by rw [h1, h], h2.symm⟩
theorem set_is (c : Clu) (A : Option Addr) (n cp : Nat) (w : World) (hT : Tab w) (b : Bool) (h : setB c = b) : Calls Tryd.prog 36 #[.agg (c.cells (.slice A n cp))] w fun e w' => e = .returned (.bool b) ∧ Below w.heap.size w w' :=
  (set_any c A n cp w hT).mono fun e w' ⟨h1, h2⟩ => ⟨by rw [h1, h], h2⟩
theorem dealt_is (c : Clu) (A : Option Addr) (n cp : Nat) (w : World) (hN : RdN w A n c.nodes) (hc : cnt c.nodes ≤ 4611686018427387904) (b : Bool) (h : validB c.nodes = b) :
    Calls Tryd.prog 37 #[.agg (c.cells (.slice A n cp))] w fun e w' => e = .returned (.bool b) ∧ Below w.heap.size w w' :=
  (dealt_any c A n cp w hN hc).mono fun e w' ⟨h1, h2⟩ => ⟨by rw [h1, h], h2⟩

set_option maxRecDepth 100000 in
set_option maxHeartbeats 1600000 in
theorem refCheck_any (c : Clu) (A : Option Addr) (n cp : Nat) (w : World) (hN : RdN w A n c.nodes) (hs : c.store.size ≤ 9223372036854775807) (hlen : ∀ x ∈ c.nodes, x.parts.length ≤ 17592186044416) (hT : Tab w) :
    Calls Tryd.prog 9 #[.agg (c.cells (.slice A n cp))] w fun e w' => e = .returned (.int .i64 (checkE c)) ∧ Below w.heap.size w w' := by
  have hnl : c.nodes.length = n := hN.1
  have hn63 := hN.2.1
  by_cases hname : nameB c.store = true
  · cases hset : setB c with
    | false =>
      have hE := Hid.mk' (checkE_set hname hset)
      have hset' := Hid.mk' hset
      clear hset
      go_enter Tryd.func9, Tryd.ntmps9
      go_wp2_with (first
        | ((with_reducible refine box_arm (P := Tryd.prog) rfl 24 (.tmp 0) rfl _ (c.cells (.slice A n cp)) rfl rfl ?_); intro w1 hbk hb1 hs1; have HBk := Hid.mk' hbk; have HB1 := Hid.mk' hb1; have Hs1 := Hid.mk' hs1; have c0 := Blk.cell hbk (Clu.cells_store c _); have c22 := Blk.cell hbk (Clu.cells_nodes c _); clear hbk hb1 hs1)
        | (refine wpList_load_row rfl 24 _ rfl w.heap.size rfl 24 _ (0, 0) _ HBk.out Tryd.underlying24 rfl info_clu ?_)
        | (go_at_call 35; refine (named_yes _ hs _ hname).mono ?_; rintro e w2 ⟨rfl, rfl⟩)
        | (go_at_call 36; refine (set_is c A n cp _ (by exact hT.below HB1.out) false hset'.out).mono ?_; rintro e w2 ⟨rfl, hb⟩; have HB2 := Hid.mk' hb; clear hb))
      go_ret
      exact ⟨by rw [hE.out]; rfl, below_then HB1.out (by have := Hs1.out; omega) HB2.out⟩
    | true =>
      have hrest := Hid.mk' (checkE_rest hname hset)
      have hset' := Hid.mk' hset
      obtain ⟨hok, _, _⟩ := setB_iff hset
      have hbd := set_bounds hok
      clear hset hok
      by_cases hnn : 1 ≤ n ∧ n ≤ 16
      · obtain ⟨hn1, hn2⟩ := hnn
        have hrest2 := hrest.out
        rw [if_neg (by rw [hnl]; exact fun h => h ⟨hn1, hn2⟩)] at hrest2
        have hR := Hid.mk' hrest2
        have hcnt : cnt c.nodes ≤ 4611686018427387904 := by
          have := cnt_le hlen n
          rw [← hnl, List.take_length] at this
          exact Nat.le_trans this (Nat.le_trans (Nat.mul_le_mul_right _ (by omega : c.nodes.length ≤ 16)) (by decide))
        clear hrest hrest2
        go_enter Tryd.func9, Tryd.ntmps9
        go_wp2_with (first
          | ((with_reducible refine box_arm (P := Tryd.prog) rfl 24 (.tmp 0) rfl _ (c.cells (.slice A n cp)) rfl rfl ?_); intro w1 hbk hb1 hs1; have HBk := Hid.mk' hbk; have HB1 := Hid.mk' hb1; have Hs1 := Hid.mk' hs1; have c0 := Blk.cell hbk (Clu.cells_store c _); have c22 := Blk.cell hbk (Clu.cells_nodes c _); clear hbk hb1 hs1)
          | (refine wpList_load_row rfl 24 _ rfl w.heap.size rfl 24 _ (0, 0) _ HBk.out Tryd.underlying24 rfl info_clu ?_)
          | (go_at_call 35; refine (named_yes _ hs _ hname).mono ?_; rintro e w2 ⟨rfl, rfl⟩)
          | (go_at_call 36; refine (set_is c A n cp _ (by exact hT.below HB1.out) true hset'.out).mono ?_; rintro e w2 ⟨rfl, hb⟩; have HB2 := Hid.mk' hb; have HBk2 := Hid.mk' (HBk.out.below hb HBk.out.lt); have d22 := cell_below hb c22; clear hb))
        have hBw2 := Hid.mk' (show Below w.heap.size w w2 from below_then HB1.out (by have := Hs1.out; omega) HB2.out)
        have hN2 := Hid.mk' (hN.below hBw2.out)
        have hs2 := HBk2.out.lt
        clear hN HB2 HB1 Hs1 HBk c0 c22 hT
        go_loopg [3, 4] n (fun k f i wr => ∃ q : Nat, i = .int .i64 q ∧ q ≤ n ∧ k = n - q ∧ f = .int .i64 (fullN (c.nodes.take q)) ∧ Hid (∀ x ∈ c.nodes.take q, 0 ≤ x.zone ∧ x.zone ≤ 7) ∧ Hid (wr = w2))
        case atStart => exact ⟨0, rfl, by omega, rfl, rfl, fun x hx => by simp at hx, rfl⟩
        case round =>
          obtain ⟨q, rfl, hq, hk, rfl, hZ, hB⟩ := hrel
          subst hk
          obtain rfl := hB.out
          by_cases hlt : q < n
          · obtain ⟨x, hx⟩ : ∃ x, c.nodes[q]? = some x := ⟨_, List.getElem?_eq_getElem (by omega)⟩
            obtain ⟨b, o, B, m, cm, hA, e1, e2, h3, h4⟩ := hN2.out.at hx
            subst hA
            have HML := Hid.mk' h4.1
            have hmx := h4.2.1
            clear h4
            have hft := Hid.mk' (fullN_take hx)
            have hfl : fullN (c.nodes.take q) ≤ q := by
              have h1 := fullN_le (c.nodes.take q)
              have h2 : (c.nodes.take q).length ≤ q := List.length_take_le _ _
              omega
            have HZ' := Hid.mk' (show 0 ≤ x.zone ∧ x.zone ≤ 7 → ∀ y ∈ c.nodes.take (q + 1), 0 ≤ y.zone ∧ y.zone ≤ 7 from fun h y hy => by
              rw [take_at hx] at hy
              rcases List.mem_append.1 hy with hy | hy
              · exact hZ.out y hy
              · rw [List.mem_singleton.1 hy]; exact h)
            have HZn := Hid.mk' (show ¬ (0 ≤ x.zone ∧ x.zone ≤ 7) → checkE c = 65 from fun h => by
              rw [hR.out, if_pos]
              exact fun hh => h (hh x (List.mem_of_getElem? hx)))
            generalize fullN (c.nodes.take q) = f at *
            by_cases hz : 0 ≤ x.zone ∧ x.zone ≤ 7
            · have HZ3 := Hid.mk' (HZ'.out hz)
              clear HZ' HZn
              by_cases hm : 0 < m
              · go_wp2
                go_roundg (n - (q + 1))
                case measure => omega
                case rel =>
                  refine ⟨q + 1, by go_num, by omega, rfl, ?_, HZ3, rfl⟩
                  rw [hft.out, HML.out, if_neg (by omega)]
                  go_num
              · have hm0 : m = 0 := by omega
                subst hm0
                go_wp2
                go_roundg (n - (q + 1))
                case measure => omega
                case rel =>
                  refine ⟨q + 1, by go_num, by omega, rfl, ?_, HZ3, rfl⟩
                  rw [hft.out, HML.out, if_pos rfl]
                  rfl
            · have hno := Hid.mk' (HZn.out hz)
              clear HZ' HZn
              by_cases hz1 : x.zone < 0
              · clear hz
                go_wp2
                go_ret
                exact ⟨by rw [hno.out]; rfl, hBw2.out⟩
              · have hz2 : 8 ≤ x.zone := by omega
                clear hz
                go_wp2
                go_ret
                exact ⟨by rw [hno.out]; rfl, hBw2.out⟩
          · have hqe : n = q := by omega
            subst hqe
            have ht : c.nodes.take n = c.nodes := by rw [← hnl]; exact List.take_length
            rw [ht] at hZ
            rw [ht]
            clear ht
            have hR2 := hR.out
            rw [if_neg (fun h => h hZ.out)] at hR2
            have HR := Hid.mk' hR2
            clear hR2 hR
            have hfl : fullN c.nodes ≤ 16 := by have := fullN_le c.nodes; omega
            cases hval : validB c.nodes with
            | false =>
              have hno := Hid.mk' (show checkE c = 66 by rw [HR.out, if_pos hval])
              have Hval := Hid.mk' hval
              clear hval
              go_wp2_with (first
                | (refine wpList_load_row rfl 24 _ rfl w.heap.size rfl 24 _ (0, 0) _ HBk2.out Tryd.underlying24 rfl info_clu ?_)
                | (go_at_call 37; refine (dealt_is c A n cp _ hN2.out hcnt false Hval.out).mono ?_; rintro e w3 ⟨rfl, hb⟩; have HB3 := Hid.mk' hb; clear hb))
              go_ret
              exact ⟨by rw [hno.out]; rfl, below_then hBw2.out (Nat.le_of_lt hs2) HB3.out⟩
            | true =>
              have hR3 := HR.out
              rw [if_neg (by rw [hval]; simp)] at hR3
              have HR3 := Hid.mk' hR3
              have hv : Valid c.nodes := by
                apply Classical.byContradiction
                intro h
                rw [validB_false h] at hval
                cases hval
              have hP64 := hv.2.1
              have Hval := Hid.mk' hval
              clear hval hR3 HR hv
              by_cases hfl2 : (fullN c.nodes : Int) < c.s1
              · have hno := Hid.mk' (show checkE c = 67 by rw [HR3.out, if_pos hfl2])
                go_wp2_with (first
                  | (refine wpList_load_row rfl 24 _ rfl w.heap.size rfl 24 _ (0, 0) _ HBk2.out Tryd.underlying24 rfl info_clu ?_)
                  | (go_at_call 37; refine (dealt_is c A n cp _ hN2.out hcnt true Hval.out).mono ?_; rintro e w3 ⟨rfl, hb⟩; have HB3 := Hid.mk' hb; have c1 := (HBk2.out.below hb hs2).cell (show (c.cells (.slice A n cp))[1]? = some (.int .i64 c.s1) from rfl); clear hb))
                go_ret
                exact ⟨by rw [hno.out]; rfl, below_then hBw2.out (Nat.le_of_lt hs2) HB3.out⟩
              · have hE := Hid.mk' (show checkE c = if 512 < (cnt c.nodes : Int) * c.s1 * c.s3 then 3 else 0 by rw [HR3.out, if_neg hfl2])
                go_wp2_with (first
                  | (refine wpList_load_row rfl 24 _ rfl w.heap.size rfl 24 _ (0, 0) _ HBk2.out Tryd.underlying24 rfl info_clu ?_)
                  | (go_at_call 37; refine (dealt_is c A n cp _ hN2.out hcnt true Hval.out).mono ?_; rintro e w3 ⟨rfl, hb⟩; have HB3 := Hid.mk' hb; have HBk3 := Hid.mk' (HBk2.out.below hb hs2); have c1 := (HBk2.out.below hb hs2).cell (show (c.cells (.slice A n cp))[1]? = some (.int .i64 c.s1) from rfl); clear hb))
                have q1 := fun d os => cell_regrown (HBk3.out.cell (show (c.cells (.slice A n cp))[1]? = some (.int .i64 c.s1) from rfl)) d os
                have q3 := fun d os => cell_regrown (HBk3.out.cell (show (c.cells (.slice A n cp))[3]? = some (.int .i64 c.s3) from rfl)) d os
                have hN3 := Hid.mk' (hN2.out.below HB3.out)
                have hBw3 := Hid.mk' (below_then hBw2.out (Nat.le_of_lt hs2) HB3.out)
                refine wp_region_quiet_below (by kernel_rfl) (by kernel_rfl) ?_
                refine wpQuiet_load_row rfl 24 _ rfl w.heap.size rfl 24 _ _ (Blk.regrown HBk3.out) Tryd.underlying24 rfl info_clu ?_
                repeat (quiet_step (exact Calls.regrown_of (parts_any c A n cp _ (by exact hN3.out.below (below_regrown _ _ _)) hcnt)))
                refine wpQuiet_nil ?_
                rintro w5 ⟨p, rfl⟩
                go_wp2
                · have hp : 512 < IntKind.i64.wrap (IntKind.i64.wrap ((cnt c.nodes : Int) * c.s1) * c.s3) := (by assumption)
                  rw [wrapEq, wrapEq, prod_wrap hP64 ⟨hbd.1, hbd.2.1⟩ hbd.2.2] at hp
                  go_ret
                  exact ⟨by rw [hE.out, if_pos hp]; rfl, hBw3.out.trans ((below_regrown w3 p.d p.os).mono hBw3.out.size)⟩
                · have hp : IntKind.i64.wrap (IntKind.i64.wrap ((cnt c.nodes : Int) * c.s1) * c.s3) ≤ 512 := (by assumption)
                  rw [wrapEq, wrapEq, prod_wrap hP64 ⟨hbd.1, hbd.2.1⟩ hbd.2.2] at hp
                  go_ret
                  exact ⟨by rw [hE.out, if_neg (by omega)]; rfl, hBw3.out.trans ((below_regrown w3 p.d p.os).mono hBw3.out.size)⟩
      · have hE := Hid.mk' (show checkE c = 65 by rw [hrest.out, if_pos (by rw [hnl]; exact hnn)])
        have hnn' : (n : Int) < 1 ∨ 16 < (n : Int) := by omega
        clear hrest hnn
        go_enter Tryd.func9, Tryd.ntmps9
        rcases hnn' with hnn' | hnn'
        all_goals
          go_wp2_with (first
            | ((with_reducible refine box_arm (P := Tryd.prog) rfl 24 (.tmp 0) rfl _ (c.cells (.slice A n cp)) rfl rfl ?_); intro w1 hbk hb1 hs1; have HBk := Hid.mk' hbk; have HB1 := Hid.mk' hb1; have Hs1 := Hid.mk' hs1; have c0 := Blk.cell hbk (Clu.cells_store c _); have c22 := Blk.cell hbk (Clu.cells_nodes c _); clear hbk hb1 hs1)
            | (refine wpList_load_row rfl 24 _ rfl w.heap.size rfl 24 _ (0, 0) _ HBk.out Tryd.underlying24 rfl info_clu ?_)
            | (go_at_call 35; refine (named_yes _ hs _ hname).mono ?_; rintro e w2 ⟨rfl, rfl⟩)
            | (go_at_call 36; refine (set_is c A n cp _ (by exact hT.below HB1.out) true hset'.out).mono ?_; rintro e w2 ⟨rfl, hb⟩; have HB2 := Hid.mk' hb; have d22 := cell_below hb c22; clear hb))
          go_ret
          exact ⟨by rw [hE.out]; rfl, below_then HB1.out (by have := Hs1.out; omega) HB2.out⟩
  · have hname' : nameB c.store = false := by simpa using hname
    have hE := Hid.mk' (checkE_name hname')
    go_enter Tryd.func9, Tryd.ntmps9
    go_wp2_with (first
      | ((with_reducible refine box_arm (P := Tryd.prog) rfl 24 (.tmp 0) rfl _ (c.cells (.slice A n cp)) rfl rfl ?_); intro w1 hbk hb1 hs1; have HBk := Hid.mk' hbk; have HB1 := Hid.mk' hb1; have Hs1 := Hid.mk' hs1; have c0 := Blk.cell hbk (Clu.cells_store c _); have c22 := Blk.cell hbk (Clu.cells_nodes c _); clear hbk hb1 hs1)
      | (go_at_call 35; refine (named_no _ hs _ hname').mono ?_; rintro e w2 ⟨rfl, rfl⟩))
    go_ret
    exact ⟨by rw [hE.out]; rfl, HB1.out⟩
end Go.Proofs.YtmkkllfpdoeojaaDoor
