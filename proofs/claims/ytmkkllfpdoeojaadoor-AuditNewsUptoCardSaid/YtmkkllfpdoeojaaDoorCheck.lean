/- ring.checked, ring.Check: for every definition that is read. -/
import Derived.Test.YtmkkllfpdoeojaaDoorHomes
import Derived.Test.YtmkkllfpdoeojaaDoorName
namespace Go.Proofs.YtmkkllfpdoeojaaDoor
open Go.RowKit
set_option linter.unusedVariables false

def setOK (c : Clu) (k : Nat) : Prop := setLeast k ≤ c.set k ∧ c.set k ≤ setMost k
def fullN : List Nd → Nat
  | [] => 0
  | x :: xs => (if x.parts.length = 0 then 0 else 1) + fullN xs
theorem fullN_take {ns : List Nd} {k : Nat} {x : Nd} (h : ns[k]? = some x) : fullN (ns.take (k + 1)) = fullN (ns.take k) + if x.parts.length = 0 then 0 else 1 := by
  induction ns generalizing k with
  | nil => simp at h
  | cons y ys ih =>
    cases k with
    | zero => simp at h; subst h; simp [fullN]
    | succ k => simp at h; simp only [List.take_succ_cons, fullN]; rw [ih h]; omega
theorem fullN_le (ns : List Nd) : fullN ns ≤ ns.length := by
  induction ns with
  | nil => simp [fullN]
  | cons y ys ih => simp only [fullN, List.length_cons]; split <;> omega
open Classical in
/-- What Check answers. -/
noncomputable def checkE (c : Clu) : Int :=
  if nameB c.store = false then 63
  else if ¬ (∀ k, k < 21 → setOK c k) then 64
  else if c.s8 < c.s5 ∨ c.s11 < c.s10 then 64
  else if ¬ (1 ≤ c.nodes.length ∧ c.nodes.length ≤ 16) then 65
  else if ¬ (∀ x ∈ c.nodes, 0 ≤ x.zone ∧ x.zone ≤ 7) then 65
  else match homesF c.nodes with
    | none => 66
    | some h => if (fullN c.nodes : Int) < c.s1 then 67 else if 512 < (h.length : Int) * c.s1 * c.s3 then 3 else 0
def CheckedPost (c : Clu) (w : World) (e : Ending) (w' : World) : Prop :=
  (checkE c = 0 ∧ (∃ v l, homesF c.nodes = some l ∧ e = .returned (.tuple #[v, .int .i64 0]) ∧ Own w' w.heap.size v l) ∨
    checkE c ≠ 0 ∧ e = .returned (.tuple #[.slice none 0 0, .int .i64 (checkE c)])) ∧ Below w.heap.size w w'
theorem CheckedPost.no {c : Clu} {w w' : World} {n : Int} (h : checkE c = n) (hn : n ≠ 0) (hb : Below w.heap.size w w') : CheckedPost c w (.returned (.tuple #[.slice none 0 0, .int .i64 n])) w' := by
  refine ⟨.inr ⟨by rw [h]; exact hn, by rw [h]⟩, hb⟩
theorem CheckedPost.yes {c : Clu} {w w' : World} {v : Value} {l : List Int} (h : checkE c = 0) (hl : homesF c.nodes = some l) (ho : Own w' w.heap.size v l) (hb : Below w.heap.size w w') : CheckedPost c w (.returned (.tuple #[v, .int .i64 0])) w' :=
  ⟨.inl ⟨h, v, l, hl, rfl, ho⟩, hb⟩
theorem name_yes (s : ByteArray) (hs : s.size ≤ 9223372036854775807) (w : World) (h : nameB s = true) : Calls Tryd.prog 67 #[.string s] w fun e w' => e = .returned (.bool true) ∧ Below w.heap.size w w' :=
  (nameOK_any s hs w).mono fun e w' ⟨h1, h2⟩ => ⟨by rw [h1, h], h2⟩
theorem name_no (s : ByteArray) (hs : s.size ≤ 9223372036854775807) (w : World) (h : nameB s = false) : Calls Tryd.prog 67 #[.string s] w fun e w' => e = .returned (.bool false) ∧ Below w.heap.size w w' :=
  (nameOK_any s hs w).mono fun e w' ⟨h1, h2⟩ => ⟨by rw [h1, h], h2⟩

theorem homes_yes (c : Clu) (A : Option Addr) (n cp : Nat) (w : World) (hN : RdN w A n c.nodes) (hcp : n ≤ cp) (hn : n ≤ 16) (hlen : ∀ x ∈ c.nodes, x.parts.length ≤ 17592186044416) {l : List Int} (h : homesF c.nodes = some l) :
    Calls Tryd.prog 69 #[.agg (c.cells (.slice A n cp))] w fun e w' => ∃ v, e = .returned (.tuple #[v, .int .i64 0]) ∧ Own w' w.heap.size v l ∧ Below w.heap.size w w' :=
  (homes_any c A n cp w hN hcp hn hlen).mono fun e w' hp => by
    unfold HomesPost at hp
    rw [h] at hp
    obtain ⟨⟨v, h1, h2⟩, h3⟩ := hp
    exact ⟨v, h1, h2, h3⟩
theorem homes_no (c : Clu) (A : Option Addr) (n cp : Nat) (w : World) (hN : RdN w A n c.nodes) (hcp : n ≤ cp) (hn : n ≤ 16) (hlen : ∀ x ∈ c.nodes, x.parts.length ≤ 17592186044416) (h : homesF c.nodes = none) :
    Calls Tryd.prog 69 #[.agg (c.cells (.slice A n cp))] w fun e w' => e = .returned (.tuple #[.slice none 0 0, .int .i64 66]) ∧ Below w.heap.size w w' :=
  (homes_any c A n cp w hN hcp hn hlen).mono fun e w' hp => by
    unfold HomesPost at hp
    rw [h] at hp
    exact hp
theorem set_bounds {c : Clu} (h : ∀ k, k < 21 → setOK c k) : 1 ≤ c.s1 ∧ c.s1 ≤ 16 ∧ 1 ≤ c.s3 ∧ c.s3 ≤ 16 := by
  have h0 := h 0 (by decide)
  have h2 := h 2 (by decide)
  exact ⟨h0.1, h0.2, h2.1, h2.2⟩
theorem wrap_small {x : Int} (h0 : 0 ≤ x) (h1 : x ≤ 1000000) : wrap64 x = x := by unfold wrap64; omega
theorem prod_wrap {L : Nat} {a b : Int} (hL : L ≤ 64) (ha : 1 ≤ a ∧ a ≤ 16) (hb : 1 ≤ b ∧ b ≤ 16) : wrap64 (wrap64 ((L : Int) * a) * b) = (L : Int) * a * b := by
  have h0 : 0 ≤ (L : Int) * a := Int.mul_nonneg (by omega) (by omega)
  have h1 : (L : Int) * a ≤ 64 * 16 := Int.mul_le_mul (by omega) ha.2 (by omega) (by omega)
  have h2 : 0 ≤ (L : Int) * a * b := Int.mul_nonneg h0 (by omega)
  have h3 : (L : Int) * a * b ≤ 1024 * 16 := Int.mul_le_mul (by omega) hb.2 (by omega) (by omega)
  rw [wrap_small h0 (by omega), wrap_small h2 (by omega)]
theorem info_clu : (Tryd.prog.info? 24).map (·.size) = some 23 := by kernel_rfl

set_option maxRecDepth 100000 in
set_option maxHeartbeats 1600000 in
theorem checked_any (c : Clu) (A : Option Addr) (n cp : Nat) (w : World) (hN : RdN w A n c.nodes) (hcp : n ≤ cp) (hs : c.store.size ≤ 9223372036854775807) (hlen : ∀ x ∈ c.nodes, x.parts.length ≤ 17592186044416) :
    Calls Tryd.prog 51 #[c.val (.slice A n cp)] w (CheckedPost c w) := by
  have hnl : c.nodes.length = n := hN.1
  have hn63 := hN.2.1
  have HL := Hid.mk' hlen
  clear hlen
  unfold Clu.val
  by_cases hname : nameB c.store = true
  · go_enter Tryd.func51, Tryd.ntmps51
    go_wp2_with (first
      | ((with_reducible refine box_arm (P := Tryd.prog) rfl 24 (.tmp 0) rfl _ (c.cells (.slice A n cp)) rfl rfl ?_); intro w1 hbk hb1 hs1; have HBk := Hid.mk' hbk; have HB1 := Hid.mk' hb1; have Hs1 := Hid.mk' hs1; have c0 := Blk.cell hbk (Clu.cells_store c _); clear hbk hb1 hs1)
      | (go_at_call 67; refine (name_yes _ hs _ hname).mono ?_; rintro e w2 ⟨rfl, hb2⟩; have HB2 := Hid.mk' hb2; clear hb2)
      | (go_at_call 68; refine (settings_any _).mono ?_; rintro e w3 ⟨rfl, hw3⟩; have HW3 := Hid.mk' hw3; clear hw3))
    have hBk3 : Hid (Blk w3 w.heap.size (c.cells (.slice A n cp)) 24) := by
      rw [← HW3.out]
      exact (HBk.out.below (below_alloc HB2.out HB2.out.size _) HBk.out.lt)
    have hSt : Hid (Blk w3 w2.heap.size setCells 145) := by rw [← HW3.out]; exact Blk.alloc _ _ _
    have hB3 : Hid (Below w1.heap.size w1 w3) := by rw [← HW3.out]; exact below_alloc HB2.out HB2.out.size _
    have hBw3 : Hid (Below w.heap.size w w3) := below_then HB1.out (by have := Hs1.out; omega) hB3.out
    have hs3 : w.heap.size < w3.heap.size := hBk3.out.lt
    have hN3 := Hid.mk' (hN.below hBw3.out)
    clear HW3 HB2 HBk HB1 Hs1 hN hB3 c0
    generalize w2.heap.size = bs at *
    go_loopg [17] 21 (fun k i wr => ∃ q : Nat, i = .int .i64 q ∧ q ≤ 21 ∧ k = 21 - q ∧ Hid (∀ k, k < q → setOK c k) ∧ Hid (Below w3.heap.size w3 wr))
    case atStart => exact ⟨0, rfl, by omega, rfl, fun k hk => absurd hk (by omega), Below.refl _ _⟩
    case round =>
      obtain ⟨q, rfl, hq, hk, hOK, hB⟩ := hrel
      subst hk
      have hBw := Hid.mk' (show Below w.heap.size w wr from below_then hBw3.out (Nat.le_of_lt hs3) hB.out)
      have hBk := Hid.mk' (hBk3.out.below hB.out hs3)
      by_cases hlt : q < 21
      · obtain ⟨k0, k1, k2, k3⟩ := setCells_at q hlt
        have hSt' := hSt.out.below hB.out hSt.out.lt
        have d0 := hSt'.cell k0
        have d1 := hSt'.cell k1
        have d2 := hSt'.cell k2
        have d3 := hSt'.cell k3
        have ck := cell_alloc_old (hBk.out.cell (Clu.cells_set c _ q hlt))
        have hcf := callFunc_set q hlt
        have hbne : w.heap.size ≠ wr.heap.size := by have := hB.out.size; omega
        clear hSt' k0 k1 k2 k3
        by_cases hok : setOK c q
        · have hok' := hok
          unfold setOK at hok'
          have hOK' := Hid.mk' (show ∀ k, k < q + 1 → setOK c k from fun k hk => by
            by_cases e : k = q
            · subst e; exact hok
            · exact hOK.out k (by omega))
          have HQ := Hid.mk' hok'
          clear hok hok'
          generalize setLeast q = l at *
          generalize setMost q = m at *
          generalize setWord q = wd at *
          generalize c.set q = v at *
          go_wp2
          go_quiet ((first | (go_at_call 52; exact Calls.quiet_of_same (within_yesq _ _ _ _ HQ.out)) | exact Calls.quiet_of_same (setFn_quiet q hlt _ _)))
          go_wp2
          go_roundg (21 - (q + 1))
          case measure => omega
          case rel => exact ⟨q + 1, by go_num, by omega, rfl, hOK', below_drewN (below_alloc hB.out hB.out.size _) _⟩
        · have hno := Hid.mk' (show checkE c = 64 from by
            unfold checkE
            rw [if_neg (by simp [hname]), if_pos]
            exact fun h => hok (h q hlt))
          unfold setOK at hok
          have HQ := Hid.mk' hok
          clear hok
          generalize setLeast q = l at *
          generalize setMost q = m at *
          generalize setWord q = wd at *
          generalize c.set q = v at *
          go_wp2
          go_quiet ((first | (go_at_call 52; exact Calls.quiet_of_same (within_noq _ _ _ _ HQ.out)) | exact Calls.quiet_of_same (setFn_quiet q hlt _ _)))
          go_wp2
          go_ret2
          exact CheckedPost.no hno.out (by decide) (below_drewN (below_alloc hBw.out hBw.out.size _) _)
      · have hqe : q = 21 := by omega
        subst hqe
        have c8 := hBk.out.cell (show (c.cells (.slice A n cp))[8]? = some (.int .i64 c.s8) from rfl)
        have c5 := hBk.out.cell (show (c.cells (.slice A n cp))[5]? = some (.int .i64 c.s5) from rfl)
        have c11 := hBk.out.cell (show (c.cells (.slice A n cp))[11]? = some (.int .i64 c.s11) from rfl)
        have c10 := hBk.out.cell (show (c.cells (.slice A n cp))[10]? = some (.int .i64 c.s10) from rfl)
        have c22 := hBk.out.cell (Clu.cells_nodes c (.slice A n cp))
        obtain ⟨w4, rfl⟩ : ∃ y : World, y = wr := ⟨_, rfl⟩
        by_cases hmm : c.s8 < c.s5 ∨ c.s11 < c.s10
        · have hno := Hid.mk' (show checkE c = 64 from by
            unfold checkE
            rw [if_neg (by simp [hname]), if_neg (fun h => h hOK.out), if_pos hmm])
          by_cases hm1 : c.s8 < c.s5
          · clear hmm
            go_wp2
            go_ret2
            exact CheckedPost.no hno.out (by decide) hBw.out
          · have hm2 : c.s11 < c.s10 := by omega
            clear hmm
            go_wp2
            go_ret2
            exact CheckedPost.no hno.out (by decide) hBw.out
        · have hm1 : c.s5 ≤ c.s8 := by omega
          have hm2 : c.s10 ≤ c.s11 := by omega
          by_cases hnn : 1 ≤ n ∧ n ≤ 16
          · obtain ⟨hn1, hn2⟩ := hnn
            have HMM := Hid.mk' hmm
            clear hmm
            have hN4 := Hid.mk' (hN3.out.below hB.out)
            have hs4 : w.heap.size < w4.heap.size := by have := hB.out.size; omega
            clear hN3
            go_wp2_with (go_at_call 52; refine (within_yes _ _ _ _ (by omega)).mono ?_; rintro e w' ⟨rfl, rfl⟩)
            clear c8 c5 c11 c10
            go_loopg [6, 53] n (fun k f i wr => ∃ q : Nat, i = .int .i64 q ∧ q ≤ n ∧ k = n - q ∧ f = .int .i64 (fullN (c.nodes.take q)) ∧ Hid (∀ x ∈ c.nodes.take q, 0 ≤ x.zone ∧ x.zone ≤ 7) ∧ Hid (Below w4.heap.size w4 wr))
            case atStart => exact ⟨0, rfl, by omega, rfl, rfl, fun x hx => by simp at hx, Below.refl _ _⟩
            case round =>
              obtain ⟨q, rfl, hq, hk, rfl, hZ, hB5⟩ := hrel
              subst hk
              have hBw5 := Hid.mk' (show Below w.heap.size w wr from below_then hBw.out (Nat.le_of_lt hs4) hB5.out)
              have c22' := cell_below hB5.out c22
              by_cases hlt : q < n
              · obtain ⟨x, hx⟩ : ∃ x, c.nodes[q]? = some x := ⟨_, List.getElem?_eq_getElem (by omega)⟩
                obtain ⟨b, o, B, m, cm, hA, e1', e2', h3, h4⟩ := hN4.out.at hx
                subst hA
                have e1 := cell_below hB5.out e1'
                have e2 := cell_below hB5.out e2'
                clear e1' e2'
                have hml := h4.1
                have hmx := h4.2.1
                clear h4
                have hft := Hid.mk' (fullN_take hx)
                have hfl : fullN (c.nodes.take q) ≤ q := by
                  have h1 := fullN_le (c.nodes.take q)
                  have h2 : (c.nodes.take q).length ≤ q := List.length_take_le _ _
                  omega
                have HZ' := Hid.mk' (show 0 ≤ x.zone ∧ x.zone ≤ 7 → ∀ y ∈ c.nodes.take (q + 1), 0 ≤ y.zone ∧ y.zone ≤ 7 from fun h y hy => by
                  rw [List.take_add_one, hx] at hy
                  rcases List.mem_append.1 hy with hy | hy
                  · exact hZ.out y hy
                  · simp at hy; subst hy; exact h)
                have HZn := Hid.mk' (show ¬ (0 ≤ x.zone ∧ x.zone ≤ 7) → checkE c = 65 from fun h => by
                  unfold checkE
                  rw [if_neg (by simp [hname]), if_neg (fun h => h hOK.out), if_neg HMM.out, if_neg (by rw [hnl]; exact fun h => h ⟨hn1, hn2⟩), if_pos]
                  exact fun hh => h (hh x (List.mem_of_getElem? hx)))
                have hsz5 := hB5.out.size
                have HML := Hid.mk' hml
                clear hml
                generalize fullN (c.nodes.take q) = f at *
                by_cases hz : 0 ≤ x.zone ∧ x.zone ≤ 7
                · have HZ2 := HZ'.out hz
                  have HZ3 := Hid.mk' HZ2
                  clear HZ2 HZ' HZn
                  have hz' := Hid.mk' hz
                  clear hz
                  by_cases hm : 0 < m
                  · go_wp2_with (go_at_call 52; refine (within_yes _ _ _ _ hz'.out).mono ?_; rintro e w' ⟨rfl, rfl⟩)
                    go_roundg (n - (q + 1))
                    case measure => omega
                    case rel =>
                      refine ⟨q + 1, by go_num, by omega, rfl, ?_, HZ3, below_alloc hB5.out hsz5 _⟩
                      rw [hft.out, HML.out, if_neg (by omega)]
                      go_num
                  · have hm0 : m = 0 := by omega
                    subst hm0
                    go_wp2_with (go_at_call 52; refine (within_yes _ _ _ _ hz'.out).mono ?_; rintro e w' ⟨rfl, rfl⟩)
                    go_roundg (n - (q + 1))
                    case measure => omega
                    case rel =>
                      refine ⟨q + 1, by go_num, by omega, rfl, ?_, HZ3, below_alloc hB5.out hsz5 _⟩
                      rw [hft.out, HML.out, if_pos rfl]
                      rfl
                · have hno := Hid.mk' (HZn.out hz)
                  have hz' := Hid.mk' hz
                  clear hz HZn HZ'
                  go_wp2_with (go_at_call 52; refine (within_no _ _ _ _ hz'.out).mono ?_; rintro e w' ⟨rfl, rfl⟩)
                  go_ret2
                  exact CheckedPost.no hno.out (by decide) (below_alloc hBw5.out hBw5.out.size _)
              · have hqe : n = q := by omega
                subst hqe
                have ht : c.nodes.take n = c.nodes := by rw [← hnl]; exact List.take_length
                rw [ht] at hZ
                rw [ht]
                clear ht
                obtain ⟨w5, rfl⟩ : ∃ y : World, y = wr := ⟨_, rfl⟩
                have hBk5 := Hid.mk' (hBk.out.below hB5.out hs4)
                have hN5 := Hid.mk' (hN4.out.below hB5.out)
                have hs5 : w.heap.size < w5.heap.size := by have := hB5.out.size; omega
                have hfl : fullN c.nodes ≤ 16 := by have := fullN_le c.nodes; omega
                have c1 := hBk5.out.cell (show (c.cells (.slice A n cp))[1]? = some (.int .i64 c.s1) from rfl)
                have c3 := hBk5.out.cell (show (c.cells (.slice A n cp))[3]? = some (.int .i64 c.s3) from rfl)
                cases hF : homesF c.nodes with
                | none =>
                  have hno := Hid.mk' (show checkE c = 66 from by
                    unfold checkE
                    rw [if_neg (by simp [hname]), if_neg (fun h => h hOK.out), if_neg HMM.out, if_neg (by rw [hnl]; exact fun h => h ⟨hn1, hn2⟩), if_neg (fun h => h hZ.out), hF])
                  have HF := Hid.mk' hF
                  clear hF
                  go_wp2_with (first
                    | (refine wpList_load_row rfl 24 _ rfl w.heap.size rfl 24 _ (0, 0) _ hBk5.out Tryd.underlying24 rfl info_clu ?_)
                    | (go_at_call 69; refine (homes_no c A n cp _ hN5.out hcp hn2 HL.out HF.out).mono ?_; rintro e w6 ⟨rfl, hb6⟩; have HB6 := Hid.mk' hb6; clear hb6))
                  go_ret2
                  exact CheckedPost.no hno.out (by decide) (below_then hBw5.out (Nat.le_of_lt hs5) HB6.out)
                | some l =>
                  have hbd := set_bounds hOK.out
                  have hll := homesF_length hF
                  have hE := Hid.mk' (show checkE c = if (fullN c.nodes : Int) < c.s1 then 67 else if 512 < (l.length : Int) * c.s1 * c.s3 then 3 else 0 from by
                    unfold checkE
                    rw [if_neg (by simp [hname]), if_neg (fun h => h hOK.out), if_neg HMM.out, if_neg (by rw [hnl]; exact fun h => h ⟨hn1, hn2⟩), if_neg (fun h => h hZ.out), hF])
                  have HF := Hid.mk' hF
                  clear hF
                  have hL : l.length ≤ 64 := by omega
                  clear hll
                  by_cases hfl2 : (fullN c.nodes : Int) < c.s1
                  · go_wp2_with (first
                      | (refine wpList_load_row rfl 24 _ rfl w.heap.size rfl 24 _ (0, 0) _ hBk5.out Tryd.underlying24 rfl info_clu ?_)
                      | (go_at_call 69; refine (homes_yes c A n cp _ hN5.out hcp hn2 HL.out HF.out).mono ?_; rintro e w6 ⟨v, rfl, ho6, hb6⟩; have HB6 := Hid.mk' hb6; have HO6 := Hid.mk' ho6; have c1' := cell_below hb6 c1; have c3' := cell_below hb6 c3; obtain ⟨A6, C6, hv⟩ := ho6.shape; subst hv; clear hb6 ho6 c1 c3))
                    go_ret2
                    exact CheckedPost.no (by rw [hE.out, if_pos hfl2]) (by decide) (below_then hBw5.out (Nat.le_of_lt hs5) HB6.out)
                  · go_wp2_with (first
                      | (refine wpList_load_row rfl 24 _ rfl w.heap.size rfl 24 _ (0, 0) _ hBk5.out Tryd.underlying24 rfl info_clu ?_)
                      | (go_at_call 69; refine (homes_yes c A n cp _ hN5.out hcp hn2 HL.out HF.out).mono ?_; rintro e w6 ⟨v, rfl, ho6, hb6⟩; have HB6 := Hid.mk' hb6; have HO6 := Hid.mk' ho6; have c1' := cell_below hb6 c1; have c3' := cell_below hb6 c3; obtain ⟨A6, C6, hv⟩ := ho6.shape; subst hv; clear hb6 ho6 c1 c3))
                    · have hp : 512 < wrap64 (wrap64 ((l.length : Int) * c.s1) * c.s3) := (by assumption)
                      rw [prod_wrap hL ⟨hbd.1, hbd.2.1⟩ hbd.2.2] at hp
                      go_ret2
                      exact CheckedPost.no (by rw [hE.out, if_neg (by omega), if_pos hp]) (by decide) (below_then hBw5.out (Nat.le_of_lt hs5) HB6.out)
                    · have hp : wrap64 (wrap64 ((l.length : Int) * c.s1) * c.s3) ≤ 512 := (by assumption)
                      rw [prod_wrap hL ⟨hbd.1, hbd.2.1⟩ hbd.2.2] at hp
                      go_ret2
                      exact CheckedPost.yes (by rw [hE.out, if_neg (by omega), if_neg (by omega)]) HF.out (World.ownsRow.mono HO6.out (Nat.le_of_lt hs5)) (below_then hBw5.out (Nat.le_of_lt hs5) HB6.out)
          · have hno := Hid.mk' (show checkE c = 65 from by
              unfold checkE
              rw [if_neg (by simp [hname]), if_neg (fun h => h hOK.out), if_neg hmm, if_pos (by rw [hnl]; exact hnn)])
            have hnn' : ¬ (1 ≤ (n : Int) ∧ (n : Int) ≤ 16) := by omega
            clear hmm hnn
            go_wp2_with (go_at_call 52; refine (within_no _ _ _ _ hnn').mono ?_; rintro e w' ⟨rfl, rfl⟩)
            go_ret2
            exact CheckedPost.no hno.out (by decide) hBw.out
  · have hname' : nameB c.store = false := by simpa using hname
    have hE := Hid.mk' (show checkE c = 63 from by unfold checkE; rw [if_pos hname'])
    go_enter Tryd.func51, Tryd.ntmps51
    go_wp2_with (first
      | ((with_reducible refine box_arm (P := Tryd.prog) rfl 24 (.tmp 0) rfl _ (c.cells (.slice A n cp)) rfl rfl ?_); intro w1 hbk hb1 hs1; have HBk := Hid.mk' hbk; have HB1 := Hid.mk' hb1; have Hs1 := Hid.mk' hs1; have c0 := Blk.cell hbk (Clu.cells_store c _); clear hbk hb1 hs1)
      | (go_at_call 67; refine (name_no _ hs _ hname').mono ?_; rintro e w2 ⟨rfl, hb2⟩; have HB2 := Hid.mk' hb2; clear hb2))
    go_ret2
    exact CheckedPost.no hE.out (by decide) (below_then HB1.out (by have := Hs1.out; omega) HB2.out)

set_option maxRecDepth 100000 in
theorem check_any (c : Clu) (A : Option Addr) (n cp : Nat) (w : World) (hN : RdN w A n c.nodes) (hcp : n ≤ cp) (hs : c.store.size ≤ 9223372036854775807) (hlen : ∀ x ∈ c.nodes, x.parts.length ≤ 17592186044416) :
    Calls Tryd.prog 34 #[c.val (.slice A n cp)] w fun e w' => e = .returned (.int .i64 (checkE c)) ∧ Below w.heap.size w w' := by
  unfold Clu.val
  go_enter Tryd.func34, Tryd.ntmps34
  go_wp2_with (first
    | ((with_reducible refine box_arm (P := Tryd.prog) rfl 24 (.tmp 0) rfl _ (c.cells (.slice A n cp)) rfl rfl ?_); intro w1 hbk hb1 hs1; have HBk := Hid.mk' hbk; have HB1 := Hid.mk' hb1; have Hs1 := Hid.mk' hs1; clear hbk hb1 hs1)
    | (refine wpList_load_row rfl 24 _ rfl w.heap.size rfl 24 _ (0, 0) _ HBk.out Tryd.underlying24 rfl info_clu ?_)
    | (go_at_call 51; refine (checked_any c A n cp _ (by exact hN.below HB1.out) hcp hs hlen).mono ?_; rintro e w2 hp; have HP := Hid.mk' hp; clear hp; rcases HP.out with ⟨⟨h0, v, l, hl, rfl, ho⟩ | ⟨h0, rfl⟩, hb⟩ <;> (have HB := Hid.mk' hb; have H0 := Hid.mk' h0; clear HP hb h0)))
  · go_ret
    refine ⟨?_, below_then HB1.out (by have := Hs1.out; omega) HB.out⟩
    rw [H0.out]
    rfl
  · go_ret
    exact ⟨rfl, below_then HB1.out (by have := Hs1.out; omega) HB.out⟩
end Go.Proofs.YtmkkllfpdoeojaaDoor
