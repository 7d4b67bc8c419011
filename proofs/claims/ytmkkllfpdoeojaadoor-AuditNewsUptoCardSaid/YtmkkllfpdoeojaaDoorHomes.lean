/- ring.within, ring.nameOK, ring.homes: for every argument that is read. -/
import Derived.Test.YtmkkllfpdoeojaaDoorClu
namespace Go.Proofs.YtmkkllfpdoeojaaDoor
open Go.RowKit
set_option linter.unusedVariables false

theorem within_any (n l m : Int) (w : World) : Calls Tryd.prog 52 #[.int .i64 n, .int .i64 l, .int .i64 m] w fun e w' => e = .returned (.bool (decide (l ≤ n ∧ n ≤ m))) ∧ w' = w := by
  go_enter Tryd.func52, Tryd.ntmps52
  go_wp2
  · have h1 : l ≤ n := (by assumption)
    go_ret
    refine ⟨?_, rfl⟩
    simp [h1]
  · have h1 : n < l := (by assumption)
    go_ret
    refine ⟨?_, rfl⟩
    rw [decide_eq_false (by omega : ¬ l ≤ n)]
    rfl

theorem within_yes (n l m : Int) (w : World) (h : l ≤ n ∧ n ≤ m) : Calls Tryd.prog 52 #[.int .i64 n, .int .i64 l, .int .i64 m] w fun e w' => e = .returned (.bool true) ∧ w = w' :=
  (within_any n l m w).mono fun e w' ⟨h1, h2⟩ => ⟨by rw [h1, decide_eq_true h], h2.symm⟩
theorem within_no (n l m : Int) (w : World) (h : ¬ (l ≤ n ∧ n ≤ m)) : Calls Tryd.prog 52 #[.int .i64 n, .int .i64 l, .int .i64 m] w fun e w' => e = .returned (.bool false) ∧ w = w' :=
  (within_any n l m w).mono fun e w' ⟨h1, h2⟩ => ⟨by rw [h1, decide_eq_false h], h2.symm⟩
theorem within_yesq (n l m : Int) (w : World) (h : l ≤ n ∧ n ≤ m) : Calls Tryd.prog 52 #[.int .i64 n, .int .i64 l, .int .i64 m] w fun e w' => e = .returned (.bool true) ∧ w' = w :=
  (within_any n l m w).mono fun e w' ⟨h1, h2⟩ => ⟨by rw [h1, decide_eq_true h], h2⟩
theorem within_noq (n l m : Int) (w : World) (h : ¬ (l ≤ n ∧ n ≤ m)) : Calls Tryd.prog 52 #[.int .i64 n, .int .i64 l, .int .i64 m] w fun e w' => e = .returned (.bool false) ∧ w' = w :=
  (within_any n l m w).mono fun e w' ⟨h1, h2⟩ => ⟨by rw [h1, decide_eq_false h], h2⟩
def cnt : List Nd → Nat
  | [] => 0
  | x :: xs => x.parts.length + cnt xs
def homesIn (P : Nat) (i : Nat) : List Int → List Int → Option (List Int)
  | [], h => some h
  | p :: ps, h => if p < 0 ∨ (P : Int) ≤ p ∨ 0 ≤ h.getD p.toNat 0 then none else homesIn P i ps (h.set p.toNat (i : Int))
open Classical in
noncomputable def homesGo (P : Nat) : List Nd → Nat → List Int → Option (List Int)
  | [], _, h => some h
  | x :: xs, i, h => if Srt x.parts then (match homesIn P i x.parts h with | some h' => homesGo P xs (i + 1) h' | none => none) else none
noncomputable def homesF (ns : List Nd) : Option (List Int) := if 1 ≤ cnt ns ∧ cnt ns ≤ 64 then homesGo (cnt ns) ns 0 (List.replicate (cnt ns) (-1)) else none
def HomesPost (ns : List Nd) (w : World) (e : Ending) (w' : World) : Prop :=
  (match homesF ns with
    | some h => ∃ v, e = .returned (.tuple #[v, .int .i64 0]) ∧ Own w' w.heap.size v h
    | none => e = .returned (.tuple #[.slice none 0 0, .int .i64 66])) ∧ Below w.heap.size w w'
theorem HomesPost.no {ns : List Nd} {w w' : World} (h : homesF ns = none) (hb : Below w.heap.size w w') : HomesPost ns w (.returned (.tuple #[.slice none 0 0, .int .i64 66])) w' := by
  unfold HomesPost; rw [h]; exact ⟨rfl, hb⟩
theorem HomesPost.yes {ns : List Nd} {w w' : World} {v : Value} {l : List Int} (h : homesF ns = some l) (ho : Own w' w.heap.size v l) (hb : Below w.heap.size w w') : HomesPost ns w (.returned (.tuple #[v, .int .i64 0])) w' := by
  unfold HomesPost; rw [h]; exact ⟨⟨v, rfl, ho⟩, hb⟩

theorem cnt_drop {ns : List Nd} {k : Nat} {x : Nd} (h : ns[k]? = some x) : cnt (ns.take (k + 1)) = cnt (ns.take k) + x.parts.length := by
  induction ns generalizing k with
  | nil => simp at h
  | cons y ys ih =>
    cases k with
    | zero => simp at h; subst h; simp [cnt]
    | succ k => simp at h; simp [cnt, ih h]; omega
theorem cnt_le {ns : List Nd} {B : Nat} (h : ∀ x ∈ ns, x.parts.length ≤ B) : ∀ k, cnt (ns.take k) ≤ k * B := by
  induction ns with
  | nil => intro k; simp [cnt]
  | cons y ys ih =>
    intro k
    cases k with
    | zero => simp [cnt]
    | succ k =>
      have h1 := ih (fun x hx => h x (List.mem_cons_of_mem _ hx)) k
      have h2 := h y List.mem_cons_self
      simp only [List.take_succ_cons, cnt, Nat.succ_mul]
      omega

theorem fill_set (P q : Nat) (h : q < P) : (List.replicate q (-1 : Int) ++ List.replicate (P - q) 0).set q (-1) = List.replicate (q + 1) (-1) ++ List.replicate (P - (q + 1)) 0 := by
  rw [List.set_append_right _ _ (by simp), List.length_replicate, Nat.sub_self, show P - q = (P - (q + 1)) + 1 by omega, List.replicate_succ, List.set_cons_zero, show List.replicate (q + 1) (-1 : Int) = List.replicate q (-1) ++ [-1] from List.replicate_succ', List.append_assoc]
  rfl
theorem sorted_yes (A : Option Addr) (n c : Nat) (xs : List Int) (w : World) (hR : RdI w A n xs) (hs : Srt xs) :
    Calls Tryd.prog 98 #[.slice A n c] w fun e w' => e = .returned (.bool true) ∧ ∃ m, w' = w.drewN m :=
  (intsAreSorted_any A n c xs w hR).mono fun e w' ⟨h1, h2⟩ => ⟨by rw [h1, srtB_true hs], h2⟩
theorem sorted_no (A : Option Addr) (n c : Nat) (xs : List Int) (w : World) (hR : RdI w A n xs) (hs : ¬ Srt xs) :
    Calls Tryd.prog 98 #[.slice A n c] w fun e w' => e = .returned (.bool false) ∧ ∃ m, w' = w.drewN m :=
  (intsAreSorted_any A n c xs w hR).mono fun e w' ⟨h1, h2⟩ => ⟨by rw [h1, srtB_false hs], h2⟩
theorem homesGo_cons (P : Nat) (x : Nd) (xs : List Nd) (i : Nat) (h : List Int) (hs : Srt x.parts) : homesGo P (x :: xs) i h = (match homesIn P i x.parts h with | some h' => homesGo P xs (i + 1) h' | none => none) := by
  rw [homesGo, if_pos hs]
theorem homesGo_no (P : Nat) (x : Nd) (xs : List Nd) (i : Nat) (h : List Int) (hs : ¬ Srt x.parts) : homesGo P (x :: xs) i h = none := by
  rw [homesGo, if_neg hs]
theorem homesIn_length (P i : Nat) : ∀ (ps h h' : List Int), homesIn P i ps h = some h' → h'.length = h.length
  | [], h, h', e => by simp [homesIn] at e; rw [e]
  | p :: ps, h, h', e => by
    unfold homesIn at e
    split at e
    · cases e
    · rw [homesIn_length P i ps _ h' e]; simp
theorem homesGo_length (P : Nat) : ∀ (ns : List Nd) (i : Nat) (h h' : List Int), homesGo P ns i h = some h' → h'.length = h.length
  | [], i, h, h', e => by simp [homesGo] at e; rw [e]
  | x :: xs, i, h, h', e => by
    by_cases hs : Srt x.parts
    · rw [homesGo_cons P x xs i h hs] at e
      split at e
      · rename_i h1 e1
        rw [homesGo_length P xs _ _ h' e, homesIn_length P i x.parts h h1 e1]
      · cases e
    · rw [homesGo_no P x xs i h hs] at e
      cases e
theorem homesF_length {ns : List Nd} {l : List Int} (h : homesF ns = some l) : l.length = cnt ns ∧ 1 ≤ cnt ns ∧ cnt ns ≤ 64 := by
  unfold homesF at h
  split at h
  · rename_i hc
    exact ⟨by rw [homesGo_length _ _ _ _ _ h]; simp, hc⟩
  · cases h
theorem drop_at {α : Type} {l : List α} {k : Nat} {x : α} (h : l[k]? = some x) : l.drop k = x :: l.drop (k + 1) := by
  have hl := (List.getElem?_eq_some_iff.1 h)
  rw [List.drop_eq_getElem_cons hl.1, hl.2]

set_option maxRecDepth 100000 in
set_option maxHeartbeats 1600000 in
theorem homes_any (c : Clu) (A : Option Addr) (n cp : Nat) (w : World) (hN : RdN w A n c.nodes) (hcp : n ≤ cp) (hn : n ≤ 16) (hlen : ∀ x ∈ c.nodes, x.parts.length ≤ 17592186044416) :
    Calls Tryd.prog 69 #[c.val (.slice A n cp)] w (HomesPost c.nodes w) := by
  have hnl : c.nodes.length = n := hN.1
  have HL := Hid.mk' hlen
  clear hlen
  unfold Clu.val
  go_enter Tryd.func69, Tryd.ntmps69
  go_wp2_with ((with_reducible refine box_arm (P := Tryd.prog) rfl 24 (.tmp 0) rfl _ (c.cells (.slice A n cp)) rfl rfl ?_); intro w1 hbk hb1 hs1; have HBk := Hid.mk' hbk; have HB1 := Hid.mk' hb1; have Hs1 := Hid.mk' hs1; have c22 := Blk.cell hbk (Clu.cells_nodes c _); clear hbk hb1 hs1)
  have hN1 := Hid.mk' (hN.below HB1.out)
  clear hN
  have hBlt : Hid (w.heap.size < w1.heap.size) := by have := Hs1.out; exact Hid.mk' (by omega)
  go_loopg [4, 16] n (fun k s i wr => ∃ q : Nat, i = .int .i64 q ∧ q ≤ n ∧ k = n - q ∧ s = .int .i64 (cnt (c.nodes.take q)) ∧ Hid (Below w1.heap.size w1 wr))
  case atStart => exact ⟨0, rfl, by omega, rfl, rfl, Below.refl _ _⟩
  case round =>
    obtain ⟨q, rfl, hq, hk, rfl, hB⟩ := hrel
    subst hk
    have hsz := hB.out.size
    by_cases hlt : q < n
    · obtain ⟨x, hx⟩ : ∃ x, c.nodes[q]? = some x := ⟨_, List.getElem?_eq_getElem (by omega)⟩
      obtain ⟨b, o, B, m, cm, hA, h1, h2, h3, h4⟩ := (hN1.out.below hB.out).at hx
      subst hA
      have hm := h4.1
      have H4 := Hid.mk' h4
      have hcnt := Hid.mk' (cnt_drop hx)
      have hle := cnt_le HL.out q
      have hxl := HL.out x (List.mem_of_getElem? hx)
      have hm2 : m ≤ 17592186044416 := by omega
      have hle2 : cnt (c.nodes.take q) ≤ 16 * 17592186044416 := Nat.le_trans hle (Nat.mul_le_mul_right _ (by omega))
      clear h4 hle hxl
      have HM := Hid.mk' hm
      clear hm
      generalize cnt (c.nodes.take q) = cq at *
      go_wp2
      go_roundg (n - (q + 1))
      case measure => omega
      case rel =>
        refine ⟨q + 1, by go_num, by omega, rfl, ?_, below_alloc hB.out hsz _⟩
        rw [hcnt.out, HM.out]
        go_num
    · have hqe : n = q := by omega
      subst hqe
      have hle := cnt_le HL.out c.nodes.length
      rw [List.take_length] at hle
      have hle2 : cnt c.nodes ≤ 16 * 17592186044416 := Nat.le_trans hle (Nat.mul_le_mul_right _ (by omega))
      clear hle
      have ht : c.nodes.take n = c.nodes := by rw [← hnl]; exact List.take_length
      rw [ht]
      clear ht
      by_cases hw : 1 ≤ cnt c.nodes ∧ cnt c.nodes ≤ 64
      · obtain ⟨hw1, hw2⟩ := hw
        have hF := Hid.mk' (show homesF c.nodes = homesGo (cnt c.nodes) c.nodes 0 (List.replicate (cnt c.nodes) (-1)) from by unfold homesF; rw [if_pos ⟨hw1, hw2⟩])
        have hmk := make_int (cnt c.nodes) (by omega)
        generalize cnt c.nodes = P at hF hw1 hw2 hle2 hmk
        go_wp2_with (go_at_call 52; refine (within_yes _ _ _ _ (by omega)).mono ?_; rintro e w' ⟨rfl, rfl⟩)
        clear hmk
        obtain ⟨w2, hw2e⟩ : ∃ x : World, x = wr := ⟨_, rfl⟩
        rw [← hw2e] at hB hsz
        rw [← hw2e]
        have hOw := own_made w2 w1.heap.size P hsz (by omega)
        have hB3 := below_alloc hB.out hsz (.cells (madeCells #[.int .i64 0] P) 3)
        obtain ⟨w3, hw3⟩ : ∃ x : World, x = w2.alloc (.cells (madeCells #[.int .i64 0] P) 3) := ⟨_, rfl⟩
        rw [← hw3] at hOw hB3
        rw [← hw3]
        have hg1 := hOw.ge
        generalize w2.heap.size = g at *
        have hN3 := Hid.mk' (hN1.out.below hB3)
        have hB3' := Hid.mk' hB3
        have hOw' := Hid.mk' hOw
        clear hB3 hOw hw3 hw2e hB hsz
        go_loopg [8, 33] P (fun k _ i wr => ∃ q2 : Nat, i = .int .i64 q2 ∧ q2 ≤ P ∧ k = P - q2 ∧ Hid (Own wr w1.heap.size (.slice (some ⟨g, 0, none⟩) P P) (List.replicate q2 (-1) ++ List.replicate (P - q2) 0)) ∧ Hid (Below w1.heap.size w1 wr))
        case atStart => exact ⟨0, rfl, by omega, rfl, hOw', hB3'⟩
        case round =>
          obtain ⟨q2, rfl, hq2, hk2, hO2, hB2⟩ := hrel
          subst hk2
          by_cases hlt2 : q2 < P
          · have hf := hO2.out.free q2
            have hc := hO2.out.cell (j := q2) (by simp; omega)
            have hgl := hO2.out.ge
            generalize (List.replicate q2 (-1 : Int) ++ List.replicate (P - q2) 0).getD q2 0 = old at hc
            go_wp2
            go_roundg (P - (q2 + 1))
            case measure => omega
            case rel =>
              refine ⟨q2 + 1, by go_num, by omega, rfl, ?_, below_setCell hB2.out hgl.1 _⟩
              have := hO2.out.set q2 (-1)
              rw [fill_set P q2 hlt2] at this
              exact this
          · have hqe2 : P = q2 := by omega
            subst hqe2
            have hO3 : Hid (Own wr w1.heap.size (.slice (some ⟨g, 0, none⟩) P P) (List.replicate P (-1))) := by
              have := hO2.out
              rwa [Nat.sub_self, List.replicate_zero, List.append_nil] at this
            clear hO2
            obtain ⟨w4, hw4⟩ : ∃ x : World, x = wr := ⟨_, rfl⟩
            rw [← hw4] at hB2 hO3
            rw [← hw4]
            clear hw4
            have c22' := cell_below hB2.out c22
            go_wp2
            go_loopg [43] n (fun k i wr => ∃ (q3 : Nat) (hm : List Int), i = .int .i64 q3 ∧ q3 ≤ n ∧ k = n - q3 ∧ hm.length = P ∧ Hid (homesF c.nodes = homesGo P (c.nodes.drop q3) q3 hm) ∧ Hid (Own wr w1.heap.size (.slice (some ⟨g, 0, none⟩) P P) hm) ∧ Hid (Below w1.heap.size w1 wr))
            case atStart => exact ⟨0, _, rfl, by omega, rfl, by simp, hF, hO3, hB2⟩
            case round =>
              obtain ⟨q3, hm, rfl, hq3, hk3, hml, hF3, hO5, hB5⟩ := hrel
              subst hk3
              have hBw := Hid.mk' (show Below w.heap.size w wr from below_then HB1.out (Nat.le_of_lt hBlt.out) hB5.out)
              by_cases hlt3 : q3 < n
              · obtain ⟨x, hx⟩ : ∃ x, c.nodes[q3]? = some x := ⟨_, List.getElem?_eq_getElem (by omega)⟩
                rw [drop_at hx] at hF3
                obtain ⟨b, o, B, m, cm, hA, e1', e2', h3, h4⟩ := hN1.out.at hx
                subst hA
                have e1 := cell_below hB5.out e1'
                have e2 := cell_below hB5.out e2'
                clear e1' e2'
                have H4 := Hid.mk' h4
                have hml4 := h4.1
                have hmx := h4.2.1
                clear h4
                have hsz5 := hB5.out.size
                by_cases hs : Srt x.parts
                · have hF4 := Hid.mk' (hF3.out.trans (homesGo_cons P x _ q3 hm hs))
                  clear hF3
                  obtain ⟨w5, hw5⟩ : ∃ y : World, y = wr := ⟨_, rfl⟩
                  rw [← hw5] at hO5 hB5 hBw e1 e2 hsz5
                  rw [← hw5]
                  clear hw5
                  have hHs := Hid.mk' hs
                  clear hs
                  have hML := Hid.mk' hml4
                  clear hml4
                  go_wp2_with (go_at_call 98; refine (sorted_yes _ _ _ x.parts _ (by exact H4.out.below (below_alloc hB5.out hB5.out.size _)) hHs.out).mono ?_; rintro e w' ⟨rfl, mm, rfl⟩)
                  obtain ⟨w6, hw6⟩ : ∃ y : World, y = (w5.alloc (.cells #[.int .i64 x.zone, .slice B m cm] 90)).drewN mm := ⟨_, rfl⟩
                  have hO6 : Hid (Own w6 w1.heap.size (.slice (some ⟨g, 0, none⟩) P P) hm) := by rw [hw6]; exact (hO5.out.below (below_alloc (Below.refl _ _) (Nat.le_refl _) _)).drewN mm
                  have hB6 : Hid (Below w1.heap.size w1 w6) := by rw [hw6]; exact below_drewN (below_alloc hB5.out hsz5 _) mm
                  rw [← hw6]
                  clear hw6 e1 e2
                  go_loopg [12, 55] m (fun k _ i wr => ∃ (q4 : Nat) (hm' : List Int), i = .int .i64 q4 ∧ q4 ≤ m ∧ k = m - q4 ∧ hm'.length = P ∧ Hid (homesIn P q3 (x.parts.drop q4) hm' = homesIn P q3 x.parts hm) ∧ Hid (Own wr w1.heap.size (.slice (some ⟨g, 0, none⟩) P P) hm') ∧ Hid (Below w1.heap.size w1 wr))
                  case atStart => exact ⟨0, _, rfl, by omega, rfl, hml, rfl, hO6, hB6⟩
                  case round =>
                    obtain ⟨q4, hm', rfl, hq4, hk4, hml', hI, hO7, hB7⟩ := hrel
                    subst hk4
                    have hBw7 := Hid.mk' (show Below w.heap.size w wr from below_then HB1.out (Nat.le_of_lt hBlt.out) hB7.out)
                    by_cases hlt4 : q4 < m
                    · obtain ⟨b', o', hA', hp⟩ := (H4.out.below hB7.out).at hlt4
                      subst hA'
                      have hpx : x.parts[q4]? = some (x.parts.getD q4 0) := by rw [List.getD_eq_getElem?_getD, List.getElem?_eq_getElem (by have := hML.out; omega)]; rfl
                      rw [drop_at hpx] at hI
                      generalize x.parts.getD q4 0 = p at hp hI
                      clear hpx
                      by_cases hbad : p < 0 ∨ (P : Int) ≤ p
                      · have hno := Hid.mk' (show homesF c.nodes = none from by
                          have := hI.out
                          rw [homesIn, if_pos (by rcases hbad with h | h <;> simp [h])] at this
                          rw [hF4.out, ← this])
                        by_cases hneg : p < 0
                        · go_wp2
                          go_ret2
                          exact HomesPost.no hno.out hBw7.out
                        · have hP : (P : Int) ≤ p := by omega
                          clear hbad
                          go_wp2
                          go_ret2
                          exact HomesPost.no hno.out hBw7.out
                      · obtain ⟨pn, rfl⟩ : ∃ pn : Nat, p = pn := ⟨p.toNat, by omega⟩
                        have hpP : pn < P := by omega
                        clear hbad
                        have hc7 := hO7.out.cell (j := pn) (by omega)
                        have hf7 := hO7.out.free pn
                        have hge7 := hO7.out.ge
                        have hI' := hI.out
                        rw [homesIn, Int.toNat_natCast] at hI'
                        have HI := Hid.mk' hI'
                        clear hI hI'
                        generalize hm'.getD pn 0 = hp0 at hc7 HI
                        by_cases hh : 0 ≤ hp0
                        · have hno := Hid.mk' (show homesF c.nodes = none from by
                            have := HI.out
                            rw [if_pos (by simp [hh])] at this
                            rw [hF4.out, ← this])
                          go_wp2
                          go_ret2
                          exact HomesPost.no hno.out hBw7.out
                        · have hgo := Hid.mk' (show homesIn P q3 (x.parts.drop (q4 + 1)) (hm'.set pn (q3 : Int)) = homesIn P q3 x.parts hm from by
                            rw [← HI.out, if_neg]
                            omega)
                          have hh' : hp0 < 0 := by omega
                          clear hh HI
                          go_wp2
                          go_roundg (m - (q4 + 1))
                          case measure => omega
                          case rel =>
                            exact ⟨q4 + 1, _, by go_num, by omega, rfl, by simpa using hml', hgo, hO7.out.set pn _, below_setCell hB7.out hge7.1 _⟩
                    · have hqe4 : m = q4 := by omega
                      subst hqe4
                      have hI8 := Hid.mk' (show homesIn P q3 x.parts hm = some hm' from by rw [← hI.out, List.drop_of_length_le (by have := hML.out; omega)]; rfl)
                      have hF8 := hF4.out
                      rw [hI8.out] at hF8
                      have HF8 := Hid.mk' hF8
                      clear hF8
                      go_wp2
                      go_roundg (n - (q3 + 1))
                      case measure => omega
                      case rel =>
                        exact ⟨q3 + 1, _, by go_num, by omega, rfl, hml', HF8, hO7, hB7⟩
                · have hF4 := Hid.mk' (hF3.out.trans (homesGo_no P x _ q3 hm hs))
                  clear hF3
                  have hHs := Hid.mk' hs
                  clear hs
                  go_wp2_with (go_at_call 98; refine (sorted_no _ _ _ x.parts _ (by exact H4.out.below (below_alloc hB5.out hB5.out.size _)) hHs.out).mono ?_; rintro e w' ⟨rfl, mm, rfl⟩)
                  go_ret2
                  exact HomesPost.no hF4.out (below_drewN (below_alloc hBw.out hBw.out.size _) mm)
              · have hqe3 : n = q3 := by omega
                subst hqe3
                have hF4 := Hid.mk' (show homesF c.nodes = some hm from by rw [hF3.out, List.drop_of_length_le (by omega)]; rfl)
                go_wp2
                go_ret2
                exact HomesPost.yes hF4.out (World.ownsRow.mono hO5.out (Nat.le_of_lt hBlt.out)) hBw.out
      · have hF := Hid.mk' (show homesF c.nodes = none from by unfold homesF; rw [if_neg hw])
        have hw' : ¬ (1 ≤ (cnt c.nodes : Int) ∧ (cnt c.nodes : Int) ≤ 64) := by omega
        have hB2 := Hid.mk' (show Below w.heap.size w wr from below_then HB1.out (Nat.le_of_lt hBlt.out) hB.out)
        go_wp2_with (go_at_call 52; refine (within_no _ _ _ _ hw').mono ?_; rintro e w' ⟨rfl, rfl⟩)
        all_goals (go_ret2; exact HomesPost.no hF.out hB2.out)
end Go.Proofs.YtmkkllfpdoeojaaDoor
