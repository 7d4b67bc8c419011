/- granaryref6.walk: for every valid definition that is read. -/
import Derived.Test.YtmkkllfpdoeojaaDoorRef5
import Derived.Test.YtmkkllfpdoeojaaDoorHolds
namespace Go.Proofs.YtmkkllfpdoeojaaDoor
open Go.RowKit Go.Sort
set_option linter.unusedVariables false

/-- Has a node been met among the first i partitions? -/
theorem firsts_met (home : List Nat) (part : Nat) (x : Nat) : ∀ i, (∃ j, j < i ∧ home.getD ((part + j) % home.length) 0 = x) ↔ (∃ t ∈ firsts home part i, home.getD t 0 = x)
  | 0 => by simp [firsts]
  | i + 1 => by
    have ih := firsts_met home part x i
    rw [firsts_succ]
    constructor
    · rintro ⟨j, hj, he⟩
      by_cases hji : j = i
      · subst hji
        by_cases ha : (firsts home part j).any (fun t => home.getD t 0 == home.getD ((part + j) % home.length) 0) = true
        · rw [if_pos ha]
          obtain ⟨t, ht, hte⟩ := List.any_eq_true.1 ha
          exact ⟨t, ht, by rw [← he]; exact beq_iff_eq.1 hte⟩
        · rw [if_neg ha]
          exact ⟨_, List.mem_append_right _ (List.mem_singleton.2 rfl), he⟩
      · obtain ⟨t, ht, hte⟩ := ih.1 ⟨j, by omega, he⟩
        split
        · exact ⟨t, ht, hte⟩
        · exact ⟨t, List.mem_append_left _ ht, hte⟩
    · rintro ⟨t, ht, hte⟩
      split at ht
      · obtain ⟨j, hj, he⟩ := ih.2 ⟨t, ht, hte⟩
        exact ⟨j, by omega, he⟩
      · rcases List.mem_append.1 ht with ht | ht
        · obtain ⟨j, hj, he⟩ := ih.2 ⟨t, ht, hte⟩
          exact ⟨j, by omega, he⟩
        · rw [List.mem_singleton.1 ht] at hte
          exact ⟨i, by omega, hte⟩
def freshB (home : List Nat) (part i : Nat) (m : Nat) : Bool := (List.range m).all fun j => !(home.getD ((part + j) % home.length) 0 == home.getD ((part + i) % home.length) 0)
theorem freshB_succ (home : List Nat) (part i m : Nat) : freshB home part i (m + 1) = (freshB home part i m && !(home.getD ((part + m) % home.length) 0 == home.getD ((part + i) % home.length) 0)) := by
  unfold freshB; rw [List.range_succ, List.all_append]; simp
theorem firsts_fresh (home : List Nat) (part i : Nat) : firsts home part (i + 1) = if freshB home part i i = true then firsts home part i ++ [(part + i) % home.length] else firsts home part i := by
  rw [firsts_succ]
  have hm := firsts_met home part (home.getD ((part + i) % home.length) 0) i
  by_cases ha : (firsts home part i).any (fun t => home.getD t 0 == home.getD ((part + i) % home.length) 0) = true
  · rw [if_pos ha, if_neg]
    intro hf
    obtain ⟨t, ht, hte⟩ := List.any_eq_true.1 ha
    obtain ⟨j, hj, he⟩ := hm.2 ⟨t, ht, beq_iff_eq.1 hte⟩
    have := List.all_eq_true.1 hf j (List.mem_range.2 hj)
    rw [he] at this
    simp at this
  · rw [if_neg ha, if_pos]
    unfold freshB
    rw [List.all_eq_true]
    intro j hj
    cases he : (home.getD ((part + j) % home.length) 0 == home.getD ((part + i) % home.length) 0) with
    | false => rfl
    | true =>
      exfalso
      apply ha
      obtain ⟨t, ht, hte⟩ := hm.1 ⟨j, List.mem_range.1 hj, beq_iff_eq.1 he⟩
      exact List.any_eq_true.2 ⟨t, ht, beq_iff_eq.2 hte⟩
theorem homeI_valid {ns : List Nd} (h : Valid ns) {p : Nat} (hp : p < cnt ns) : homeI ns (p : Int) = ((homeL ns).getD p 0 : Nat) := by
  unfold homeI
  rw [if_pos (h.2.2.1.mem_iff.2 (mem_upto.2 ⟨by omega, by omega⟩)), homeL_getD ns hp]
theorem home_valid (c : Clu) (hv : Valid c.nodes) (p : Nat) (hp : p < cnt c.nodes) (A : Option Addr) (n cp : Nat) (w : World) (hN : RdN w A n c.nodes) :
    Calls Tryd.prog 71 #[.agg (c.cells (.slice A n cp)), .int .i64 (p : Int)] w fun e w' => e = .returned (.int .i64 ((homeL c.nodes).getD p 0 : Nat)) ∧ Below w.heap.size w w' :=
  (home_any c p A n cp w hN).mono fun e w' ⟨h1, h2⟩ => ⟨by rw [h1, homeI_valid hv hp], h2⟩
theorem home_is (c : Clu) (p x : Int) (h : homeI c.nodes p = x) (A : Option Addr) (n cp : Nat) (w : World) (hN : RdN w A n c.nodes) :
    Calls Tryd.prog 71 #[.agg (c.cells (.slice A n cp)), .int .i64 p] w fun e w' => e = .returned (.int .i64 x) ∧ Below w.heap.size w w' :=
  (home_any c p A n cp w hN).mono fun e w' ⟨h1, h2⟩ => ⟨by rw [h1, h], h2⟩
theorem tmod_nat (a b : Nat) : Int.tmod ((a : Int)) (b : Int) = ((a % b : Nat) : Int) := by rw [Int.tmod_eq_emod_of_nonneg (by omega)]; rfl

set_option maxRecDepth 100000 in
set_option maxHeartbeats 1600000 in
theorem walk_any (c : Clu) (hv : Valid c.nodes) (part reps : Nat) (hr : c.s1 = reps) (hr16 : reps ≤ 16) (hp : part < cnt c.nodes) (A : Option Addr) (n cp : Nat) (w : World) (hN : RdN w A n c.nodes) :
    Calls Tryd.prog 99 #[.agg (c.cells (.slice A n cp)), .int .i64 (part : Int)] w fun e w' => ∃ v, e = .returned v ∧ Own w' w.heap.size v (ints (roundF (homeL c.nodes) part reps)) ∧ Below w.heap.size w w' := by
  have hP1 := hv.1
  have hP2 := hv.2.1
  have HR := Hid.mk' hr
  clear hr
  go_enter Tryd.func99, Tryd.ntmps99
  go_wp2_with (first
    | ((with_reducible refine box_arm (P := Tryd.prog) rfl 24 (.tmp 0) rfl _ (c.cells (.slice A n cp)) rfl rfl ?_); intro w1 hbk hb1 hs1; have HBk := Hid.mk' hbk; have HB1 := Hid.mk' hb1; have Hs1 := Hid.mk' hs1; clear hbk hb1 hs1)
    | (refine wpList_load_row rfl 24 _ rfl w.heap.size rfl 24 _ (0, 0) _ HBk.out Tryd.underlying24 rfl info_clu ?_)
    | (go_at_call 38; refine (parts_any c A n cp _ (by exact hN.below HB1.out) (by omega)).mono ?_; rintro e w2 ⟨rfl, hb⟩; have HB2 := Hid.mk' hb; have Hs2 := Hid.mk' hb.size; have HBk2 := Hid.mk' (HBk.out.below hb HBk.out.lt); clear hb))
  have hBw2 := Hid.mk' (show Below w.heap.size w w2 from below_then HB1.out (by have := Hs1.out; omega) HB2.out)
  have hN2 := Hid.mk' (hN.below hBw2.out)
  have hs2 := HBk2.out.lt
  have hcl := Hid.mk' (homeL_length c.nodes)
  have HV := Hid.mk' hv
  clear hN HB1 Hs1 HBk HB2 Hs2 hv
  obtain ⟨P, hPe⟩ : ∃ k, cnt c.nodes = k := ⟨_, rfl⟩
  rw [hPe] at hP1 hP2 hp hcl
  rw [hPe]
  have HP := Hid.mk' hPe
  clear hPe
  obtain ⟨home, hhe⟩ : ∃ h, homeL c.nodes = h := ⟨_, rfl⟩
  rw [hhe] at hcl
  have HH := Hid.mk' hhe
  clear hhe
  go_loopg [5, 7] P (fun k v i wr => ∃ q : Nat, i = .int .i64 q ∧ q ≤ P ∧ k = P - q ∧ Hid (Own wr w2.heap.size v (ints (firsts home part q))) ∧ (firsts home part q).length ≤ reps ∧ Hid (Below w2.heap.size w2 wr))
  case atStart => exact ⟨0, rfl, by omega, rfl, Own.nil _ _, by simp [firsts], Below.refl _ _⟩
  case round =>
    obtain ⟨q, rfl, hq, hk, hO, hle, hB⟩ := hrel
    subst hk
    obtain ⟨A', c', hv⟩ := hO.out.shape
    subst hv
    rw [ints_length] at *
    have hBk := Hid.mk' (HBk2.out.below hB.out hs2)
    have c1 := hBk.out.cell (show (c.cells (.slice A n cp))[1]? = some (.int .i64 c.s1) from rfl)
    rw [HR.out] at c1
    have hlq := firsts_length home part q
    have hBw := Hid.mk' (show Below w.heap.size w wr from below_then hBw2.out (Nat.le_of_lt hs2) hB.out)
    by_cases hx : q < P ∧ (firsts home part q).length < reps
    · obtain ⟨hx1, hx2⟩ := hx
      have hfr := Hid.mk' (firsts_fresh home part q)
      have hlt : (part + q) % P < P := Nat.mod_lt _ (by omega)
      obtain ⟨w3, rfl⟩ : ∃ y : World, y = wr := ⟨_, rfl⟩
      generalize firsts home part q = tk at hO hle hx2 hlq hfr
      go_wp2
      go_loopg [8, 9] q (fun k f j wr => ∃ m : Nat, j = .int .i64 m ∧ m ≤ q ∧ k = q - m ∧ f = .bool (freshB home part q m) ∧ Hid (Below w3.heap.size w3 wr))
      case atStart => exact ⟨0, rfl, by omega, rfl, rfl, Below.refl _ _⟩
      case round =>
        obtain ⟨m, rfl, hm, hk, rfl, hB4⟩ := hrel
        subst hk
        by_cases hm' : m < q
        · have hmlt : (part + m) % P < P := Nat.mod_lt _ (by omega)
          have hBk4 := Hid.mk' (hBk.out.below hB4.out hBk.out.lt)
          have hN4 := Hid.mk' ((hN2.out.below hB.out).below hB4.out)
          have hsucc := Hid.mk' (freshB_succ home part q m)
          rw [hcl.out] at hsucc
          obtain ⟨pm, hpm⟩ : ∃ k, (part + m) % P = k := ⟨_, rfl⟩
          obtain ⟨pq, hpq⟩ : ∃ k, (part + q) % P = k := ⟨_, rfl⟩
          have e1 : IntKind.i64.wrap ((part : Int) + (m : Int)) = (part : Int) + (m : Int) := by rw [wrapEq, wrap_small (by omega) (by omega)]
          have e2 : IntKind.i64.wrap ((part : Int) + (q : Int)) = (part : Int) + (q : Int) := by rw [wrapEq, wrap_small (by omega) (by omega)]
          have e3 : Int.tmod ((part : Int) + (m : Int)) (P : Int) = (pm : Int) := by rw [← hpm]; exact tmod_nat (part + m) P
          have e4 : Int.tmod ((part : Int) + (q : Int)) (P : Int) = (pq : Int) := by rw [← hpq]; exact tmod_nat (part + q) P
          rw [hpm] at hmlt hsucc
          rw [hpq] at hsucc
          have hlt' : pq < P := by rw [← hpq]; exact hlt
          have hxm := Hid.mk' (show homeI c.nodes (pm : Int) = ((home.getD pm 0 : Nat) : Int) by rw [homeI_valid HV.out (by rw [HP.out]; exact hmlt), HH.out])
          have hxq := Hid.mk' (show homeI c.nodes (pq : Int) = ((home.getD pq 0 : Nat) : Int) by rw [homeI_valid HV.out (by rw [HP.out]; exact hlt'), HH.out])
          generalize home.getD pm 0 = xm at hxm hsucc
          generalize home.getD pq 0 = xq at hxq hsucc
          have HPQ := Hid.mk' hpq
          have hP0 : P ≠ 0 := by omega
          clear hpm hpq
          go_wp2
          refine wp_region_quiet_below (by kernel_rfl) (by kernel_rfl) ?_
          repeat (first
            | (refine wpQuiet_load_row rfl 24 (.tmp 2) rfl w.heap.size rfl 24 _ _ (Blk.regrown hBk4.out) Tryd.underlying24 rfl info_clu ?_)
            | quiet_step (first
              | (go_at_call_of 71 (pm); exact Calls.regrown_of (home_is c _ _ hxm.out A n cp _ (by exact hN4.out.below (below_regrown _ _ _))))
              | (go_at_call_of 71 (pq); exact Calls.regrown_of (home_is c _ _ hxq.out A n cp _ (by exact hN4.out.below (below_regrown _ _ _))))))
          refine wpQuiet_nil ?_
          rintro w5 ⟨p, rfl⟩
          go_wp2
          all_goals have hB6 := Hid.mk' (show Below w3.heap.size w3 (grow (redrawn wr p.d) p.os) from hB4.out.trans ((below_regrown wr p.d p.os).mono hB4.out.size))
          have hB6 := Hid.mk' (show Below w3.heap.size w3 (grow (redrawn wr p.d) p.os) from hB4.out.trans ((below_regrown wr p.d p.os).mono hB4.out.size))
          · have hx : ((xm : Int) == (xq : Int)) = true := (by assumption)
            have hf := Hid.mk' (show freshB home part q (m + 1) = false by
              have := beq_iff_eq.1 hx
              rw [hsucc.out, show xm = xq by omega]
              simp)
            go_roundg (q - (m + 1))
            case measure => omega
            case rel => exact ⟨m + 1, by go_num, by omega, rfl, by rw [hf.out], hB6⟩
          · have hx : ((xm : Int) == (xq : Int)) = false := (by assumption)
            have hf := Hid.mk' (show freshB home part q (m + 1) = freshB home part q m by
              have hne : xm ≠ xq := fun h => by rw [h] at hx; simp at hx
              rw [hsucc.out, beq_eq_false_iff_ne.2 hne]
              simp)
            go_roundg (q - (m + 1))
            case measure => omega
            case rel => exact ⟨m + 1, by go_num, by omega, rfl, by rw [hf.out], hB6⟩
        · have hme : q = m := by omega
          subst hme
          have hO4 := Hid.mk' (hO.out.below hB4.out)
          have hB5 := Hid.mk' (below_then hB.out hB.out.size hB4.out)
          have hsz5 := hB5.out.size
          obtain ⟨pq, hpq⟩ : ∃ k, (part + q) % P = k := ⟨_, rfl⟩
          have hcl' := hcl.out
          have hfr' := hfr.out
          rw [hcl', hpq] at hfr'
          have HFR := Hid.mk' hfr'
          have e4 : ((part : Int) + (q : Int)) % (P : Int) = (pq : Int) := by rw [← hpq]; simp
          have E4 := Hid.mk' e4
          clear hfr hfr' hcl' hpq e4
          have hP0 : P ≠ 0 := by omega
          cases hfb : freshB home part q q with
          | true =>
            rw [hfb, if_pos rfl] at HFR
            clear hfb
            go_wp2_with (at_builtin; rw [E4.out]; refine app_int (W := wr) (w0 := w2) w2.heap.size rfl (.tmp 45) (.tmp 51) rfl _ (ints tk) pq rfl rfl hO4.out hB5.out hsz5 (by rw [ints_length]; omega) ?_; intro v1 w6 hO2 hB2 hg2; clear hg2; have hO3 := Hid.mk' hO2; have hB3 := Hid.mk' hB2; clear hO2 hB2)
            go_roundg (P - (q + 1))
            case measure => omega
            case rel =>
              refine ⟨q + 1, by go_num, by omega, rfl, ?_, ?_, hB3⟩
              · rw [HFR.out, show ints (tk ++ [pq]) = ints tk ++ [(pq : Int)] by simp [ints]]
                exact hO3
              · rw [HFR.out]; simp; omega
          | false =>
            rw [hfb, if_neg (by simp)] at HFR
            clear hfb
            go_wp2
            go_roundg (P - (q + 1))
            case measure => omega
            case rel =>
              refine ⟨q + 1, by go_num, by omega, rfl, ?_, ?_, hB5⟩
              · rw [HFR.out]; exact hO4
              · rw [HFR.out]; exact hle
    · have hfin := Hid.mk' (show firsts home part q = roundF home part reps from by
        by_cases he : q < P
        · exact roundF_full (by omega) (by rw [hcl.out]; omega)
        · have : home.length = q := by rw [hcl.out]; omega
          subst this
          exact roundF_end hle)
      by_cases he : q < P
      · have hx2 : ¬ (firsts home part q).length < reps := fun h => hx ⟨he, h⟩
        clear hx
        go_wp2
        go_ret
        refine ⟨_, rfl, ?_, hBw.out⟩
        rw [HH.out, ← hfin.out]
        exact World.ownsRow.mono hO.out (Nat.le_of_lt hs2)
      · clear hx
        go_wp2
        go_ret
        refine ⟨_, rfl, ?_, hBw.out⟩
        rw [HH.out, ← hfin.out]
        exact World.ownsRow.mono hO.out (Nat.le_of_lt hs2)
end Go.Proofs.YtmkkllfpdoeojaaDoor
