/- ring.round: the first partition of each new node, from a partition on round the ring: for every list of homes. -/
import Derived.Test.YtmkkllfpdoeojaaDoorSorted
namespace Go.Proofs.YtmkkllfpdoeojaaDoor
open Go.RowKit

/-- The partitions that are taken when i of them have been looked at. -/
def firsts (home : List Nat) (part : Nat) : Nat → List Nat
  | 0 => []
  | i + 1 => if (firsts home part i).any (fun t => home.getD t 0 == home.getD ((part + i) % home.length) 0) then firsts home part i else firsts home part i ++ [(part + i) % home.length]
theorem firsts_succ (home : List Nat) (part i : Nat) : firsts home part (i + 1) = if (firsts home part i).any (fun t => home.getD t 0 == home.getD ((part + i) % home.length) 0) then firsts home part i else firsts home part i ++ [(part + i) % home.length] := rfl
def roundF (home : List Nat) (part reps : Nat) : List Nat := (firsts home part home.length).take reps
theorem firsts_step (home : List Nat) (part i : Nat) : ∃ l, firsts home part (i + 1) = firsts home part i ++ l := by
  rw [firsts_succ]
  split
  · exact ⟨[], by simp⟩
  · exact ⟨_, rfl⟩
theorem firsts_more (home : List Nat) (part i : Nat) : ∀ d, ∃ l, firsts home part (i + d) = firsts home part i ++ l
  | 0 => ⟨[], by simp⟩
  | d + 1 => by
    obtain ⟨l, hl⟩ := firsts_more home part i d
    obtain ⟨l', hl'⟩ := firsts_step home part (i + d)
    exact ⟨l ++ l', by rw [← Nat.add_assoc, hl', hl, List.append_assoc]⟩
theorem roundF_full {home : List Nat} {part i reps : Nat} (h : (firsts home part i).length = reps) (hi : i ≤ home.length) : firsts home part i = roundF home part reps := by
  obtain ⟨l, hl⟩ := firsts_more home part i (home.length - i)
  rw [show i + (home.length - i) = home.length by omega] at hl
  unfold roundF
  rw [hl, List.take_append_of_le_length (by omega), ← h, List.take_length]
theorem roundF_end {home : List Nat} {part reps : Nat} (h : (firsts home part home.length).length ≤ reps) : firsts home part home.length = roundF home part reps := by
  unfold roundF
  rw [List.take_of_length_le h]
theorem firsts_length (home : List Nat) (part : Nat) : ∀ i, (firsts home part i).length ≤ i
  | 0 => by simp [firsts]
  | i + 1 => by
    have := firsts_length home part i
    rw [firsts_succ]
    split
    · omega
    · rw [List.length_append, List.length_singleton]; omega
theorem firsts_lt (home : List Nat) (part : Nat) (h0 : 0 < home.length) : ∀ i t, t ∈ firsts home part i → t < home.length
  | 0, t, h => by simp [firsts] at h
  | i + 1, t, h => by
    rw [firsts_succ] at h
    split at h
    · exact firsts_lt home part h0 i t h
    · rcases List.mem_append.1 h with h | h
      · exact firsts_lt home part h0 i t h
      · rw [List.mem_singleton.1 h]
        exact Nat.mod_lt _ h0

/-- A list of natural numbers as ints. -/
def ints (xs : List Nat) : List Int := xs.map fun x : Nat => (x : Int)
theorem ints_getD (xs : List Nat) (j : Nat) : (ints xs).getD j 0 = ((xs.getD j 0 : Nat) : Int) := by
  unfold ints
  rw [List.getD_eq_getElem?_getD, List.getD_eq_getElem?_getD, List.getElem?_map]
  cases xs[j]? <;> rfl
theorem ints_length (xs : List Nat) : (ints xs).length = xs.length := by simp [ints]
set_option maxHeartbeats 1600000 in
theorem round_any (A : Option Addr) (n c part reps : Nat) (home : List Nat) (w : World) (hR : RdI w A n (ints home)) (hn : n ≤ 64) (hp : part < n) (hr : reps ≤ 64) :
    Calls Tryd.prog 53 #[.slice A n c, .int .i64 part, .int .i64 reps] w fun e w' => ∃ v, e = .returned v ∧ Own w' w.heap.size v (ints (roundF home part reps)) ∧ Below w.heap.size w w' := by
  have hl : home.length = n := by have := hR.1; rw [ints_length] at this; exact this
  subst hl
  have HR := Hid.mk' hR
  clear hR
  have hA : 0 < home.length → ∃ b o, A = some ⟨b, o, none⟩ := fun h => by obtain ⟨b, o, e, _⟩ := HR.out.2.2 h; exact ⟨b, o, e⟩
  obtain ⟨b, o, rfl⟩ := hA (by omega)
  have hC := Hid.mk' (show ∀ j, j < home.length → w.cell? ⟨b, o + j, none⟩ = some (.int .i64 ((home.getD j 0 : Nat) : Int)) from fun j hj => by
    obtain ⟨b', o', e, h⟩ := RdI.at HR.out hj
    cases e
    rwa [ints_getD] at h)
  have hbl := Hid.mk' (show b < w.heap.size from World.block_lt_of_cell? w ⟨b, o + 0, none⟩ (hC.out 0 (by omega)))
  clear HR
  go_enter Tryd.func53, Tryd.ntmps53
  go_wp2
  go_step3
  go_wp2
  go_step3
  go_wp2
  go_loopg [7, 8] home.length (fun k v i wr => ∃ q : Nat, i = .int .i64 q ∧ q ≤ home.length ∧ k = home.length - q ∧ Hid (Own wr w.heap.size v (ints (firsts home part q))) ∧ (firsts home part q).length ≤ reps ∧ Hid (Below w.heap.size w wr))
  case atStart => exact ⟨0, rfl, by omega, rfl, Own.nil _ _, by simp [firsts], Below.refl _ _⟩
  case round =>
    obtain ⟨q, rfl, hq, hk, hO, hle, hB⟩ := hrel
    obtain ⟨A', c', hv⟩ := hO.out.shape
    subst hv
    rw [ints_length] at *
    by_cases hx : q < home.length ∧ (firsts home part q).length < reps
    · obtain ⟨hx1, hx2⟩ := hx
      have hlq := firsts_length home part q
      have hlt := Hid.mk' (firsts_lt home part (by omega) q)
      obtain ⟨p, hpe⟩ : ∃ p, (part + q) % home.length = p := ⟨_, rfl⟩
      have hpl : p < home.length := by rw [← hpe]; exact Nat.mod_lt _ (by omega)
      have hs := Hid.mk' (firsts_succ home part q)
      rw [hpe] at hs
      have he : ((part : Int) + (q : Int)) % (home.length : Int) = (p : Int) := by rw [← hpe]; simp
      clear hpe
      subst hk
      obtain ⟨w1, rfl⟩ : ∃ w1 : World, w1 = wr := ⟨_, rfl⟩
      generalize firsts home part q = tk at hO hle hx2 hlq hlt hs
      have hB1 := hB.out.size
      have cp : w1.cell? ⟨b, o + p, none⟩ = some (.int .i64 ((home.getD p 0 : Nat) : Int)) := (hB.out.cell (p := ⟨b, o + p, none⟩) hbl.out).trans (hC.out p hpl)
      have hE := Hid.mk' he
      clear he
      go_wp2
      rw [hE.out]
      go_loopg [11, 32] tk.length (fun k _ j wr' => ∃ m : Nat, j = .int .i64 m ∧ m ≤ tk.length ∧ k = tk.length - m ∧ Hid (∀ x, x < m → home.getD (tk.getD x 0) 0 ≠ home.getD p 0) ∧ Hid (∃ d, wr' = w1.drewN d))
      case atStart => exact ⟨0, rfl, by omega, rfl, fun x hx => absurd hx (by omega), ⟨0, rfl⟩⟩
      case round =>
        obtain ⟨m, rfl, hm, hk, hno, hd⟩ := hrel
        subst hk
        by_cases hm' : m < tk.length
        · obtain ⟨g, hAe, hcm⟩ := hO.out.cells (j := m) (by rw [ints_length]; exact hm')
          subst hAe
          rw [ints_getD] at hcm
          have htl : tk.getD m 0 < home.length := hlt.out _ (by rw [List.getD_eq_getElem?_getD, List.getElem?_eq_getElem hm']; exact List.getElem_mem hm')
          have ct : wr.cell? ⟨b, o + tk.getD m 0, none⟩ = some (.int .i64 ((home.getD (tk.getD m 0) 0 : Nat) : Int)) := by
            obtain ⟨d, rfl⟩ := hd.out
            exact (hB.out.cell (p := ⟨b, o + tk.getD m 0, none⟩) hbl.out).trans (hC.out _ htl)
          have cp' : wr.cell? ⟨b, o + p, none⟩ = some (.int .i64 ((home.getD p 0 : Nat) : Int)) := by
            obtain ⟨d, rfl⟩ := hd.out
            exact cp
          have cg : wr.cell? ⟨g, m, none⟩ = some (.int .i64 ((tk.getD m 0 : Nat) : Int)) := by
            obtain ⟨d, rfl⟩ := hd.out
            exact hcm
          have hyes := Hid.mk' (show home.getD (tk.getD m 0) 0 = home.getD p 0 → firsts home part (q + 1) = tk from fun h => by
            rw [hs.out, if_pos]
            rw [List.any_eq_true]
            refine ⟨tk.getD m 0, ?_, by simpa using h⟩
            rw [List.getD_eq_getElem?_getD, List.getElem?_eq_getElem hm']
            exact List.getElem_mem hm')
          have hnext := Hid.mk' (show home.getD (tk.getD m 0) 0 ≠ home.getD p 0 → ∀ x, x < m + 1 → home.getD (tk.getD x 0) 0 ≠ home.getD p 0 from fun h x hx => by
            by_cases e : x = m
            · subst e; exact h
            · exact hno.out x (by omega))
          generalize home.getD p 0 = hp0 at *
          generalize tk.getD m 0 = t at *
          generalize home.getD t 0 = ht0 at *
          go_wp2
          go_quiet (fail)
          go_wp2
          · have hx : ht0 = hp0 := by have hh : ((ht0 : Int) == (hp0 : Int)) = true := (by assumption); have := beq_iff_eq.1 hh; omega
            go_roundg (home.length - (q + 1))
            case measure => omega
            case rel =>
              refine ⟨q + 1, by go_num, by omega, rfl, ?_, ?_, ?_⟩
              · rw [hyes.out hx]
                obtain ⟨d, rfl⟩ := hd.out
                exact hO.out
              · rw [hyes.out hx]; exact hle
              · obtain ⟨d, rfl⟩ := hd.out
                exact below_drewN (below_drewN hB.out _) _
          · have hx : ht0 ≠ hp0 := by have hh : ((ht0 : Int) == (hp0 : Int)) = false := (by assumption); intro h; rw [h] at hh; simp at hh
            go_roundg (tk.length - (m + 1))
            case measure => omega
            case rel =>
              refine ⟨m + 1, by go_num, by omega, rfl, hnext.out hx, ?_⟩
              obtain ⟨d, rfl⟩ := hd.out
              exact ⟨_, World.drewN_drewN ..⟩
        · obtain rfl : m = tk.length := by omega
          obtain ⟨d, rfl⟩ := hd.out
          have hnew := Hid.mk' (show firsts home part (q + 1) = tk ++ [p] from by
            rw [hs.out, if_neg]
            rw [List.any_eq_true]
            rintro ⟨t, ht, he⟩
            obtain ⟨x, hx, rfl⟩ := List.getElem_of_mem ht
            refine hno.out x hx ?_
            have hxe : tk.getD x 0 = tk[x] := by rw [List.getD_eq_getElem?_getD, List.getElem?_eq_getElem hx]; rfl
            rw [hxe]
            exact beq_iff_eq.1 he)
          go_wp2_with (at_builtin; refine app_int (W := w1.drewN d) (w0 := w) w.heap.size rfl (.tmp 46) (.tmp 48) rfl _ (ints tk) p rfl rfl (hO.out.drewN d) (below_drewN hB.out d) hB1 (by rw [ints_length]; omega) ?_; intro v1 w2 hO2 hB2 hg2; clear hg2; have hO3 := Hid.mk' hO2; have hB3 := Hid.mk' hB2; clear hO2 hB2)
          go_roundg (home.length - (q + 1))
          case measure => omega
          case rel =>
            refine ⟨q + 1, by go_num, by omega, rfl, ?_, ?_, ?_⟩
            · rw [hnew.out]
              rw [show ints (tk ++ [p]) = ints tk ++ [(p : Int)] by simp [ints]]
              exact hO3
            · rw [hnew.out]; simp; omega
            · exact hB3
    · have hfin := Hid.mk' (show firsts home part q = roundF home part reps from by
        by_cases he : q < home.length
        · exact roundF_full (by omega) hq
        · obtain rfl : q = home.length := by omega
          exact roundF_end hle)
      by_cases he : q < home.length
      · have hx2 : ¬ (firsts home part q).length < reps := fun h => hx ⟨he, h⟩
        clear hx
        go_wp2
        rw [Exit.noGoto_ret]
        go_ret
        refine ⟨_, rfl, ?_, hB.out⟩
        rw [← hfin.out]
        exact hO.out
      · clear hx
        go_wp2
        rw [Exit.noGoto_ret]
        go_ret
        refine ⟨_, rfl, ?_, hB.out⟩
        rw [← hfin.out]
        exact hO.out
end Go.Proofs.YtmkkllfpdoeojaaDoor
