/- Is a slice of ints in order (sort.IntsAreSorted)? For every slice that is read. -/
import Derived.Test.YtmkkllfpdoeojaaDoorBase
namespace Go.Proofs.YtmkkllfpdoeojaaDoor
open Go.RowKit
def Srt (xs : List Int) : Prop := ∀ j, j + 1 < xs.length → xs.getD j 0 ≤ xs.getD (j + 1) 0
open Classical in
noncomputable def srtB (xs : List Int) : Bool := decide (Srt xs)
theorem srtB_true {xs : List Int} (h : Srt xs) : srtB xs = true := by unfold srtB; simp [h]
theorem srtB_false {xs : List Int} (h : ¬ Srt xs) : srtB xs = false := by unfold srtB; simp [h]

theorem isNaN_any (n : Int) (w : World) : Calls Tryd.prog 129 #[.int .i64 n] w fun e w' => e = .returned (.bool false) ∧ w' = w := by
  go_enter Tryd.func129, Tryd.ntmps129
  go_wp2
  go_ret
  exact ⟨by simp, rfl⟩
theorem less_any (a b : Int) (w : World) : Calls Tryd.prog 108 #[.int .i64 a, .int .i64 b] w fun e w' => e = .returned (.bool (decide (a < b))) ∧ w' = w := by
  go_enter Tryd.func108, Tryd.ntmps108
  go_wp2_with (go_at_call 129; refine (isNaN_any _ _).mono ?_; rintro e w' ⟨rfl, rfl⟩)
  all_goals go_ret
  all_goals exact ⟨by simp, rfl⟩

set_option maxHeartbeats 800000 in
theorem isSorted_any (A : Option Addr) (n c : Nat) (xs : List Int) (w : World) (hR : RdI w A n xs) :
    Calls Tryd.prog 113 #[.slice A n c] w fun e w' => e = .returned (.bool (srtB xs)) ∧ ∃ m, w' = w.drewN m := by
  have hm := hR.2.1
  have hl := hR.1
  have HR := Hid.mk' hR
  clear hR
  have Hl := Hid.mk' hl
  clear hl
  go_enter Tryd.func113, Tryd.ntmps113
  go_wp2
  go_loopg [3] n (fun k i wr => ∃ q : Int, i = .int .i64 q ∧ -1 ≤ q ∧ q < n ∧ q.toNat ≤ k ∧ Hid (∀ j : Nat, q ≤ j → j + 1 < n → xs.getD j 0 ≤ xs.getD (j + 1) 0) ∧ Hid (∃ m, wr = w.drewN m))
  case atStart => exact ⟨_, rfl, by omega, by omega, by omega, fun j h1 h2 => by omega, ⟨0, rfl⟩⟩
  case round =>
    obtain ⟨q, rfl, h1, h2, h3, hs, hw⟩ := hrel
    by_cases hq : 0 < q
    · obtain ⟨k, rfl⟩ : ∃ k : Nat, q = (k : Int) + 1 := ⟨(q - 1).toNat, by omega⟩
      obtain ⟨b, o, hA, hc0⟩ := RdI.at (j := k) HR.out (by omega)
      obtain ⟨b', o', hA', hc1⟩ := RdI.at (j := k + 1) HR.out (by omega)
      rw [hA] at hA'
      cases hA'
      subst hA
      have e0 : wr.cell? ⟨b, o + k, none⟩ = some (.int .i64 (xs.getD k 0)) := by obtain ⟨m, rfl⟩ := hw.out; exact hc0
      have e1 : wr.cell? ⟨b, o + (k + 1), none⟩ = some (.int .i64 (xs.getD (k + 1) 0)) := by obtain ⟨m, rfl⟩ := hw.out; exact hc1
      clear hc0 hc1
      have hs' := Hid.mk' (show xs.getD k 0 ≤ xs.getD (k + 1) 0 → ∀ j : Nat, (k : Int) ≤ j → j + 1 < n → xs.getD j 0 ≤ xs.getD (j + 1) 0 from fun h j h1 h2 => by
        by_cases e : j = k
        · subst e; exact h
        · exact hs.out j (by omega) h2)
      have hf := Hid.mk' (show ¬ xs.getD k 0 ≤ xs.getD (k + 1) 0 → srtB xs = false from fun h => srtB_false fun hh => h (hh k (by have := Hl.out; omega)))
      clear hs
      generalize xs.getD k 0 = x0 at *
      generalize xs.getD (k + 1) 0 = x1 at *
      go_wp2
      go_quiet ((go_at_call 108; exact Calls.quiet_of_same (less_any _ _ _)))
      go_wp2
      · go_ret
        refine ⟨by rw [hf.out (by omega)]; rfl, ?_⟩
        obtain ⟨m, rfl⟩ := hw.out
        exact ⟨_, World.drewN_drewN ..⟩
      · have hx : x0 ≤ x1 := by assumption
        go_roundg k
        case measure => omega
        case rel =>
          refine ⟨_, rfl, by omega, by omega, by omega, hs'.out hx, ?_⟩
          obtain ⟨m, rfl⟩ := hw.out
          exact ⟨_, World.drewN_drewN ..⟩
    · have hq' : q ≤ 0 := by omega
      clear hq
      have ht := Hid.mk' (srtB_true (xs := xs) fun j hj => hs.out j (by omega) (by have := Hl.out; omega))
      go_wp2
      go_ret
      exact ⟨by rw [ht.out]; rfl, hw.out⟩
theorem intsAreSorted_any (A : Option Addr) (n c : Nat) (xs : List Int) (w : World) (hR : RdI w A n xs) :
    Calls Tryd.prog 98 #[.slice A n c] w fun e w' => e = .returned (.bool (srtB xs)) ∧ ∃ m, w' = w.drewN m := by
  go_enter Tryd.func98, Tryd.ntmps98
  go_wp2_with (go_at_call 113; refine (isSorted_any _ _ _ xs _ hR).mono ?_; rintro e w' ⟨rfl, m, rfl⟩)
  go_ret
  exact ⟨rfl, m, rfl⟩
end Go.Proofs.YtmkkllfpdoeojaaDoor
