/- granaryref6.named: for every text. -/
import Derived.Test.YtmkkllfpdoeojaaDoorName
import Derived.Lib.Strings
namespace Go.Proofs.YtmkkllfpdoeojaaDoor
open Go.RowKit
set_option linter.unusedVariables false

theorem byte_at (s : ByteArray) (k : Nat) (h : k < s.size) : ((s.data.toList.getD k 0).toNat : Int) = (s[k].toNat : Int) := by rw [getD_of s k h]
theorem nameB_bad (s : ByteArray) (k : Nat) (h : k < s.size) (hb : nmB (s[k].toNat : Int) k = false) : nameB s = false := by
  unfold nameB
  rw [nmAll_false s k _ h (by rw [byte_at s k h]; exact hb)]
  simp
set_option maxHeartbeats 800000 in
theorem named_any (s : ByteArray) (hs : s.size ≤ 9223372036854775807) (w : World) : Calls Tryd.prog 35 #[.string s] w fun e w' => e = .returned (.bool (nameB s)) ∧ w' = w := by
  by_cases h1 : 1 ≤ s.size
  · have he : s.toList.isEmpty = false := by
      rw [List.isEmpty_eq_false_iff]
      intro h
      rw [Lib.toList_data] at h
      have h2 : s.data.toList.length = s.size := by rw [Array.length_toList]; rfl
      rw [h] at h2
      simp at h2
      omega
    by_cases h2 : s.size ≤ 40
    · have hb0 := (s[0]'(by omega)).toNat_lt
      have hF := Hid.mk' (fun (h : ¬ (97 ≤ ((s[0]'(by omega)).toNat : Int) ∧ ((s[0]'(by omega)).toNat : Int) ≤ 122)) => nameB_bad s 0 (by omega) (nmB_no h (by simp)))
      go_enter Tryd.func35, Tryd.ntmps35
      go_wp2
      · go_ret
        exact ⟨nameB_false (hF.out (by omega)), rfl⟩
      · have hfirst : 97 ≤ ((s[0]'(by omega)).toNat : Int) ∧ ((s[0]'(by omega)).toNat : Int) ≤ 122 := by omega
        clear hF
        go_loop [3] (fun i => ∃ k : Nat, k ≤ s.size ∧ i = .int .i64 k ∧ nmAll s k = true) (fun i => s.size - (intOf i).toNat)
        case atStart => exact ⟨0, Nat.zero_le _, rfl, rfl⟩
        case round =>
          obtain ⟨k, hk, rfl, hn⟩ := hrel
          have Hn := Hid.mk' hn
          clear hn
          by_cases hlt : k < s.size
          · have hb1 := (s[k]).toNat_lt
            have hF := Hid.mk' (fun h => nameB_false (nameB_bad s k hlt h))
            have hT := Hid.mk' (show nmB (s[k].toNat : Int) k = true → nmAll s (k + 1) = true from fun h => by rw [nmAll_succ, byte_at s k hlt, h, Hn.out]; rfl)
            have hk0 : k = 0 → 97 ≤ (s[k].toNat : Int) ∧ (s[k].toNat : Int) ≤ 122 := fun e => by subst e; exact hfirst
            have Hk0 := Hid.mk' hk0
            clear hk0 hfirst
            generalize hc : (s[k].toNat : Int) = c at hF hT Hk0
            have hcb : 0 ≤ c ∧ c ≤ 255 := by omega
            go_wp2
            all_goals first
              | (go_ret; exact ⟨hF.out (nmB_no (by first | omega | (simp at *; omega)) (by first | omega | (simp at *; omega))), rfl⟩)
              | (go_round
                 case rel => exact ⟨k + 1, by omega, by go_num, hT.out (nmB_yes (by have hz := Hk0.out; by_cases e : k = 0 <;> first | omega | (simp at *; omega)))⟩
                 case measure => simp [intOf]; omega)
          · have : k = s.size := by omega
            subst this
            go_wp2
            go_ret
            exact ⟨nameB_true (by unfold nameB; rw [Hn.out]; simp; omega), rfl⟩
      · go_ret
        exact ⟨nameB_false (hF.out (by omega)), rfl⟩
    · go_enter Tryd.func35, Tryd.ntmps35
      go_wp2
      all_goals (go_ret; exact ⟨nameB_false (by unfold nameB; simp; omega), rfl⟩)
  · have he : s.toList.isEmpty = true := by
      rw [Lib.toList_data, List.isEmpty_iff]
      exact List.eq_nil_of_length_eq_zero (by rw [Array.length_toList]; show s.size = 0; omega)
    go_enter Tryd.func35, Tryd.ntmps35
    go_wp2
    all_goals (go_ret; exact ⟨nameB_false (by unfold nameB; simp; omega), rfl⟩)
end Go.Proofs.YtmkkllfpdoeojaaDoor
