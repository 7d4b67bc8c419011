/- ring.nameOK: for every text. -/
import Derived.Test.YtmkkllfpdoeojaaDoorBase
namespace Go.Proofs.YtmkkllfpdoeojaaDoor
open Go.RowKit
set_option linter.unusedVariables false
def nmB (c : Int) (i : Nat) : Bool := (decide (97 ≤ c) && decide (c ≤ 122)) || ((decide (48 ≤ c) && decide (c ≤ 57) || c == 45) && i != 0)
def nmAll (s : ByteArray) (k : Nat) : Bool := (List.range k).all fun i => nmB ((s.data.toList.getD i 0).toNat : Int) i
def nameB (s : ByteArray) : Bool := decide (1 ≤ s.size) && decide (s.size ≤ 40) && nmAll s s.size
theorem nmAll_succ (s : ByteArray) (k : Nat) : nmAll s (k + 1) = (nmAll s k && nmB ((s.data.toList.getD k 0).toNat : Int) k) := by
  unfold nmAll; rw [List.range_succ, List.all_append]; simp
theorem nmAll_false (s : ByteArray) (k n : Nat) (hk : k < n) (h : nmB ((s.data.toList.getD k 0).toNat : Int) k = false) : nmAll s n = false := by
  unfold nmAll; rw [List.all_eq_false]; exact ⟨k, by simpa using hk, by rw [h]; simp⟩
theorem getD_of (s : ByteArray) (k : Nat) (h : k < s.size) : s.data.toList.getD k 0 = s[k] := by
  have h' : k < s.data.toList.length := by simpa using h
  rw [List.getD_eq_getElem?_getD, List.getElem?_eq_getElem h']; rfl
theorem nameB_false {s : ByteArray} (h : nameB s = false) : Ending.returned (.bool false) = .returned (.bool (nameB s)) := by rw [h]
theorem nameB_true {s : ByteArray} (h : nameB s = true) : Ending.returned (.bool true) = .returned (.bool (nameB s)) := by rw [h]
theorem nmB_no {c : Int} {k : Nat} (h : ¬ (97 ≤ c ∧ c ≤ 122)) (h2 : ¬ ((48 ≤ c ∧ c ≤ 57 ∨ c = 45) ∧ k ≠ 0)) : nmB c k = false := by
  unfold nmB
  rw [Bool.or_eq_false_iff, Bool.and_eq_false_iff, Bool.and_eq_false_iff]
  constructor
  · simp only [decide_eq_false_iff_not]; omega
  · by_cases hk : k = 0
    · right; simp [hk]
    · left; simp; omega
theorem nmB_yes {c : Int} {k : Nat} (h : (97 ≤ c ∧ c ≤ 122) ∨ ((48 ≤ c ∧ c ≤ 57 ∨ c = 45) ∧ k ≠ 0)) : nmB c k = true := by
  unfold nmB
  rw [Bool.or_eq_true, Bool.and_eq_true, Bool.and_eq_true, Bool.or_eq_true, Bool.and_eq_true]
  simp only [decide_eq_true_eq, beq_iff_eq, bne_iff_ne]
  omega
theorem bytes_below (w : World) (s : ByteArray) : Below w.heap.size w (Lib.bytesWorld w 5 s) := ⟨rfl, rfl, rfl, by rw [Lib.bytesWorld_size]; omega, fun i hi => Lib.bytesWorld_at_old w 5 s i (by omega)⟩
set_option maxHeartbeats 800000 in
theorem nameOK_any (s : ByteArray) (hs : s.size ≤ 9223372036854775807) (w : World) : Calls Tryd.prog 67 #[.string s] w fun e w' => e = .returned (.bool (nameB s)) ∧ Below w.heap.size w w' := by
  have kb := fun W => Lib.run_convert_string_bytes (P := Tryd.prog) W 9 155 5 s Tryd.underlying9 Tryd.underlying155 Tryd.underlying5
  by_cases h1 : 1 ≤ s.size
  · by_cases h2 : s.size ≤ 40
    · go_enter Tryd.func67, Tryd.ntmps67
      go_wp2
      go_loop [3, 4, 5, 6, 18] (fun _ _ _ _ i => ∃ k : Nat, k ≤ s.size ∧ i = .int .i64 k ∧ nmAll s k = true) (fun _ _ _ _ i => s.size - (intOf i).toNat)
      case atStart => exact ⟨0, Nat.zero_le _, rfl, rfl⟩
      case round =>
        obtain ⟨k, hk, rfl, hn⟩ := hrel
        have Hn : Hid (nmAll s k = true) := hn
        clear hn
        by_cases hlt : k < s.size
        · have hc : (Lib.bytesWorld w 5 s).cell? ⟨w.heap.size, k, none⟩ = some (.int .u8 ((s.data.toList.getD k 0).toNat : Int)) := by
            rw [Lib.bytesWorld_cell w 5 s k hlt, getD_of s k hlt]
          have hb : ((s.data.toList.getD k 0).toNat : Int) ≤ 255 := by have := (s.data.toList.getD k 0).toNat_lt; omega
          have hb0 : 0 ≤ ((s.data.toList.getD k 0).toNat : Int) := by omega
          have hF : Hid (nmB ((s.data.toList.getD k 0).toNat : Int) k = false → nameB s = false) := fun h => by unfold nameB; rw [nmAll_false s k _ hlt h]; simp
          have hT : Hid (nmB ((s.data.toList.getD k 0).toNat : Int) k = true → nmAll s (k + 1) = true) := fun h => by rw [nmAll_succ, h, Hn.out]; rfl
          generalize ((s.data.toList.getD k 0).toNat : Int) = c at hc hb hb0 hF hT
          go_wp2
          all_goals first
            | (go_ret; exact ⟨nameB_false (hF.out (nmB_no (by first | omega | (simp at *; omega)) (by first | omega | (simp at *; omega)))), bytes_below w s⟩)
            | (go_round
               case rel => exact ⟨k + 1, by omega, by go_num, hT.out (nmB_yes (by first | omega | (simp at *; omega)))⟩
               case measure => simp [intOf]; omega)
        · have : k = s.size := by omega
          subst this
          go_wp2
          go_ret
          exact ⟨nameB_true (by unfold nameB; rw [Hn.out]; simp; omega), bytes_below w s⟩
    · go_enter Tryd.func67, Tryd.ntmps67
      go_wp2
      all_goals (go_ret; exact ⟨nameB_false (by unfold nameB; simp; omega), Below.refl _ _⟩)
  · go_enter Tryd.func67, Tryd.ntmps67
    go_wp2
    all_goals (go_ret; exact ⟨nameB_false (by unfold nameB; simp; omega), Below.refl _ _⟩)
end Go.Proofs.YtmkkllfpdoeojaaDoor
