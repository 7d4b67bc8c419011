/- granarylaw19.num, sameInts: for whatever is read. -/
import Derived.Test.YtmkkllfpdoeojaaDoorSorted
namespace Go.Proofs.YtmkkllfpdoeojaaDoor
open Go.RowKit
set_option linter.unusedVariables false

theorem num_any (x : Int) (w : World) : Calls Tryd.prog 10 #[.int .i64 x] w fun e w' => e = .returned (.int .i64 x) ∧ w' = w := by
  go_enter Tryd.func10, Tryd.ntmps10
  go_wp2
  go_ret
  exact ⟨rfl, rfl⟩

theorem list_ext_getD {xs ys : List Int} (hl : xs.length = ys.length) (h : ∀ j, j < xs.length → xs.getD j 0 = ys.getD j 0) : xs = ys := by
  apply List.ext_getElem hl
  intro j h1 h2
  have := h j h1
  simpa [List.getD_eq_getElem?_getD, List.getElem?_eq_getElem h1, List.getElem?_eq_getElem h2] using this

set_option maxHeartbeats 800000 in
theorem sameInts_any (A : Option Addr) (n c : Nat) (xs : List Int) (A' : Option Addr) (n' c' : Nat) (ys : List Int) (w : World) (hX : RdI w A n xs) (hY : RdI w A' n' ys) :
    Calls Tryd.prog 23 #[.slice A n c, .slice A' n' c'] w fun e w' => e = .returned (.bool (decide (xs = ys))) ∧ ∃ m, w' = w.drewN m := by
  have hm := hX.2.1
  have hlx := hX.1
  have hly := hY.1
  have HX := Hid.mk' hX
  have HY := Hid.mk' hY
  have Hlx := Hid.mk' hlx
  have Hly := Hid.mk' hly
  clear hX hY hlx hly
  by_cases hn : n = n'
  · subst hn
    go_enter Tryd.func23, Tryd.ntmps23
    go_wp2
    go_loopg [5] n (fun k i wr => ∃ q : Nat, i = .int .i64 q ∧ q ≤ n ∧ k = n - q ∧ Hid (∀ j : Nat, j < q → xs.getD j 0 = ys.getD j 0) ∧ Hid (∃ m, wr = w.drewN m))
    case atStart => exact ⟨0, rfl, by omega, rfl, fun j h => by omega, ⟨0, rfl⟩⟩
    case round =>
      obtain ⟨q, rfl, hq, hk, hs, hw⟩ := hrel
      subst hk
      by_cases hlt : q < n
      · obtain ⟨b, o, rfl, hc0⟩ := RdI.at HX.out hlt
        obtain ⟨b', o', rfl, hc1⟩ := RdI.at HY.out hlt
        have e0 : wr.cell? ⟨b, o + q, none⟩ = some (.int .i64 (xs.getD q 0)) := by obtain ⟨m, rfl⟩ := hw.out; exact hc0
        have e1 : wr.cell? ⟨b', o' + q, none⟩ = some (.int .i64 (ys.getD q 0)) := by obtain ⟨m, rfl⟩ := hw.out; exact hc1
        clear hc0 hc1
        have hs' := Hid.mk' (show xs.getD q 0 = ys.getD q 0 → ∀ j : Nat, j < q + 1 → xs.getD j 0 = ys.getD j 0 from fun h j h1 => by
          by_cases e : j = q
          · subst e; exact h
          · exact hs.out j (by omega))
        have hf := Hid.mk' (show xs.getD q 0 ≠ ys.getD q 0 → decide (xs = ys) = false from fun h => by simp; intro e; exact h (by rw [e]))
        clear hs
        generalize xs.getD q 0 = x0 at *
        generalize ys.getD q 0 = x1 at *
        by_cases hx : x0 = x1
        · have hb : (x0 != x1) = false := by simp [hx]
          have hss := Hid.mk' (hs'.out hx)
          clear hx hs' hf
          go_wp2
          go_quiet (fail)
          go_wp2
          go_roundg (n - (q + 1))
          case measure => omega
          case rel =>
            refine ⟨q + 1, by go_num, by omega, rfl, hss, ?_⟩
            obtain ⟨m, rfl⟩ := hw.out
            exact ⟨_, World.drewN_drewN ..⟩
        · have hb : (x0 != x1) = true := by simp [hx]
          have hss := Hid.mk' (hf.out hx)
          clear hx hs' hf
          go_wp2
          go_quiet (fail)
          go_wp2
          go_ret
          refine ⟨by rw [hss.out]; rfl, ?_⟩
          obtain ⟨m, rfl⟩ := hw.out
          exact ⟨_, World.drewN_drewN ..⟩
      · have hqe : q = n := by omega
        subst hqe
        have ht := Hid.mk' (show decide (xs = ys) = true by simp; exact list_ext_getD (by rw [Hlx.out, Hly.out]) (fun j hj => hs.out j (by rw [← Hlx.out]; exact hj)))
        go_wp2
        go_ret
        exact ⟨by rw [ht.out]; rfl, hw.out⟩
  · have hb : ((n : Int) != (n' : Int)) = true := by simp; omega
    have hb2 : (n == n') = false := by simpa using hn
    have ht := Hid.mk' (show decide (xs = ys) = false by simp; intro e; exact hn (by rw [← Hlx.out, ← Hly.out, e]))
    go_enter Tryd.func23, Tryd.ntmps23
    go_wp2
    go_ret
    exact ⟨by rw [ht.out]; rfl, ⟨0, rfl⟩⟩
theorem sameInts_eq (A : Option Addr) (n c : Nat) (xs : List Int) (A' : Option Addr) (n' c' : Nat) (w : World) (hX : RdI w A n xs) (hY : RdI w A' n' xs) :
    Calls Tryd.prog 23 #[.slice A n c, .slice A' n' c'] w fun e w' => e = .returned (.bool true) ∧ ∃ m, w' = w.drewN m :=
  (sameInts_any A n c xs A' n' c' xs w hX hY).mono fun e w' ⟨h1, h2⟩ => ⟨by rw [h1]; simp, h2⟩
end Go.Proofs.YtmkkllfpdoeojaaDoor
