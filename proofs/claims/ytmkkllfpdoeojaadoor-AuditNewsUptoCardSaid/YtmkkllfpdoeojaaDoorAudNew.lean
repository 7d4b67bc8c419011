/- audit.New. -/
import Derived.Test.YtmkkllfpdoeojaaDoorAud
import Derived.Carry
namespace Go.Proofs.YtmkkllfpdoeojaaDoor
open Go.RowKit
set_option linter.unusedVariables false

theorem info_lists : (Tryd.prog.info? 68).map (fun i => (i.zero, i.size, i.bytes)) = some (some (.slice none 0 0), 1, 24) := by kernel_rfl

section
variable {P : Program} {ops : Array Oper} {rest : List Oper} {o : Oper} {a : Act} {Q : Exit → Act → World → Prop}
/-- A map is made. -/
theorem map_arm {W : World} (hgd : o.guard = none) (t : TypeId) (ho : o.op = .makeMap t none)
    (h : ∀ w1, w1.heap[W.heap.size]? = some (.map #[] 0) → Below W.heap.size W w1 → w1.heap.size = W.heap.size + 1 → wpList P ops Q rest (a.put o.dst (.map (some W.heap.size))) w1) :
    wpList P ops Q (o :: rest) a W := by
  refine wpList_plain hgd fun K hK => ?_
  have hr : (execOp a.eval o).run P W = .ok (.value (.map (some W.heap.size))) (W.alloc (.map #[] 0)) := by
    unfold execOp
    rw [ho]
    simp [Instr.makeMap]
  unfold Oper.wp
  rw [hr]
  exact hK _ _ (h _ (by show (W.heap.push _)[W.heap.size]? = _; simp) (below_alloc (Below.refl _ _) (Nat.le_refl _) _) (alloc_size _ _))
end

set_option maxRecDepth 100000 in
set_option maxHeartbeats 1600000 in
theorem audNew_no (c : Clu) (hE : checkE c ≠ 0) (A : Option Addr) (n cp : Nat) (w : World) (hN : RdN w A n c.nodes) (hcp : n ≤ cp) (hs : c.store.size ≤ 9223372036854775807) (hlen : ∀ x ∈ c.nodes, x.parts.length ≤ 17592186044416) :
    Calls Tryd.prog 7 #[.agg (c.cells (.slice A n cp))] w fun e w' => e = .returned (.tuple #[.pointer none, .int .i64 (checkE c)]) ∧ Below w.heap.size w w' := by
  obtain ⟨x, hx⟩ : ∃ x, checkE c = x := ⟨_, rfl⟩
  have HX := Hid.mk' hx
  rw [hx] at hE
  have hne : (x != 0) = true := by simpa using hE
  rw [hx]
  clear hE hx
  go_enter Tryd.func7, Tryd.ntmps7
  go_wp2_with (first
    | ((with_reducible refine box_arm (P := Tryd.prog) rfl 24 (.tmp 0) rfl _ (c.cells (.slice A n cp)) rfl rfl ?_); intro w1 hbk hb1 hs1; have HBk := Hid.mk' hbk; have HB1 := Hid.mk' hb1; have Hs1 := Hid.mk' hs1; clear hbk hb1 hs1)
    | (refine wpList_load_row rfl 24 _ rfl w.heap.size rfl 24 _ (0, 0) _ HBk.out Tryd.underlying24 rfl info_clu ?_)
    | (go_at_call 34; refine (check_is c x HX.out A n cp _ (by exact hN.below HB1.out) hcp hs hlen).mono ?_; rintro e w2 ⟨rfl, hb⟩; have HB2 := Hid.mk' (below_then HB1.out (by have := Hs1.out; omega) hb); clear hb))
  go_ret2
  exact ⟨rfl, HB2.out⟩

set_option maxRecDepth 100000 in
set_option maxHeartbeats 1600000 in
theorem audNew_yes (c : Clu) (hE : checkE c = 0) (A : Option Addr) (n cp : Nat) (w : World) (hN : RdN w A n c.nodes) (hcp : n ≤ cp) (hs : c.store.size ≤ 9223372036854775807) (hlen : ∀ x ∈ c.nodes, x.parts.length ≤ 17592186044416) :
    Calls Tryd.prog 7 #[.agg (c.cells (.slice A n cp))] w fun e w' => ∃ g m1 m2 vl ys, e = .returned (.tuple #[.pointer (some ⟨g, 0, none⟩), .int .i64 0]) ∧ AudNew c w w' g m1 m2 vl ys ∧ Below w.heap.size w w' := by
  have hnl : c.nodes.length = n := hN.1
  have hn16 : n ≤ 16 := by have := (checkE_zero hE).2.2.2.1; omega
  have HE := Hid.mk' hE
  clear hE
  go_enter Tryd.func7, Tryd.ntmps7
  go_wp2_with (first
    | ((with_reducible refine box_arm (P := Tryd.prog) rfl 24 (.tmp 0) rfl _ (c.cells (.slice A n cp)) rfl rfl ?_); intro w1 hbk hb1 hs1; have HBk := Hid.mk' hbk; have HB1 := Hid.mk' hb1; have Hs1 := Hid.mk' hs1; clear hbk hb1 hs1)
    | (refine wpList_load_row rfl 24 _ rfl w.heap.size rfl 24 _ (0, 0) _ HBk.out Tryd.underlying24 rfl info_clu ?_)
    | (go_at_call 34; refine (check_is c 0 HE.out A n cp _ (by exact hN.below HB1.out) hcp hs hlen).mono ?_; rintro e w2 ⟨rfl, hb⟩; have HBk2 := Hid.mk' (HBk.out.below hb HBk.out.lt); have HB2 := Hid.mk' (below_then HB1.out (by have := Hs1.out; omega) hb); have c22 := HBk2.out.cell (Clu.cells_nodes c _); have c15 := HBk2.out.cell (show (c.cells (.slice A n cp))[15]? = some (.int .i64 c.s15) from rfl); have c16 := HBk2.out.cell (show (c.cells (.slice A n cp))[16]? = some (.int .i64 c.s16) from rfl); clear hb)
    | ((with_reducible refine map_arm (P := Tryd.prog) (W := w2) rfl _ rfl ?_); intro w3 hm3 hb3 hs3; have HM3 := Hid.mk' hm3; have HB3 := Hid.mk' hb3; have Hs3 := Hid.mk' hs3; have d16 := cell_below hb3 c16; have d22 := cell_below hb3 c22; clear hm3 hb3 hs3)
    | ((with_reducible refine map_arm (P := Tryd.prog) (W := w3) rfl _ rfl ?_); intro w4 hm4 hb4 hs4; have HM4 := Hid.mk' hm4; have HB4 := Hid.mk' hb4; have Hs4 := Hid.mk' hs4; have e22 := cell_below hb4 d22; clear hm4 hb4 hs4)
    | ((with_reducible refine box_arm (P := Tryd.prog) (W := w4) rfl 88 (.tmp 20) rfl _ (audCells c.s15 c.s16 (.slice none 0 0) 0 0 0 w2.heap.size w3.heap.size (.slice none 0 0) false 0 0 0 (.slice none 0 0) (.slice none 0 0)) rfl rfl ?_); intro w5 hbk hb5 hs5; have HBa := Hid.mk' hbk; have HB5 := Hid.mk' hb5; have Hs5 := Hid.mk' hs5; have f22 := cell_below hb5 e22; clear hbk hb5 hs5))
  have hB5 := Hid.mk' (show Below w2.heap.size w2 w5 from below_then (below_then HB3.out (by have := Hs3.out; omega) HB4.out) (by have := Hs3.out; have := Hs4.out; omega) HB5.out)
  have hM3 := Hid.mk' (show w5.heap[w2.heap.size]? = some (Obj.map #[] 0) by
    rw [HB5.out.block _ (by have := Hs3.out; have := Hs4.out; omega), HB4.out.block _ (by have := Hs3.out; omega)]; exact HM3.out)
  have hM4 := Hid.mk' (show w5.heap[w3.heap.size]? = some (Obj.map #[] 0) by
    rw [HB5.out.block _ (by have := Hs4.out; omega)]; exact HM4.out)
  have hm23 : w2.heap.size < w3.heap.size := by have := Hs3.out; omega
  have hm34 : w3.heap.size < w4.heap.size := by have := Hs4.out; omega
  have hlow : w.heap.size < w2.heap.size := HBk2.out.lt
  clear c22 c15 c16 d16 d22 e22 f22 HM3 HM4 HB3 HB4 HB5 Hs3 Hs4 Hs5
  go_loopg [25] n (fun k i wr => ∃ q vl ys, i = .int .i64 (q : Nat) ∧ q ≤ n ∧ k = n - q ∧ Hid (Blk wr w4.heap.size (audCells c.s15 c.s16 vl 0 0 0 w2.heap.size w3.heap.size (.slice none 0 0) false 0 0 0 (.slice none 0 0) (.slice none 0 0)) 88) ∧ Hid (wr.heap[w2.heap.size]? = some (Obj.map #[] 0)) ∧ Hid (wr.heap[w3.heap.size]? = some (Obj.map #[] 0)) ∧ Hid (OwnL wr w2.heap.size vl ys) ∧ Hid (ys.map (·.2) = (List.range q).map fun i => holdsL (homeL c.nodes) c.s1.toNat ((i : Nat) : Int)) ∧ ys.length = q ∧ Hid (Below w2.heap.size w2 wr))
  case atStart => exact ⟨0, .slice none 0 0, [], rfl, by omega, rfl, HBa, hM3, hM4, OwnL.nil _ _, rfl, rfl, hB5⟩
  case round =>
    obtain ⟨q, vl, ys, rfl, hq, hk, hA, hm1, hm2, hL, hys, hyl, hB⟩ := hrel
    subst hk
    have hBk4 := Hid.mk' (HBk2.out.below hB.out HBk2.out.lt)
    have hBw := Hid.mk' (show Below w.heap.size w wr from below_then HB2.out (Nat.le_of_lt hlow) hB.out)
    have hN4 := Hid.mk' (hN.below hBw.out)
    have hsz := hB.out.size
    by_cases hlt : q < n
    · obtain ⟨Al, cl, hsh, _⟩ := hL.out.shape
      subst hsh
      rw [hyl] at hA hL
      go_wp2_with (first
        | (refine wpList_load_row rfl 24 _ rfl w.heap.size rfl 24 _ (0, 0) _ hBk4.out Tryd.underlying24 rfl info_clu ?_)
        | (go_at_call 26; refine (holds_yes c HE.out q A n cp _ (by exact hN4.out) hcp hs hlen hlt).mono ?_; rintro e w6 ⟨v6, rfl, ho, hb⟩; have HO6 := Hid.mk' ho; have HB6 := Hid.mk' hb; have hA6 := Hid.mk' (hA.out.below hb hA.out.lt); have a2 := hA6.out.cell (j := 2) rfl; obtain ⟨A6, c6, hsh⟩ := ho.shape; subst hsh; clear ho hb)
        | (at_builtin; refine app_one (W := w6) (w0 := w2) w2.heap.size 1 24 rfl (.tmp 41) (.tmp 43) 86 68 (.slice none 0 0) rfl Tryd.underlying86 info_lists rfl (by decide) (by decide) _ ys.length (ys.map (·.1)) #[.slice A6 (holdsL (homeL c.nodes) c.s1.toNat (q : Int)).length c6] rfl rfl rfl (by simp [Value.oneCell']) (by exact (hL.out.below HB6.out).row) (by exact below_then hB.out hsz HB6.out) (by exact Nat.le_trans hsz HB6.out.size) (by omega) ?_; intro v7 w7 ho7 hb7 hg7; obtain ⟨A7, c7, hs7⟩ := row_shape ho7; subst hs7; rw [hyl] at ho7; have HO7 := Hid.mk' ho7; have HB7 := Hid.mk' hb7; have HG7 := Hid.mk' hg7; have hA7 := Hid.mk' (show Blk w7 w4.heap.size _ 88 from heap_grown hA6.out hg7 (blk_row_ne hA6.out (hL.out.below HB6.out).row (by decide))); have b2 := hA7.out.cell (j := 2) rfl; have fr2 := hA7.out.free 2; clear ho7 hb7 hg7))
      have hW := Hid.mk' (Wrote.setCell w7 w4.heap.size 2 (.slice A7 (q + 1) c7))
      have hA8 := Hid.mk' (hA7.out.set 2 (.slice A7 (q + 1) c7))
      have hL6 := Hid.mk' (hL.out.below HB6.out)
      have hm16 := Hid.mk' (show w6.heap[w2.heap.size]? = some (Obj.map #[] 0) from by rw [HB6.out.block _ (heap_lt hm1.out)]; exact hm1.out)
      have hm26 := Hid.mk' (show w6.heap[w3.heap.size]? = some (Obj.map #[] 0) from by rw [HB6.out.block _ (heap_lt hm2.out)]; exact hm2.out)
      have hm17 := Hid.mk' (heap_grown hm16.out HG7.out (map_row_ne hm16.out hL6.out.row))
      have hm27 := Hid.mk' (heap_grown hm26.out HG7.out (map_row_ne hm26.out hL6.out.row))
      have hL7 : Hid (OwnL w7 w2.heap.size (.slice A7 (q + 1) c7) (ys ++ [(.slice A6 (holdsL (homeL c.nodes) c.s1.toNat (q : Int)).length c6, holdsL (homeL c.nodes) c.s1.toNat (q : Int))])) := by
        refine ⟨by have := HO7.out; simpa [hyl] using this, fun y hy => ?_⟩
        rcases List.mem_append.1 hy with hy | hy
        · exact World.ownsRow.kept (hL6.out.each y hy) HG7.out (own_type_ne (hL6.out.each y hy) hL6.out.row (by decide))
        · cases List.mem_singleton.1 hy
          exact World.ownsRow.mono (World.ownsRow.kept HO6.out HG7.out (own_type_ne HO6.out hL6.out.row (by decide))) hsz
      go_roundg (n - (q + 1))
      case measure => omega
      case rel =>
        refine ⟨q + 1, _, _, by go_num, by omega, rfl, hA8, ?_, ?_, hL7.out.wrote hA7.out hW.out (by decide) (by decide), ?_, by simp [hyl], Wrote.below HB7.out hW.out (by omega)⟩
        · show _ = _
          rw [hW.out.block _ (by omega)]; exact hm17.out
        · show _ = _
          rw [hW.out.block _ (by omega)]; exact hm27.out
        · show _ = _
          rw [List.map_append, hys.out, List.range_succ, List.map_append]
          rfl
    · have hqe : q = n := by omega
      subst hqe
      go_wp2
      go_ret2
      exact ⟨_, _, _, vl, ys, rfl, ⟨hA.out, hm1.out, hm2.out, by omega, hL.out.mono (Nat.le_of_lt hlow), by rw [hnl]; exact hys.out, by omega, by omega, by omega⟩, hBw.out⟩
end Go.Proofs.YtmkkllfpdoeojaaDoor
