/- granarylaw19.marked. -/
import Derived.Test.YtmkkllfpdoeojaaDoorMark
import Derived.Test.YtmkkllfpdoeojaaDoorCheck
namespace Go.Proofs.YtmkkllfpdoeojaaDoor
open Go.RowKit
set_option linter.unusedVariables false

/-- Of the blocks of w, those that are neither rows of ints nor rows of nodes stand. -/
def KeptT (w w' : World) : Prop := ∀ (k : Nat) (cs : Array Value) (t : TypeId) (fr : Nat × Nat), w.heap[k]? = some (.cells cs t fr) → t ≠ 3 → t ≠ 90 → w'.heap[k]? = some (.cells cs t fr)
theorem KeptT.refl (w : World) : KeptT w w := fun _ _ _ _ h _ _ => h
theorem KeptT.trans {w w1 w2 : World} (h : KeptT w w1) (h' : KeptT w1 w2) : KeptT w w2 := fun k cs t fr hk h1 h2 => h' k cs t fr (h k cs t fr hk h1 h2) h1 h2
theorem KeptT.below {w w1 : World} (h : Below w.heap.size w w1) : KeptT w w1 := fun k cs t fr hk _ _ => (h.block k (heap_lt hk)).trans hk
/-- Behind an append to a row of ints. -/
theorem KeptT.grown {w w1 : World} {B : Nat} {v : Value} {xs : List Int} (ho : Own w B v xs) (hg : w.grownBy w1 v.ownBlock) : KeptT w w1 := fun k cs t fr hk h1 _ => by
  refine heap_grown hk hg ?_
  rcases ho.2 with ⟨rfl, _⟩ | ⟨g, cap, cur, rfl, _, hh, _⟩
  · exact .inl rfl
  · refine .inr fun e => ?_
    have : g = k := by simpa [Value.ownBlock] using e
    subst this
    rw [hk] at hh
    injection hh with hh
    injection hh with _ ht
    exact h1 ht
theorem row_free {w : World} {B s n g m c : Nat} {e : TypeId} {xs : List Value} (h : w.ownsRow B e s (.slice (some ⟨g, 0, none⟩) m c) n xs) (j : Nat) : w.frozen? ⟨g, j, none⟩ = false := by
  rcases h.2 with ⟨h1, _⟩ | ⟨g', cap, cur, he, _, hh, _⟩
  · cases h1
  · injection he with e1 _ _
    injection e1 with e1
    injection e1 with e1 _ _
    subst e1
    unfold World.frozen?; rw [hh]; simp
theorem info_ints : (Tryd.prog.info? 26).map (fun i => (i.zero, i.size, i.bytes)) = some (some (.slice none 0 0), 1, 24) := by kernel_rfl
theorem OwnM.grown {w w1 : World} {B B' sz n : Nat} {v u : Value} {ts : List MNd} {xs : List Value} {e : TypeId} (h : OwnM w B v ts) (ho : w.ownsRow B' e sz u n xs) (hg : w.grownBy w1 u.ownBlock) (h1 : 90 ≠ e) (h2 : 3 ≠ e) : OwnM w1 B v ts :=
  ⟨World.ownsRow.kept h.row hg (own_type_ne h.row ho h1), fun t ht => World.ownsRow.kept (h.each t ht) hg (own_type_ne (h.each t ht) ho h2), h.apart⟩
theorem map_set_same {α β : Type} {f : α → β} {l : List α} {q : Nat} {x y : α} (h : l[q]? = some x) (he : f y = f x) : (l.set q y).map f = l.map f := by
  apply List.ext_getElem?
  intro i
  rw [List.getElem?_map, List.getElem?_map, List.getElem?_set]
  split
  · rename_i e
    subst e
    rw [if_pos (List.getElem?_eq_some_iff.1 h).1, h]
    simp [he]
  · rfl
def marks (j : Nat) : List Int := List.replicate j (-77)

set_option maxRecDepth 100000 in
set_option maxHeartbeats 1600000 in
theorem marked_any (c : Clu) (B : Nat) (A : Option Addr) (n cp : Nat) (w : World) (ys : List (Value × Nd)) (h : OwnN w B (.slice A n cp) ys) (hB : B ≤ w.heap.size) (hn : n ≤ 1048576) (hlen : ∀ y ∈ ys, y.2.parts.length ≤ 1048576) :
    Calls Tryd.prog 44 #[.agg (c.cells (.slice A n cp))] w fun e w' => ∃ vf ts, e = .returned vf ∧ OwnM w' B (.slice A n cp) ts ∧ ts.map (·.2.1) = ys.map (·.2) ∧ (∀ t ∈ ts, t.2.2 = marks 8) ∧ w'.ownsRow w.heap.size 26 1 vf ts.length (ts.map (·.1)) ∧ Below B w w' ∧ KeptT w w' := by
  have hyl : ys.length = n := by obtain ⟨A', c', e⟩ := row_shape h.row; injection e with _ e2 _; exact e2.symm
  have HYL := Hid.mk' hyl
  clear hyl
  go_enter Tryd.func44, Tryd.ntmps44
  go_wp2_with (first
    | ((with_reducible refine box_arm (P := Tryd.prog) rfl 24 (.tmp 0) rfl _ (c.cells (.slice A n cp)) rfl rfl ?_); intro w1 hbk hb1 hs1; have HBk := Hid.mk' hbk; have HB1 := Hid.mk' hb1; have Hs1 := Hid.mk' hs1; clear hbk hb1 hs1))
  have hs1 : w.heap.size < w1.heap.size := by have := Hs1.out; omega
  have hM1 := Hid.mk' (OwnM.of (h.below HB1.out))
  go_loopg [3, 4] n (fun k v i wr => ∃ q ts, i = .int .i64 (q : Nat) ∧ q ≤ n ∧ k = n - q ∧ Hid (OwnM wr B (.slice A n cp) ts) ∧ Hid (ts.map (·.2.1) = ys.map (·.2)) ∧ Hid (∀ j t, ts[j]? = some t → t.2.2 = if j < q then marks 8 else []) ∧ Hid (wr.ownsRow w.heap.size 26 1 v q ((ts.take q).map (·.1))) ∧ Hid (Below B w wr) ∧ Hid (KeptT w1 wr))
  case atStart =>
    refine ⟨0, _, rfl, by omega, rfl, hM1, ?_, ?_, ⟨by simp, .inl ⟨rfl, rfl⟩⟩, ?_, KeptT.refl _⟩
    · show _ = _
      rw [List.map_map]; rfl
    · intro j t hj
      rw [List.getElem?_map, Option.map_eq_some_iff] at hj
      obtain ⟨y, _, rfl⟩ := hj
      simp
    · exact ⟨HB1.out.os, HB1.out.tape, HB1.out.output, HB1.out.size, fun k hk => HB1.out.block k (by omega)⟩
  case round =>
    obtain ⟨q, ts, rfl, hq, hk, hM, hts, hex, hF, hBw, hK⟩ := hrel
    subst hk
    have hBk3 := Hid.mk' (hK.out _ _ _ _ HBk.out (by decide) (by decide))
    have c22 := Blk.cell hBk3.out (Clu.cells_nodes c _)
    have hszB := hBw.out.size
    have htl : Hid (ts.length = n) := Hid.mk' (by have := congrArg List.length hts.out; simp at this; rw [this]; exact HYL.out)
    by_cases hlt : q < n
    · obtain ⟨⟨v0, nd, e0⟩, ht0⟩ : ∃ t, ts[q]? = some t := ⟨_, List.getElem?_eq_getElem (by rw [htl.out]; exact hlt)⟩
      have he0 : e0 = [] := by have := hex.out q _ ht0; simpa using this
      subst he0
      have HT0 := Hid.mk' ht0
      obtain ⟨g, rfl, z1, z2⟩ := hM.out.at ht0
      have hO0 := hM.out.each _ (List.mem_of_getElem? ht0)
      have hpl : nd.parts.length ≤ 1048576 := by
        have h1 : nd ∈ ts.map (·.2.1) := List.mem_map.2 ⟨_, List.mem_of_getElem? ht0, rfl⟩
        rw [hts.out] at h1
        obtain ⟨y, hy, hye⟩ := List.mem_map.1 h1
        rw [← hye]; exact hlen y hy
      clear ht0
      simp only [List.append_nil] at hO0
      obtain ⟨A0, c0, hs0⟩ := hO0.shape
      subst hs0
      simp only [shortV] at z2
      have HO0 := Hid.mk' hO0
      clear hO0
      obtain ⟨L, hL⟩ : ∃ L, nd.parts.length = L := ⟨_, rfl⟩
      rw [hL] at z2 hpl HT0 HO0
      have HL := Hid.mk' hL
      clear hL
      obtain ⟨w3, rfl⟩ : ∃ y : World, y = wr := ⟨_, rfl⟩
      go_wp2
      go_loopg [6, 7] 8 (fun k v i wr => ∃ j : Nat, i = .int .i64 (j : Nat) ∧ j ≤ 8 ∧ k = 8 - j ∧ Hid (Own wr B v (nd.parts ++ marks j)) ∧ Hid (Turned w3 wr (.slice A0 L c0) v))
      case atStart => exact ⟨0, rfl, by omega, rfl, Hid.mk' (by simpa [marks] using HO0.out), Turned.refl _ _⟩
      case round =>
        obtain ⟨j, rfl, hj, hk, hO5, hT5⟩ := hrel
        subst hk
        have hsz5 := Hid.mk' (Nat.le_trans (Nat.le_trans hB hszB) hT5.out.grown.size)
        by_cases hj8 : j < 8
        · have hmk := Hid.mk' (show nd.parts ++ marks (j + 1) = (nd.parts ++ marks j) ++ [-77] by simp [marks, List.replicate_succ', List.append_assoc])
          have hml := Hid.mk' (show ((nd.parts ++ marks j).length + 1) * 8 ≤ 140737488355328 by rw [List.length_append, HL.out]; simp [marks]; omega)
          go_wp2_with (at_builtin; refine app_int_at (W := wr) B rfl (.tmp 32) (.tmp 33) rfl _ (nd.parts ++ marks j) (-77) rfl rfl hO5.out hsz5.out hml.out ?_; intro v1 w6 hO6 hg6 ha6; have HO6 := Hid.mk' hO6; have HT6 := Hid.mk' (hT5.out.step hg6 ha6); clear hO6 hg6 ha6)
          go_roundg (8 - (j + 1))
          case measure => omega
          case rel => exact ⟨j + 1, by go_num, by omega, rfl, by rw [hmk.out]; exact HO6, HT6⟩
        · have hje : j = 8 := by omega
          subst hje
          obtain ⟨Al, cl, hsl⟩ := hO5.out.shape
          have hll : (nd.parts ++ marks 8).length = L + 8 := by rw [List.length_append, HL.out]; simp [marks]
          rw [hll] at hsl
          have HLL := Hid.mk' hll
          clear hll
          subst hsl
          have hcl : L ≤ cl := by
            rcases hO5.out.2 with ⟨h1, _⟩ | ⟨g', cap', cur, he, _, _, h3, _⟩
            · cases h1
            · injection he with _ e2 e3; rw [HLL.out] at h3; omega
          have hr5 := World.ownsRow.kept hM.out.row hT5.out.grown (own_type_ne hM.out.row HO0.out (by decide))
          have hK5 := Hid.mk' (KeptT.grown HO0.out hT5.out.grown)
          have hBk5 := Hid.mk' (hK5.out _ _ _ _ hBk3.out (by decide) (by decide))
          have d22 := Blk.cell hBk5.out (Clu.cells_nodes c _)
          have hP := Hid.mk' (hM.out.put HT0.out hT5.out (ext := marks 8) hO5.out)
          have y1 := hT5.out.grown.cell z2 (by rcases own_type_ne hM.out.row HO0.out (by decide) with h1 | h1 <;> first | exact h1 | (simp [Value.ownBlock] at h1))
          have fy1 := row_free hr5 (q * 2 + 1)
          have hR5 := Hid.mk' hr5
          clear hr5
          go_wp2
          go_region
          have hW := Hid.mk' (Wrote.setCell wr g (q * 2 + 1) (.slice Al L cl))
          have hP7 := Hid.mk' (show OwnM (wr.setCell ⟨g, q * 2 + 1, none⟩ (.slice Al L cl)).drew B (.slice (some ⟨g, 0, none⟩) n cp) (ts.set q (.slice Al (L + 8) cl, nd, marks 8)) by
            have := hP.out
            simp only [shortV, HL.out] at this
            exact ⟨this.row, this.each, this.apart⟩)
          have hgB := Hid.mk' (World.ownsRow.lt hR5.out g rfl)
          have hF5 := Hid.mk' (World.ownsRow.kept hF.out hT5.out.grown (own_type_ne hF.out HO0.out (by decide)))
          have hF7 := Hid.mk' (show (wr.setCell ⟨g, q * 2 + 1, none⟩ (.slice Al L cl)).drew.ownsRow w.heap.size 26 1 u3 q ((ts.take q).map (·.1)) from World.ownsRow.kept (w' := wr.setCell ⟨g, q * 2 + 1, none⟩ (.slice Al L cl)) hF5.out hW.out.grown (by
            have := own_type_ne hF5.out hR5.out (by decide)
            simpa [Value.ownBlock] using this))
          have hBw5 := Hid.mk' (show Below B w wr from hBw.out.grown hT5.out.grown (Nat.le_trans hB hszB) (fun k hk => (World.ownsRow.lt HO0.out k hk).1))
          have hBw7 := Hid.mk' (show Below B w (wr.setCell ⟨g, q * 2 + 1, none⟩ (.slice Al L cl)).drew from by
            have := Wrote.below hBw5.out hW.out hgB.out.1
            exact ⟨this.os, this.tape, this.output, this.size, this.block⟩)
          clear z1 z2 y1 fy1 d22 c22
          obtain ⟨Af, cf, hsf⟩ := row_shape hF7.out
          subst hsf
          go_wp2_with (at_builtin; refine (show wpList Tryd.prog _ _ _ _ ((wr.setCell ⟨g, q * 2 + 1, none⟩ (.slice Al L cl)).drew.alloc (.cells #[.slice Al (L + 8) cl] 26)) from ?_); refine app_one (W := (wr.setCell ⟨g, q * 2 + 1, none⟩ (.slice Al L cl)).drew) (w0 := (wr.setCell ⟨g, q * 2 + 1, none⟩ (.slice Al L cl)).drew) w.heap.size 1 24 rfl (.tmp 43) (.tmp 45) 37 26 (.slice none 0 0) rfl Tryd.underlying37 info_ints rfl (by decide) (by decide) (.slice Af q cf) q ((ts.take q).map (·.1)) #[.slice Al (L + 8) cl] rfl (by exact congrArg (fun k => Value.slice (some ⟨k, 0, none⟩) 1 1) hW.out.size.symm) rfl (by simp [Value.oneCell']) hF7.out (Below.refl _ _) hBw7.out.size (by omega) ?_; intro v8 w8 ho8 hb8 hg8; have HO8 := Hid.mk' ho8; have HG8 := Hid.mk' hg8; clear ho8 hb8 hg8)
          have hts' := Hid.mk' (map_set_same (f := fun t : MNd => t.2.1) (y := (.slice Al (L + 8) cl, nd, marks 8)) HT0.out rfl)
          go_roundg (n - (q + 1))
          case measure => omega
          case rel =>
            refine ⟨q + 1, ts.set q (.slice Al (L + 8) cl, nd, marks 8), by go_num, by omega, rfl, hP7.out.grown hF7.out HG8.out (by decide) (by decide), ?_, ?_, ?_, ?_, ?_⟩
            · show _ = _
              rw [hts'.out]; exact hts.out
            · intro j t hj
              rw [List.getElem?_set] at hj
              split at hj
              · rename_i hjq
                split at hj
                · cases hj
                  rw [if_pos (by omega)]
                · cases hj
              · rename_i hjq
                have h1 := hex.out j t hj
                rw [h1]
                by_cases hjl : j < q
                · rw [if_pos hjl, if_pos (by omega)]
                · rw [if_neg hjl, if_neg (by omega)]
            · have he : ((ts.set q (Value.slice Al (L + 8) cl, nd, marks 8)).take (q + 1)).map (·.1) = (ts.take q).map (·.1) ++ [Value.slice Al (L + 8) cl] := by
                rw [List.take_add_one, List.take_set_of_le (Nat.le_refl _), List.getElem?_set_self (by rw [htl.out]; exact hlt)]
                simp
              show World.ownsRow _ _ _ _ _ _ _
              rw [he]
              exact HO8.out
            · exact hBw7.out.grown HG8.out (Nat.le_trans hB hBw7.out.size) (fun k hk => Nat.le_trans hB (World.ownsRow.lt hF7.out k hk).1)
            · intro k cs t fr hk h1 h2
              have hk3 := hK5.out k cs t fr (hK.out k cs t fr hk h1 h2) h1 h2
              have hkg : k ≠ g := fun e => by
                subst e
                rcases hR5.out.2 with ⟨h3, _⟩ | ⟨g', cap, cur, he, _, hh, _⟩
                · cases h3
                · injection he with e1 _ _
                  injection e1 with e1
                  injection e1 with e1 _ _
                  subst e1
                  rw [hk3] at hh
                  injection hh with hh
                  injection hh with _ ht
                  exact h2 ht
              have hk7 : ((wr.setCell ⟨g, q * 2 + 1, none⟩ (.slice Al L cl)).drew).heap[k]? = some (.cells cs t fr) := (hW.out.block k hkg).trans hk3
              refine heap_grown hk7 HG8.out ?_
              rcases hF7.out.2 with ⟨h3, _⟩ | ⟨g', cap, cur, he, hgw, hh, _⟩
              · rw [h3]; exact .inl rfl
              · rw [he]
                refine .inr fun e => ?_
                have e2 : g' = k := by simpa [Value.ownBlock] using e
                subst e2
                have hlt1 := heap_lt hk
                have hs := Hs1.out
                have e3 : g' = w.heap.size := by omega
                subst e3
                have hb := HBk.out
                unfold Blk at hb
                rw [hk] at hb
                rw [hk7] at hh
                injection hb with hb
                injection hb with _ hb _
                injection hh with hh
                injection hh with _ hh _
                rw [hb] at hh
                exact absurd hh (by decide)
    · have hqe : q = n := by omega
      subst hqe
      go_wp2
      go_ret
      exact ⟨_, ts, rfl, hM.out, hts.out, fun t ht => by
        obtain ⟨j, hj⟩ := List.mem_iff_getElem?.1 ht
        have h1 := hex.out j t hj
        rw [if_pos (by rw [← htl.out]; exact (List.getElem?_eq_some_iff.1 hj).1)] at h1
        exact h1, by rw [htl.out]; have := hF.out; rwa [List.take_of_length_le (by rw [htl.out]; omega)] at this, hBw.out, (KeptT.below HB1.out).trans hK.out⟩
end Go.Proofs.YtmkkllfpdoeojaaDoor
