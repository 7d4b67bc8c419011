/- ring.Holds: for every definition that is read, every node. -/
import Derived.Test.YtmkkllfpdoeojaaDoorCheck
import Derived.Test.YtmkkllfpdoeojaaDoorPure1
namespace Go.Proofs.YtmkkllfpdoeojaaDoor
open Go.RowKit
set_option linter.unusedVariables false

def pick (home : List Nat) (node : Int) (part : Nat) : Nat → List Nat → List (Nat × Nat)
  | _, [] => []
  | r, p :: ps => (if ((home.getD p 0 : Nat) : Int) = node then [(part, r)] else []) ++ pick home node part (r + 1) ps
theorem pick_append (home : List Nat) (node : Int) (part : Nat) : ∀ (r : Nat) (xs ys : List Nat), pick home node part r (xs ++ ys) = pick home node part r xs ++ pick home node part (r + xs.length) ys
  | r, [], ys => by simp [pick]
  | r, x :: xs, ys => by
    simp only [List.cons_append, pick, pick_append home node part (r + 1) xs ys, List.append_assoc, List.length_cons]
    rw [show r + 1 + xs.length = r + (xs.length + 1) by omega]
/-- What a node holds, when so many partitions have been looked at. -/
def holdsTo (home : List Nat) (reps : Nat) (node : Int) (q : Nat) : List (Nat × Nat) := (List.range q).flatMap fun part => pick home node part 0 (roundF home part reps)
theorem holdsTo_succ (home : List Nat) (reps : Nat) (node : Int) (q : Nat) : holdsTo home reps node (q + 1) = holdsTo home reps node q ++ pick home node q 0 (roundF home q reps) := by
  unfold holdsTo
  rw [List.range_succ, List.flatMap_append]
  simp
def holdsL (home : List Nat) (reps : Nat) (node : Int) : List (Nat × Nat) := holdsTo home reps node home.length
theorem pick_length (home : List Nat) (node : Int) (part : Nat) : ∀ (r : Nat) (xs : List Nat), (pick home node part r xs).length ≤ xs.length
  | r, [] => by simp [pick]
  | r, x :: xs => by
    have := pick_length home node part (r + 1) xs
    simp only [pick, List.length_append, List.length_cons]
    split <;> simp <;> omega
theorem roundF_length (home : List Nat) (part reps : Nat) : (roundF home part reps).length ≤ reps := by
  unfold roundF; exact List.length_take_le _ _
theorem holdsTo_length (home : List Nat) (reps : Nat) (node : Int) : ∀ q, (holdsTo home reps node q).length ≤ q * reps
  | 0 => by simp [holdsTo]
  | q + 1 => by
    have h1 := holdsTo_length home reps node q
    have h2 := pick_length home node q 0 (roundF home q reps)
    have h3 := roundF_length home q reps
    rw [holdsTo_succ, List.length_append, Nat.succ_mul]
    omega
theorem roundF_lt (home : List Nat) (part reps : Nat) (h0 : 0 < home.length) {t : Nat} (ht : t ∈ roundF home part reps) : t < home.length := by
  unfold roundF at ht
  exact firsts_lt home part h0 _ t (List.mem_of_mem_take ht)

/-! A row of slots of the call's own. -/
def slotCells (x : Nat × Nat) : List Value := [.int .i64 (x.1 : Int), .int .i64 (x.2 : Int)]
def OwnS (w : World) (B : Nat) (v : Value) (xs : List (Nat × Nat)) : Prop := w.ownsRow B 97 2 v xs.length (xs.flatMap slotCells)
theorem OwnS.nil (w : World) (B : Nat) : OwnS w B (.slice none 0 0) [] := ⟨by simp, .inl ⟨rfl, rfl⟩⟩
theorem OwnS.below {w w' : World} {B : Nat} {v : Value} {xs : List (Nat × Nat)} (h : OwnS w B v xs) (hb : Below w.heap.size w w') : OwnS w' B v xs :=
  World.ownsRow.kept h (row := none) ⟨hb.os, hb.tape, hb.output, hb.size, fun i hi _ => hb.block i hi⟩ (by cases v.ownBlock <;> simp)
theorem OwnS.shape {w : World} {B : Nat} {v : Value} {xs : List (Nat × Nat)} (h : OwnS w B v xs) : ∃ A c, v = .slice A xs.length c := by
  rcases h.2 with ⟨rfl, hn⟩ | ⟨g, cap, cur, rfl, _⟩
  · exact ⟨none, 0, by rw [hn]⟩
  · exact ⟨_, cap, rfl⟩
theorem info_slot : (Tryd.prog.info? 97).map (fun i => (i.zero, i.size, i.bytes)) = some (some (.agg #[.int .i64 0, .int .i64 0]), 2, 16) := by kernel_rfl
section
variable {ops : Array Oper} {rest : List Oper} {o : Oper} {a : Act} {Q : Exit → Act → World → Prop}
theorem app_slot {w0 W : World} (B : Nat) (hgd : o.guard = none) (s x : Operand)
    (ho : o.op = .call { callee := .builtin .append, args := #[s, x], argTypes := #[68, 68] })
    (v : Value) (xs : List (Nat × Nat)) (p r : Nat) (hs : a.eval s = v) (hx : a.eval x = .slice (some ⟨W.heap.size, 0, none⟩) 1 1)
    (HO : OwnS W B v xs) (HB : Below B w0 W) (hbase : B ≤ W.heap.size) (hl : (xs.length + 1) * 16 ≤ 140737488355328)
    (h : ∀ v1 w1, OwnS w1 B v1 (xs ++ [(p, r)]) → Below B w0 w1 → W.grownBy w1 v.ownBlock → wpList Tryd.prog ops Q rest (a.put o.dst v1) w1) :
    wpList Tryd.prog ops Q (o :: rest) a (W.alloc (.cells #[.int .i64 (p : Int), .int .i64 (r : Int)] 97)) :=
  app_one B 2 16 hgd s x 68 97 (.agg #[.int .i64 0, .int .i64 0]) ho Tryd.underlying68 info_slot rfl (by decide) (by decide) v xs.length (xs.flatMap slotCells) #[.int .i64 (p : Int), .int .i64 (r : Int)] hs hx rfl (by simp [Value.oneCell']) HO HB hbase hl
    fun v1 w1 hown hB hg => h v1 w1 (by unfold OwnS; simpa [slotCells] using hown) hB hg
end

def HoldsPost (c : Clu) (node : Int) (w : World) (e : Ending) (w' : World) : Prop :=
  (checkE c ≠ 0 ∧ e = .returned (.tuple #[.slice none 0 0, .int .i64 (checkE c)]) ∨
   checkE c = 0 ∧ ¬ (0 ≤ node ∧ node < c.nodes.length) ∧ e = .returned (.tuple #[.slice none 0 0, .int .i64 68]) ∨
   checkE c = 0 ∧ (0 ≤ node ∧ node < c.nodes.length) ∧ ∃ v, e = .returned (.tuple #[v, .int .i64 0]) ∧ OwnS w' w.heap.size v (holdsL (homeL c.nodes) c.s1.toNat node)) ∧ Below w.heap.size w w'
theorem checkE_zero {c : Clu} (h : checkE c = 0) : Valid c.nodes ∧ (∀ k, k < 21 → setOK c k) ∧ nameB c.store = true ∧ (1 ≤ c.nodes.length ∧ c.nodes.length ≤ 16) ∧ (∀ x ∈ c.nodes, 0 ≤ x.zone ∧ x.zone ≤ 7) ∧ c.s1 ≤ fullN c.nodes ∧ c.s5 ≤ c.s8 ∧ c.s10 ≤ c.s11 ∧ (cnt c.nodes : Int) * c.s1 * c.s3 ≤ 512 := by
  unfold checkE at h
  split at h
  · simp at h
  rename_i h1
  split at h
  · simp at h
  rename_i h2
  split at h
  · simp at h
  rename_i h3
  split at h
  · simp at h
  rename_i h4
  split at h
  · simp at h
  rename_i h5
  split at h
  · simp at h
  rename_i l hl
  split at h
  · simp at h
  rename_i h6
  split at h
  · simp at h
  rename_i h7
  have hv := homesF_some c.nodes hl
  have hlen := (homesF_length hl).1
  rw [hlen] at h7
  exact ⟨hv, Classical.not_not.1 h2, by simpa using h1, Classical.not_not.1 h4, Classical.not_not.1 h5, by omega, by omega, by omega, by omega⟩
theorem checked_yes (c : Clu) (A : Option Addr) (n cp : Nat) (w : World) (hN : RdN w A n c.nodes) (hcp : n ≤ cp) (hs : c.store.size ≤ 9223372036854775807) (hlen : ∀ x ∈ c.nodes, x.parts.length ≤ 17592186044416) (h : checkE c = 0) :
    Calls Tryd.prog 51 #[.agg (c.cells (.slice A n cp))] w fun e w' => ∃ v, e = .returned (.tuple #[v, .int .i64 0]) ∧ Own w' w.heap.size v (ints (homeL c.nodes)) ∧ Below w.heap.size w w' :=
  (checked_any c A n cp w hN hcp hs hlen).mono fun e w' hp => by
    obtain ⟨⟨h0, v, l, hl, he, ho⟩ | ⟨h0, _⟩, hb⟩ := hp
    · rw [homesF_valid c.nodes (checkE_zero h).1] at hl
      cases hl
      exact ⟨v, he, ho, hb⟩
    · exact absurd h h0
theorem checked_no (c : Clu) (A : Option Addr) (n cp : Nat) (w : World) (hN : RdN w A n c.nodes) (hcp : n ≤ cp) (hs : c.store.size ≤ 9223372036854775807) (hlen : ∀ x ∈ c.nodes, x.parts.length ≤ 17592186044416) (h : checkE c ≠ 0) :
    Calls Tryd.prog 51 #[.agg (c.cells (.slice A n cp))] w fun e w' => e = .returned (.tuple #[.slice none 0 0, .int .i64 (checkE c)]) ∧ Below w.heap.size w w' :=
  (checked_any c A n cp w hN hcp hs hlen).mono fun e w' hp => by
    obtain ⟨⟨h0, _⟩ | ⟨h0, he⟩, hb⟩ := hp
    · exact absurd h0 h
    · exact ⟨he, hb⟩
set_option maxRecDepth 100000 in
set_option maxHeartbeats 800000 in
theorem holds_any (c : Clu) (node : Int) (A : Option Addr) (n cp : Nat) (w : World) (hN : RdN w A n c.nodes) (hcp : n ≤ cp) (hs : c.store.size ≤ 9223372036854775807) (hlen : ∀ x ∈ c.nodes, x.parts.length ≤ 17592186044416) :
    Calls Tryd.prog 26 #[c.val (.slice A n cp), .int .i64 node] w (HoldsPost c node w) := by
  have hnl : c.nodes.length = n := hN.1
  unfold Clu.val
  by_cases hE : checkE c = 0
  · obtain ⟨hv, hok, _, ⟨hn1, hn2⟩, _⟩ := checkE_zero hE
    have hHF := homesF_valid c.nodes hv
    have HE := Hid.mk' hE
    clear hE
    by_cases hnd : 0 ≤ node ∧ node < n
    · go_enter Tryd.func26, Tryd.ntmps26
      go_wp2_with (first
        | ((with_reducible refine box_arm (P := Tryd.prog) rfl 24 (.tmp 0) rfl _ (c.cells (.slice A n cp)) rfl rfl ?_); intro w1 hbk hb1 hs1; have HBk := Hid.mk' hbk; have HB1 := Hid.mk' hb1; have Hs1 := Hid.mk' hs1; clear hbk hb1 hs1)
        | (refine wpList_load_row rfl 24 _ rfl w.heap.size rfl 24 _ (0, 0) _ HBk.out Tryd.underlying24 rfl info_clu ?_)
        | (go_at_call 51; refine (checked_yes c A n cp _ (by exact hN.below HB1.out) hcp hs hlen HE.out).mono ?_; rintro e w2 ⟨v, rfl, ho, hb⟩; have HB2 := Hid.mk' hb; have HO2 := Hid.mk' ho; obtain ⟨Ah, ch, hsh⟩ := ho.shape; subst hsh; have c22 := (HBk.out.below hb HBk.out.lt).cell (Clu.cells_nodes c _); have c1 := (HBk.out.below hb HBk.out.lt).cell (show (c.cells (.slice A n cp))[1]? = some (.int .i64 c.s1) from rfl); clear ho hb)
        | (go_at_call 52; refine (within_yes _ _ _ _ (by omega)).mono ?_; rintro e w' ⟨rfl, rfl⟩))
      rw [ints_length] at *
      have hP : (homeL c.nodes).length = cnt c.nodes := homeL_length _
      have hP1 : 1 ≤ (homeL c.nodes).length := by rw [hP]; exact hv.1
      have hP2 : (homeL c.nodes).length ≤ 64 := by rw [hP]; exact hv.2.1
      clear hP
      obtain ⟨hb1, hb2, _, _⟩ := set_bounds hok
      obtain ⟨reps, hre⟩ : ∃ r : Nat, c.s1 = r := ⟨c.s1.toNat, by omega⟩
      have hreq := Hid.mk' (show c.s1.toNat = reps by omega)
      rw [hre] at c1 hb1 hb2
      clear hre hok
      have HV := Hid.mk' hv
      clear hv hHF
      obtain ⟨home, hhome⟩ : ∃ h, homeL c.nodes = h := ⟨_, rfl⟩
      rw [hhome] at hP1 hP2 HO2
      rw [hhome]
      have HH := Hid.mk' hhome
      clear hhome
      have hRh := Hid.mk' (HO2.out.read)
      have hs2 : w1.heap.size ≤ w2.heap.size := HB2.out.size
      have hBw2 := Hid.mk' (show Below w.heap.size w w2 from below_then HB1.out (by have := Hs1.out; omega) HB2.out)
      have hrds := Hid.mk' (fun (part t : Nat) (ht : t ∈ roundF home part reps) => roundF_lt home part reps (by omega) ht)
      have hs1' : w.heap.size < w2.heap.size := by have := Hs1.out; omega
      go_loopg [8, 29] home.length (fun k v i wr => ∃ q : Nat, i = .int .i64 q ∧ q ≤ home.length ∧ k = home.length - q ∧ Hid (OwnS wr w2.heap.size v (holdsTo home reps node q)) ∧ Hid (Below w2.heap.size w2 wr))
      case atStart => exact ⟨0, rfl, by omega, rfl, OwnS.nil _ _, Below.refl _ _⟩
      case round =>
        obtain ⟨q, rfl, hq, hk, hO, hB⟩ := hrel
        subst hk
        by_cases hlt : q < home.length
        · have c22' := cell_below hB.out c22
          have c1' := cell_below hB.out c1
          have hR3 := Hid.mk' (hRh.out.below hB.out)
          have hsz := hB.out.size
          have hll := holdsTo_length home reps node q
          have hll2 : (holdsTo home reps node q).length ≤ 1024 := Nat.le_trans hll (Nat.le_trans (Nat.mul_le_mul (show q ≤ 64 by omega) (show reps ≤ 16 by omega)) (by decide))
          clear hll
          have hsc := Hid.mk' (holdsTo_succ home reps node q)
          obtain ⟨w3, rfl⟩ : ∃ y : World, y = wr := ⟨_, rfl⟩
          go_wp2_with (go_at_call 53; refine (round_any Ah home.length ch q reps home _ hR3.out (by omega) hlt (by omega)).mono ?_; rintro e w4 ⟨v4, rfl, ho4, hb4⟩; have HO4 := Hid.mk' ho4; have HB4 := Hid.mk' hb4; obtain ⟨A4, c4, hsh4⟩ := ho4.shape; subst hsh4; clear ho4 hb4)
          rw [ints_length] at *
          have hrl := roundF_length home q reps
          have hB5 := Hid.mk' (show Below w2.heap.size w2 w4 from below_then hB.out hsz HB4.out)
          have hO5 := Hid.mk' (hO.out.below HB4.out)
          have hs5 := hB5.out.size
          have hrq := Hid.mk' (hrds.out q)
          generalize roundF home q reps = rs at *
          generalize holdsTo home reps node q = acc at *
          go_loopg [8, 38] rs.length (fun k v j wr => ∃ m : Nat, j = .int .i64 m ∧ m ≤ rs.length ∧ k = rs.length - m ∧ Hid (OwnS wr w2.heap.size v (acc ++ pick home node q 0 (rs.take m))) ∧ Hid (Own wr w3.heap.size (.slice A4 rs.length c4) (ints rs)) ∧ Hid (Below w2.heap.size w2 wr))
          case atStart => exact ⟨0, rfl, by omega, rfl, Hid.mk' (by simpa [pick] using hO5.out), HO4, hB5⟩
          case round =>
            obtain ⟨m, rfl, hm, hk, hO6, hO7, hB6⟩ := hrel
            subst hk
            have hsz6 := hB6.out.size
            by_cases hm' : m < rs.length
            · have hRr := hO7.out.read
              obtain ⟨b7, o7, hA7, hc7⟩ := hRr.at hm'
              subst hA7
              rw [ints_getD] at hc7
              have hrm : rs[m]? = some (rs.getD m 0) := by rw [List.getD_eq_getElem?_getD, List.getElem?_eq_getElem hm']; rfl
              have hpl := hrq.out _ (List.mem_of_getElem? hrm)
              have hpick := Hid.mk' (show pick home node q 0 (rs.take (m + 1)) = pick home node q 0 (rs.take m) ++ (if ((home.getD (rs.getD m 0) 0 : Nat) : Int) = node then [(q, m)] else []) from by
                rw [List.take_add_one, hrm]
                simp only [Option.toList]
                rw [pick_append]
                simp [pick, List.length_take, Nat.min_eq_left (Nat.le_of_lt hm')])
              have hpl3 := pick_length home node q 0 (rs.take m)
              have hpl4 : (rs.take m).length ≤ m := List.length_take_le _ _
              clear hRr hrm
              obtain ⟨bh, oh, hAh, hch⟩ := (hRh.out.below hB6.out).at hpl
              subst hAh
              rw [ints_getD] at hch
              generalize rs.getD m 0 = p at *
              generalize home.getD p 0 = hp at *
              by_cases heq : (hp : Int) = node
              · have hbe : ((hp : Int) == node) = true := by simp [heq]
                have hpick' := Hid.mk' (show acc ++ pick home node q 0 (rs.take (m + 1)) = (acc ++ pick home node q 0 (rs.take m)) ++ [(q, m)] from by rw [hpick.out, if_pos heq, List.append_assoc])
                have hql : (acc ++ pick home node q 0 (rs.take m)).length ≤ 2048 := by rw [List.length_append]; omega
                clear hpick heq hpl3
                generalize acc ++ pick home node q 0 (rs.take m) = acc' at *
                go_wp2_with (at_builtin; refine app_slot (W := wr) (w0 := w2) w2.heap.size rfl (.tmp 49) (.tmp 53) rfl _ acc' q m rfl rfl hO6.out hB6.out hsz6 (by omega) ?_; intro v8 w8 hO8 hB8 hg8; have HO8 := Hid.mk' hO8; have HB8 := Hid.mk' hB8; have HG8 := Hid.mk' hg8; clear hO8 hB8 hg8)
                go_roundg (rs.length - (m + 1))
                case measure => omega
                case rel =>
                  refine ⟨m + 1, by go_num, by omega, rfl, ?_, ?_, HB8⟩
                  · rw [hpick'.out]; exact HO8
                  · exact World.ownsRow.kept hO7.out HG8.out (own_type_ne hO7.out hO6.out (by decide))
              · have hbe : ((hp : Int) == node) = false := by simp [heq]
                have hpick' := Hid.mk' (show acc ++ pick home node q 0 (rs.take (m + 1)) = acc ++ pick home node q 0 (rs.take m) from by rw [hpick.out, if_neg heq, List.append_nil])
                clear hpick heq
                go_wp2
                go_roundg (rs.length - (m + 1))
                case measure => omega
                case rel =>
                  refine ⟨m + 1, by go_num, by omega, rfl, ?_, hO7, hB6⟩
                  rw [hpick'.out]; exact hO6
            · have hme : rs.length = m := by omega
              subst hme
              have hO8 : Hid (OwnS wr w2.heap.size u8 (holdsTo home reps node (q + 1))) := by
                rw [hsc.out]
                have := hO6.out
                rwa [List.take_length] at this
              go_wp2
              go_roundg (home.length - (q + 1))
              case measure => omega
              case rel => exact ⟨q + 1, by go_num, by omega, rfl, hO8, hB6⟩
        · have hqe : home.length = q := by omega
          subst hqe
          go_wp2
          go_ret2
          refine ⟨.inr (.inr ⟨HE.out, by rw [hnl]; exact hnd, _, rfl, ?_⟩), below_then hBw2.out (Nat.le_of_lt hs1') hB.out⟩
          rw [hreq.out, HH.out]
          exact World.ownsRow.mono hO.out (Nat.le_of_lt hs1')
    · go_enter Tryd.func26, Tryd.ntmps26
      go_wp2_with (first
        | ((with_reducible refine box_arm (P := Tryd.prog) rfl 24 (.tmp 0) rfl _ (c.cells (.slice A n cp)) rfl rfl ?_); intro w1 hbk hb1 hs1; have HBk := Hid.mk' hbk; have HB1 := Hid.mk' hb1; have Hs1 := Hid.mk' hs1; clear hbk hb1 hs1)
        | (refine wpList_load_row rfl 24 _ rfl w.heap.size rfl 24 _ (0, 0) _ HBk.out Tryd.underlying24 rfl info_clu ?_)
        | (go_at_call 51; refine (checked_yes c A n cp _ (by exact hN.below HB1.out) hcp hs hlen HE.out).mono ?_; rintro e w2 ⟨v, rfl, ho, hb⟩; have HB2 := Hid.mk' hb; have HO2 := Hid.mk' ho; obtain ⟨Ah, ch, hsh⟩ := ho.shape; subst hsh; have c22 := (HBk.out.below hb HBk.out.lt).cell (Clu.cells_nodes c _); have c1 := (HBk.out.below hb HBk.out.lt).cell (show (c.cells (.slice A n cp))[1]? = some (.int .i64 c.s1) from rfl); clear ho hb)
        | (go_at_call 52; refine (within_no _ _ _ _ (by omega)).mono ?_; rintro e w' ⟨rfl, rfl⟩))
      go_ret2
      exact ⟨.inr (.inl ⟨HE.out, by rw [hnl]; exact hnd, rfl⟩), below_then HB1.out (by have := Hs1.out; omega) HB2.out⟩
  · have HE := Hid.mk' hE
    have hne : (checkE c != 0) = true := by simpa using hE
    clear hE
    go_enter Tryd.func26, Tryd.ntmps26
    go_wp2_with (first
      | ((with_reducible refine box_arm (P := Tryd.prog) rfl 24 (.tmp 0) rfl _ (c.cells (.slice A n cp)) rfl rfl ?_); intro w1 hbk hb1 hs1; have HBk := Hid.mk' hbk; have HB1 := Hid.mk' hb1; have Hs1 := Hid.mk' hs1; clear hbk hb1 hs1)
      | (refine wpList_load_row rfl 24 _ rfl w.heap.size rfl 24 _ (0, 0) _ HBk.out Tryd.underlying24 rfl info_clu ?_)
      | (go_at_call 51; refine (checked_no c A n cp _ (by exact hN.below HB1.out) hcp hs hlen HE.out).mono ?_; rintro e w2 ⟨rfl, hb⟩; have HB2 := Hid.mk' hb; clear hb))
    go_ret2
    exact ⟨.inl ⟨HE.out, rfl⟩, below_then HB1.out (by have := Hs1.out; omega) HB2.out⟩
end Go.Proofs.YtmkkllfpdoeojaaDoor
