/- Plain laws: the homes of the partitions: what homesF answers; no program. -/
import Derived.Test.YtmkkllfpdoeojaaDoorHomes
namespace Go.Proofs.YtmkkllfpdoeojaaDoor
set_option linter.unusedVariables false

theorem perm_of {α : Type} [DecidableEq α] : ∀ (m l : List α), m.Nodup → (∀ x ∈ m, x ∈ l) → l.length ≤ m.length → l.Perm m
  | [], l, _, _, h => by
    have : l = [] := List.eq_nil_of_length_eq_zero (by simpa using h)
    rw [this]
  | k :: m, l, hn, hs, h => by
    have hk := hs k List.mem_cons_self
    have hn' := List.nodup_cons.1 hn
    have h1 : l.Perm (k :: l.erase k) := List.perm_cons_erase hk
    refine h1.trans ((perm_of m (l.erase k) hn'.2 (fun x hx => ?_) ?_).cons k)
    · rw [List.mem_erase_of_ne]
      · exact hs x (List.mem_cons_of_mem _ hx)
      · intro e; subst e; exact hn'.1 hx
    · rw [List.length_erase_of_mem hk]
      simp at h
      omega
def flat (ns : List Nd) : List Int := ns.flatMap (·.parts)
theorem flat_cons (x : Nd) (xs : List Nd) : flat (x :: xs) = x.parts ++ flat xs := by simp [flat]
theorem cnt_flat (ns : List Nd) : cnt ns = (flat ns).length := by
  induction ns with
  | nil => rfl
  | cons x xs ih => rw [flat_cons, List.length_append, cnt, ih]
/-- The numbers 0 to P - 1. -/
def upto (P : Nat) : List Int := (List.range P).map fun i : Nat => (i : Int)
theorem mem_upto {P : Nat} {p : Int} : p ∈ upto P ↔ 0 ≤ p ∧ p < P := by
  unfold upto
  rw [List.mem_map]
  constructor
  · rintro ⟨a, ha, rfl⟩
    have := List.mem_range.1 ha
    omega
  · rintro ⟨h0, h1⟩
    exact ⟨p.toNat, List.mem_range.2 (by omega), by omega⟩
theorem upto_length (P : Nat) : (upto P).length = P := by simp [upto]
theorem upto_nodup (P : Nat) : (upto P).Nodup := by
  unfold upto
  rw [List.nodup_iff_pairwise_ne, List.pairwise_map]
  refine List.Pairwise.imp (fun h => ?_) (List.nodup_range (n := P))
  intro e
  exact h (by omega)
/-- The node that has the partition. -/
def homeN : List Nd → Int → Nat
  | [], _ => 0
  | x :: xs, p => if p ∈ x.parts then 0 else 1 + homeN xs p

theorem getD_set {h : List Int} {p q : Nat} {v : Int} (hp : p < h.length) : (h.set p v).getD q 0 = if q = p then v else h.getD q 0 := by
  rw [List.getD_eq_getElem?_getD, List.getD_eq_getElem?_getD, List.getElem?_set]
  by_cases e : p = q
  · subst e; simp [hp]
  · rw [if_neg e, if_neg (fun h => e h.symm)]
theorem homesIn_iff (P i : Nat) : ∀ (ps h : List Int), h.length = P →
    ((∃ h', homesIn P i ps h = some h') ↔ (∀ p ∈ ps, 0 ≤ p ∧ p < P) ∧ ps.Nodup ∧ (∀ p ∈ ps, h.getD p.toNat 0 < 0)) ∧
    ∀ h', homesIn P i ps h = some h' → ∀ q : Nat, h'.getD q 0 = if (q : Int) ∈ ps then (i : Int) else h.getD q 0
  | [], h, hl => by
    refine ⟨⟨fun _ => ⟨fun p hp => by simp at hp, List.nodup_nil, fun p hp => by simp at hp⟩, fun _ => ⟨h, rfl⟩⟩, fun h' e q => ?_⟩
    simp [homesIn] at e
    subst e
    simp
  | p :: ps, h, hl => by
    by_cases hc : p < 0 ∨ (P : Int) ≤ p ∨ 0 ≤ h.getD p.toNat 0
    · have hn : homesIn P i (p :: ps) h = none := by rw [homesIn, if_pos hc]
      refine ⟨⟨fun ⟨h', e⟩ => (by rw [hn] at e; cases e), fun ⟨h1, h2, h3⟩ => ?_⟩, fun h' e => (by rw [hn] at e; cases e)⟩
      have := h1 p List.mem_cons_self
      have := h3 p List.mem_cons_self
      omega
    · have hn : homesIn P i (p :: ps) h = homesIn P i ps (h.set p.toNat (i : Int)) := by rw [homesIn, if_neg hc]
      have hlen : (h.set p.toNat (i : Int)).length = P := by simpa using hl
      obtain ⟨ih1, ih2⟩ := homesIn_iff P i ps (h.set p.toNat (i : Int)) hlen
      have hpl : p.toNat < h.length := by omega
      rw [hn]
      refine ⟨ih1.trans ⟨fun ⟨h1, h2, h3⟩ => ⟨fun q hq => ?_, ?_, fun q hq => ?_⟩, fun ⟨h1, h2, h3⟩ => ⟨fun q hq => h1 q (List.mem_cons_of_mem _ hq), (List.nodup_cons.1 h2).2, fun q hq => ?_⟩⟩, fun h' e q => ?_⟩
      · rcases List.mem_cons.1 hq with rfl | hq
        · omega
        · exact h1 q hq
      · refine List.nodup_cons.2 ⟨fun hp => ?_, h2⟩
        have := h3 p hp
        rw [getD_set hpl, if_pos rfl] at this
        omega
      · rcases List.mem_cons.1 hq with rfl | hq
        · omega
        · have := h3 q hq
          rw [getD_set hpl] at this
          split at this
          · omega
          · exact this
      · rw [getD_set hpl, if_neg]
        · exact h3 q (List.mem_cons_of_mem _ hq)
        · intro e
          have h4 := h1 q (List.mem_cons_of_mem _ hq)
          have : q = p := by omega
          subst this
          exact (List.nodup_cons.1 h2).1 hq
      · rw [ih2 h' e q, getD_set hpl]
        by_cases hq : (q : Int) ∈ ps
        · rw [if_pos hq, if_pos (List.mem_cons_of_mem _ hq)]
        · rw [if_neg hq]
          by_cases hqp : q = p.toNat
          · rw [if_pos hqp, if_pos]
            rw [List.mem_cons]
            left
            omega
          · rw [if_neg hqp, if_neg]
            rw [List.mem_cons]
            rintro (e | e)
            · omega
            · exact hq e
theorem homesGo_iff (P : Nat) : ∀ (ns : List Nd) (i : Nat) (h : List Int), h.length = P →
    ((∃ h', homesGo P ns i h = some h') ↔ (∀ x ∈ ns, Srt x.parts) ∧ (∀ p ∈ flat ns, 0 ≤ p ∧ p < P) ∧ (flat ns).Nodup ∧ (∀ p ∈ flat ns, h.getD p.toNat 0 < 0)) ∧
    ∀ h', homesGo P ns i h = some h' → ∀ q : Nat, h'.getD q 0 = if (q : Int) ∈ flat ns then ((i + homeN ns q : Nat) : Int) else h.getD q 0
  | [], i, h, hl => by
    refine ⟨⟨fun _ => ⟨fun x hx => by simp at hx, fun p hp => by simp [flat] at hp, by simp [flat], fun p hp => by simp [flat] at hp⟩, fun _ => ⟨h, rfl⟩⟩, fun h' e q => ?_⟩
    simp [homesGo] at e
    subst e
    simp [flat]
  | x :: xs, i, h, hl => by
    by_cases hs : Srt x.parts
    · obtain ⟨in1, in2⟩ := homesIn_iff P i x.parts h hl
      cases hin : homesIn P i x.parts h with
      | none =>
        have hn : homesGo P (x :: xs) i h = none := by rw [homesGo_cons P x xs i h hs, hin]
        refine ⟨⟨fun ⟨h', e⟩ => (by rw [hn] at e; cases e), fun ⟨h1, h2, h3, h4⟩ => ?_⟩, fun h' e => (by rw [hn] at e; cases e)⟩
        rw [flat_cons] at h2 h3 h4
        obtain ⟨h', e⟩ := in1.2 ⟨fun p hp => h2 p (List.mem_append_left _ hp), (List.nodup_append.1 h3).1, fun p hp => h4 p (List.mem_append_left _ hp)⟩
        rw [hin] at e
        cases e
      | some h1 =>
        have hn : homesGo P (x :: xs) i h = homesGo P xs (i + 1) h1 := by rw [homesGo_cons P x xs i h hs, hin]
        have hl1 : h1.length = P := by rw [homesIn_length _ _ _ _ _ hin]; exact hl
        obtain ⟨ih1, ih2⟩ := homesGo_iff P xs (i + 1) h1 hl1
        obtain ⟨a1, a2, a3⟩ := in1.1 ⟨h1, hin⟩
        have hv := in2 h1 hin
        rw [hn, flat_cons]
        refine ⟨ih1.trans ⟨fun ⟨b1, b2, b3, b4⟩ => ⟨fun y hy => ?_, fun p hp => ?_, ?_, fun p hp => ?_⟩, fun ⟨b1, b2, b3, b4⟩ => ⟨fun y hy => b1 y (List.mem_cons_of_mem _ hy), fun p hp => b2 p (List.mem_append_right _ hp), (List.nodup_append.1 b3).2.1, fun p hp => ?_⟩⟩, fun h' e q => ?_⟩
        · rcases List.mem_cons.1 hy with rfl | hy
          · exact hs
          · exact b1 y hy
        · rcases List.mem_append.1 hp with hp | hp
          · exact a1 p hp
          · exact b2 p hp
        · refine List.nodup_append.2 ⟨a2, b3, fun p hp q hq e => ?_⟩
          subst e
          have h5 := b4 p hq
          have h6 := a1 p hp
          rw [hv, if_pos (by rw [Int.toNat_of_nonneg h6.1]; exact hp)] at h5
          omega
        · rcases List.mem_append.1 hp with hp | hp
          · exact a3 p hp
          · have h5 := b4 p hp
            rw [hv] at h5
            split at h5
            · omega
            · exact h5
        · have h6 := b2 p (List.mem_append_right _ hp)
          rw [hv, if_neg]
          · exact b4 p (List.mem_append_right _ hp)
          · rw [Int.toNat_of_nonneg h6.1]
            intro hp'
            exact (List.nodup_append.1 b3).2.2 p hp' p hp rfl
        · rw [ih2 h' e q]
          by_cases hq : (q : Int) ∈ x.parts
          · rw [if_pos (List.mem_append_left _ hq), homeN, if_pos hq]
            by_cases hq2 : (q : Int) ∈ flat xs
            · exfalso
              obtain ⟨_, _, _, b4⟩ := ih1.1 ⟨h', e⟩
              have h5 := b4 _ hq2
              rw [hv, if_pos (by simpa using hq)] at h5
              omega
            · rw [if_neg hq2, hv, if_pos hq]
              simp
          · by_cases hq2 : (q : Int) ∈ flat xs
            · rw [if_pos hq2, if_pos (List.mem_append_right _ hq2), homeN, if_neg hq]
              omega
            · rw [if_neg hq2, if_neg (fun h => (List.mem_append.1 h).elim hq hq2), hv, if_neg hq]
    · have hn : homesGo P (x :: xs) i h = none := homesGo_no P x xs i h hs
      exact ⟨⟨fun ⟨h', e⟩ => (by rw [hn] at e; cases e), fun ⟨h1, _⟩ => absurd (h1 x List.mem_cons_self) hs⟩, fun h' e => (by rw [hn] at e; cases e)⟩

/-- A deal of the partitions: 1 to 64 of them, each in just one list, the lists rising. -/
def Valid (ns : List Nd) : Prop := 1 ≤ cnt ns ∧ cnt ns ≤ 64 ∧ (flat ns).Perm (upto (cnt ns)) ∧ ∀ x ∈ ns, Srt x.parts
def homeL (ns : List Nd) : List Nat := (List.range (cnt ns)).map fun p : Nat => homeN ns p
theorem homeL_length (ns : List Nd) : (homeL ns).length = cnt ns := by simp [homeL]
theorem homeL_getD (ns : List Nd) {p : Nat} (hp : p < cnt ns) : (homeL ns).getD p 0 = homeN ns p := by
  unfold homeL
  rw [List.getD_eq_getElem?_getD, List.getElem?_map, List.getElem?_range hp]
  rfl
theorem homesF_valid (ns : List Nd) (h : Valid ns) : homesF ns = some (ints (homeL ns)) := by
  obtain ⟨h1, h2, h3, h4⟩ := h
  unfold homesF
  rw [if_pos ⟨h1, h2⟩]
  obtain ⟨i1, i2⟩ := homesGo_iff (cnt ns) ns 0 (List.replicate (cnt ns) (-1)) (by simp)
  have hin : ∀ p ∈ flat ns, 0 ≤ p ∧ p < cnt ns := fun p hp => mem_upto.1 (h3.mem_iff.1 hp)
  obtain ⟨h', e⟩ := i1.2 ⟨h4, hin, h3.nodup_iff.2 (upto_nodup _), fun p hp => by
    have := hin p hp
    rw [List.getD_eq_getElem?_getD, List.getElem?_replicate, if_pos (by omega)]
    decide⟩
  rw [e]
  have hl : h'.length = cnt ns := by
    have := homesGo_length _ _ _ _ _ e
    simpa using this
  congr 1
  apply List.ext_getElem
  · rw [hl, ints_length, homeL_length]
  · intro q hq1 hq2
    have hq : q < cnt ns := by omega
    have hv := i2 h' e q
    rw [if_pos (h3.mem_iff.2 (mem_upto.2 ⟨by omega, by omega⟩)), Nat.zero_add] at hv
    have ha : h'[q] = h'.getD q 0 := by rw [List.getD_eq_getElem?_getD, List.getElem?_eq_getElem hq1]; rfl
    have hb : (ints (homeL ns))[q] = (ints (homeL ns)).getD q 0 := by rw [List.getD_eq_getElem?_getD, List.getElem?_eq_getElem hq2]; rfl
    rw [ha, hb, hv, ints_getD, homeL_getD ns hq]
theorem homesF_some (ns : List Nd) {l : List Int} (h : homesF ns = some l) : Valid ns := by
  unfold homesF at h
  split at h
  · rename_i hc
    obtain ⟨i1, _⟩ := homesGo_iff (cnt ns) ns 0 (List.replicate (cnt ns) (-1)) (by simp)
    obtain ⟨b1, b2, b3, _⟩ := i1.1 ⟨l, h⟩
    refine ⟨hc.1, hc.2, ?_, b1⟩
    exact (perm_of (flat ns) (upto (cnt ns)) b3 (fun p hp => mem_upto.2 (b2 p hp)) (by rw [upto_length, cnt_flat]; exact Nat.le_refl _)).symm
  · cases h
theorem homesF_none (ns : List Nd) (h : ¬ Valid ns) : homesF ns = none := by
  cases hh : homesF ns with
  | none => rfl
  | some l => exact absurd (homesF_some ns hh) h
end Go.Proofs.YtmkkllfpdoeojaaDoor
