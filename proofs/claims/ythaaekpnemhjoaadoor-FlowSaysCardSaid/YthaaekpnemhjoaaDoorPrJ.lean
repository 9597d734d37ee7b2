/-
  What flows by the nodes above is what flows by the tree; contracts: the document's Levels, Fits, Least.
-/
import Derived.Test.YthaaekpnemhjoaaDoorPrF
import Derived.Test.YthaaekpnemhjoaaDoorFlowL
import Derived.Test.YthaaekpnemhjoaaDoorFlowH
import Derived.Test.YthaaekpnemhjoaaDoorPush
namespace Go.Proofs.YthaaekpnemhjoaaDoor
open Go.RowKit Go.Shelf
set_option maxRecDepth 100000
set_option linter.unusedVariables false

theorem getD_setB (u : List Bool) (a j : Nat) (ha : a < u.length) : (u.set a true).getD j false = true ↔ u.getD j false = true ∨ a = j := by
  rw [List.getD_eq_getElem?_getD, List.getD_eq_getElem?_getD, List.getElem?_set]
  by_cases h : a = j
  · subst h; simp [ha]
  · simp [h]
theorem partsScan_used {P : List Int} {i : Nat} : ∀ (l : List Int) (k : Nat) (u v : List Bool), i ≤ u.length → partsScan P i l k u = (0, v) →
    v.length = u.length ∧ (∀ j : Nat, v.getD j false = true ↔ u.getD j false = true ∨ (j : Int) ∈ l) ∧ ∀ j : Nat, (j : Int) ∈ l → u.getD j false = false
  | [], k, u, v, hi, h => by
    rw [partsScan] at h
    obtain rfl := (Prod.mk.inj h).2
    exact ⟨rfl, fun j => by simp, fun j hj => by cases hj⟩
  | a :: l, k, u, v, hi, h => by
    rw [partsScan] at h
    split at h
    · rename_i h0
      obtain ⟨⟨a0, ai⟩, hu, _⟩ := partCode_zero h0
      obtain ⟨b, rfl⟩ := Int.eq_ofNat_of_zero_le a0
      rw [Int.toNat_natCast] at hu h
      have hb : b < u.length := by omega
      obtain ⟨h1, h2, h3⟩ := partsScan_used l (k + 1) _ _ (by rw [List.length_set]; exact hi) h
      refine ⟨by rw [h1, List.length_set], fun j => ?_, fun j hj => ?_⟩
      · rw [h2, getD_setB _ _ _ hb, List.mem_cons, or_assoc]
        refine or_congr Iff.rfl (or_congr ?_ Iff.rfl)
        constructor <;> intro e <;> omega
      · rcases List.mem_cons.1 hj with e | e
        · obtain rfl : j = b := by omega
          exact hu
        · have := h3 j e
          cases hj' : u.getD j false with
          | false => rfl
          | true => exact absurd ((getD_setB u b j hb).2 (.inl hj')) (by rw [this]; decide)
    · rename_i h0; exact absurd (Prod.mk.inj h).1 h0
theorem nodeScan_used {P : List Int} {i : Nat} {u v : List Bool} (hi : i ≤ u.length) (h : nodeScan P i u = (0, v)) :
    v.length = u.length ∧ (∀ j : Nat, v.getD j false = true ↔ u.getD j false = true ∨ (j : Int) ∈ partsOf P i) ∧ ∀ j : Nat, (j : Int) ∈ partsOf P i → u.getD j false = false := by
  unfold nodeScan at h
  split at h
  · exact absurd (Prod.mk.inj h).1 (by decide)
  · exact partsScan_used _ _ _ _ hi h
theorem nodesScan_used {P : List Int} : ∀ (m i : Nat) (u v : List Bool), i + m ≤ u.length → nodesScan P m i u = (0, v) →
    (∀ j : Nat, v.getD j false = true ↔ u.getD j false = true ∨ ∃ k, i ≤ k ∧ k < i + m ∧ (j : Int) ∈ partsOf P k) ∧ (∀ j k : Nat, i ≤ k → k < i + m → (j : Int) ∈ partsOf P k → u.getD j false = false) ∧
      ∀ j k k' : Nat, i ≤ k → k < k' → k' < i + m → (j : Int) ∈ partsOf P k → (j : Int) ∈ partsOf P k' → False
  | 0, i, u, v, hl, h => by
    rw [nodesScan] at h
    obtain rfl := (Prod.mk.inj h).2
    exact ⟨fun j => ⟨.inl, fun e => e.elim id (fun ⟨k, h1, h2, _⟩ => by omega)⟩, fun j k h1 h2 => by omega, fun j k k' h1 h2 h3 => by omega⟩
  | m + 1, i, u, v, hl, h => by
    rw [nodesScan] at h
    split at h
    · rename_i h0
      obtain ⟨h1, h2, h3⟩ := nodeScan_used (P := P) (i := i) (u := u) (v := (nodeScan P i u).2) (by omega) (Prod.ext h0 rfl)
      obtain ⟨g1, g2, g3⟩ := nodesScan_used m (i + 1) _ v (by rw [h1]; omega) h
      refine ⟨fun j => ?_, fun j k hk hk2 hj => ?_, fun j k k' hk hk2 hk3 hj hj' => ?_⟩
      · rw [g1, h2]
        constructor
        · rintro ((e | e) | ⟨k, e1, e2, e3⟩)
          · exact .inl e
          · exact .inr ⟨i, Nat.le_refl _, by omega, e⟩
          · exact .inr ⟨k, by omega, by omega, e3⟩
        · rintro (e | ⟨k, e1, e2, e3⟩)
          · exact .inl (.inl e)
          · rcases Nat.eq_or_lt_of_le e1 with e | e
            · subst e; exact .inl (.inr e3)
            · exact .inr ⟨k, e, by omega, e3⟩
      · rcases Nat.eq_or_lt_of_le hk with e | e
        · subst e; exact h3 j hj
        · have := g2 j k e (by omega) hj
          cases hu : u.getD j false with
          | false => rfl
          | true => exact absurd ((h2 j).2 (.inl hu)) (by rw [this]; decide)
      · rcases Nat.eq_or_lt_of_le hk with e | e
        · subst e
          have := g2 j k' (by omega) (by omega) hj'
          exact absurd ((h2 j).2 (.inr hj)) (by rw [this]; decide)
        · exact g3 j k k' e hk2 (by omega) hj hj'
    · rename_i h0; exact absurd (congrArg Prod.fst h) h0
/-- Each node but the last is part of just one. -/
theorem progCode_used {P : List Int} {n : Nat} (h : progCode P n = 0) : (∀ j, j < n - 1 → ∃ k, k < n ∧ (j : Int) ∈ partsOf P k) ∧ ∀ j k k' : Nat, k < n → k' < n → (j : Int) ∈ partsOf P k → (j : Int) ∈ partsOf P k' → k = k' := by
  unfold progCode at h
  split at h
  · cases h
  · split at h
    · cases h
    · split at h
      · rename_i h1 h2 h3
        obtain ⟨g1, g2, g3⟩ := nodesScan_used n 0 (List.replicate n false) (nodesScan P n 0 (List.replicate n false)).2 (by simp) (Prod.ext h3 rfl)
        unfold endCode at h
        split at h
        · cases h
        · rename_i h4
          refine ⟨fun j hj => ?_, fun j k k' hk hk' hj hj' => ?_⟩
          · cases hv : (nodesScan P n 0 (List.replicate n false)).2.getD j false with
            | false => exact absurd (.inl ⟨j, hj, hv⟩) h4
            | true =>
              rcases (g1 j).1 hv with e | ⟨k, _, e2, e3⟩
              · simp [List.getD_eq_getElem?_getD, List.getElem?_replicate] at e
                split at e <;> simp at e
              · exact ⟨k, by omega, e3⟩
          · rcases Nat.lt_trichotomy k k' with e | e | e
            · exact (g3 j k k' (Nat.zero_le _) e (by omega) hj hj').elim
            · exact e
            · exact (g3 j k' k (Nat.zero_le _) e (by omega) hj' hj).elim
      · rename_i h3; exact absurd h h3

theorem IsEx.one {P : List Int} {i : Nat} {e : Ex} (h : IsEx P i e) : ∀ {e' : Ex}, IsEx P i e' → e = e' := by
  induction h with
  | @num i m h0 h1 h2 =>
    intro e' h'
    cases h' with
    | @num _ m' g0 g1 g2 => obtain rfl : m = m' := by omega
                            rfl
    | var g0 => omega
    | op k2 k4 g0 => omega
  | @var i m h0 h1 h2 =>
    intro e' h'
    cases h' with
    | num g0 => omega
    | @var _ m' g0 g1 g2 => obtain rfl : m = m' := by omega
                            rfl
    | op k2 k4 g0 => omega
  | @op i k a b x y k2 k4 h0 h2 h3 la lb ha hb iha ihb =>
    intro e' h'
    cases h' with
    | num g0 => omega
    | var g0 => omega
    | @op _ k' a' b' x' y' k2' k4' g0 g2 g3 la' lb' ha' hb' =>
      obtain rfl : k = k' := by omega
      obtain rfl : a = a' := by omega
      obtain rfl : b = b' := by omega
      rw [iha ha', ihb hb']
theorem IsSt.one {P : List Int} {i : Nat} {s : St} (h : IsSt P i s) : ∀ {s' : St}, IsSt P i s' → s = s' := by
  induction h with
  | skip h0 => intro s' h'; cases h' <;> first | rfl | omega
  | @set i m a x h0 h1 h2 h3 h4 h5 =>
    intro s' h'
    cases h' with
    | @set _ m' a' x' g0 g1 g2 g3 g4 g5 =>
      obtain rfl : m = m' := by omega
      obtain rfl : a = a' := by omega
      rw [h5.one g5]
    | skip g0 => omega
    | both g0 => omega
    | ite g0 => omega
    | loop g0 => omega
  | @both i a b x y h0 h1 h2 h3 h4 ha hb iha ihb =>
    intro s' h'
    cases h' with
    | @both _ a' b' x' y' g0 g1 g2 g3 g4 ga gb =>
      obtain rfl : a = a' := by omega
      obtain rfl : b = b' := by omega
      rw [iha ga, ihb gb]
    | skip g0 => omega
    | set g0 => omega
    | ite g0 => omega
    | loop g0 => omega
  | @ite i a b c x y z h0 h1 h2 h3 h4 h5 h6 hx ha hb iha ihb =>
    intro s' h'
    cases h' with
    | @ite _ a' b' c' x' y' z' g0 g1 g2 g3 g4 g5 g6 gx ga gb =>
      obtain rfl : a = a' := by omega
      obtain rfl : b = b' := by omega
      obtain rfl : c = c' := by omega
      rw [hx.one gx, iha ga, ihb gb]
    | skip g0 => omega
    | set g0 => omega
    | both g0 => omega
    | loop g0 => omega
  | @loop i a b x y h0 h1 h2 h3 h4 hx ha iha =>
    intro s' h'
    cases h' with
    | @loop _ a' b' x' y' g0 g1 g2 g3 g4 gx ga =>
      obtain rfl : a = a' := by omega
      obtain rfl : b = b' := by omega
      rw [hx.one gx, iha ga]
    | skip g0 => omega
    | set g0 => omega
    | both g0 => omega
    | ite g0 => omega

section
variable {P : List Int} {n : Nat}
theorem upS_neg (f : Nat) {k : Int} (s : Nat) (h : k < 0) : upS P n f k s = s := by
  cases f with
  | zero => rfl
  | succ f => rw [upS, if_neg (by omega)]
theorem upS_or : ∀ (f : Nat) (k : Int) (s : Nat), upS P n f k s = s ||| upS P n f k 0
  | 0, k, s => by simp [upS]
  | f + 1, k, s => by
    rw [upS, upS]
    split
    · split
      · rw [upS_or f _ (s ||| _), upS_or f _ (0 ||| _), Nat.zero_or, Nat.or_assoc]
      · exact upS_or f _ s
    · simp
theorem upS_fuel (hok : ∀ i, i < n → NodeOk P i) : ∀ (f g : Nat) (k : Int) (s : Nat), (k < 0 ∨ ∃ j : Nat, k = j ∧ j < n ∧ n ≤ j + f ∧ n ≤ j + g) → upS P n f k s = upS P n g k s
  | f, g, k, s, .inl h => by rw [upS_neg f s h, upS_neg g s h]
  | 0, g, k, s, .inr ⟨j, h1, h2, h3, h4⟩ => by omega
  | f + 1, 0, k, s, .inr ⟨j, h1, h2, h3, h4⟩ => by omega
  | f + 1, g + 1, k, s, .inr ⟨j, h1, h2, h3, h4⟩ => by
    rw [upS, upS]
    split
    · refine upS_fuel hok f g _ _ ?_
      rcases aboveN_cases P n k with ⟨e, _⟩ | ⟨i, hi, e, hs⟩
      · left; omega
      · have := (son_lt (hok i hi) hs).2
        exact .inr ⟨i, e, hi, by omega, by omega⟩
    · rfl
/-- What flows from above a node. -/
def Up (P : List Int) (n i : Nat) : Nat := upS P n n (aboveN P n i) 0
theorem setOf_up (i : Nat) : setOf P n i = nmOf P (nd P i 2).toNat ||| Up P n i := upS_or _ _ _
theorem Up_none {i : Nat} (h : aboveN P n i = -1) : Up P n i = 0 := by unfold Up; rw [h, upS_neg _ _ (by omega)]
theorem Up_step (hok : ∀ i, i < n → NodeOk P i) {i a : Nat} (h : aboveN P n i = a) (ha : a < n) : Up P n i = (if nd P a 0 = 8 ∨ nd P a 0 = 9 then nmOf P (nd P a 2).toNat else 0) ||| Up P n a := by
  obtain ⟨m, rfl⟩ : ∃ m, n = m + 1 := ⟨n - 1, by omega⟩
  unfold Up
  rw [h, upS, if_pos (by omega), Int.toNat_natCast]
  rw [upS_fuel hok m (m + 1) _ _ ?_, upS_or, Nat.zero_or]
  rcases aboveN_cases P (m + 1) a with ⟨e, _⟩ | ⟨i, hi, e, hs⟩
  · left; omega
  · have := (son_lt (hok i hi) hs).2
    exact .inr ⟨i, e, hi, by omega, by omega⟩
theorem son_mem {i : Int} {k : Nat} (h : sonOf P i k) : i ∈ partsOf P k := by
  obtain ⟨q, hq, hi, _⟩ := h
  have : gI (partsOf P k) q ∈ partsOf P k := by
    unfold gI
    rw [List.getD_eq_getElem?_getD, List.getElem?_eq_getElem hq]
    exact List.getElem_mem hq
  rw [hi] at this; exact this
theorem son_of {i : Int} {k q : Nat} (h : (partsOf P k)[q]? = some i) (hv : valB (nd P k 0) q = false) : sonOf P i k :=
  ⟨q, (List.getElem?_eq_some_iff.1 h).1, gI_of h, hv⟩
theorem son_above (hc : progCode P n = 0) {b r : Nat} (hr : r < n) (hs : sonOf P b r) : aboveN P n b = r := by
  rcases aboveN_cases P n b with ⟨e, h⟩ | ⟨j, hj, e, h⟩
  · exact absurd hs (h r hr)
  · rw [e, (progCode_used hc).2 b j r hj hr (son_mem h) (son_mem hs)]
theorem parts_eight {r : Nat} {a b c : Int} (h : nd P r 0 = 8) (ha : nd P r 2 = a) (hb : nd P r 3 = b) (hcc : nd P r 4 = c) : partsOf P r = [a, b, c] := by
  unfold partsOf partsL; rw [if_pos h, ha, hb, hcc]
theorem parts_pair {r : Nat} {a b : Int} (h : nd P r 0 = 7 ∨ nd P r 0 = 9) (ha : nd P r 2 = a) (hb : nd P r 3 = b) : partsOf P r = [a, b] := by
  unfold partsOf partsL; rw [if_neg (by omega), if_neg (by omega), if_pos (by omega), ha, hb]

/-- The deeds right below one: what flows from above them. -/
theorem up_both (hc : progCode P n = 0) {r a b : Nat} (hr : r < n) (h : nd P r 0 = 7) (ha : nd P r 2 = a) (hb : nd P r 3 = b) : (aboveN P n a = r ∧ Up P n a = Up P n r) ∧ aboveN P n b = r ∧ Up P n b = Up P n r := by
  have hok := (progCode_tree hc).2.1
  have hp := parts_pair (.inl h) ha hb
  have h1 := son_above hc hr (son_of (q := 0) (by rw [hp]; rfl) (by rw [h]; rfl))
  have h2 := son_above hc hr (son_of (q := 1) (by rw [hp]; rfl) (by rw [h]; rfl))
  refine ⟨⟨h1, ?_⟩, h2, ?_⟩
  · rw [Up_step hok h1 hr, if_neg (by omega), Nat.zero_or]
  · rw [Up_step hok h2 hr, if_neg (by omega), Nat.zero_or]
theorem up_ite (hc : progCode P n = 0) {r a b c : Nat} {e : Ex} (hr : r < n) (h : nd P r 0 = 8) (ha : nd P r 2 = a) (hb : nd P r 3 = b) (hcc : nd P r 4 = c) (he : IsEx P a e) :
    (aboveN P n b = r ∧ Up P n b = Up P n r ||| e.names) ∧ aboveN P n c = r ∧ Up P n c = Up P n r ||| e.names := by
  have hok := (progCode_tree hc).2.1
  have hp := parts_eight h ha hb hcc
  have h1 := son_above hc hr (son_of (q := 1) (by rw [hp]; rfl) (by rw [h]; rfl))
  have h2 := son_above hc hr (son_of (q := 2) (by rw [hp]; rfl) (by rw [h]; rfl))
  refine ⟨⟨h1, ?_⟩, h2, ?_⟩
  · rw [Up_step hok h1 hr, if_pos (by omega), ha, Int.toNat_natCast, nmOf_names he, Nat.or_comm]
  · rw [Up_step hok h2 hr, if_pos (by omega), ha, Int.toNat_natCast, nmOf_names he, Nat.or_comm]
theorem up_loop (hc : progCode P n = 0) {r a b : Nat} {e : Ex} (hr : r < n) (h : nd P r 0 = 9) (ha : nd P r 2 = a) (hb : nd P r 3 = b) (he : IsEx P a e) : aboveN P n b = r ∧ Up P n b = Up P n r ||| e.names := by
  have hok := (progCode_tree hc).2.1
  have hp := parts_pair (.inr h) ha hb
  have h1 := son_above hc hr (son_of (q := 1) (by rw [hp]; rfl) (by rw [h]; rfl))
  refine ⟨h1, ?_⟩
  rw [Up_step hok h1 hr, if_pos (by omega), ha, Int.toNat_natCast, nmOf_names he, Nat.or_comm]

theorem sets_flat (hc : progCode P n = 0) {r : Nat} {s : St} (hs : IsSt P r s) : r < n → ∀ p ∈ s.sets (Up P n r), ∃ i, i < n ∧ nd P i 0 = 6 ∧ p = ((nd P i 1).toNat, setOf P n i) := by
  induction hs with
  | skip h => intro _ p hp; simp [St.sets] at hp
  | @set i m a x h0 h1 h2 h3 h4 h5 =>
    intro hr p hp
    simp only [St.sets, List.mem_singleton] at hp
    refine ⟨i, hr, h0, ?_⟩
    rw [hp, setOf_up, h3, Int.toNat_natCast, nmOf_names h5, h1, Int.toNat_natCast, Nat.or_comm]
  | both h0 h1 h2 h3 h4 ha hb iha ihb =>
    intro hr p hp
    obtain ⟨⟨_, e1⟩, _, e2⟩ := up_both hc hr h0 h1 h2
    rcases List.mem_append.1 hp with hp | hp
    · exact iha (by omega) p (by rw [e1]; exact hp)
    · exact ihb (by omega) p (by rw [e2]; exact hp)
  | ite h0 h1 h2 h3 h4 h5 h6 hx ha hb iha ihb =>
    intro hr p hp
    obtain ⟨⟨_, e1⟩, _, e2⟩ := up_ite hc hr h0 h1 h2 h3 hx
    rcases List.mem_append.1 hp with hp | hp
    · exact iha (by omega) p (by rw [e1]; exact hp)
    · exact ihb (by omega) p (by rw [e2]; exact hp)
  | loop h0 h1 h2 h3 h4 hx ha iha =>
    intro hr p hp
    obtain ⟨_, e1⟩ := up_loop hc hr h0 h1 h2 hx
    exact iha (by omega) p (by rw [e1]; exact hp)
theorem root_up (hc : progCode P n = 0) : Up P n (n - 1) = 0 := by
  obtain ⟨⟨h1, _⟩, hok, _⟩ := progCode_tree hc
  refine Up_none ?_
  rcases aboveN_cases P n ((n - 1 : Nat) : Int) with ⟨e, _⟩ | ⟨j, hj, e, h⟩
  · exact e
  · have := (son_lt (hok j hj) h).2; omega
theorem flat_sets (hc : progCode P n = 0) {s : St} (hs : IsSt P (n - 1) s) : ∀ (d i : Nat) (t : St), n = i + 1 + d → IsSt P i t → ∀ p ∈ t.sets (Up P n i), p ∈ s.sets 0 := by
  intro d
  induction d using Nat.strongRecOn with
  | ind d ih =>
    intro i t hd ht p hp
    obtain ⟨⟨h1, _⟩, hok, _⟩ := progCode_tree hc
    by_cases hi : i = n - 1
    · subst hi
      rw [hs.one ht, ← root_up hc]; exact hp
    · obtain ⟨k0, hk0, hm⟩ := (progCode_used hc).1 i (by omega)
      have hi5 : ¬ nd P i 0 < 5 := by cases ht <;> omega
      obtain ⟨q, hq⟩ := List.getElem?_of_mem hm
      have hask := ((hok k0 hk0).parts q _ hq).2
      rw [Int.toNat_natCast, decide_eq_false hi5] at hask
      have hson : sonOf P i k0 := son_of hq (by rw [valB_ask (List.getElem?_eq_some_iff.1 hq).1]; exact hask.symm)
      have hlt := (son_lt (hok k0 hk0) hson).2
      have hk5 : 5 ≤ nd P k0 0 := by
        apply Classical.byContradiction; intro e
        have : askB (nd P k0 0) q = true := by unfold askB; simp; omega
        rw [this] at hask; cases hask
      obtain ⟨sk, hsk⟩ := (trees hok k0 hk0).2 hk5
      have := ih (n - 1 - k0) (by omega) k0 sk (by omega) hsk p
      refine this ?_
      have hab := son_above hc hk0 hson
      cases hsk with
      | skip h0 => unfold partsOf partsL at hm; rw [h0] at hm; simp at hm
      | set h0 _ _ h3 h4 h5 =>
        unfold partsOf partsL at hm
        rw [h0, h3] at hm
        simp at hm
        obtain rfl := Int.ofNat_inj.1 hm
        exact absurd h5 (by intro h5; cases h5 <;> omega)
      | both h0 h1 h2 h3 h4 ha hb =>
        obtain ⟨⟨_, e1⟩, _, e2⟩ := up_both hc hk0 h0 h1 h2
        rw [parts_pair (.inl h0) h1 h2] at hm
        simp only [List.mem_cons, List.not_mem_nil, or_false] at hm
        refine List.mem_append.2 ?_
        rcases hm with e | e
        · obtain rfl := Int.ofNat_inj.1 e
          left; rw [ha.one ht, ← e1]; exact hp
        · obtain rfl := Int.ofNat_inj.1 e
          right; rw [hb.one ht, ← e2]; exact hp
      | ite h0 h1 h2 h3 h4 h5 h6 hx ha hb =>
        obtain ⟨⟨_, e1⟩, _, e2⟩ := up_ite hc hk0 h0 h1 h2 h3 hx
        rw [parts_eight h0 h1 h2 h3] at hm
        simp only [List.mem_cons, List.not_mem_nil, or_false] at hm
        refine List.mem_append.2 ?_
        rcases hm with e | e | e
        · obtain rfl := Int.ofNat_inj.1 e
          exact absurd hx (by intro hx; cases hx <;> omega)
        · obtain rfl := Int.ofNat_inj.1 e
          left; rw [ha.one ht, ← e1]; exact hp
        · obtain rfl := Int.ofNat_inj.1 e
          right; rw [hb.one ht, ← e2]; exact hp
      | loop h0 h1 h2 h3 h4 hx ha =>
        obtain ⟨_, e1⟩ := up_loop hc hk0 h0 h1 h2 hx
        rw [parts_pair (.inr h0) h1 h2] at hm
        simp only [List.mem_cons, List.not_mem_nil, or_false] at hm
        rcases hm with e | e
        · obtain rfl := Int.ofNat_inj.1 e
          exact absurd hx (by intro hx; cases hx <;> omega)
        · obtain rfl := Int.ofNat_inj.1 e
          obtain rfl := ha.one ht
          have hh := hp
          rw [e1] at hh
          exact hh
theorem mem_flatSets {p : Nat × Nat} : ∀ k, p ∈ flatSets P n k ↔ ∃ i, i < k ∧ nd P i 0 = 6 ∧ p = ((nd P i 1).toNat, setOf P n i)
  | 0 => by simp [flatSets]
  | k + 1 => by
    rw [flatSets]
    split
    · rename_i h6
      rw [List.mem_append, mem_flatSets k, List.mem_singleton]
      constructor
      · rintro (⟨i, h1, h2⟩ | e)
        · exact ⟨i, by omega, h2⟩
        · exact ⟨k, by omega, h6, e⟩
      · rintro ⟨i, h1, h2, h3⟩
        by_cases e : i = k
        · subst e; exact .inr h3
        · exact .inl ⟨i, by omega, h2, h3⟩
    · rename_i h6
      rw [mem_flatSets k]
      constructor
      · rintro ⟨i, h1, h2⟩; exact ⟨i, by omega, h2⟩
      · rintro ⟨i, h1, h2, h3⟩
        by_cases e : i = k
        · subst e; exact absurd h2 h6
        · exact ⟨i, by omega, h2, h3⟩
/-- By the nodes above and by the tree the same flows. -/
theorem rowsFlat_from (hc : progCode P n = 0) {s : St} (hs : IsSt P (n - 1) s) : rowsFlat P n = fromL s := by
  obtain ⟨⟨hn1, _⟩, hok, _⟩ := progCode_tree hc
  have hm : ∀ p, p ∈ flatSets P n n ↔ p ∈ s.sets 0 := fun p => by
    rw [mem_flatSets]
    constructor
    · rintro ⟨i, hi, h6, rfl⟩
      obtain ⟨t, ht⟩ := (trees hok i hi).2 (by omega)
      refine flat_sets hc hs (n - 1 - i) i t (by omega) ht _ ?_
      cases ht with
      | @set _ m a x h0 h1 h2 h3 h4 h5 =>
        simp only [St.sets, List.mem_singleton]
        rw [setOf_up, h3, Int.toNat_natCast, nmOf_names h5, h1, Int.toNat_natCast, Nat.or_comm]
      | skip h0 => omega
      | both h0 => omega
      | ite h0 => omega
      | loop h0 => omega
    · intro hp
      exact sets_flat hc hs (by omega) p (by rw [root_up hc]; exact hp)
  unfold rowsFlat fromL
  refine congrArg closed (list_of_rows (by rw [length_rowsOf, length_rowsOf]) fun i _ => ?_)
  refine Nat.eq_of_testBit_eq fun j => ?_
  have h1 := rowsOf_bit (l := flatSets P n n) (fun p hp => (flatSets_ok hok n (Nat.le_refl _) p hp).1) (i := i) (j := j)
  have h2 := rowsOf_bit (l := s.sets 0) (fun p hp => (sets_lt hs.ok (by decide) p hp).1) (i := i) (j := j)
  have h3 : (row (rowsOf (flatSets P n n)) i).testBit j = true ↔ (row (rowsOf (s.sets 0)) i).testBit j = true := by
    rw [h1, h2]
    exact exists_congr fun p => by rw [hm]
  exact Bool.eq_iff_iff.2 h3
end

set_option maxHeartbeats 1000000 in
theorem RLevels_any (L : List Int) (lo : Int) (Al : Option Addr) (cl : Nat) (w : World) (hL : IntsAt w Al L) :
    Calls Tryd.prog 23 #[.slice Al L.length cl, .int .i64 lo] w fun e w' => e = .returned (.int .i64 (levCode L lo : Nat)) ∧ w = w' := by
  by_cases h6 : L.length = 6
  · have Hg := Lib.hid (fun (hh : ∀ j, j < 6 → lo ≤ gI L j ∧ gI L j ≤ 7) => show levCode L lo = 0 by
      unfold levCode
      rw [if_pos h6, if_pos]
      rw [List.all_eq_true]
      intro x hx
      obtain ⟨j, hj, rfl⟩ := List.getElem_of_mem hx
      have := hh j (by omega)
      rw [gI_of (List.getElem?_eq_getElem hj)] at this
      exact decide_eq_true this)
    have Hb := Lib.hid (fun j (hj : j < 6) (hh : ¬ (lo ≤ gI L j ∧ gI L j ≤ 7)) => show levCode L lo = 1 by
      unfold levCode
      rw [if_pos h6, if_neg]
      intro hall
      rw [List.all_eq_true] at hall
      exact hh (of_decide_eq_true (hall _ (List.mem_of_getElem? (get_gI (by omega))))))
    obtain ⟨b, off, rfl, hcl⟩ := (show _ from hL) (by intro e; rw [e] at h6; cases h6)
    have Hcl := Lib.hid (show ∀ x, x < 6 → w.cell? ⟨b, off + x, none⟩ = some (.int .i64 (gI L x)) from fun x hx => hcl x _ (get_gI (by omega)))
    rw [h6]
    clear hL hcl h6
    generalize levCode L lo = lc at *
    go_enter Tryd.func23, Tryd.ntmps23
    go_wp2_with fail
    go_loopw [5] (fun s wr => ∃ k : Nat, k ≤ 6 ∧ s = .int .i64 k ∧ Hid (∀ j, j < k → lo ≤ gI L j ∧ gI L j ≤ 7) ∧ w = wr) (fun s _ => 6 - (intOf s).toNat)
    case atStart => exact ⟨0, by omega, rfl, Lib.hid (fun j hj => absurd hj (Nat.not_lt_zero _)), rfl⟩
    case round =>
      obtain ⟨k, hk, rfl, hh, rfl⟩ := hrel
      by_cases hlt : k < 6
      · have hc := Hcl.out k hlt
        have hki : (k : Int) < 6 := by omega
        by_cases hin : lo ≤ gI L k ∧ gI L k ≤ 7
        · have W := Lib.hid (fun V => RIn_is (gI L k) lo 7 true V (decide_eq_true hin))
          have hn := Lib.hid (show ∀ j, j < k + 1 → lo ≤ gI L j ∧ gI L j ≤ 7 from fun j hj => by
            rcases Nat.lt_or_ge j k with e | e
            · exact hh.out j e
            · obtain rfl : j = k := by omega
              exact hin)
          clear hh hin Hg Hb Hcl
          generalize gI L k = x at *
          go_wp2_with (go_at_call 37; with_reducible refine (W.out _).mono ?_; rintro e w' ⟨rfl, rfl⟩)
          refine ⟨⟨k + 1, ?za, ?zb, hn, ?zc⟩, ?zd⟩
          case za => omega
          case zb => go_num
          case zc => trivial
          case zd => simp [intOf]; omega
        · have W := Lib.hid (fun V => RIn_is (gI L k) lo 7 false V (decide_eq_false hin))
          have hn := Lib.hid (Hb.out k hlt hin)
          clear hh hin Hg Hb Hcl
          generalize gI L k = x at *
          go_wp2_with (go_at_call 37; with_reducible refine (W.out _).mono ?_; rintro e w' ⟨rfl, rfl⟩)
          go_ret
          exact ⟨by rw [hn.out]; rfl, rfl⟩
      · obtain rfl : k = 6 := by omega
        simp only [show ((6 : Nat) : Int) = 6 from rfl]
        have hn := Lib.hid (Hg.out hh.out)
        clear hh Hg Hb Hcl
        go_wp2_with fail
        go_ret
        exact ⟨by rw [hn.out]; rfl, rfl⟩
  · have hl : levCode L lo = 3 := by unfold levCode; rw [if_neg h6]
    have Hl := Lib.hid hl
    have hb : ((L.length : Int) != 6) = true := by rw [bne_iff_ne]; omega
    clear hL h6 hl
    generalize L.length = m at *
    generalize levCode L lo = lc at *
    go_enter Tryd.func23, Tryd.ntmps23
    go_wp2_with fail
    go_ret
    exact ⟨by rw [Hl.out]; rfl, rfl⟩

/-- None of what flows into a variable above it, where both are told. -/
def okAt (L : List Int) (r : List Nat) (i j : Nat) : Bool := !((row r i).testBit j && decide (0 ≤ gI L i) && decide (gI L i < gI L j))
def okRow (L : List Int) (r : List Nat) (i j : Nat) : Bool := (List.range j).all fun b => okAt L r i b
def okTo (L : List Int) (r : List Nat) (i : Nat) : Bool := (List.range i).all fun a => okRow L r a 6
theorem okRow_succ (L : List Int) (r : List Nat) (i j : Nat) : okRow L r i (j + 1) = (okRow L r i j && okAt L r i j) := by unfold okRow; rw [List.range_succ, List.all_append]; simp
theorem okTo_succ (L : List Int) (r : List Nat) (i : Nat) : okTo L r (i + 1) = (okTo L r i && okRow L r i 6) := by unfold okTo; rw [List.range_succ, List.all_append]; simp
theorem okTo_bad {L : List Int} {r : List Nat} {i j : Nat} (hi : i < 6) (hj : j < 6) (h : okAt L r i j = false) : okTo L r 6 = false := by
  unfold okTo okRow
  rw [List.all_eq_false]
  refine ⟨i, List.mem_range.2 hi, ?_⟩
  intro hh
  rw [List.all_eq_true] at hh
  rw [hh j (List.mem_range.2 hj)] at h
  cases h
theorem okTo_iff {L : List Int} {r : List Nat} : okTo L r 6 = true ↔ ∀ i j, i < 6 → j < 6 → (row r i).testBit j = true → 0 ≤ gI L i → gI L j ≤ gI L i := by
  unfold okTo okRow okAt
  simp only [List.all_eq_true, List.mem_range, Bool.not_eq_true', Bool.and_eq_false_iff, decide_eq_false_iff_not]
  constructor
  · intro h i j hi hj hb h0
    rcases h i hi j hj with (e | e) | e
    · rw [hb] at e; cases e
    · exact absurd h0 e
    · omega
  · intro h i hi j hj
    cases hb : (row r i).testBit j with
    | false => exact .inl (.inl rfl)
    | true =>
      by_cases h0 : 0 ≤ gI L i
      · exact .inr (by have := h i j hi hj hb h0; omega)
      · exact .inl (.inr h0)

set_option maxHeartbeats 4000000 in
theorem RFits_any {P : List Int} {n : Nat} {A : Option Addr} {c : Nat} {w : World} {L : List Int} {Al : Option Addr} {cl : Nat} {s : St} (h : NodesAt w A P n) (hL : IntsAt w Al L) (hc : progCode P n = 0) (h6 : L.length = 6) (hs : IsSt P (n - 1) s) :
    Calls Tryd.prog 24 #[.slice A n c, .slice Al L.length cl] w fun e w' => e = .returned (.bool (okTo L (fromL s) 6)) ∧ Below w.heap.size w w' := by
  have HF := RFrom_any (c := c) h (progCode_tree hc).2.1
  rw [rowsFlat_from hc hs] at HF
  have HF := Lib.hid HF
  have hl6 := fromL_len s
  have Hbd := Lib.hid (fromL_bd hs.ok)
  obtain ⟨b, off, rfl, hcl⟩ := (show _ from hL) (by intro e; rw [e] at h6; cases h6)
  have Hcl := Lib.hid (show ∀ x, x < 6 → w.cell? ⟨b, off + x, none⟩ = some (.int .i64 (gI L x)) from fun x hx => hcl x _ (get_gI (by omega)))
  have hbw := block_lt (Hcl.out 0 (by decide))
  have Hbad := Lib.hid (fun i j hi hj h => okTo_bad (L := L) (r := fromL s) (i := i) (j := j) hi hj h)
  have Hok := Lib.hid (fun (hh : ∀ i j, i < 6 → j < 6 → okAt L (fromL s) i j = true) => show okTo L (fromL s) 6 = true from by
    unfold okTo okRow
    rw [List.all_eq_true]
    intro i hi
    rw [List.all_eq_true]
    intro j hj
    exact hh i j (List.mem_range.1 hi) (List.mem_range.1 hj))
  have Hat := Lib.hid (show ∀ i j, okAt L (fromL s) i j = !((row (fromL s) i).testBit j && decide (0 ≤ gI L i) && decide (gI L i < gI L j)) from fun i j => rfl)
  rw [h6]
  clear h hcl hL hs hc
  generalize okTo L (fromL s) 6 = res at *
  generalize hr : fromL s = r at *
  clear hr
  go_enter Tryd.func24, Tryd.ntmps24
  go_wp2_with (go_at_call 22; with_reducible refine HF.out.mono ?_; rintro e w1 ⟨B, c', rfl, hi, hb1⟩)
  obtain ⟨bb, oo, rfl, hcr⟩ := (show _ from hi) (by intro e; rw [← List.length_eq_zero_iff, length_castL, hl6] at e; cases e)
  have Hcr := Lib.hid (show ∀ x, x < 6 → w1.cell? ⟨bb, oo + x, none⟩ = some (.int .i64 (row r x : Nat)) from fun x hx => by
    have := get_cast_val r x (by omega)
    rw [List.getElem?_map] at this
    obtain ⟨y, hy, hy2⟩ := Option.map_eq_some_iff.1 this
    rw [← hy2]
    exact hcr x _ hy)
  have Hcl1 := Lib.hid (show ∀ x, x < 6 → w1.cell? ⟨b, off + x, none⟩ = some (.int .i64 (gI L x)) from fun x hx => (hb1.cell (p := ⟨b, off + x, none⟩) hbw).trans (Hcl.out x hx))
  clear hcr hi HF Hcl
  go_loopw [6] (fun s wr => ∃ k : Nat, k ≤ 6 ∧ s = .int .i64 k ∧ Hid (∀ i j, i < k → j < 6 → okAt L r i j = true) ∧ ∃ q, wr = w1.drewN q) (fun s _ => 6 - (intOf s).toNat)
  case atStart => exact ⟨0, by omega, rfl, Lib.hid (fun i j hj => absurd hj (Nat.not_lt_zero _)), 0, rfl⟩
  case round =>
    obtain ⟨k, hk, rfl, hh, q, rfl⟩ := hrel
    by_cases hlt : k < 6
    · have hki : (k : Int) < 6 := by omega
      have hck := Hcr.out k hlt
      have hlk := Hcl1.out k hlt
      have hrk : row r k < 2 ^ 62 := Nat.lt_of_lt_of_le (Hbd.out k) (by decide)
      go_upto_region 6 with fail
      go_loopw [7] (fun s wi => ∃ j : Nat, j ≤ 6 ∧ s = .int .i64 j ∧ Hid (∀ j', j' < j → okAt L r k j' = true) ∧ ∃ q', wi = w1.drewN q') (fun s _ => 6 - (intOf s).toNat)
      case atStart => exact ⟨0, by omega, rfl, Lib.hid (fun j hj => absurd hj (Nat.not_lt_zero _)), q, rfl⟩
      case round =>
        obtain ⟨j, hj, rfl, hjj, q', rfl⟩ := hrel
        by_cases hjl : j < 6
        · have hji : (j : Int) < 6 := by omega
          have hlj := Hcl1.out j hjl
          have CB := Lib.hid (fun V => Bit_any (row r k) j V hrk (by omega))
          have Ha := Lib.hid (Hat.out k j)
          have Hno := Lib.hid (fun (e : okAt L r k j = false) => Hbad.out k j hlt hjl e)
          have Hye := Lib.hid (fun (e : okAt L r k j = true) => show ∀ j', j' < j + 1 → okAt L r k j' = true from fun j' h' => by
            rcases Nat.lt_or_ge j' j with e' | e'
            · exact hjj.out j' e'
            · obtain rfl : j' = j := by omega
              exact e)
          clear hjj Hat Hbad Hok Hcr Hcl1 hh
          generalize (row r k).testBit j = bt at *
          generalize row r k = rk at *
          generalize gI L k = x at *
          generalize gI L j = y at *
          generalize okAt L r k j = o at *
          cases bt with
          | false =>
            have hn := Lib.hid (Hye.out (by rw [Ha.out]; rfl))
            clear Ha Hno Hye
            go_wp2_with fail
            go_quiet (first | (with_reducible exact quiet2 (CB.out _)) | (with_reducible exact quiet1 (CB.out _)))
            go_wp2_with fail
            refine ⟨⟨j + 1, ?za, ?zb, hn, ⟨_, rfl⟩⟩, ?zd⟩
            case za => omega
            case zb => go_num
            case zd => simp [intOf]; omega
          | true =>
            by_cases h0 : 0 ≤ x
            · have d0 : decide (x ≥ 0) = true := decide_eq_true h0
              by_cases h1 : x < y
              · have d1 : decide (y > x) = true := decide_eq_true h1
                have hn := Lib.hid (Hno.out (by rw [Ha.out, decide_eq_true h0, decide_eq_true h1]; rfl))
                clear Ha Hno Hye h0 h1
                go_wp2_with fail
                go_quiet (first | (with_reducible exact quiet2 (CB.out _)) | (with_reducible exact quiet1 (CB.out _)))
                go_wp2_with fail
                go_ret
                exact ⟨by rw [hn.out]; rfl, by first | exact belowD hb1 _ | exact belowD (belowD hb1 _) _⟩
              · have d1 : decide (y > x) = false := decide_eq_false h1
                have hn := Lib.hid (Hye.out (by rw [Ha.out, decide_eq_true h0, decide_eq_false h1]; rfl))
                clear Ha Hno Hye h0 h1
                go_wp2_with fail
                go_quiet (first | (with_reducible exact quiet2 (CB.out _)) | (with_reducible exact quiet1 (CB.out _)))
                go_wp2_with fail
                refine ⟨⟨j + 1, ?za, ?zb, hn, ⟨_, rfl⟩⟩, ?zd⟩
                case za => omega
                case zb => go_num
                case zd => simp [intOf]; omega
            · have d0 : decide (x ≥ 0) = false := decide_eq_false h0
              have hn := Lib.hid (Hye.out (by rw [Ha.out, decide_eq_false h0]; rfl))
              clear Ha Hno Hye h0
              go_wp2_with fail
              go_quiet (first | (with_reducible exact quiet2 (CB.out _)) | (with_reducible exact quiet1 (CB.out _)))
              go_wp2_with fail
              refine ⟨⟨j + 1, ?za, ?zb, hn, ⟨_, rfl⟩⟩, ?zd⟩
              case za => omega
              case zb => go_num
              case zd => simp [intOf]; omega
        · obtain rfl : j = 6 := by omega
          simp only [show ((6 : Nat) : Int) = 6 from rfl]
          have hn := Lib.hid (show ∀ i j, i < k + 1 → j < 6 → okAt L r i j = true from fun i j' hi' hj' => by
            rcases Nat.lt_or_ge i k with e | e
            · exact hh.out i j' e hj'
            · obtain rfl : i = k := by omega
              exact hjj.out j' hj')
          clear hjj hh Hok Hbad Hcr Hcl1
          go_wp2_with fail
          refine ⟨⟨k + 1, ?za, ?zb, hn, ⟨_, rfl⟩⟩, ?zd⟩
          case za => omega
          case zb => go_num
          case zd => simp [intOf]; omega
    · obtain rfl : k = 6 := by omega
      simp only [show ((6 : Nat) : Int) = 6 from rfl]
      have hn := Lib.hid (Hok.out hh.out)
      clear hh Hok Hbad Hcr Hcl1
      go_wp2_with fail
      go_ret
      exact ⟨by rw [hn.out]; rfl, belowD hb1 _⟩

/-- The greatest that is told of what flows in, of the first so many. -/
def topTo (M : List Int) (r : List Nat) (i : Nat) : Nat → Int
  | 0 => 0
  | j + 1 => if (row r i).testBit j = true ∧ topTo M r i j < gI M j then gI M j else topTo M r i j
def leastI (M : List Int) (r : List Nat) (i : Nat) : Int := if 0 ≤ gI M i then gI M i else topTo M r i 6
def leastL (M : List Int) (r : List Nat) : List Int := (List.range 6).map (leastI M r)
theorem topTo_le {M : List Int} {r : List Nat} {i : Nat} {m : Int} : ∀ j, topTo M r i j ≤ m ↔ 0 ≤ m ∧ ∀ k, k < j → (row r i).testBit k = true → gI M k ≤ m
  | 0 => by simp [topTo]
  | j + 1 => by
    have ih := topTo_le (M := M) (r := r) (i := i) (m := m) j
    have ih0 := topTo_le (M := M) (r := r) (i := i) (m := topTo M r i j) j
    have h0 := (ih0.1 (Int.le_refl _)).1
    rw [topTo]
    split
    · rename_i h
      constructor
      · intro hm
        refine ⟨by omega, fun k hk hb => ?_⟩
        rcases Nat.lt_or_ge k j with e | e
        · exact (ih.1 (by omega)).2 k e hb
        · obtain rfl : k = j := by omega
          exact hm
      · intro ⟨_, hh⟩
        exact hh j (by omega) h.1
    · rename_i h
      rw [ih]
      constructor
      · intro ⟨h1, h2⟩
        refine ⟨h1, fun k hk hb => ?_⟩
        rcases Nat.lt_or_ge k j with e | e
        · exact h2 k e hb
        · obtain rfl : k = j := by omega
          have : ¬ topTo M r i k < gI M k := fun e => h ⟨hb, e⟩
          have := (ih.2 ⟨h1, h2⟩); omega
      · intro ⟨h1, h2⟩
        exact ⟨h1, fun k hk hb => h2 k (by omega) hb⟩
theorem gI_leastL {M : List Int} {r : List Nat} {i : Nat} (hi : i < 6) : gI (leastL M r) i = leastI M r i :=
  gI_of (by unfold leastL; rw [List.getElem?_map, List.getElem?_range hi]; rfl)
theorem leastL_fits {M : List Int} {s : St} (hs : s.ok) (h : okTo M (fromL s) 6 = true) : fitB (leastL M (fromL s)) (s.sets 0) = true := by
  have hl : ∀ i, i < 6 → (row (fromL s) i).testBit i = true := fun i hi => fromL_self s hi
  have ht : ∀ {i m j}, i < 6 → m < 6 → (row (fromL s) i).testBit m = true → (row (fromL s) m).testBit j = true → (row (fromL s) i).testBit j = true := fun hi hm h1 h2 => fromL_trans s hi hm h1 h2
  rw [okTo_iff] at h
  have top0 : ∀ i, 0 ≤ topTo M (fromL s) i 6 := fun i => ((topTo_le (M := M) (r := fromL s) (i := i) 6).1 (Int.le_refl _)).1
  have topk : ∀ i k, k < 6 → (row (fromL s) i).testBit k = true → gI M k ≤ topTo M (fromL s) i 6 := fun i k hk hb => ((topTo_le (M := M) (r := fromL s) (i := i) 6).1 (Int.le_refl _)).2 k hk hb
  rw [fitB_iff hs (fun i hi => by
    rw [gI_leastL hi]; unfold leastI
    split
    · assumption
    · exact top0 i)]
  intro i j hi hj hij
  rw [gI_leastL hi, gI_leastL hj]
  unfold leastI
  split
  · split
    · exact h i j hi hj hij (by assumption)
    · exact topk i j hj hij
  · split
    · rename_i h0
      exact (topTo_le 6).2 ⟨h0, fun k hk hb => h i k hi hk (ht hi hj hij hb) h0⟩
    · exact (topTo_le 6).2 ⟨top0 i, fun k hk hb => topk i k hk (ht hi hj hij hb)⟩
theorem least_told {M : List Int} {r : List Nat} {i : Nat} (hi : i < 6) (h : 0 ≤ gI M i) : gI (leastL M r) i = gI M i := by rw [gI_leastL hi]; unfold leastI; rw [if_pos h]
theorem leastL_nn {M : List Int} {r : List Nat} {i : Nat} (hi : i < 6) : 0 ≤ gI (leastL M r) i := by
  rw [gI_leastL hi]; unfold leastI
  split
  · assumption
  · exact ((topTo_le (M := M) (r := r) (i := i) 6).1 (Int.le_refl _)).1
/-- The program's Least fits just if the document's Fits says so. -/
theorem least_fits {M O : List Int} {s : St} (hs : s.ok) (h : LeastInv M (s.sets 0) O) (hst : Stable M (s.sets 0) O) : fitB O (s.sets 0) = okTo M (fromL s) 6 := by
  have hS : ∀ p ∈ s.sets 0, p.1 < 6 ∧ p.2 < 64 := fun p hp => sets_lt hs (by decide) p hp
  rw [Bool.eq_iff_iff]
  constructor
  · intro hf
    rw [fitB_iff hs (fun i hi => (h.bd i hi).1)] at hf
    rw [okTo_iff]
    intro i j hi hj hij h0
    have h1 := hf i j hi hj hij
    rw [h.told i hi h0] at h1
    by_cases hm : 0 ≤ gI M j
    · rw [h.told j hj hm] at h1; exact h1
    · omega
  · intro hf
    exact h.fits hS hst (L := leastL M (fromL s)) (fun i hi => leastL_nn hi) (leastL_fits hs hf) (fun i hi h0 => least_told hi h0)
theorem least_is {M O : List Int} {s : St} (hs : s.ok) (h : LeastInv M (s.sets 0) O) (hf : fitB O (s.sets 0) = true) (hok : okTo M (fromL s) 6 = true) : O = leastL M (fromL s) := by
  have hl : (leastL M (fromL s)).length = 6 := by unfold leastL; simp
  have hle := h.least (leastL M (fromL s)) (fun i hi => leastL_nn hi) (leastL_fits hs hok) (fun i hi h0 => least_told hi h0)
  rw [fitB_iff hs (fun i hi => (h.bd i hi).1)] at hf
  refine List.ext_getElem (by rw [h.len, hl]) fun i h1 h2 => ?_
  have hi : i < 6 := by rw [← h.len]; exact h1
  rw [← gI_of (List.getElem?_eq_getElem h1), ← gI_of (List.getElem?_eq_getElem h2)]
  refine Int.le_antisymm (hle i hi) ?_
  rw [gI_leastL hi]
  unfold leastI
  split
  · rename_i h0; rw [h.told i hi h0]; exact Int.le_refl _
  · refine (topTo_le 6).2 ⟨(h.bd i hi).1, fun k hk hb => ?_⟩
    have := hf i k hi hk hb
    by_cases hm : 0 ≤ gI M k
    · rw [h.told k hk hm] at this; exact this
    · have := (h.bd i hi).1; omega

theorem topTo_succ (M : List Int) (r : List Nat) (i j : Nat) : topTo M r i (j + 1) = if (row r i).testBit j = true ∧ topTo M r i j < gI M j then gI M j else topTo M r i j := rfl
theorem leastTo_succ (M : List Int) (r : List Nat) (k : Nat) : (List.range (k + 1)).map (leastI M r) = (List.range k).map (leastI M r) ++ [leastI M r k] := by rw [List.range_succ, List.map_append]; rfl

set_option maxHeartbeats 4000000 in
theorem RLeast_any {P : List Int} {n : Nat} {A : Option Addr} {c : Nat} {w : World} {L : List Int} {Al : Option Addr} {cl : Nat} {s : St} (h : NodesAt w A P n) (hL : IntsAt w Al L) (hc : progCode P n = 0) (h6 : L.length = 6) (hs : IsSt P (n - 1) s) :
    Calls Tryd.prog 25 #[.slice A n c, .slice Al L.length cl] w fun e w' => (∃ B c', e = .returned (.slice B 6 c') ∧ IntsAt w' B (leastL L (fromL s))) ∧ Below w.heap.size w w' := by
  have HF := RFrom_any (c := c) h (progCode_tree hc).2.1
  rw [rowsFlat_from hc hs] at HF
  have HF := Lib.hid HF
  have hl6 := fromL_len s
  have Hbd := Lib.hid (fromL_bd hs.ok)
  obtain ⟨b, off, rfl, hcl⟩ := (show _ from hL) (by intro e; rw [e] at h6; cases h6)
  have Hcl := Lib.hid (show ∀ x, x < 6 → w.cell? ⟨b, off + x, none⟩ = some (.int .i64 (gI L x)) from fun x hx => hcl x _ (get_gI (by omega)))
  have hbw := block_lt (Hcl.out 0 (by decide))
  have Hts := Lib.hid (topTo_succ L (fromL s))
  have Hls := Lib.hid (leastTo_succ L (fromL s))
  have Hli := Lib.hid (show ∀ i, leastI L (fromL s) i = if 0 ≤ gI L i then gI L i else topTo L (fromL s) i 6 from fun i => rfl)
  have Hfin := Lib.hid (show leastL L (fromL s) = (List.range 6).map (leastI L (fromL s)) from rfl)
  rw [h6]
  clear h hcl hL hs hc
  generalize leastL L (fromL s) = res at *
  generalize hr : fromL s = r at *
  clear hr
  go_enter Tryd.func25, Tryd.ntmps25
  go_wp2_with (go_at_call 22; with_reducible refine HF.out.mono ?_; rintro e w1 ⟨B, c', rfl, hi, hb1⟩)
  obtain ⟨bb, oo, rfl, hcr⟩ := (show _ from hi) (by intro e; rw [← List.length_eq_zero_iff, length_castL, hl6] at e; cases e)
  have Hcr := Lib.hid (show ∀ x, x < 6 → w1.cell? ⟨bb, oo + x, none⟩ = some (.int .i64 (row r x : Nat)) from fun x hx => by
    have := get_cast_val r x (by omega)
    rw [List.getElem?_map] at this
    obtain ⟨y, hy, hy2⟩ := Option.map_eq_some_iff.1 this
    rw [← hy2]
    exact hcr x _ hy)
  have Hcl1 := Lib.hid (show ∀ x, x < 6 → w1.cell? ⟨b, off + x, none⟩ = some (.int .i64 (gI L x)) from fun x hx => (hb1.cell (p := ⟨b, off + x, none⟩) hbw).trans (Hcl.out x hx))
  have hbb := block_lt (Hcr.out 0 (by decide))
  have hb1w := block_lt (Hcl1.out 0 (by decide))
  clear hcr hi HF Hcl hl6
  go_loopw [6, 7] (fun o s wr => ∃ k : Nat, k ≤ 6 ∧ s = .int .i64 k ∧ OwnI wr w1.heap.size o ((List.range k).map (leastI L r)) ∧ Below w1.heap.size w1 wr) (fun _ s _ => 6 - (intOf s).toNat)
  case atStart => exact ⟨0, by omega, rfl, OwnI.nil _ _, Below.refl _ _⟩
  case round =>
    obtain ⟨k, hk, rfl, hown, hbr⟩ := hrel
    obtain ⟨wo, rfl⟩ : ∃ wo : World, wo = wr := ⟨_, rfl⟩
    by_cases hlt : k < 6
    · have hki : (k : Int) < 6 := by omega
      have hck := (hbr.cell (p := ⟨bb, oo + k, none⟩) hbb).trans (Hcr.out k hlt)
      have hlk := (hbr.cell (p := ⟨b, off + k, none⟩) hb1w).trans (Hcl1.out k hlt)
      have Hlo := Lib.hid (show ∀ x, x < 6 → wo.cell? ⟨b, off + x, none⟩ = some (.int .i64 (gI L x)) from fun x hx => (hbr.cell (p := ⟨b, off + x, none⟩) hb1w).trans (Hcl1.out x hx))
      have hrk : row r k < 2 ^ 62 := Nat.lt_of_lt_of_le (Hbd.out k) (by decide)
      have hl40 : ((List.range k).map (leastI L r)).length < 2 ^ 40 := by simp; omega
      have Hnx := Lib.hid (Hls.out k)
      have Hlk := Lib.hid (Hli.out k)
      have Htk := Lib.hid (Hts.out k)
      have Ht0 := Lib.hid (show topTo L r k 0 = 0 from rfl)
      clear Hls Hli Hts Hcl1 Hcr
      generalize (List.range k).map (leastI L r) = xs at *
      generalize leastI L r k = li at *
      by_cases h0 : 0 ≤ gI L k
      · have hli : li = gI L k := by rw [Hlk.out, if_pos h0]
        subst hli
        have d0 : decide (gI L k ≥ 0) = true := decide_eq_true h0
        have d1 : decide (gI L k < 0) = false := decide_eq_false (by omega)
        clear h0 Hlk Htk Ht0 Hlo
        generalize gI L k = x at *
        go_upto_region 10 with fail
        go_loopw [8, 9] (fun t s wi => t = .int .i64 x ∧ s = .int .i64 0 ∧ wo = wi) (fun _ s _ => 0)
        case atStart => exact ⟨rfl, rfl, rfl⟩
        case round =>
          obtain ⟨rfl, rfl, rfl⟩ := hrel
          go_wp2_with (at_builtin; refine wpList_push_int rfl _ _ rfl rfl (hown.next ((Below.refl _ _).alloc (Nat.le_refl _) _)) _ x rfl (cell_of_row _ _ 0 _ _ _ (heap_alloc_new _ _)) hl40 (by have := hbr.size; simp; omega) ?_; intro v' w' hown' _ _ hbl)
          have hb' := hbl w1 (hbr.alloc hbr.size _)
          clear hbl
          go_wp2_with fail
          refine ⟨⟨k + 1, ?wa, ?wb, ?wc, hb'⟩, ?wd⟩
          case wa => omega
          case wb => go_num
          case wc => rw [Hnx.out]; exact hown'
          case wd => simp [intOf]; omega
      · have d0 : decide (gI L k ≥ 0) = false := decide_eq_false h0
        have d1 : decide (gI L k < 0) = true := decide_eq_true (by omega)
        have Hl2 := Lib.hid (show li = topTo L r k 6 by rw [Hlk.out, if_neg h0])
        clear h0 Hlk
        generalize gI L k = xk at *
        go_upto_region 10 with fail
        go_loopw [8, 9] (fun t s wi => ∃ j : Nat, j ≤ 6 ∧ s = .int .i64 j ∧ t = .int .i64 (topTo L r k j) ∧ wo = wi) (fun _ s _ => 6 - (intOf s).toNat)
        case atStart => exact ⟨0, by omega, rfl, rfl, rfl⟩
        case round =>
          obtain ⟨j, hj, rfl, rfl, rfl⟩ := hrel
          by_cases hjl : j < 6
          · have hji : (j : Int) < 6 := by omega
            have hlj := Hlo.out j hjl
            have CB := Lib.hid (fun V => Bit_any (row r k) j V hrk (by omega))
            have Hj := Lib.hid (Htk.out j)
            clear Htk Ht0 Hlo Hl2 hown Hnx
            generalize (row r k).testBit j = bt at *
            generalize row r k = rk at *
            generalize gI L j = y at *
            generalize topTo L r k j = t at *
            cases bt with
            | false =>
              have ht1 := Lib.hid (show topTo L r k (j + 1) = t by rw [Hj.out, if_neg (by simp)])
              clear Hj
              go_wp2_with (go_at_call 14; with_reducible refine (CB.out _).mono ?_; rintro e w' ⟨rfl, rfl⟩)
              refine ⟨⟨j + 1, ?xa, ?xb, ?xc, ?xe⟩, ?xd⟩
              case xa => omega
              case xb => go_num
              case xc => rw [ht1.out]
              case xe => trivial
              case xd => simp [intOf]; omega
            | true =>
              by_cases hty : t < y
              · have ht1 := Lib.hid (show topTo L r k (j + 1) = y by rw [Hj.out, if_pos ⟨rfl, hty⟩])
                have d2 : decide (y > t) = true := decide_eq_true hty
                clear Hj hty
                go_wp2_with (go_at_call 14; with_reducible refine (CB.out _).mono ?_; rintro e w' ⟨rfl, rfl⟩)
                refine ⟨⟨j + 1, ?xa, ?xb, ?xc, ?xe⟩, ?xd⟩
                case xa => omega
                case xb => go_num
                case xc => rw [ht1.out]
                case xe => trivial
                case xd => simp [intOf]; omega
              · have ht1 := Lib.hid (show topTo L r k (j + 1) = t by rw [Hj.out, if_neg (fun e => hty e.2)])
                have d2 : decide (y > t) = false := decide_eq_false hty
                clear Hj hty
                go_wp2_with (go_at_call 14; with_reducible refine (CB.out _).mono ?_; rintro e w' ⟨rfl, rfl⟩)
                refine ⟨⟨j + 1, ?xa, ?xb, ?xc, ?xe⟩, ?xd⟩
                case xa => omega
                case xb => go_num
                case xc => rw [ht1.out]
                case xe => trivial
                case xd => simp [intOf]; omega
          · obtain rfl : j = 6 := by omega
            simp only [show ((6 : Nat) : Int) = 6 from rfl]
            obtain rfl := Hl2.out
            clear Htk Ht0 Hlo Hl2
            generalize topTo L r k 6 = x at *
            go_wp2_with (at_builtin; refine wpList_push_int rfl _ _ rfl rfl (hown.next ((Below.refl _ _).alloc (Nat.le_refl _) _)) _ x rfl (cell_of_row _ _ 0 _ _ _ (heap_alloc_new _ _)) hl40 (by have := hbr.size; simp; omega) ?_; intro v' w' hown' _ _ hbl)
            have hb' := hbl w1 (hbr.alloc hbr.size _)
            clear hbl
            go_wp2_with fail
            refine ⟨⟨k + 1, ?wa, ?wb, ?wc, hb'⟩, ?wd⟩
            case wa => omega
            case wb => go_num
            case wc => rw [Hnx.out]; exact hown'
            case wd => simp [intOf]; omega
    · obtain rfl : k = 6 := by omega
      simp only [show ((6 : Nat) : Int) = 6 from rfl]
      obtain ⟨B, cc, rfl, hi⟩ := hown.form
      rw [← Hfin.out] at hi
      have hx6 : ((List.range 6).map (leastI L r)).length = 6 := by simp
      rw [hx6]
      clear Hcr Hcl1 Hls Hli Hts Hfin
      go_wp2_with fail
      go_ret
      exact ⟨⟨B, ⟨cc, rfl⟩, hi⟩, hb1.trans (hbr.mono hb1.size)⟩
end Go.Proofs.YthaaekpnemhjoaaDoor
