/-
  Nodes without fault are a forest of one tree; how long its text may be: plain laws.
-/
import Derived.Test.YtfpghfmdkbdojaaGreatDoorTxM
namespace Go.Proofs.YtfpghfmdkbdojaaGreatDoor
set_option linter.unusedVariables false

theorem partsScan_back {P : List Int} {i : Nat} : ∀ (l : List Int) (k : Nat) (u v : List Bool), i ≤ u.length → partsScan P i l k u = (0, v) → l.Nodup ∧ (∀ a ∈ l, (0 ≤ a ∧ a < i) ∧ u.getD a.toNat false = false) ∧ v = marks u l
  | [], k, u, v, _, h => by
    rw [partsScan] at h
    exact ⟨List.nodup_nil, fun a ha => (by cases ha), (Prod.mk.inj h).2.symm⟩
  | a :: l, k, u, v, hi, h => by
    rw [partsScan] at h
    split at h
    · rename_i h0
      obtain ⟨ha, hu, -⟩ := partCode_zero h0
      obtain ⟨h1, h2, h3⟩ := partsScan_back l (k + 1) _ _ (by rw [List.length_set]; exact hi) h
      refine ⟨List.nodup_cons.2 ⟨fun hm => ?_, h1⟩, fun b hb => ?_, h3⟩
      · have := (h2 a hm).2
        rw [(getD_mark u a.toNat a.toNat (by omega)).2 (.inr rfl)] at this
        cases this
      · rcases List.mem_cons.1 hb with rfl | hb
        · exact ⟨ha, hu⟩
        · refine ⟨(h2 b hb).1, ?_⟩
          have := (h2 b hb).2
          cases hx : u.getD b.toNat false with
          | false => rfl
          | true => rw [(getD_mark u a.toNat b.toNat (by omega)).2 (.inl hx)] at this; cases this
    · rename_i h0; exact absurd (Prod.mk.inj h).1 h0
theorem nodesScan_back {P : List Int} : ∀ (m i : Nat) (u v : List Bool), i + m ≤ u.length → nodesScan P m i u = (0, v) → (ps P i (i + m)).Nodup ∧ (∀ a ∈ ps P i (i + m), (0 ≤ a ∧ a + 1 < i + m) ∧ u.getD a.toNat false = false) ∧ v = marks u (ps P i (i + m))
  | 0, i, u, v, _, h => by
    rw [nodesScan] at h
    rw [Nat.add_zero, ps_self]
    exact ⟨List.nodup_nil, fun a ha => (by cases ha), (Prod.mk.inj h).2.symm⟩
  | m + 1, i, u, v, hl, h => by
    have hs : ps P i (i + (m + 1)) = partsOf P i ++ ps P (i + 1) (i + 1 + m) := by
      rw [ps_split (Nat.le_succ i) (by omega : i + 1 ≤ i + (m + 1)), ps_one, show i + (m + 1) = i + 1 + m by omega]
    rw [nodesScan] at h
    split at h
    · rename_i h0
      have h1 : nodeScan P i u = (0, (nodeScan P i u).2) := Prod.ext h0 rfl
      generalize (nodeScan P i u).2 = u1 at *
      have h2 : partsScan P i (partsOf P i) 0 u = (0, u1) := by
        unfold nodeScan at h1
        split at h1
        · cases h1
        · exact h1
      obtain ⟨n1, m1, rfl⟩ := partsScan_back _ _ _ _ (by omega) h2
      obtain ⟨n2, m2, rfl⟩ := nodesScan_back m (i + 1) _ _ (by rw [marks_length]; omega) h
      rw [hs]
      have hlow : ∀ a ∈ partsOf P i, 0 ≤ a ∧ a < u.length := fun a ha => by have := (m1 a ha).1; omega
      refine ⟨List.nodup_append.2 ⟨n1, n2, fun a ha b hb e => ?_⟩, fun a ha => ?_, by rw [marks_append]⟩
      · subst e
        have := (m2 a hb).2
        have h3 := (m1 a ha).1
        rw [(marks_true _ u a.toNat hlow).2 (.inr (by rw [show ((a.toNat : Nat) : Int) = a by omega]; exact ha))] at this
        cases this
      · rcases List.mem_append.1 ha with ha | ha
        · have := m1 a ha
          exact ⟨by omega, this.2⟩
        · have := m2 a ha
          refine ⟨by omega, ?_⟩
          cases hx : u.getD a.toNat false with
          | false => rfl
          | true => rw [(marks_true _ u a.toNat hlow).2 (.inl hx)] at this; cases this.2
    · rename_i h0; exact absurd (congrArg Prod.fst h) h0
theorem code_perm {P : List Int} {n : Nat} (h : progCode P (n + 1) = 0) : (ps P 0 (n + 1) ++ [(n : Int)]).Perm (rng 0 (n + 1)) := by
  unfold progCode at h
  rw [if_neg (by omega)] at h
  split at h
  · cases h
  split at h
  · rename_i h0
    obtain ⟨n1, m1, e1⟩ := nodesScan_back (P := P) (n + 1) 0 (List.replicate (n + 1) false) (nodesScan P (n + 1) 0 (List.replicate (n + 1) false)).2 (by simp) (Prod.ext h0 rfl)
    rw [Nat.zero_add] at n1 m1 e1
    have hlast : ∀ j, j < n → (j : Int) ∈ ps P 0 (n + 1) := fun j hj => by
      have he : ¬ ((∃ j, j < n + 1 - 1 ∧ (nodesScan P (n + 1) 0 (List.replicate (n + 1) false)).2.getD j false = false) ∨ nd P (n + 1 - 1) 0 < 5) := fun e => by
        unfold endCode at h; rw [if_pos e] at h; cases h
      cases hx : (nodesScan P (n + 1) 0 (List.replicate (n + 1) false)).2.getD j false with
      | false => exact absurd (.inl ⟨j, by omega, hx⟩) he
      | true =>
        rw [e1] at hx
        rcases (marks_true _ _ j (fun a ha => by have := m1 a ha; rw [List.length_replicate]; omega)).1 hx with e | e
        · rw [List.getD_eq_getElem?_getD, List.getElem?_replicate] at e
          split at e <;> cases e
        · exact e
    refine (List.perm_ext_iff_of_nodup (List.nodup_append.2 ⟨n1, by simp, fun a ha b hb e => ?_⟩) (rng_nodup 0 (n + 1))).2 fun a => ?_
    · rw [List.mem_singleton] at hb
      have := m1 a ha
      omega
    · rw [List.mem_append, List.mem_singleton]
      constructor
      · rintro (ha | ha)
        · have := m1 a ha
          rw [show a = ((a.toNat : Nat) : Int) by omega]
          exact mem_rng.2 ⟨Nat.zero_le _, by omega⟩
        · subst ha; exact mem_rng.2 ⟨Nat.zero_le _, by omega⟩
      · intro ha
        obtain ⟨j, rfl⟩ : ∃ j : Nat, a = j := by
          unfold rng at ha
          rw [List.mem_map] at ha
          obtain ⟨j, _, e⟩ := ha
          exact ⟨j, e.symm⟩
        have := (mem_rng.1 ha).2
        rcases Nat.lt_or_ge j n with hj | hj
        · exact .inl (hlast j hj)
        · exact .inr (by omega)
  · rename_i h0; exact absurd h h0
/-- A bound of a tree's text, by fuel. -/
def szN (P : List Int) : Nat → Nat → Nat
  | 0, _ => 0
  | f + 1, i => 22 + ((partsOf P i).map fun p => szN P f p.toNat).sum
theorem szN_fuel {P : List Int} {n : Nat} (hok : ∀ j, j < n → NodeOk P j) : ∀ f g i, i < n → i < f → i < g → szN P f i = szN P g i
  | 0, _, i, _, h, _ => by omega
  | _ + 1, 0, i, _, _, h => by omega
  | f + 1, g + 1, i, hi, hf, hg => by
    rw [szN, szN]
    congr 2
    apply List.map_congr_left
    intro p hp
    have := parts_low (hok i hi) hp
    exact szN_fuel hok f g _ (by omega) (by omega) (by omega)
theorem itoa_len (n : Nat) (h : n ≤ 999999) : (Lib.itoa (n : Int)).length ≤ 21 := Lib.itoa_length_le _ (by omega) (by omega)
theorem IsEx.size {P : List Int} {i : Nat} {e : Ex} (h : IsEx P i e) : ∀ f, i < f → e.text.length ≤ szN P f i := by
  induction h with
  | @num i n h0 h1 h2 =>
    intro f hf
    obtain ⟨f, rfl⟩ : ∃ g, f = g + 1 := ⟨f - 1, by omega⟩
    have := itoa_len n h2
    rw [szN, Ex.text, List.length_cons]
    omega
  | @var i n h0 h1 h2 =>
    intro f hf
    obtain ⟨f, rfl⟩ : ∃ g, f = g + 1 := ⟨f - 1, by omega⟩
    rw [szN, Ex.text]
    simp
    omega
  | @op i k a b x y h1 h2 h0 ha hb la lb _ _ iha ihb =>
    intro f hf
    obtain ⟨f, rfl⟩ : ∃ g, f = g + 1 := ⟨f - 1, by omega⟩
    have hp : partsOf P i = [(a : Int), (b : Int)] := by
      unfold partsOf partsL; rw [h0, ha, hb, if_neg (by omega), if_neg (by omega), if_pos (by omega)]
    have := iha f (by omega)
    have := ihb f (by omega)
    rw [szN, hp, Ex.text]
    simp
    omega
theorem IsSt.size {P : List Int} {i : Nat} {s : St} (h : IsSt P i s) : ∀ f, i < f → s.text.length ≤ szN P f i := by
  induction h with
  | skip h0 => intro f hf; exact Nat.zero_le _
  | @set i n a x h0 h1 hn h2 la he =>
    intro f hf
    obtain ⟨f, rfl⟩ : ∃ g, f = g + 1 := ⟨f - 1, by omega⟩
    have hp : partsOf P i = [(a : Int)] := by unfold partsOf partsL; rw [h0, h2]; rfl
    have := he.size f (by omega)
    rw [szN, hp, St.text]
    simp
    omega
  | @both i a b x y h0 ha hb la lb _ _ iha ihb =>
    intro f hf
    obtain ⟨f, rfl⟩ : ∃ g, f = g + 1 := ⟨f - 1, by omega⟩
    have hp : partsOf P i = [(a : Int), (b : Int)] := by unfold partsOf partsL; rw [h0, ha, hb]; rfl
    have := iha f (by omega)
    have := ihb f (by omega)
    rw [szN, hp, St.text]
    simp
    omega
  | @ite i a b c x y z h0 ha hb hc la lb lc he _ _ ihb ihc =>
    intro f hf
    obtain ⟨f, rfl⟩ : ∃ g, f = g + 1 := ⟨f - 1, by omega⟩
    have hp : partsOf P i = [(a : Int), (b : Int), (c : Int)] := by unfold partsOf partsL; rw [h0, ha, hb, hc]; rfl
    have := he.size f (by omega)
    have := ihb f (by omega)
    have := ihc f (by omega)
    rw [szN, hp, St.text]
    simp
    omega
  | @loop i a b x y h0 ha hb la lb he _ ihb =>
    intro f hf
    obtain ⟨f, rfl⟩ : ∃ g, f = g + 1 := ⟨f - 1, by omega⟩
    have hp : partsOf P i = [(a : Int), (b : Int)] := by unfold partsOf partsL; rw [h0, ha, hb]; rfl
    have := he.size f (by omega)
    have := ihb f (by omega)
    rw [szN, hp, St.text]
    simp
    omega
/-- The sum over the nodes: each node's own part, and its parts'. -/
theorem sum_sz {P : List Int} {n : Nat} (hok : ∀ j, j < n → NodeOk P j) : ∀ m, m ≤ n → ((rng 0 m).map fun p => szN P n p.toNat).sum = 22 * m + ((ps P 0 m).map fun p => szN P n p.toNat).sum
  | 0, _ => by rw [rng_self, ps_self]; rfl
  | m + 1, h => by
    rw [rng_split (Nat.zero_le m) (Nat.le_succ m), ps_split (Nat.zero_le m) (Nat.le_succ m), rng_one, ps_one, List.map_append, List.map_append, List.sum_append, List.sum_append, sum_sz hok m (by omega)]
    have : szN P n m = 22 + ((partsOf P m).map fun p => szN P n p.toNat).sum := by
      obtain ⟨k, rfl⟩ : ∃ k, n = k + 1 := ⟨n - 1, by omega⟩
      rw [szN]
      congr 2
      apply List.map_congr_left
      intro p hp
      have := parts_low (hok m (by omega)) hp
      exact szN_fuel hok _ _ _ (by omega) (by omega) (by omega)
    simp only [List.map_cons, List.map_nil, List.sum_cons, List.sum_nil, Int.toNat_natCast, this]
    omega
theorem root_size {P : List Int} {n : Nat} (h : progCode P (n + 1) = 0) : szN P (n + 1) n = 22 * (n + 1) := by
  obtain ⟨-, hok, -⟩ := progCode_tree h
  have h1 := ((code_perm h).map fun p => szN P (n + 1) p.toNat).sum_nat
  rw [List.map_append, List.sum_append, sum_sz hok (n + 1) (Nat.le_refl _)] at h1
  simp only [List.map_cons, List.map_nil, List.sum_cons, List.sum_nil, Int.toNat_natCast] at h1
  omega
theorem text_short {P : List Int} {n : Nat} {s : St} (h : progCode P (n + 1) = 0) (hs : IsSt P n s) : s.text.length ≤ 1760 := by
  have := hs.size (n + 1) (Nat.lt_succ_self _)
  rw [root_size h] at this
  have := (progCode_tree h).1.2
  omega
end Go.Proofs.YtfpghfmdkbdojaaGreatDoor
