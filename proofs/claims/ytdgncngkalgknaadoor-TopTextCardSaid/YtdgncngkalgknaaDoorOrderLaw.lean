/-
  Plain laws on orders: rings, turning round, parts. No program in sight.
-/
import Derived.Test.YtdgncngkalgknaaDoorClose
import Derived.Test.YtdgncngkalgknaaDoorBitsM
namespace Go.Proofs.YtdgncngkalgknaaDoor
set_option linter.unusedVariables false

/-- Thing j, which comes from thing i, does not come back. -/
def noRing (c : List Nat) (i j : Nat) : Bool := (i == j) || !(row c j).testBit i
def orderB (c : List Nat) : Bool := (List.range c.length).all fun i => (bitsOf (row c i)).all fun j => noRing c i j

theorem bit_of {s n x : Nat} (hs : s < 2 ^ n) (hx : s.testBit x = true) : x < n := by
  rcases Nat.lt_or_ge x n with h | h
  · exact h
  · rw [Nat.testBit_lt_two_pow (Nat.lt_of_lt_of_le hs (Nat.pow_le_pow_right (by decide) h))] at hx; cases hx

theorem orderB_iff {c : List Nat} (hn : c.length ≤ 64) (hb : Bd c.length c) :
    orderB c = true ↔ ∀ i j, i < c.length → j < c.length → i ≠ j → (row c i).testBit j = true → (row c j).testBit i = false := by
  unfold orderB
  simp only [List.all_eq_true, List.mem_range]
  have h64 : ∀ i, row c i < 2 ^ 64 := fun i => Nat.lt_of_lt_of_le (hb i) (Nat.pow_le_pow_right (by decide) hn)
  constructor
  · intro h i j hi _ hne hij
    have := h i hi j ((mem_bitsOf (h64 i)).2 hij)
    unfold noRing at this
    simp at this
    rcases this with h | h
    · exact absurd h hne
    · exact h
  · intro h i hi j hj
    have hij := (mem_bitsOf (h64 i)).1 hj
    unfold noRing
    by_cases hne : i = j
    · simp [hne]
    · simp [h i j hi (bit_of (hb i) hij) hne hij]

/-- A set of the numbers below n for which p holds. -/
def maskN (p : Nat → Bool) : Nat → Nat
  | 0 => 0
  | k + 1 => if p k then maskN p k ||| 2 ^ k else maskN p k
theorem testBit_maskN (p : Nat → Bool) (n j : Nat) : (maskN p n).testBit j = (decide (j < n) && p j) := by
  induction n with
  | zero => simp [maskN]
  | succ n ih =>
    rw [maskN]
    split
    · rename_i h
      rw [tb_or, tb_pow, ih]
      by_cases e : n = j
      · subst e; simp [h]
      · have : decide (j < n + 1) = decide (j < n) := by simp; omega
        rw [this]; simp [e]
    · rename_i h
      rw [ih]
      by_cases e : n = j
      · subst e; simp [h]
      · have : decide (j < n + 1) = decide (j < n) := by simp; omega
        rw [this]
def relN (p : Nat → Nat → Bool) (n : Nat) : List Nat := (List.range n).map fun i => maskN (p i) n
theorem testBit_relN (p : Nat → Nat → Bool) (n i j : Nat) (hi : i < n) : (row (relN p n) i).testBit j = (decide (j < n) && p i j) := by
  unfold relN row
  rw [List.getElem?_map, List.getElem?_range hi]
  exact testBit_maskN _ _ _

/-- A relation turned round. -/
def Turned (n : Nat) (r t : List Nat) : Prop := ∀ a b, a < n → b < n → ((row t b).testBit a = true ↔ (row r a).testBit b = true)
theorem Turned.symm {n : Nat} {r t : List Nat} (h : Turned n r t) : Turned n t r := fun a b ha hb => (h b a hb ha).symm

theorem turned_half {r t : List Nat} {n : Nat} (hr : r.length = n) (ht : t.length = n) (hbr : Bd n r) (hbt : Bd n t) (h : Turned n r t) (a b : Nat) (ha : a < n) (hb : b < n)
    (hab : (row (closed t) b).testBit a = true) : (row (closed r) a).testBit b = true := by
  have hc := closed_inv r
  have hct := closed_inv t
  rw [ht] at hct
  have hl := hct.least (relN (fun i j => (row (closed r) j).testBit i) n) (fun i hi => by
    rw [ht] at hi
    refine ⟨?_, fun j hj => ?_, fun j hj hij x hx => ?_⟩
    · rw [testBit_relN _ _ _ _ hi]; simp [hi, hc.self i (by omega)]
    · have hjn := bit_of (hbt i) hj
      rw [testBit_relN _ _ _ _ hi]
      simp [hjn]
      exact hc.more j (by omega) i ((h j i hjn hi).1 hj)
    · rw [ht] at hj
      rw [testBit_relN _ _ _ _ hi] at hij ⊢
      rw [testBit_relN _ _ _ _ hj] at hx
      simp at hij hx ⊢
      exact ⟨hx.1, hc.trans x j (by omega) (by omega) (by omega) hx.2 i hij.2⟩) b (by omega) a hab
  rw [testBit_relN _ _ _ _ hb] at hl
  simp at hl
  exact hl.2
theorem turned_closed {r t : List Nat} {n : Nat} (hr : r.length = n) (ht : t.length = n) (hbr : Bd n r) (hbt : Bd n t) (h : Turned n r t) : Turned n (closed r) (closed t) :=
  fun a b ha hb => ⟨turned_half hr ht hbr hbt h a b ha hb, turned_half ht hr hbt hbr h.symm b a hb ha⟩

theorem bd_closed {r : List Nat} {n : Nat} (hr : r.length = n) (hb : Bd n r) : Bd n (closed r) := by subst hr; exact closed_lt r hb

theorem order_turned {r t : List Nat} {n : Nat} (hn : n ≤ 64) (hr : r.length = n) (ht : t.length = n) (hbr : Bd n r) (hbt : Bd n t) (h : Turned n r t) : orderB (closed t) = orderB (closed r) := by
  have hc := turned_closed hr ht hbr hbt h
  have l1 : (closed r).length = n := (length_closed r).trans hr
  have l2 : (closed t).length = n := (length_closed t).trans ht
  rw [Bool.eq_iff_iff, orderB_iff (c := closed t) (by omega) (by rw [l2]; exact bd_closed ht hbt), orderB_iff (c := closed r) (by omega) (by rw [l1]; exact bd_closed hr hbr), l1, l2]
  constructor
  · intro k i j hi hj hne hij
    refine Bool.eq_false_iff.2 fun hji => ?_
    have := k i j hi hj hne ((hc j i hj hi).2 hji)
    rw [(hc i j hi hj).2 hij] at this
    cases this
  · intro k i j hi hj hne hij
    refine Bool.eq_false_iff.2 fun hji => ?_
    have := k i j hi hj hne ((hc i j hi hj).1 hji)
    rw [(hc j i hj hi).1 hij] at this
    cases this

theorem closed_mono {q r : List Nat} {n : Nat} (hr : r.length = n) (hq : q.length = n) (h : ∀ i, i < n → Sub (row q i) (row r i)) (i : Nat) (hi : i < n) : Sub (row (closed q) i) (row (closed r) i) := by
  have hc := closed_inv r
  exact (closed_inv q).least (closed r) (fun i hi => ⟨hc.self i (by omega), (h i (by omega)).trans (hc.more i (by omega)), fun j hj hij => hc.trans i j (by omega) (by omega) (by omega) hij⟩) i (by omega)
theorem order_part {q r : List Nat} {n : Nat} (hn : n ≤ 64) (hr : r.length = n) (hq : q.length = n) (hbr : Bd n r) (hbq : Bd n q) (h : ∀ i, i < n → Sub (row q i) (row r i)) (ho : orderB (closed r) = true) : orderB (closed q) = true := by
  have l1 : (closed r).length = n := (length_closed r).trans hr
  have l2 : (closed q).length = n := (length_closed q).trans hq
  rw [orderB_iff (by omega) (by rw [l1]; exact bd_closed hr hbr), l1] at ho
  rw [orderB_iff (by omega) (by rw [l2]; exact bd_closed hq hbq), l2]
  intro i j hi hj hne hij
  refine Bool.eq_false_iff.2 fun hji => ?_
  have := ho i j hi hj hne (closed_mono hr hq h i hi j hij)
  rw [closed_mono hr hq h j hj i hji] at this
  cases this

/-! Pairs in their order. -/
def seen (i j a b : Nat) : Prop := a < i ∨ (a = i ∧ b < j)
/-- What RelOrder's loops have gathered ahead of the pair (i, j). -/
structure ROInv (r c : List Nat) (kb : Nat → Bool) (n i j : Nat) (ring : Bool) (T Q : List Nat) : Prop where
  lt : T.length = n
  lq : Q.length = n
  tb : Bd n T
  qb : Bd n Q
  turned : ∀ a b, a < n → b < n → ((row T b).testBit a = true ↔ seen i j a b ∧ (row r a).testBit b = true)
  part : ∀ a b, a < n → b < n → ((row Q a).testBit b = true ↔ seen i j a b ∧ (row r a).testBit b = true ∧ kb b = true)
  ring : ring = true ↔ ∃ a b, a < n ∧ b < n ∧ seen i j a b ∧ a ≠ b ∧ (row c a).testBit b = true ∧ (row c b).testBit a = true

theorem row_replicate (n i : Nat) : row (List.replicate n 0) i = 0 := by
  unfold row; rw [List.getElem?_replicate]; split <;> rfl
theorem ROInv.start (r c : List Nat) (kb : Nat → Bool) (n : Nat) : ROInv r c kb n 0 0 false (List.replicate n 0) (List.replicate n 0) where
  lt := by simp
  lq := by simp
  tb i := by rw [row_replicate]; exact Nat.two_pow_pos n
  qb i := by rw [row_replicate]; exact Nat.two_pow_pos n
  turned a b _ _ := by rw [row_replicate]; simp [seen]
  part a b _ _ := by rw [row_replicate]; simp [seen]
  ring := by simp [seen]
theorem ROInv.next {r c : List Nat} {kb : Nat → Bool} {n i : Nat} {ring : Bool} {T Q : List Nat} (h : ROInv r c kb n i n ring T Q) : ROInv r c kb n (i + 1) 0 ring T Q where
  lt := h.lt
  lq := h.lq
  tb := h.tb
  qb := h.qb
  turned a b ha hb := by rw [h.turned a b ha hb]; simp only [seen]; constructor <;> (rintro ⟨h1, h2⟩; exact ⟨by omega, h2⟩)
  part a b ha hb := by rw [h.part a b ha hb]; simp only [seen]; constructor <;> (rintro ⟨h1, h2⟩; exact ⟨by omega, h2⟩)
  ring := by
    rw [h.ring]
    constructor <;> (rintro ⟨a, b, ha, hb, hs, hr⟩; exact ⟨a, b, ha, hb, by unfold seen at *; omega, hr⟩)
def ringStep (c : List Nat) (i j : Nat) : Bool := decide (i ≠ j) && (row c i).testBit j && (row c j).testBit i
def turnStep (r T : List Nat) (i j : Nat) : List Nat := if (row r i).testBit j then T.set j (row T j ||| 2 ^ i) else T
def partStep (r Q : List Nat) (kb : Nat → Bool) (i j : Nat) : List Nat := if (row r i).testBit j && kb j then Q.set i (row Q i ||| 2 ^ j) else Q
theorem ROInv.step {r c : List Nat} {kb : Nat → Bool} {n i j : Nat} {ring : Bool} {T Q : List Nat} (h : ROInv r c kb n i j ring T Q) (hi : i < n) (hj : j < n) :
    ROInv r c kb n i (j + 1) (ring || ringStep c i j) (turnStep r T i j) (partStep r Q kb i j) where
  lt := by unfold turnStep; split <;> simp [h.lt]
  lq := by unfold partStep; split <;> simp [h.lq]
  tb := by
    unfold turnStep; split
    · exact h.tb.set _ _ (Nat.or_lt_two_pow (h.tb j) (Nat.pow_lt_pow_right (by decide) hi))
    · exact h.tb
  qb := by
    unfold partStep; split
    · exact h.qb.set _ _ (Nat.or_lt_two_pow (h.qb i) (Nat.pow_lt_pow_right (by decide) hj))
    · exact h.qb
  turned a b ha hb := by
    have hs : seen i (j + 1) a b ↔ seen i j a b ∨ (a = i ∧ b = j) := by unfold seen; omega
    rw [hs]
    unfold turnStep
    split
    · rename_i hr
      rw [row_set _ _ _ _ (by rw [h.lt]; exact hj)]
      split
      · rename_i e
        subst e
        rw [tb_or, tb_pow, Bool.or_eq_true, h.turned a j ha hj, decide_eq_true_eq]
        constructor
        · rintro (⟨h1, h2⟩ | rfl)
          · exact ⟨.inl h1, h2⟩
          · exact ⟨.inr ⟨rfl, rfl⟩, hr⟩
        · rintro ⟨h1 | ⟨h1, _⟩, h2⟩
          · exact .inl ⟨h1, h2⟩
          · exact .inr h1.symm
      · rename_i e
        rw [h.turned a b ha hb]
        constructor
        · rintro ⟨h1, h2⟩; exact ⟨.inl h1, h2⟩
        · rintro ⟨h1 | ⟨_, h1⟩, h2⟩
          · exact ⟨h1, h2⟩
          · exact absurd h1.symm e
    · rename_i hr
      rw [h.turned a b ha hb]
      constructor
      · rintro ⟨h1, h2⟩; exact ⟨.inl h1, h2⟩
      · rintro ⟨h1 | ⟨rfl, rfl⟩, h2⟩
        · exact ⟨h1, h2⟩
        · exact absurd h2 hr
  part a b ha hb := by
    have hs : seen i (j + 1) a b ↔ seen i j a b ∨ (a = i ∧ b = j) := by unfold seen; omega
    rw [hs]
    unfold partStep
    split
    · rename_i hr
      rw [Bool.and_eq_true] at hr
      rw [row_set _ _ _ _ (by rw [h.lq]; exact hi)]
      split
      · rename_i e
        subst e
        rw [tb_or, tb_pow, Bool.or_eq_true, h.part i b hi hb, decide_eq_true_eq]
        constructor
        · rintro (⟨h1, h2⟩ | rfl)
          · exact ⟨.inl h1, h2⟩
          · exact ⟨.inr ⟨rfl, rfl⟩, hr⟩
        · rintro ⟨h1 | ⟨_, h1⟩, h2⟩
          · exact .inl ⟨h1, h2⟩
          · exact .inr h1.symm
      · rename_i e
        rw [h.part a b ha hb]
        constructor
        · rintro ⟨h1, h2⟩; exact ⟨.inl h1, h2⟩
        · rintro ⟨h1 | ⟨h1, _⟩, h2⟩
          · exact ⟨h1, h2⟩
          · exact absurd h1.symm e
    · rename_i hr
      rw [h.part a b ha hb]
      constructor
      · rintro ⟨h1, h2⟩; exact ⟨.inl h1, h2⟩
      · rintro ⟨h1 | ⟨rfl, rfl⟩, h2⟩
        · exact ⟨h1, h2⟩
        · exact absurd (by rw [Bool.and_eq_true]; exact h2) hr
  ring := by
    rw [Bool.or_eq_true, h.ring]
    unfold ringStep
    simp only [Bool.and_eq_true, decide_eq_true_eq]
    constructor
    · rintro (⟨a, b, ha, hb, hs, hr⟩ | ⟨⟨h1, h2⟩, h3⟩)
      · exact ⟨a, b, ha, hb, by unfold seen at *; omega, hr⟩
      · exact ⟨i, j, hi, hj, by unfold seen; omega, h1, h2, h3⟩
    · rintro ⟨a, b, ha, hb, hs, h1, h2, h3⟩
      have hs' : seen i j a b ∨ (a = i ∧ b = j) := by unfold seen at *; omega
      rcases hs' with hs | ⟨rfl, rfl⟩
      · exact .inl ⟨a, b, ha, hb, hs, h1, h2, h3⟩
      · exact .inr ⟨⟨h1, h2⟩, h3⟩
/-- At the end. -/
theorem ROInv.fin {r : List Nat} {kb : Nat → Bool} {n : Nat} {ring : Bool} {T Q : List Nat} (hn : n ≤ 64) (hr : r.length = n) (hb : Bd n r) (h : ROInv r (closed r) kb n n 0 ring T Q) :
    ring = !orderB (closed r) ∧ orderB (closed T) = orderB (closed r) ∧ (orderB (closed r) = true → orderB (closed Q) = true) := by
  have l1 : (closed r).length = n := (length_closed r).trans hr
  have hs : ∀ a b, a < n → seen n 0 a b := fun a b ha => .inl ha
  refine ⟨?_, order_turned hn hr h.lt hb h.tb (fun a b ha hb' => ?_), fun ho => order_part hn hr h.lq hb h.qb (fun i hi j hj => ?_) ho⟩
  · rw [Bool.eq_iff_iff, h.ring]
    constructor
    · rintro ⟨a, b, ha, hb', _, hne, h1, h2⟩
      simp only [Bool.not_eq_true']
      refine Bool.eq_false_iff.2 fun ho => ?_
      rw [orderB_iff (by omega) (by rw [l1]; exact bd_closed hr hb), l1] at ho
      have := ho a b ha hb' hne h1
      rw [h2] at this; cases this
    · intro ho
      simp only [Bool.not_eq_true'] at ho
      apply Classical.byContradiction
      intro hno
      rw [← Bool.not_eq_true, orderB_iff (by omega) (by rw [l1]; exact bd_closed hr hb), l1] at ho
      exact ho fun i j hi hj hne hij => Bool.eq_false_iff.2 fun hji => hno ⟨i, j, hi, hj, hs i j hi, hne, hij, hji⟩
  · rw [h.turned a b ha hb']
    exact ⟨fun h => h.2, fun h => ⟨hs a b ha, h⟩⟩
  · exact ((h.part i j hi (bit_of (h.qb i) hj)).1 hj).2.1
end Go.Proofs.YtdgncngkalgknaaDoor
