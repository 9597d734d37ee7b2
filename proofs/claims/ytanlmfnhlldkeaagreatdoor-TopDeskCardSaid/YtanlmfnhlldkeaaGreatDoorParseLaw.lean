/-
  Plain laws: which texts are labels.
-/
import Derived.Test.YtanlmfnhlldkeaaGreatDoorWriteN
import Derived.Test.YtanlmfnhlldkeaaGreatDoorBaseA
namespace Go.Proofs.YtanlmfnhlldkeaaGreatDoor
set_option linter.unusedVariables false

/-- The letters of a label, from place lo on; what is had so far. -/
def pstep : List UInt8 → Nat → Nat → Option Nat
  | [], set, _ => some set
  | c :: t, set, lo => if 97 + lo ≤ c.toNat ∧ c.toNat ≤ 104 then pstep t (set ||| 2 ^ (c.toNat - 97)) (c.toNat - 97 + 1) else none
def parseV : List UInt8 → Option (Nat × Nat)
  | [] => none
  | c :: t => if 48 ≤ c.toNat ∧ c.toNat ≤ 55 then (pstep t 0 0).map fun s => (c.toNat - 48, s) else none
theorem parseV_cons (c : UInt8) (t : List UInt8) : parseV (c :: t) = if 48 ≤ c.toNat ∧ c.toNat ≤ 55 then (pstep t 0 0).map fun s => (c.toNat - 48, s) else none := rfl
def letters (s : Nat) : List UInt8 := (bitsOf s).map fun i => UInt8.ofNat (97 + i)
theorem pstep_letters : ∀ s, s < 256 → pstep (letters s) 0 0 = some s := by decide +kernel

def bitsFrom (lo r : Nat) : List Nat := (List.range' lo (64 - lo)).filter fun i => r.testBit i
theorem bitsFrom_zero (r : Nat) : bitsFrom 0 r = bitsOf r := by unfold bitsFrom bitsOf; rw [List.range_eq_range']
theorem bitsFrom_step {lo r : Nat} (h : lo < 64) : bitsFrom lo r = if r.testBit lo then lo :: bitsFrom (lo + 1) r else bitsFrom (lo + 1) r := by
  unfold bitsFrom
  rw [show 64 - lo = (64 - (lo + 1)) + 1 by omega, List.range'_succ, List.filter_cons]
theorem bitsFrom_none {lo r : Nat} (h : ∀ i, lo ≤ i → r.testBit i = false) : bitsFrom lo r = [] := by
  unfold bitsFrom
  rw [List.filter_eq_nil_iff]
  intro i hi
  rw [h i (by rw [List.mem_range'_1] at hi; exact hi.1)]; simp
theorem bitsFrom_skip {lo m r : Nat} (hlm : lo ≤ m) (hm : m ≤ 64) (h : ∀ i, lo ≤ i → i < m → r.testBit i = false) : bitsFrom lo r = bitsFrom m r := by
  induction m with
  | zero => obtain rfl : lo = 0 := by omega
            rfl
  | succ m ih =>
    rcases Nat.lt_or_ge m lo with h1 | h1
    · obtain rfl : lo = m + 1 := by omega
      rfl
    · rw [ih h1 (by omega) (fun i a b => h i a (by omega)), bitsFrom_step (by omega), h m h1 (by omega)]; simp

theorem pstep_sound : ∀ (t : List UInt8) (set lo r : Nat), pstep t set lo = some r → set < 2 ^ lo → lo ≤ 8 →
    r < 256 ∧ (∀ i, i < lo → r.testBit i = set.testBit i) ∧ (bitsFrom lo r).map (fun i => UInt8.ofNat (97 + i)) = t
  | [], set, lo, r, h, hs, hlo => by
    simp only [pstep, Option.some.injEq] at h
    subst h
    have hz : ∀ i, lo ≤ i → set.testBit i = false := fun i hi => Nat.testBit_lt_two_pow (Nat.lt_of_lt_of_le hs (Nat.pow_le_pow_right (by decide) hi))
    refine ⟨Nat.lt_of_lt_of_le hs (Nat.pow_le_pow_right (by decide) hlo : 2 ^ lo ≤ 2 ^ 8), fun _ _ => rfl, by rw [bitsFrom_none hz]; rfl⟩
  | c :: t, set, lo, r, h, hs, hlo => by
    unfold pstep at h
    split at h
    · rename_i hc
      have hlt : set ||| 2 ^ (c.toNat - 97) < 2 ^ (c.toNat - 97 + 1) := by
        refine Nat.or_lt_two_pow ?_ (Nat.pow_lt_pow_right (by decide) (by omega))
        exact Nat.lt_of_lt_of_le hs (Nat.pow_le_pow_right (by decide) (by omega))
      obtain ⟨h1, h2, h3⟩ := pstep_sound t _ _ r h hlt (by omega)
      have bit : ∀ i, i < c.toNat - 97 → r.testBit i = set.testBit i := fun i hi => by
        rw [h2 i (by omega), tb_or, tb_pow]; simp; omega
      refine ⟨h1, fun i hi => bit i (by omega), ?_⟩
      have hon : r.testBit (c.toNat - 97) = true := by rw [h2 _ (by omega), tb_or, tb_pow]; simp
      rw [bitsFrom_skip (m := c.toNat - 97) (by omega) (by omega) (fun i a b => by
        rw [bit i b]; exact Nat.testBit_lt_two_pow (Nat.lt_of_lt_of_le hs (Nat.pow_le_pow_right (by decide) a)))]
      rw [bitsFrom_step (by omega), if_pos hon, List.map_cons, h3]
      congr 1
      rw [show 97 + (c.toNat - 97) = c.toNat by omega]
      exact UInt8.ofNat_toNat
    · cases h
theorem parseV_text {v s : Nat} (hv : v ≤ 7) (hs : s < 256) : parseV (labText v s) = some (v, s) := by
  have h : (UInt8.ofNat (48 + v)).toNat = 48 + v := by rw [UInt8.toNat_ofNat']; omega
  unfold labText
  rw [parseV_cons, h, if_pos ⟨by omega, by omega⟩]
  have := pstep_letters s hs
  unfold letters at this
  rw [this]
  simp
theorem parseV_sound {l : List UInt8} {v s : Nat} (h : parseV l = some (v, s)) : v ≤ 7 ∧ s < 256 ∧ labText v s = l := by
  cases l with
  | nil => cases h
  | cons c t =>
    rw [parseV_cons] at h
    split at h
    · rename_i hc
      cases hp : pstep t 0 0 with
      | none => rw [hp] at h; cases h
      | some r =>
        rw [hp] at h
        simp only [Option.map_some, Option.some.injEq, Prod.mk.injEq] at h
        obtain ⟨rfl, rfl⟩ := h
        obtain ⟨h1, _, h3⟩ := pstep_sound t 0 0 r hp (by decide) (by decide)
        refine ⟨by omega, h1, ?_⟩
        unfold labText
        rw [← bitsFrom_zero, h3, show 48 + (c.toNat - 48) = c.toNat by omega]
        congr 1
        exact UInt8.ofNat_toNat
    · cases h
end Go.Proofs.YtanlmfnhlldkeaaGreatDoor
