/-
  What the reference's Parse tells is what label.Parse tells: plain laws.
-/
import Derived.Test.YtndeplakkhfmlaaDoorParseLaw
namespace Go.Proofs.YtndeplakkhfmlaaDoor
set_option linter.unusedVariables false

def addLet (c : UInt8) (m : Nat) : Nat := if 97 ≤ c.toNat ∧ c.toNat ≤ 104 then m ||| 2 ^ (c.toNat - 97) else m
/-- The letters of a text as a set, whatever their order. -/
def letSet : List UInt8 → Nat → Nat
  | [], m => m
  | c :: t, m => letSet t (addLet c m)
theorem addLet_lt {c : UInt8} {m : Nat} (h : m < 2 ^ 8) : addLet c m < 2 ^ 8 := by
  unfold addLet
  split
  · exact Nat.or_lt_two_pow h (Nat.pow_lt_pow_right (by decide) (by omega))
  · exact h
theorem letSet_lt : ∀ (t : List UInt8) {m : Nat}, m < 2 ^ 8 → letSet t m < 2 ^ 8
  | [], _, h => h
  | c :: t, _, h => letSet_lt t (addLet_lt h)
theorem letSet_append : ∀ (a b : List UInt8) (m : Nat), letSet (a ++ b) m = letSet b (letSet a m)
  | [], _, _ => rfl
  | c :: a, b, m => letSet_append a b (addLet c m)
theorem letSet_letters : ∀ s, s < 256 → letSet (letters s) 0 = s := by decide +kernel
theorem parse_iff {l : List UInt8} {v m : Nat} : parseV l = some (v, m) ↔ v < 8 ∧ m = letSet l.tail 0 ∧ labText v (letSet l.tail 0) = l := by
  constructor
  · intro h
    obtain ⟨h1, h2, h3⟩ := parseV_sound h
    have h4 : l.tail = letters m := by rw [← h3]; rfl
    have h5 : letSet l.tail 0 = m := by rw [h4, letSet_letters m h2]
    exact ⟨by omega, h5.symm, by rw [h5]; exact h3⟩
  · rintro ⟨h1, rfl, h3⟩
    have h2 : letSet l.tail 0 < 256 := letSet_lt l.tail (by decide)
    have := parseV_text (v := v) (by omega) h2
    rw [h3] at this
    exact this
/-- Too long a text is none. -/
theorem parse_long {l : List UInt8} (h : 10 ≤ l.length) (v m : Nat) (hm : m < 256) : labText v m ≠ l := by
  rintro rfl
  have h1 : (letters m).length ≤ 8 := by
    have : ∀ m, m < 256 → (letters m).length ≤ 8 := by decide +kernel
    exact this m hm
  have h2 : (labText v m).length = (letters m).length + 1 := by unfold labText letters; simp
  omega
theorem labText_zero_long {l : List UInt8} (h : 10 ≤ l.length) (v : Nat) : labText v 0 ≠ l := parse_long h v 0 (by decide)
end Go.Proofs.YtndeplakkhfmlaaDoor
