/-
  Contract: the reader's value, where the text is right.
-/
import Derived.Test.YtdgncngkalgknaaDoorRdA
import Derived.Test.YtdgncngkalgknaaDoorItoa
import Derived.Lib.AtoiErrMem
import Derived.Lib.Strings
import Derived.Deep.LoopGhost
namespace Go.Proofs.YtdgncngkalgknaaDoor
open Go.RowKit
set_option maxRecDepth 100000
set_option linter.unusedVariables false

/-- What a method leaves that read something. -/
def RdGood (r : Nat) (s : ByteArray) (i : Nat) (l : List UInt8) (o : List Int) (w : World) (e : Ending) (w' : World) : Prop :=
  e = .returned (.int .i64 i) ∧ ∃ p, p ≤ s.size ∧ s.data.toList.drop p = l ∧ o.length ≤ 400 ∧ RdTo r s p o w w'
theorem mk5_good {l l' : List UInt8} {o o' : List Int} {k n a b c : Int} {i m : Nat} (h : mk5 l o k n a b c = .good i l' o') (hl : o.length = m * 5) (ho : o.length ≤ 400) : m < 80 ∧ i = m ∧ l' = l ∧ o' = o ++ [k, n, a, b, c] ∧ o'.length ≤ 400 := by
  unfold mk5 at h
  split at h
  · cases h
  · rename_i hne
    injection h with h1 h2 h3
    refine ⟨by omega, by omega, h2.symm, h3.symm, ?_⟩
    rw [← h3, List.length_append]
    simp
    omega
theorem drop_cons {s : ByteArray} {p : Nat} {c : UInt8} {l : List UInt8} (h : s.data.toList.drop p = c :: l) : p < s.size ∧ peekV s p = (c.toNat : Int) ∧ s.data.toList.drop (p + 1) = l := by
  have hlt : p < s.data.toList.length := by
    rcases Nat.lt_or_ge p s.data.toList.length with h1 | h1
    · exact h1
    · rw [List.drop_eq_nil_of_le h1] at h; cases h
  rw [List.drop_eq_getElem_cons hlt] at h
  injection h with h1 h2
  refine ⟨by simpa using hlt, ?_, h2⟩
  unfold peekV
  rw [List.getD_eq_getElem?_getD, List.getElem?_eq_getElem hlt]
  show ((s.data.toList[p]).toNat : Int) = _
  rw [h1]
theorem peek_dig {s : ByteArray} {p : Nat} : (∃ c l, s.data.toList.drop p = c :: l ∧ isDig c = true) ↔ (48 ≤ peekV s p ∧ peekV s p ≤ 57) := by
  constructor
  · rintro ⟨c, l, h, hc⟩
    rw [(drop_cons h).2.1]
    have := of_decide_eq_true hc
    omega
  · intro h
    have hlt : p < s.size := by
      rcases Nat.lt_or_ge p s.size with h1 | h1
      · exact h1
      · rw [peekV_end h1] at h; omega
    have hd : s.data.toList.drop p = s.data.toList[p]'(by simpa using hlt) :: s.data.toList.drop (p + 1) := List.drop_eq_getElem_cons _
    refine ⟨_, _, hd, ?_⟩
    rw [(drop_cons hd).2.1] at h
    exact decide_eq_true (by omega)
/-- Where the digits end. -/
theorem digits_end {s : ByteArray} {p q : Nat} (hpq : p ≤ q) (hd : ∀ j, p ≤ j → j < q → 48 ≤ peekV s j ∧ peekV s j ≤ 57) (he : ¬ (48 ≤ peekV s q ∧ peekV s q ≤ 57)) :
    (s.data.toList.drop p).takeWhile isDig = (s.extract p q).data.toList ∧ (s.data.toList.drop p).dropWhile isDig = s.data.toList.drop q := by
  rw [Lib.extract_data]
  obtain ⟨m, rfl⟩ : ∃ m, q = p + m := ⟨q - p, by omega⟩
  rw [show p + m - p = m by omega]
  clear hpq
  induction m generalizing p with
  | zero =>
    rw [List.take_zero]
    cases hl : s.data.toList.drop p with
    | nil => exact ⟨rfl, rfl⟩
    | cons c l =>
      have hc : isDig c = false := by
        cases h : isDig c with
        | false => rfl
        | true => exact absurd (peek_dig.1 ⟨c, l, hl, h⟩) he
      rw [List.takeWhile_cons, List.dropWhile_cons, hc]
      exact ⟨rfl, rfl⟩
  | succ m ih =>
    obtain ⟨c, l, hl, hc⟩ := peek_dig.2 (hd p (Nat.le_refl _) (by omega))
    have h1 := (drop_cons hl).2.2
    have := ih (p := p + 1) (fun j h1 h2 => hd j (by omega) (by omega)) (by rw [show p + 1 + m = p + (m + 1) by omega]; exact he)
    rw [hl, List.takeWhile_cons, List.dropWhile_cons, hc, if_pos rfl, if_pos rfl, List.take_succ_cons, ← h1]
    rw [show p + 1 + m = p + (m + 1) by omega] at this
    exact ⟨by rw [this.1], this.2⟩
theorem numOf_some {d : List UInt8} {k : Nat} (h : numOf d = some k) : Lib.atoiAll d = .ok (k : Int) ∧ k ≤ 999999 ∧ Lib.itoa (k : Int) = d := by
  unfold numOf at h
  split at h
  · rename_i v hv
    split at h
    · rename_i hc
      injection h with h
      have : v = (k : Int) := by omega
      subst this
      exact ⟨hv, by omega, hc.2.2⟩
    · cases h
  · cases h
theorem bytes_eq {d : ByteArray} {l : List UInt8} (h : l = d.data.toList) : (⟨l.toArray⟩ : ByteArray) = d := by
  subst h
  cases d
  simp
theorem Itoa_at {r : Nat} {w0 w : World} (hP : Pow10 r w0) (hb : Below r w0 w) {k : Nat} (hk : k ≤ 999999) {d : ByteArray} (hd : Lib.itoa (k : Int) = d.data.toList) :
    Calls Tryd.prog 79 #[.int .i64 k] w fun e w' => e = .returned (.string d) ∧ Below w.heap.size w w' := by
  have h := Itoa_any (k : Int) (by omega) w (hP w hb)
  rw [bytes_eq hd] at h
  exact h
theorem Atoi_at {k : Nat} {d : ByteArray} (hd : Lib.atoiAll d.data.toList = .ok (k : Int)) (hs : d.size ≤ 300) (w : World) :
    Calls Tryd.prog 106 #[.string d] w fun e w' => e = .returned (.tuple #[.int .i64 k, .nilIface]) ∧ Below w.heap.size w w' := by
  refine (Tryd.strconv_Atoi_ok d (by omega) (k : Int) hd w).mono ?_
  rintro e w' ⟨he, hw | ⟨t, hw⟩⟩
  · subst hw; exact ⟨he, Below.refl _ _⟩
  · subst hw; exact ⟨he, Lib.bytesWorld_below _ _ _⟩
theorem extract_size (s : ByteArray) {a b : Nat} (h : b ≤ s.size) : (s.extract a b).size ≤ s.size := by
  rw [ByteArray.size_extract]; omega
theorem peekV_byte (s : ByteArray) (p : Nat) : 0 ≤ peekV s p ∧ peekV s p ≤ 255 := by
  unfold peekV
  have := (s.data.toList.getD p 0).toNat_lt
  omega
theorem byte_back (c : UInt8) : ((c.toNat : Int)).toNat.toUInt8 = c := by
  rw [Int.toNat_natCast]
  exact UInt8.toNat_inj.1 (by simp)
theorem idx_some {c : UInt8} {k : Nat} (h : opOf c = some k) : (2 ≤ k ∧ k ≤ 4) ∧ Lib.indexByte [43, 60, 61] c = ((k - 2 : Nat) : Int) := by
  unfold opOf at h
  split at h
  · rename_i e; injection h with h; subst e; subst h; exact ⟨by decide, rfl⟩
  split at h
  · rename_i e; injection h with h; subst e; subst h; exact ⟨by decide, rfl⟩
  split at h
  · rename_i e; injection h with h; subst e; subst h; exact ⟨by decide, rfl⟩
  · cases h
theorem idx_none {c : UInt8} (h : opOf c = none) : Lib.indexByte [43, 60, 61] c = -1 := by
  unfold opOf at h
  split at h
  · cases h
  split at h
  · cases h
  split at h
  · cases h
  · rename_i h1 h2 h3
    simp [Lib.indexByte, Ne.symm h1, Ne.symm h2, Ne.symm h3]
end Go.Proofs.YtdgncngkalgknaaDoor
