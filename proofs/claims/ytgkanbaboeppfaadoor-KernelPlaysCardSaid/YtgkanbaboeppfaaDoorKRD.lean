/-
  Contracts: quietwingref5.Digits, line.
-/
import Derived.Test.YtgkanbaboeppfaaDoorBytesAdd
import Derived.Test.YtgkanbaboeppfaaDoorSaveA
namespace Go.Proofs.YtgkanbaboeppfaaDoor
open Go.RowKit
set_option maxRecDepth 100000
set_option linter.unusedVariables false

theorem digit_ext {v : Nat} (h : v < 10) : (⟨#[48, 49, 50, 51, 52, 53, 54, 55, 56, 57]⟩ : ByteArray).extract v (v + 1) = ⟨[UInt8.ofNat (48 + v)].toArray⟩ := by
  have : v = 0 ∨ v = 1 ∨ v = 2 ∨ v = 3 ∨ v = 4 ∨ v = 5 ∨ v = 6 ∨ v = 7 ∨ v = 8 ∨ v = 9 := by omega
  rcases this with rfl | rfl | rfl | rfl | rfl | rfl | rfl | rfl | rfl | rfl <;> rfl
theorem itoa_small {n : Nat} (h : n < 10) : Lib.itoa (n : Int) = [UInt8.ofNat (48 + n)] := by rw [Lib.itoa_nonneg, Lib.decDigits_one h]
theorem itoa_more {n : Nat} (h : ¬ n < 10) : Lib.itoa (n : Int) = Lib.itoa ((n / 10 : Nat) : Int) ++ Lib.itoa ((n % 10 : Nat) : Int) := by
  rw [Lib.itoa_nonneg, Lib.itoa_nonneg, Lib.itoa_nonneg, Lib.decDigits, dif_neg h, Lib.decDigits_one (i := n % 10) (by omega)]

set_option maxHeartbeats 4000000 in
theorem Digits_any (w : World) (n : Nat) (hn : n ≤ 9223372036854775807) : Calls Tryd.prog 32 #[.int .i64 n] w fun e w' => e = .returned (.string ⟨(Lib.itoa n).toArray⟩) ∧ w = w' := by
  induction n using Nat.strongRecOn with
  | ind n ih =>
    by_cases h10 : n < 10
    · have he := digit_ext h10
      have Hi := Lib.hid (itoa_small h10)
      have d1 : decide ((n : Int) < 10) = true := decide_eq_true (by omega)
      rw [Hi.out]
      clear ih
      go_enter Tryd.func32, Tryd.ntmps32
      go_wp2_with fail
      go_ret
      exact ⟨by show Ending.returned (Value.string ⟨#[48 + UInt8.ofNat n]⟩) = _; simp, rfl⟩
    · have d1 : decide ((n : Int) < 10) = false := decide_eq_false (by omega)
      have Hi := Lib.hid (itoa_more h10)
      have C1 := Lib.hid (ih (n / 10) (by omega) (by omega))
      have C2 := Lib.hid (ih (n % 10) (by omega) (by omega))
      have l1 := Lib.itoa_length_le ((n / 10 : Nat) : Int) (by omega) (by omega)
      have l2 := Lib.itoa_length_le ((n % 10 : Nat) : Int) (by omega) (by omega)
      have q1 : (n : Int).tdiv 10 = ((n / 10 : Nat) : Int) := by rw [Int.tdiv_eq_ediv_of_nonneg (by omega)]; rfl
      have q2 : (n : Int).tmod 10 = ((n % 10 : Nat) : Int) := by rw [Int.tmod_eq_emod_of_nonneg (by omega)]; rfl
      have hx1 : n / 10 ≤ 9223372036854775807 := by omega
      have hy1 : n % 10 ≤ 9223372036854775807 := by omega
      rw [Hi.out]
      clear ih Hi
      generalize n / 10 = x at *
      generalize n % 10 = y at *
      generalize Lib.itoa (x : Int) = t1 at *
      generalize Lib.itoa (y : Int) = t2 at *
      have hl : ¬ 9223372036854775807 < t1.length + t2.length := by omega
      go_enter Tryd.func32, Tryd.ntmps32
      go_wp2_with fail
      with_reducible refine C1.out.mono ?_
      rintro e w' ⟨rfl, rfl⟩
      go_wp2_with fail
      with_reducible refine C2.out.mono ?_
      rintro e w' ⟨rfl, rfl⟩
      go_wp2_with fail
      go_ret
      exact ⟨by rw [← bytes_add]; rfl, rfl⟩

/-- Numbers that are not negative. -/
theorem line_len {l : List Int} (h : ∀ x ∈ l, 0 ≤ x ∧ x ≤ 9223372036854775807) (k : Nat) : (wTo l k).length ≤ 22 * k := wTo_len (fun x hx => by have := h x hx; omega) k
set_option maxHeartbeats 4000000 in
theorem line_any {l : List Int} {A : Option Addr} {c : Nat} {w : World} (hA : IntsAt w A l) (hl : l.length ≤ 1000000) (h : ∀ x ∈ l, 0 ≤ x ∧ x ≤ 9223372036854775807) :
    Calls Tryd.prog 33 #[.slice A l.length c] w fun e w' => e = .returned (.string ⟨(wordsT l ++ [10]).toArray⟩) ∧ w = w' := by
  have Hw := Lib.hid (show wordsT l = wTo l l.length from rfl)
  have Hlen := Lib.hid (line_len h)
  have HA := Lib.hid hA
  rw [Hw.out]
  have Hget := Lib.hid (show ∀ k, k < l.length → ∃ (n : Nat) (b off : Nat), l.getD k 0 = (n : Int) ∧ n ≤ 9223372036854775807 ∧ A = some ⟨b, off, none⟩ ∧ w.cell? ⟨b, off + k, none⟩ = some (.int .i64 n) from fun k hk => by
    obtain ⟨g, off, x, e, hx, hc⟩ := hA.at_ hk
    have hm := List.mem_of_getElem? hx.out
    obtain ⟨n, rfl⟩ := Int.eq_ofNat_of_zero_le (h x hm).1
    exact ⟨n, g, off, by rw [List.getD_eq_getElem?_getD, hx.out]; rfl, by have := (h _ hm).2; omega, e, hc⟩)
  clear Hw hA h
  generalize hm : l.length = m at *
  clear hm
  go_enter Tryd.func33, Tryd.ntmps33
  go_wp2_with fail
  go_loopw [3, 4] (fun t i wr => ∃ k : Nat, k ≤ m ∧ i = .int .i64 k ∧ t = .string ⟨(wTo l k).toArray⟩ ∧ wr = w) (fun _ i _ => m - (intOf i).toNat)
  case atStart => exact ⟨0, Nat.zero_le _, rfl, rfl, rfl⟩
  case round =>
    obtain ⟨k, hk, rfl, rfl, hwr⟩ := hrel
    have hwr2 : w = wr := hwr.symm
    clear hwr
    subst hwr2
    by_cases hlt : k < m
    · obtain ⟨n, b, off, hn, hnb, rfl, hc⟩ := Hget.out k hlt
      have C1 := Lib.hid (Digits_any w n hnb)
      have htl := Hlen.out k
      have hi := Lib.itoa_length_le (n : Int) (by omega) (by omega)
      have Hst := Lib.hid (show wTo l (k + 1) = wTo l k ++ ((if 0 < k then [32] else []) ++ Lib.itoa n) by rw [wTo, hn])
      generalize hit : Lib.itoa (n : Int) = it at *
      clear hit hn
      rcases Nat.eq_zero_or_pos k with hk0 | hk0
      · have dg : decide ((k : Int) > 0) = false := by subst hk0; rfl
        have dg2 : decide (0 < k) = false := by subst hk0; rfl
        have Hst2 := Lib.hid (show wTo l (k + 1) = wTo l k ++ it by rw [Hst.out, if_neg (by omega)]; rfl)
        generalize wTo l k = tx at *
        have hlen : ¬ 9223372036854775807 < tx.length + it.length := by omega
        clear hk0 Hst
        go_wp2_with fail
        refine C1.out.mono ?_
        rintro e w' ⟨rfl, rfl⟩
        go_wp2_with fail
        refine ⟨⟨k + 1, ?ya, ?yb, ?yc, trivial⟩, ?yd⟩
        case ya => omega
        case yb => go_num
        case yc => rw [Hst2.out, ← bytes_add]
        case yd => simp [intOf]; omega
      · have dg : decide ((k : Int) > 0) = true := by simp; omega
        have dg2 : decide (0 < k) = true := by simp; omega
        have Hst2 := Lib.hid (show wTo l (k + 1) = (wTo l k ++ [32]) ++ it by rw [Hst.out, if_pos hk0, List.append_assoc])
        generalize wTo l k = tx at *
        have hlen : ¬ 9223372036854775807 < tx.length + 1 + it.length := by omega
        have hlen2 : ¬ 9223372036854775807 < tx.length + 1 := by omega
        clear hk0 Hst
        go_wp2_with fail
        refine C1.out.mono ?_
        rintro e w' ⟨rfl, rfl⟩
        go_wp2_with fail
        refine ⟨⟨k + 1, ?za, ?zb, ?zc, trivial⟩, ?zd⟩
        case za => omega
        case zb => go_num
        case zc => rw [Hst2.out, ← bytes_add, ← bytes_add]
        case zd => simp [intOf]; omega
    · obtain rfl : k = m := by omega
      have htl := Hlen.out k
      obtain ⟨tx, htx⟩ : ∃ tx, wTo l k = tx := ⟨_, rfl⟩
      have Htx := Lib.hid htx
      rw [htx] at htl ⊢
      clear htx
      have hlen : ¬ 9223372036854775807 < tx.length + 1 := by omega
      go_wp2_with fail
      go_ret
      exact ⟨by rw [Htx.out, ← bytes_add]; rfl, rfl⟩
end Go.Proofs.YtgkanbaboeppfaaDoor
