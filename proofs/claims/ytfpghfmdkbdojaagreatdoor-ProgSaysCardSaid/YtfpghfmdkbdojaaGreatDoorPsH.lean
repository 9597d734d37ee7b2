/-
  The document's digits; plain words on a number's text.
-/
import Derived.Test.YtfpghfmdkbdojaaGreatDoorDigN
import Derived.Test.YtfpghfmdkbdojaaGreatDoorTxM
namespace Go.Proofs.YtfpghfmdkbdojaaGreatDoor
open Go.RowKit
set_option maxRecDepth 100000
set_option linter.unusedVariables false

set_option maxHeartbeats 4000000 in
theorem RDig_any (w : World) (n : Nat) (hn : n ≤ 9223372036854775807) : Calls Tryz.prog 19 #[.int .i64 n] w fun e w' => e = .returned (.string ⟨(Lib.itoa n).toArray⟩) ∧ w = w' := by
  induction n using Nat.strongRecOn with
  | ind n ih =>
    by_cases h10 : n < 10
    · have he := digit_ext h10
      have Hi := Lib.hid (itoa_small h10)
      have d1 : decide ((n : Int) < 10) = true := decide_eq_true (by omega)
      rw [Hi.out]
      clear ih
      go_enter Tryz.func19, Tryz.ntmps19
      go_wp2_with fail
      go_ret
      exact ⟨by show Ending.returned (Value.string ⟨#[48 + UInt8.ofNat n]⟩) = _; simp, rfl⟩
    · have d1 : decide ((n : Int) < 10) = false := decide_eq_false (by omega)
      have Hi := Lib.hid (itoa_more h10)
      have C1 := Lib.hid (ih (n / 10) (by omega) (by omega))
      have C2 := Lib.hid (ih (n % 10) (by omega) (by omega))
      have l1 := Lib.itoa_length_le ((n / 10 : Nat) : Int) (by omega) (by omega)
      have l2 := Lib.itoa_length_le ((n % 10 : Nat) : Int) (by omega) (by omega)
      have q1 : (n : Int).tdiv 10 = ((n / 10 : Nat) : Int) := by rw [Int.tdiv_eq_ediv_of_nonneg (by omega)]; rfl
      have q2 : (n : Int).tmod 10 = ((n % 10 : Nat) : Int) := by rw [Int.tmod_eq_emod_of_nonneg (by omega)]; rfl
      have hx1 : n / 10 ≤ 9223372036854775807 := by omega
      have hy1 : n % 10 ≤ 9223372036854775807 := by omega
      rw [Hi.out]
      clear ih Hi
      generalize n / 10 = x at *
      generalize n % 10 = y at *
      generalize Lib.itoa (x : Int) = t1 at *
      generalize Lib.itoa (y : Int) = t2 at *
      have hl : ¬ 9223372036854775807 < t1.length + t2.length := by omega
      go_enter Tryz.func19, Tryz.ntmps19
      go_wp2_with fail
      with_reducible refine C1.out.mono ?_
      rintro e w' ⟨rfl, rfl⟩
      go_wp2_with fail
      with_reducible refine C2.out.mono ?_
      rintro e w' ⟨rfl, rfl⟩
      go_wp2_with fail
      go_ret
      exact ⟨by rw [← bytes_add]; rfl, rfl⟩

/-- What digits spell. -/
def decV (l : List UInt8) : Nat := l.foldl (fun a c => a * 10 + (c.toNat - 48)) 0
theorem decV_snoc (l : List UInt8) (c : UInt8) : decV (l ++ [c]) = decV l * 10 + (c.toNat - 48) := by unfold decV; rw [List.foldl_append]; rfl
theorem decV_lt (l : List UInt8) (h : ∀ c ∈ l, isDig c = true) : decV l < 10 ^ l.length := by
  obtain ⟨n, hn⟩ : ∃ n, l.length = n := ⟨_, rfl⟩
  induction n generalizing l with
  | zero => obtain rfl := List.length_eq_zero_iff.1 hn; decide
  | succ n ih =>
    rcases List.eq_nil_or_concat l with rfl | ⟨r, c, rfl⟩
    · cases hn
    · rw [List.concat_eq_append] at *
      have h1 := ih r (fun x hx => h x (List.mem_append_left _ hx)) (by simpa using hn)
      have h2 := h c (by simp)
      unfold isDig at h2
      have h2 := of_decide_eq_true h2
      rw [decV_snoc, hn, Nat.pow_succ]
      rw [show r.length = n by simpa using hn] at h1
      omega
theorem decV_dec (n : Nat) : decV (Lib.decDigits n) = n := by
  induction n using Nat.strongRecOn with
  | _ n ih =>
    rw [Lib.decDigits]
    by_cases h : n < 10
    · rw [dif_pos h]
      show 0 * 10 + ((UInt8.ofNat (48 + n)).toNat - 48) = n
      rw [dig_toNat h]; omega
    · rw [dif_neg h, decV_snoc, ih _ (by omega), dig_toNat (by omega)]; omega
theorem dec_len : ∀ (k n : Nat), 1 ≤ k → n < 10 ^ k → (Lib.decDigits n).length ≤ k
  | 0, n, h, _ => by omega
  | k + 1, n, _, h => by
    rw [Lib.decDigits]
    by_cases h1 : n < 10
    · rw [dif_pos h1]; simp
    · rw [dif_neg h1, List.length_append]
      have hk : 1 ≤ k := by
        rcases Nat.eq_zero_or_pos k with rfl | h2
        · simp at h; omega
        · exact h2
      have := dec_len k (n / 10) hk (by rw [Nat.pow_succ] at h; omega)
      simp; omega
theorem itoa6 {n : Nat} (h : n ≤ 999999) : (Lib.itoa (n : Int)).length ≤ 6 := by
  rw [Lib.itoa_nonneg]; exact dec_len 6 n (by decide) (by omega)
theorem decV_itoa (n : Nat) : decV (Lib.itoa (n : Int)) = n := by rw [Lib.itoa_nonneg]; exact decV_dec n
theorem itoa_ne (n : Nat) : Lib.itoa (n : Int) ≠ [] := by
  rw [Lib.itoa_nonneg]
  obtain ⟨c, r, h⟩ := dec_cons n
  rw [h]; exact List.cons_ne_nil _ _
/-- Digits that were gone through, seven at most; what numOf makes of all that stand there. -/
theorem num_ok {l : List UInt8} {k : Nat} (hd : ∀ c ∈ l.take k, isDig c = true) (hk : k ≤ 7) (hkl : k ≤ l.length) (he : k = 7 ∨ NoDig (l.drop k)) (hv : decV (l.take k) ≤ 999999) (ht : Lib.itoa (decV (l.take k) : Int) = l.take k) :
    numOf (l.takeWhile isDig) = some (decV (l.take k)) ∧ l.dropWhile isDig = l.drop k := by
  have h6 := itoa6 hv
  rw [ht, List.length_take, Nat.min_eq_left hkl] at h6
  have hn : NoDig (l.drop k) := he.resolve_left (by omega)
  obtain ⟨h1, h2⟩ := take_digs (l.take k) (l.drop k) hd hn
  rw [List.take_append_drop] at h1 h2
  exact ⟨by rw [h1, ← ht, numOf_dec hv, ht], h2⟩
theorem num_bad {l : List UInt8} {k : Nat} (hd : ∀ c ∈ l.take k, isDig c = true) (hk : k ≤ 7) (hkl : k ≤ l.length) (he : k = 7 ∨ NoDig (l.drop k)) (hb : k = 0 ∨ 999999 < decV (l.take k) ∨ Lib.itoa (decV (l.take k) : Int) ≠ l.take k) :
    numOf (l.takeWhile isDig) = none := by
  cases hn : numOf (l.takeWhile isDig) with
  | none => rfl
  | some n =>
    exfalso
    obtain ⟨h1, h2⟩ := numOf_of hn
    have h6 := itoa6 h2
    rw [← h1] at h6
    have hkt : l.takeWhile isDig = l.take k := by
      have h3 : l = l.take k ++ l.drop k := (List.take_append_drop k l).symm
      rcases he with rfl | he
      · exfalso
        have h4 : (l.take 7).length ≤ (l.takeWhile isDig).length := by
          have : ∀ (m : Nat) (l : List UInt8), (∀ c ∈ l.take m, isDig c = true) → (l.take m).length ≤ (l.takeWhile isDig).length := by
            intro m
            induction m with
            | zero => intro l _; simp
            | succ m ih =>
              intro l hl
              cases l with
              | nil => simp
              | cons c r =>
                rw [List.take_succ_cons] at hl ⊢
                rw [List.takeWhile_cons, if_pos (hl c (List.mem_cons_self ..))]
                have := ih r (fun x hx => hl x (List.mem_cons_of_mem _ hx))
                simp only [List.length_cons]
                omega
          exact this 7 l hd
        rw [List.length_take, Nat.min_eq_left hkl] at h4
        omega
      · have := (take_digs (l.take k) (l.drop k) hd he).1
        rwa [List.take_append_drop] at this
    rw [hkt] at h1
    have hv : decV (l.take k) = n := by rw [h1]; exact decV_itoa n
    rcases hb with rfl | hb | hb
    · rw [List.take_zero] at h1; exact itoa_ne n h1.symm
    · omega
    · exact hb (by rw [hv, ← h1])
end Go.Proofs.YtfpghfmdkbdojaaGreatDoor
