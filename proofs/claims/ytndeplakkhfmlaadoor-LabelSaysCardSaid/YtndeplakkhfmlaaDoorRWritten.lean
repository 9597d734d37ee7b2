/-
  Contract: quietwingref1.Written.
-/
import Derived.Test.YtndeplakkhfmlaaDoorWrite
import Derived.Test.YtndeplakkhfmlaaDoorLeafN
import Derived.Test.YtndeplakkhfmlaaDoorBox
namespace Go.Proofs.YtndeplakkhfmlaaDoor
open Go.RowKit
set_option maxRecDepth 100000
set_option linter.unusedVariables false

/-- The text of a label with the sets below k alone. -/
def wText (v s k : Nat) : List UInt8 := UInt8.ofNat (48 + v) :: ((List.range k).filter fun i => s.testBit i).map fun i => UInt8.ofNat (97 + i)
theorem wText_all {v s : Nat} (hs : s < 2 ^ 8) : wText v s 8 = labText v s := by
  unfold wText labText bitsOf
  rw [show List.range 64 = List.range 8 ++ (List.range 56).map (8 + ·) from by decide, List.filter_append]
  rw [show ((List.range 56).map (8 + ·)).filter (fun i => s.testBit i) = [] from by
    rw [List.filter_eq_nil_iff]
    intro x hx
    obtain ⟨y, _, rfl⟩ := List.mem_map.1 hx
    rw [Nat.testBit_lt_two_pow (Nat.lt_of_lt_of_le hs (Nat.pow_le_pow_right (by decide) (by omega)))]
    decide]
  rw [List.append_nil]
theorem wText_skip {v s k : Nat} (h : s.testBit k = false) : wText v s (k + 1) = wText v s k := by
  unfold wText; rw [List.range_succ, List.filter_append]; simp [h]
theorem wText_add {v s k : Nat} (h : s.testBit k = true) : wText v s (k + 1) = wText v s k ++ [UInt8.ofNat (97 + k)] := by
  unfold wText; rw [List.range_succ, List.filter_append]; simp [h]

theorem wText_len (v s k : Nat) : (wText v s k).length ≤ k + 1 := by
  unfold wText
  rw [List.length_cons, List.length_map]
  have := List.length_filter_le (fun i => s.testBit i) (List.range k)
  rw [List.length_range] at this
  omega
theorem dig_ext {v : Nat} (h : v < 8) : (⟨#[48, 49, 50, 51, 52, 53, 54, 55]⟩ : ByteArray).extract v (v + 1) = ⟨[UInt8.ofNat (48 + v)].toArray⟩ := by
  have : v = 0 ∨ v = 1 ∨ v = 2 ∨ v = 3 ∨ v = 4 ∨ v = 5 ∨ v = 6 ∨ v = 7 := by omega
  rcases this with rfl | rfl | rfl | rfl | rfl | rfl | rfl | rfl <;> rfl
theorem let_ext {v : Nat} (h : v < 8) : (⟨#[97, 98, 99, 100, 101, 102, 103, 104]⟩ : ByteArray).extract v (v + 1) = ⟨[UInt8.ofNat (97 + v)].toArray⟩ := by
  have : v = 0 ∨ v = 1 ∨ v = 2 ∨ v = 3 ∨ v = 4 ∨ v = 5 ∨ v = 6 ∨ v = 7 := by omega
  rcases this with rfl | rfl | rfl | rfl | rfl | rfl | rfl | rfl <;> rfl
theorem bytes_add (a b : List UInt8) : (⟨a.toArray⟩ : ByteArray) ++ ⟨b.toArray⟩ = ⟨(a ++ b).toArray⟩ := by
  apply ByteArray.ext
  simp

set_option maxHeartbeats 4000000 in
theorem RWritten_any (v s : Nat) (w : World) (hv : v < 8) (hs : s < 2 ^ 8) :
    Calls Tryd.prog 19 #[.agg #[.int .i64 v, .int .i64 s]] w fun e w' => e = .returned (.string ⟨(labText v s).toArray⟩) ∧ Below w.heap.size w w' := by
  have hbx := BoxN.new w 28 #[.int .i64 v, .int .i64 s]
  have hb0 := (Below.refl w.heap.size w).alloc (Nat.le_refl _) (.cells #[.int .i64 v, .int .i64 s] 28)
  have y0 := hbx.cell (k := 0) rfl
  have y1 := hbx.cell (k := 1) rfl
  have Hall := Lib.hid (wText_all (v := v) hs)
  rw [← Hall.out]
  clear hbx
  go_enter Tryd.func19, Tryd.ntmps19
  go_wp2_with fail
  go_loopw [3, 4] (fun t i wr => ∃ k : Nat, k ≤ 8 ∧ i = .int .i64 k ∧ t = .string ⟨(wText v s k).toArray⟩ ∧ wr = w.alloc (.cells #[.int .i64 v, .int .i64 s] 28)) (fun _ i _ => 8 - (intOf i).toNat)
  case atStart => exact ⟨0, Nat.zero_le _, rfl, by rw [dig_ext hv]; rfl, rfl⟩
  case round =>
    obtain ⟨k, hk, rfl, rfl, rfl⟩ := hrel
    by_cases hk8 : k < 8
    · cases hbit : s.testBit k with
      | false =>
        have B1 := Lib.hid (fun V => Bit_is s k false V (by omega) (by omega) hbit)
        have Hs := Lib.hid (wText_skip (v := v) hbit)
        clear hbit
        go_wp2_with (go_at_call 28; with_reducible refine (B1.out _).mono ?_; rintro e w' ⟨rfl, rfl⟩)
        refine ⟨⟨k + 1, ?ya, ?yb, ?yc, trivial⟩, ?yd⟩
        case ya => omega
        case yb => go_num
        case yc => rw [Hs.out]
        case yd => simp [intOf]; omega
      | true =>
        have B1 := Lib.hid (fun V => Bit_is s k true V (by omega) (by omega) hbit)
        have Hs := Lib.hid (wText_add (v := v) hbit)
        clear hbit
        have htl : ¬ 9223372036854775807 < (wText v s k).length + (min (k + 1) 8 - k) := by have := wText_len v s k; omega
        generalize wText v s k = txt at *
        go_wp2_with (go_at_call 28; with_reducible refine (B1.out _).mono ?_; rintro e w' ⟨rfl, rfl⟩)
        refine ⟨⟨k + 1, ?ya, ?yb, ?yc, trivial⟩, ?yd⟩
        case ya => omega
        case yb => go_num
        case yc => rw [Hs.out, ← bytes_add, let_ext hk8]
        case yd => simp [intOf]; omega
    · obtain rfl : k = 8 := by omega
      go_wp2_with fail
      go_ret
      exact ⟨rfl, hb0⟩
end Go.Proofs.YtndeplakkhfmlaaDoor
