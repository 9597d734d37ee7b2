/-
  Contracts of the reference: Label, Below.
-/
import Derived.Test.YtncokblinocgaaaGreatDoorRMask
import Derived.Test.YtncokblinocgaaaGreatDoorRin
import Derived.Test.YtncokblinocgaaaGreatDoorLeafW
import Derived.Test.YtncokblinocgaaaGreatDoorBaseA
namespace Go.Proofs.YtncokblinocgaaaGreatDoor
open Go.RowKit
set_option maxRecDepth 100000
set_option linter.unusedVariables false

theorem RLabel_any (v s : Int) (w : World) {r : Nat} (hr : (if labOk v s then 0 else 1) = r) :
    Calls Tryz.prog 123 #[.agg #[.int .i64 v, .int .i64 s]] w fun e w' => e = .returned (.int .i64 r) ∧ Below w.heap.size w w' := by
  by_cases h1 : 0 ≤ v ∧ v ≤ 7
  · have C1 := Lib.hid (fun V => Rin_is v 0 7 true V (by simp; omega))
    by_cases h2 : 0 ≤ s ∧ s < 256
    · have C2 := Lib.hid (fun V => RMask_is s 8 true V (by decide) (decide_eq_true ⟨h2.1, by have := h2.2; omega⟩))
      rw [if_pos ⟨h1.1, h1.2, h2.1, h2.2⟩] at hr
      subst hr
      clear h1 h2
      go_enter Tryz.func123, Tryz.ntmps123
      go_wp2_with (first | (go_at_call 152; with_reducible refine (C1.out _).mono ?_; rintro e w' ⟨rfl, rfl⟩) | (go_at_call 153; refine (C2.out _).mono ?_; rintro e w' ⟨rfl, rfl⟩))
      go_ret
      exact ⟨ret_int (by simp), (Below.refl _ _).alloc (Nat.le_refl _) _⟩
    · have C2 := Lib.hid (fun V => RMask_is s 8 false V (by decide) (decide_eq_false fun e => h2 ⟨e.1, by have := e.2; omega⟩))
      rw [if_neg (fun e => h2 ⟨e.2.2.1, e.2.2.2⟩)] at hr
      subst hr
      clear h1 h2
      go_enter Tryz.func123, Tryz.ntmps123
      go_wp2_with (first | (go_at_call 152; with_reducible refine (C1.out _).mono ?_; rintro e w' ⟨rfl, rfl⟩) | (go_at_call 153; refine (C2.out _).mono ?_; rintro e w' ⟨rfl, rfl⟩))
      go_ret
      exact ⟨ret_int (by simp), (Below.refl _ _).alloc (Nat.le_refl _) _⟩
  · have C1 := Lib.hid (fun V => Rin_is v 0 7 false V (by simp; omega))
    rw [if_neg (fun e => h1 ⟨e.1, e.2.1⟩)] at hr
    subst hr
    clear h1
    go_enter Tryz.func123, Tryz.ntmps123
    go_wp2_with (go_at_call 152; with_reducible refine (C1.out _).mono ?_; rintro e w' ⟨rfl, rfl⟩)
    go_ret
    exact ⟨rfl, (Below.refl _ _).alloc (Nat.le_refl _) _⟩

theorem RBelow_any (v v' : Int) (s s' : Int) (hs : 0 ≤ s ∧ s < 256) (hs' : 0 ≤ s' ∧ s' < 256) (w : World) {r : Bool} (hr : (decide (v ≤ v') && within s.toNat s'.toNat) = r) :
    Calls Tryz.prog 154 #[.agg #[.int .i64 v, .int .i64 s], .agg #[.int .i64 v', .int .i64 s']] w fun e w' => e = .returned (.bool r) ∧ Below w.heap.size w w' := by
  obtain ⟨sn, rfl⟩ := Int.eq_ofNat_of_zero_le hs.1
  obtain ⟨sn', rfl⟩ := Int.eq_ofNat_of_zero_le hs'.1
  simp only [Int.toNat_natCast] at hr
  by_cases hv : v ≤ v'
  · have Hw := Lib.hid (fun V => Within_is sn sn' r V (by omega) (by omega) (by rw [← hr]; simp [hv]))
    have d : decide (v ≤ v') = true := by simpa using hv
    clear hr hs hs'
    go_enter Tryz.func154, Tryz.ntmps154
    go_wp2_with (go_at_call 172; with_reducible refine (Hw.out _).mono ?_; rintro e w' ⟨rfl, rfl⟩)
    go_ret
    exact ⟨rfl, ((Below.refl _ _).alloc (Nat.le_refl _) _).alloc (by simp) _⟩
  · have d : decide (v ≤ v') = false := by simpa using hv
    obtain rfl : r = false := by rw [← hr, d]; rfl
    clear hr hs hs'
    go_enter Tryz.func154, Tryz.ntmps154
    go_wp2_with fail
    go_ret
    exact ⟨rfl, ((Below.refl _ _).alloc (Nat.le_refl _) _).alloc (by simp) _⟩
end Go.Proofs.YtncokblinocgaaaGreatDoor
