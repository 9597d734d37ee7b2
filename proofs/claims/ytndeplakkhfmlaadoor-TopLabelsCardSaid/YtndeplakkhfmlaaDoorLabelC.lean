/-
  Contracts: label.both, Below.
-/
import Derived.Test.YtndeplakkhfmlaaDoorLabel
namespace Go.Proofs.YtndeplakkhfmlaaDoor
open Go.RowKit
set_option maxRecDepth 100000

set_option maxHeartbeats 400000 in
theorem both_bad (v s v' s' : Int) (w : World) (h : ¬ (labOk v s ∧ labOk v' s')) :
    Calls Tryd.prog 36 #[.agg #[.int .i64 v, .int .i64 s], .agg #[.int .i64 v', .int .i64 s']] w fun e w' => e = .returned (.iface 69 (.int .i64 1)) ∧ Below w.heap.size w w' := by
  by_cases h1 : labOk v s
  · have H1 := Lib.hid (fun W => LabCheck_ok v s W h1)
    have H2 := Lib.hid (fun W => LabCheck_bad v' s' W (fun h2 => h ⟨h1, h2⟩))
    clear h h1
    go_enter Tryd.func36, Tryd.ntmps36
    go_wp2_with fail
    refine (H1.out _).mono ?_
    rintro e w1 ⟨rfl, hb1⟩
    obtain ⟨hc, hf⟩ := bcell2 hb1
    go_wp2_with fail
    refine (H2.out _).mono ?_
    rintro e w2 ⟨rfl, hb2⟩
    go_wp2_with fail
    go_ret
    exact ⟨rfl, (((Below.refl _ w).alloc (Nat.le_refl _) _).alloc (by simp) _).trans ((hb1.mono (by simp; omega)).trans (hb2.mono (by have := hb1.size; simp at this; omega)))⟩
  · have H1 := Lib.hid (fun W => LabCheck_bad v s W h1)
    clear h h1
    go_enter Tryd.func36, Tryd.ntmps36
    go_wp2_with fail
    refine (H1.out _).mono ?_
    rintro e w1 ⟨rfl, hb1⟩
    go_wp2_with fail
    go_ret
    exact ⟨rfl, (((Below.refl _ w).alloc (Nat.le_refl _) _).alloc (by simp) _).trans (hb1.mono (by simp; omega))⟩

set_option maxHeartbeats 400000 in
theorem Below_ok (v v' : Int) (s s' : Nat) (w : World) (h : labOk v s) (h' : labOk v' s') :
    Calls Tryd.prog 7 #[.agg #[.int .i64 v, .int .i64 s], .agg #[.int .i64 v', .int .i64 s']] w fun e w' => e = .returned (.tuple #[.bool (decide (v ≤ v') && within s s'), .nilIface]) ∧ Below w.heap.size w w' := by
  have H1 := Lib.hid (fun W => both_ok v s v' s' W h h')
  have hs : s < 2 ^ 62 := by have := h.2.2.2; omega
  have hs' : s' < 2 ^ 62 := by have := h'.2.2.2; omega
  have hd := bits_andNot_nat s s' hs hs'
  have Hz := Lib.hid (diff_zero s s')
  generalize within s s' = b at *
  generalize diff s s' = d at *
  clear h h'
  by_cases hv : v ≤ v'
  · go_enter Tryd.func7, Tryd.ntmps7
    go_wp2_with fail
    refine (H1.out _).mono ?_
    rintro e w1 ⟨rfl, hb1⟩
    obtain ⟨hc, hf⟩ := bcell2 hb1
    go_wp2_with fail
    go_ret2
    refine ⟨?_, (((Below.refl _ w).alloc (Nat.le_refl _) _).alloc (by simp) _).trans (hb1.mono (by simp; omega))⟩
    have e : ((d : Int) == 0) = b := by rw [← Hz.out, Bool.eq_iff_iff, beq_iff_eq, beq_iff_eq]; omega
    simp [hv, ← e]
  · go_enter Tryd.func7, Tryd.ntmps7
    go_wp2_with fail
    refine (H1.out _).mono ?_
    rintro e w1 ⟨rfl, hb1⟩
    obtain ⟨hc, hf⟩ := bcell2 hb1
    go_wp2_with fail
    go_ret2
    refine ⟨?_, (((Below.refl _ w).alloc (Nat.le_refl _) _).alloc (by simp) _).trans (hb1.mono (by simp; omega))⟩
    have e : decide (v ≤ v') = false := by simpa using hv
    rw [e]; rfl
set_option maxHeartbeats 400000 in
theorem Below_bad (v s v' s' : Int) (w : World) (h : ¬ (labOk v s ∧ labOk v' s')) :
    Calls Tryd.prog 7 #[.agg #[.int .i64 v, .int .i64 s], .agg #[.int .i64 v', .int .i64 s']] w fun e w' => e = .returned (.tuple #[.bool false, .iface 69 (.int .i64 1)]) ∧ Below w.heap.size w w' := by
  have H1 := Lib.hid (fun W => both_bad v s v' s' W h)
  clear h
  go_enter Tryd.func7, Tryd.ntmps7
  go_wp2_with fail
  refine (H1.out _).mono ?_
  rintro e w1 ⟨rfl, hb1⟩
  go_wp2_with fail
  go_ret2
  exact ⟨rfl, (((Below.refl _ w).alloc (Nat.le_refl _) _).alloc (by simp) _).trans (hb1.mono (by simp; omega))⟩

end Go.Proofs.YtndeplakkhfmlaaDoor
