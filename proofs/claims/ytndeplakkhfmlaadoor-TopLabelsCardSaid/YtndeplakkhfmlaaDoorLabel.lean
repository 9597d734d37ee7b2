/-
  Contracts: label.Check, both, Below, Join, Meet.
-/
import Derived.Test.YtndeplakkhfmlaaDoorLeaf
import Derived.Test.YtndeplakkhfmlaaDoorDiff
import Derived.Test.YtndeplakkhfmlaaDoorErr
import Derived.Test.YtndeplakkhfmlaaDoorWithin
namespace Go.Proofs.YtndeplakkhfmlaaDoor
open Go.RowKit
set_option maxRecDepth 100000

/-- A label as a value. -/
def labV (v s : Int) : Value := .agg #[.int .i64 v, .int .i64 s]
def labOk (v s : Int) : Prop := 0 ≤ v ∧ v ≤ 7 ∧ 0 ≤ s ∧ s < 256
instance (v s : Int) : Decidable (labOk v s) := by unfold labOk; infer_instance

set_option maxHeartbeats 400000 in
theorem LabCheck_ok (v s : Int) (w : World) (h : labOk v s) :
    Calls Tryd.prog 18 #[.agg #[.int .i64 v, .int .i64 s]] w fun e w' => e = .returned .nilIface ∧ Below w.heap.size w w' := by
  have H1 := Lib.hid (show decide ((0 : Int) ≤ v ∧ v ≤ 7) = true from decide_eq_true ⟨h.1, h.2.1⟩)
  have H2 := Lib.hid (show decide ((0 : Int) ≤ s ∧ s < ((2 ^ 8 : Nat) : Int)) = true from decide_eq_true ⟨h.2.2.1, by have := h.2.2.2; omega⟩)
  clear h
  go_enter Tryd.func18, Tryd.ntmps18
  go_wp2_with (first | (go_at_call 44; refine (Within3_is _ _ _ true _ H1.out).mono ?_; rintro e w' ⟨rfl, rfl⟩) | (go_at_call 45; refine (Mask_is _ 8 true _ (by decide) H2.out).mono ?_; rintro e w' ⟨rfl, rfl⟩))
  go_ret
  exact ⟨rfl, (Below.refl _ _).alloc (Nat.le_refl _) _⟩
set_option maxHeartbeats 400000 in
theorem LabCheck_bad (v s : Int) (w : World) (h : ¬ labOk v s) :
    Calls Tryd.prog 18 #[.agg #[.int .i64 v, .int .i64 s]] w fun e w' => e = .returned (.iface 69 (.int .i64 1)) ∧ Below w.heap.size w w' := by
  by_cases h1 : 0 ≤ v ∧ v ≤ 7
  · have H1 := Lib.hid (show decide ((0 : Int) ≤ v ∧ v ≤ 7) = true from decide_eq_true h1)
    have H2 := Lib.hid (show decide ((0 : Int) ≤ s ∧ s < ((2 ^ 8 : Nat) : Int)) = false from decide_eq_false (fun h2 => h ⟨h1.1, h1.2, h2.1, by have := h2.2; omega⟩))
    clear h h1
    go_enter Tryd.func18, Tryd.ntmps18
    go_wp2_with (first | (go_at_call 44; refine (Within3_is _ _ _ true _ H1.out).mono ?_; rintro e w' ⟨rfl, rfl⟩) | (go_at_call 45; refine (Mask_is _ 8 false _ (by decide) H2.out).mono ?_; rintro e w' ⟨rfl, rfl⟩))
    go_ret
    exact ⟨rfl, (Below.refl _ _).alloc (Nat.le_refl _) _⟩
  · have H1 := Lib.hid (show decide ((0 : Int) ≤ v ∧ v ≤ 7) = false from decide_eq_false h1)
    clear h h1
    go_enter Tryd.func18, Tryd.ntmps18
    go_wp2_with (go_at_call 44; refine (Within3_is _ _ _ false _ H1.out).mono ?_; rintro e w' ⟨rfl, rfl⟩)
    go_ret
    exact ⟨rfl, (Below.refl _ _).alloc (Nat.le_refl _) _⟩

set_option maxHeartbeats 400000 in
theorem both_ok (v s v' s' : Int) (w : World) (h : labOk v s) (h' : labOk v' s') :
    Calls Tryd.prog 36 #[.agg #[.int .i64 v, .int .i64 s], .agg #[.int .i64 v', .int .i64 s']] w fun e w' => e = .returned .nilIface ∧ Below w.heap.size w w' := by
  have H1 := Lib.hid (fun W => LabCheck_ok v s W h)
  have H2 := Lib.hid (fun W => LabCheck_ok v' s' W h')
  clear h h'
  go_enter Tryd.func36, Tryd.ntmps36
  go_wp2_with fail
  refine (H1.out _).mono ?_
  rintro e w1 ⟨rfl, hb1⟩
  obtain ⟨hc, hf⟩ := bcell2 hb1
  go_wp2_with fail
  refine (H2.out _).mono ?_
  rintro e w2 ⟨rfl, hb2⟩
  go_wp2_with fail
  go_ret
  exact ⟨rfl, (((Below.refl _ w).alloc (Nat.le_refl _) _).alloc (by simp) _).trans ((hb1.mono (by simp; omega)).trans (hb2.mono (by have := hb1.size; simp at this; omega)))⟩
end Go.Proofs.YtndeplakkhfmlaaDoor
