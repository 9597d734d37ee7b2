/-
  Contracts: label.Join, Meet.
-/
import Derived.Test.YtndeplakkhfmlaaDoorLabelC
namespace Go.Proofs.YtndeplakkhfmlaaDoor
open Go.RowKit
set_option maxRecDepth 100000

set_option maxHeartbeats 400000 in
theorem Join_ok (v v' : Int) (s s' : Nat) (w : World) (h : labOk v s) (h' : labOk v' s') :
    Calls Tryd.prog 12 #[.agg #[.int .i64 v, .int .i64 s], .agg #[.int .i64 v', .int .i64 s']] w fun e w' => e = .returned (.tuple #[.agg #[.int .i64 (max v v'), .int .i64 ((s ||| s' : Nat) : Int)], .nilIface]) ∧ Below w.heap.size w w' := by
  have H1 := Lib.hid (fun W => both_ok v s v' s' W h h')
  have hs : s < 2 ^ 62 := by have := h.2.2.2; omega
  have hs' : s' < 2 ^ 62 := by have := h'.2.2.2; omega
  have hd := bits_or_nat s s' hs hs'
  generalize s ||| s' = d at *
  clear h h'
  go_enter Tryd.func12, Tryd.ntmps12
  go_wp2_with fail
  refine (H1.out _).mono ?_
  rintro e w1 ⟨rfl, hb1⟩
  obtain ⟨hc, hf⟩ := bcell2 hb1
  have hz := hb1.size
  simp at hz
  go_wp2_with fail
  all_goals
    refine bodyPost_ret (v := .tuple #[.agg #[.int .i64 (max v v'), .int .i64 d], .nilIface]) (by simp [results, Tryd.f12, go_sem, hc]; omega) rfl ⟨rfl, ?_⟩
    exact ((((((Below.refl _ w).alloc (Nat.le_refl _) _).alloc (by simp) _).alloc (by simp; omega) _).trans (hb1.mono (by simp; omega))).setCell (p := ⟨w.heap.size + 1 + 1, 0, none⟩) (by simp; omega) _).setCell (p := ⟨w.heap.size + 1 + 1, 1, none⟩) (by simp; omega) _
set_option maxHeartbeats 400000 in
theorem Join_bad (v s v' s' : Int) (w : World) (h : ¬ (labOk v s ∧ labOk v' s')) :
    Calls Tryd.prog 12 #[.agg #[.int .i64 v, .int .i64 s], .agg #[.int .i64 v', .int .i64 s']] w fun e w' => e = .returned (.tuple #[.agg #[.int .i64 0, .int .i64 0], .iface 69 (.int .i64 1)]) ∧ Below w.heap.size w w' := by
  have H1 := Lib.hid (fun W => both_bad v s v' s' W h)
  clear h
  go_enter Tryd.func12, Tryd.ntmps12
  go_wp2_with fail
  refine (H1.out _).mono ?_
  rintro e w1 ⟨rfl, hb1⟩
  obtain ⟨hc, hf⟩ := bcell2 hb1
  have hz := hb1.size
  simp at hz
  go_wp2_with fail
  refine bodyPost_ret (v := .tuple #[.agg #[.int .i64 0, .int .i64 0], .iface 69 (.int .i64 1)]) (by simp [results, Tryd.f12, go_sem, hc]) rfl ⟨rfl, ?_⟩
  exact ((((((Below.refl _ w).alloc (Nat.le_refl _) _).alloc (by simp) _).alloc (by simp; omega) _).trans (hb1.mono (by simp; omega))).setCell (p := ⟨w.heap.size + 1 + 1, 0, none⟩) (by simp; omega) _).setCell (p := ⟨w.heap.size + 1 + 1, 1, none⟩) (by simp; omega) _

set_option maxHeartbeats 400000 in
theorem Meet_ok (v v' : Int) (s s' : Nat) (w : World) (h : labOk v s) (h' : labOk v' s') :
    Calls Tryd.prog 13 #[.agg #[.int .i64 v, .int .i64 s], .agg #[.int .i64 v', .int .i64 s']] w fun e w' => e = .returned (.tuple #[.agg #[.int .i64 (min v v'), .int .i64 ((s &&& s' : Nat) : Int)], .nilIface]) ∧ Below w.heap.size w w' := by
  have H1 := Lib.hid (fun W => both_ok v s v' s' W h h')
  have hs : s < 2 ^ 62 := by have := h.2.2.2; omega
  have hs' : s' < 2 ^ 62 := by have := h'.2.2.2; omega
  have hd := bits_and_nat s s' hs hs'
  generalize s &&& s' = d at *
  clear h h'
  go_enter Tryd.func13, Tryd.ntmps13
  go_wp2_with fail
  refine (H1.out _).mono ?_
  rintro e w1 ⟨rfl, hb1⟩
  obtain ⟨hc, hf⟩ := bcell2 hb1
  have hz := hb1.size
  simp at hz
  go_wp2_with fail
  all_goals
    refine bodyPost_ret (v := .tuple #[.agg #[.int .i64 (min v v'), .int .i64 d], .nilIface]) (by simp [results, Tryd.f13, go_sem, hc]; omega) rfl ⟨rfl, ?_⟩
    exact ((((((Below.refl _ w).alloc (Nat.le_refl _) _).alloc (by simp) _).alloc (by simp; omega) _).trans (hb1.mono (by simp; omega))).setCell (p := ⟨w.heap.size + 1 + 1, 0, none⟩) (by simp; omega) _).setCell (p := ⟨w.heap.size + 1 + 1, 1, none⟩) (by simp; omega) _
set_option maxHeartbeats 400000 in
theorem Meet_bad (v s v' s' : Int) (w : World) (h : ¬ (labOk v s ∧ labOk v' s')) :
    Calls Tryd.prog 13 #[.agg #[.int .i64 v, .int .i64 s], .agg #[.int .i64 v', .int .i64 s']] w fun e w' => e = .returned (.tuple #[.agg #[.int .i64 0, .int .i64 0], .iface 69 (.int .i64 1)]) ∧ Below w.heap.size w w' := by
  have H1 := Lib.hid (fun W => both_bad v s v' s' W h)
  clear h
  go_enter Tryd.func13, Tryd.ntmps13
  go_wp2_with fail
  refine (H1.out _).mono ?_
  rintro e w1 ⟨rfl, hb1⟩
  obtain ⟨hc, hf⟩ := bcell2 hb1
  have hz := hb1.size
  simp at hz
  go_wp2_with fail
  refine bodyPost_ret (v := .tuple #[.agg #[.int .i64 0, .int .i64 0], .iface 69 (.int .i64 1)]) (by simp [results, Tryd.f13, go_sem, hc]) rfl ⟨rfl, ?_⟩
  exact ((((((Below.refl _ w).alloc (Nat.le_refl _) _).alloc (by simp) _).alloc (by simp; omega) _).trans (hb1.mono (by simp; omega))).setCell (p := ⟨w.heap.size + 1 + 1, 0, none⟩) (by simp; omega) _).setCell (p := ⟨w.heap.size + 1 + 1, 1, none⟩) (by simp; omega) _

end Go.Proofs.YtndeplakkhfmlaaDoor
