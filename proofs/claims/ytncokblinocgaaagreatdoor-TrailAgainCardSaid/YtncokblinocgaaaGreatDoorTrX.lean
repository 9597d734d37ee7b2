/-
  trailFact.
-/
import Derived.Test.YtncokblinocgaaaGreatDoorTrU
namespace Go.Proofs.YtncokblinocgaaaGreatDoor
open Go.RowKit
set_option maxRecDepth 100000
set_option linter.unusedVariables false

theorem fact_run : (tRun [5, 0] [1, 0] [0, 0, 0, 0] (tStart 1 1) (min 1 60)).log = [48, 32, 48, 32, 48, 32, 48, 32, 48, 32, 50, 49, 54, 48, 10] ∧ told (tRun [5, 0] [1, 0] [0, 0, 0, 0] (tStart 1 1) (min 1 60)).S.Re 0 = 1 := by
  refine ⟨?_, ?_⟩
  · kernel_rfl
  · kernel_rfl
set_option maxHeartbeats 4000000 in
theorem trailFact_true (w : World) (hG : Glob w) : Calls Tryz.prog 29 #[] w fun e w' => e = .returned (.bool true) ∧ Below w.heap.size w w' := by
  obtain ⟨w1, hw1⟩ : ∃ w1, ((w.alloc (.cells #[.int .i64 5, .int .i64 0] 75)).alloc (.cells #[.int .i64 1, .int .i64 0] 75)).alloc (.cells #[.int .i64 0, .int .i64 0, .int .i64 0, .int .i64 0] 68) = w1 := ⟨_, rfl⟩
  have hu : BoxN w1 w.heap.size 75 #[.int .i64 5, .int .i64 0] := by rw [← hw1]; exact ((BoxN.new w _ _).alloc _).alloc _
  have hf : BoxN w1 (w.heap.size + 1) 75 #[.int .i64 1, .int .i64 0] := by rw [← hw1]; exact (BoxN.new' _ _ _ _ (by simp)).alloc _
  have hk : BoxN w1 (w.heap.size + 1 + 1) 68 #[.int .i64 0, .int .i64 0, .int .i64 0, .int .i64 0] := by rw [← hw1]; exact BoxN.new' _ _ _ _ (by simp)
  have hb1 : Below w.heap.size w w1 := by rw [← hw1]; exact (((Below.refl _ _).alloc (Nat.le_refl _) _).alloc (by simp) _).alloc (by simp; omega) _
  have iU : IntsAt w1 (some ⟨w.heap.size, 0, none⟩) [5, 0] := IntsAt.fresh fun j x hj => by
    match j, hj with
    | 0, hj => cases hj; exact hu.cell rfl
    | 1, hj => cases hj; exact hu.cell rfl
  have iF : IntsAt w1 (some ⟨w.heap.size + 1, 0, none⟩) [1, 0] := IntsAt.fresh fun j x hj => by
    match j, hj with
    | 0, hj => cases hj; exact hf.cell rfl
    | 1, hj => cases hj; exact hf.cell rfl
  have iK : IntsAt w1 (some ⟨w.heap.size + 1 + 1, 0, none⟩) [0, 0, 0, 0] := IntsAt.fresh fun j x hj => by
    match j, hj with
    | 0, hj => cases hj; exact hk.cell rfl
    | 1, hj => cases hj; exact hk.cell rfl
    | 2, hj => cases hj; exact hk.cell rfl
    | 3, hj => cases hj; exact hk.cell rfl
  have hL : LabsOk 1 1 [5, 0] [1, 0] := ⟨by decide, by decide, rfl, rfl⟩
  have C := Told_ok [5, 0] [1, 0] 1 1 hL (some ⟨w.heap.size, 0, none⟩) (some ⟨w.heap.size + 1, 0, none⟩) 1 1 w1 iU iF 1 [0, 0, 0, 0] (some ⟨w.heap.size + 1 + 1, 0, none⟩) 1 rfl iK (hG.next hb1)
  have hlen : TLen 1 1 [5, 0] [1, 0] (tRun [5, 0] [1, 0] [0, 0, 0, 0] (tStart 1 1) (min 1 60)) := (TLen.start (by decide) (by decide)).run _
  obtain ⟨f1, f2⟩ := fact_run
  generalize tRun [5, 0] [1, 0] [0, 0, 0, 0] (tStart 1 1) (min 1 60) = T at *
  have C := Lib.hid C
  go_enter Tryz.func29, Tryz.ntmps29
  go_wp2_with fail
  refine C.out.mono ?_
  rintro e w2 ⟨⟨b, p, v, A, own, rfl, hT⟩, hb2⟩
  have CT := TText_any hT
  rw [f1] at CT
  have CT := Lib.hid CT
  have hlow := hT.low
  clear hT C
  go_wp2_with fail
  with_reducible refine CT.out.mono ?_
  rintro e w3 ⟨rfl, hT3, hq3⟩
  have CR := TReads_any hT3 (by rw [hlen.re]; decide) 0
  rw [f2] at CR
  have CR := Lib.hid CR
  have hb3 : Below w.heap.size w w3 := hq3.to_below (fun k hk => Nat.le_trans hb1.size (hlow k hk)) (hb1.trans (hb2.mono hb1.size)) (Nat.le_trans hb1.size hb2.size)
  clear hT3 hq3 CT
  go_wp2_with fail
  with_reducible refine CR.out.mono ?_
  rintro e w4 ⟨rfl, rfl⟩
  go_wp2_with fail
  go_ret
  exact ⟨rfl, hb3⟩
end Go.Proofs.YtncokblinocgaaaGreatDoor
