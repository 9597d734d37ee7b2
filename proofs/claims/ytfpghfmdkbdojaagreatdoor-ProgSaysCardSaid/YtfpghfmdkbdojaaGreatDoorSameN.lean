/-
  Contract: quietwingsame.Nodes of two alike.
-/
import Derived.Test.YtfpghfmdkbdojaaGreatDoorPgN
import Derived.Test.YtfpghfmdkbdojaaGreatDoorWithin
import Derived.Test.YtfpghfmdkbdojaaGreatDoorOver
import Derived.Deep.QuietTactic
import Derived.BigQuiet
namespace Go.Proofs.YtfpghfmdkbdojaaGreatDoor
open Go.RowKit
set_option maxRecDepth 100000
set_option linter.unusedVariables false

set_option maxHeartbeats 4000000 in
theorem Nodes_same {w : World} {A B : Option Addr} {c d m : Nat} {S : List Int} (hA : NodesAt w A S m) (hB : NodesAt w B S m) :
    Calls Tryz.prog 11 #[.slice A m c, .slice B m d] w fun e w' => e = .returned (.bool true) ∧ ∃ n, w' = w.drewN n := by
  have hs := hA.small
  have HA := Lib.hid hA
  have HB := Lib.hid hB
  clear hA hB
  go_enter Tryz.func11, Tryz.ntmps11
  go_wp2_with fail
  go_loopw [5] (fun i wr => ∃ k : Nat, k ≤ m ∧ i = .int .i64 k ∧ ∃ n, wr = w.drewN n) (fun i _ => m - (intOf i).toNat)
  case atStart => exact ⟨0, Nat.zero_le _, rfl, 0, rfl⟩
  case round =>
    obtain ⟨k, hk, rfl, nd0, rfl⟩ := hrel
    by_cases hlt : k < m
    · obtain ⟨b, off, rfl, y0, y1, y2, y3, y4⟩ := HA.out.cells hlt
      obtain ⟨b', off', rfl, z0, z1, z2, z3, z4⟩ := HB.out.cells hlt
      generalize nd S k 0 = s0 at *
      generalize nd S k 1 = s1 at *
      generalize nd S k 2 = s2 at *
      generalize nd S k 3 = s3 at *
      generalize nd S k 4 = s4 at *
      go_wp2_with fail
      go_quiet (fail)
      go_wp2_with fail
      refine ⟨⟨k + 1, ?ya, ?yb, ?yc⟩, ?yd⟩
      case ya => omega
      case yb => go_num
      case yc => exact ⟨_, rfl⟩
      case yd => simp [intOf]; omega
    · obtain rfl : k = m := by omega
      go_wp2_with fail
      go_ret
      exact ⟨rfl, _, rfl⟩
end Go.Proofs.YtfpghfmdkbdojaaGreatDoor
