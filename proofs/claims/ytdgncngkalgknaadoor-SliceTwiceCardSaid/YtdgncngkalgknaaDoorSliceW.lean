/-
  The closed fact of the laws on slices; what Cut and Needs tell, in any world behind.
-/
import Derived.Test.YtdgncngkalgknaaDoorSlWk
import Derived.Test.YtdgncngkalgknaaDoorSameN
import Derived.Test.YtdgncngkalgknaaDoorJoinsW
namespace Go.Proofs.YtdgncngkalgknaaDoor
open Go.RowKit
set_option maxRecDepth 100000
set_option linter.unusedVariables false

def sfL : List Int := [0, 1, 0, 0, 0, 6, 0, 0, 0, 0, 0, 2, 0, 0, 0, 6, 1, 2, 0, 0, 7, 0, 1, 3, 0]
def sfR : RS := .both (.set 0 0 0 (.leaf 0 1 0 0 0)) (.set 1 0 0 (.leaf 0 2 0 0 0))
theorem sfact_code : progCode sfL 5 = 0 := by decide +kernel
theorem sfact_raw : IsRS sfL 4 sfR :=
  .both (a := 1) (b := 3) rfl rfl rfl (by decide) (by decide) (.set (a := 0) rfl rfl (by decide) (by decide) rfl rfl rfl (by decide) (.leaf rfl rfl rfl rfl rfl (.inl ⟨rfl, by decide, by decide⟩)))
    (.set (a := 2) rfl rfl (by decide) (by decide) rfl rfl rfl (by decide) (.leaf rfl rfl rfl rfl rfl (.inl ⟨rfl, by decide, by decide⟩)))
theorem sfact_cut : (sfR.cut 2).getD .skip = .set 1 0 0 (.leaf 0 2 0 0 0) := by rfl
theorem sfact_read : readP ⟨#[97, 61, 35, 49, 59, 98, 61, 35, 50, 59]⟩ = .good 4 [] sfL := by decide +kernel
variable {w : World}
set_option maxHeartbeats 4000000 in
theorem sliceFact_any (hP : Pow10 w.heap.size w) (hN : ∀ V, Below w.heap.size w V → NumErrs V) : Calls Tryd.prog 29 #[] w fun e w' => e = .returned (.bool true) ∧ Below w.heap.size w w' := by
  have HR := Lib.hid (Read_right hP hN sfact_read w (Below.refl _ _))
  clear hP hN
  go_enter Tryd.func29, Tryd.ntmps29
  go_wp2_with fail
  refine HR.out.mono ?_
  rintro e w1 ⟨⟨A, c, rfl, hA⟩, -, hb1⟩
  have C1 := Cut_good (c := c) (k := 1) (u := 2) hA sfact_code sfact_raw (by decide) rfl
  rw [sfact_cut] at C1
  have C1 := Lib.hid (show Calls Tryd.prog 17 #[.slice A 5 c, .int .i64 1] w1 (fun e w' => (∃ A' c', e = .returned (.tuple #[.slice A' 2 c', .nilIface]) ∧ NodesAt w' A' [0, 2, 0, 0, 0, 6, 1, 0, 0, 0] 2) ∧ Below w1.heap.size w1 w') from C1)
  have HB1 := Lib.hid hb1
  clear HR hA hb1
  go_wp2_with fail
  refine C1.out.mono ?_
  rintro e w2 ⟨⟨A2, c2, rfl, hA2⟩, hb2⟩
  obtain ⟨b, off, rfl, hc⟩ := hA2.ints (by decide)
  have y1 : w2.cell? ⟨b, off + 6, none⟩ = some (.int .i64 1) := hc 6 1 rfl
  have HB2 := Lib.hid (HB1.out.trans (hb2.mono HB1.out.size))
  clear hc hA2 hb2 C1 HB1
  go_wp2_with fail
  go_ret
  exact ⟨rfl, HB2.out⟩
end Go.Proofs.YtdgncngkalgknaaDoor
