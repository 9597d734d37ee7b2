/-
  From the reading of a label to its two numbers.
-/
import Derived.Test.YtndeplakkhfmlaaDoorDoorB
namespace Go.Proofs.YtndeplakkhfmlaaDoor
open Go.ChangeShapes Go.WideShapes Go.ChangeAt Go.RowKit Go.Joins
set_option maxRecDepth 100000

section
variable {H : Type} {enc : TypeId × Value → H} {W : World}
theorem open_label {v : Value} {base : Nat} {d : DataW H} {p : List MemPlace} (hv : Value.okWide Tryd.prog W .any base 28 v)
    (h : DataW.Trod enc Tryd.prog W 0 (fun _ => true) true 28 v d p) : ∃ a s : Int, v = .agg #[.int .i64 a, .int .i64 s] ∧ I64 a ∧ I64 s := by
  obtain ⟨v0, v1, y0, y1, n, rfl, _, _, h0, h1⟩ := open_agg2 Tryd.underlying28 (by kernel_rfl) (by kernel_rfl) hv h
  obtain ⟨a, ha, _, wa⟩ := DataW.trod_int Tryd.underlying3 h0
  obtain ⟨s, hs, _, ws⟩ := DataW.trod_int Tryd.underlying3 h1
  injection ha with ha
  injection hs with hs
  exact ⟨a, s, by rw [ha, hs], bounds_i64 wa, bounds_i64 ws⟩
end
end Go.Proofs.YtndeplakkhfmlaaDoor
