/-
  From the reading of an argument to words of memory: a system, a struct of three slices.
-/
import Derived.Test.YtanlmfnhlldkeaaGreatDoorKerB
namespace Go.Proofs.YtanlmfnhlldkeaaGreatDoor
open Go.ChangeShapes Go.WideShapes Go.ChangeAt Go.RowKit Go.Deep
set_option maxRecDepth 100000
set_option linter.unusedVariables false

theorem kSystem : Tryz.prog.cellsOf 26 = 3 := by kernel_rfl
theorem kOps : Tryz.prog.cellsOf 55 = 1 := by kernel_rfl
theorem kInt1 : Tryz.prog.cellsOf 3 = 1 := by kernel_rfl
theorem arr3 {cs : Array Value} (h : cs.size = 3) : ∃ a b c, cs = #[a, b, c] := by
  obtain ⟨l⟩ := cs
  match l, h with
  | [a, b, c], _ => exact ⟨a, b, c, rfl⟩
section
variable {H : Type} {enc : TypeId × Value → H} {W : World}
theorem opsRow : OneRow Tryz.prog enc W 3 55 := structs_of_cell (ti := 3) Tryz.underlying55 Tryz.underlying58 Tryz.underlying3 (by kernel_rfl) (by kernel_rfl) (by decide) (by kernel_rfl) (by kernel_rfl)
theorem portsRow : OneRow Tryz.prog enc W 2 23 := structs_of_cell (ti := 3) Tryz.underlying23 Tryz.underlying54 Tryz.underlying3 (by kernel_rfl) (by kernel_rfl) (by decide) (by kernel_rfl) (by kernel_rfl)
theorem open_system {v : Value} {base : Nat} {d : DataW H} {p : List MemPlace} (hv : Value.okWide Tryz.prog W .any base 26 v)
    (h : DataW.Trod enc Tryz.prog W 0 (fun _ => true) true 26 v d p) : ∃ (L : List (List Int)) (P T : List Int) (q : Nat) (Ap Ao At : Option Addr) (cp co ct : Nat), v = .agg #[.slice Ap L.length cp, .slice Ao q co, .slice At T.length ct] ∧
      RowsIn anyB 3 W Ap L ∧ IntsIn anyB W Ao P ∧ P.length = q * 2 ∧ IntsIn anyB W At T ∧ L.length ≤ maxLen ∧ q ≤ maxLen ∧ T.length ≤ maxLen := by
  obtain ⟨cs, rfl, hs⟩ := okWide_struct Tryz.underlying26 hv
  rw [kSystem] at hs
  obtain ⟨c0, c1, c2, rfl⟩ := arr3 hs
  obtain ⟨fuel, hf⟩ := h
  obtain ⟨xs, n, rfl, _, hl, hx, hfd⟩ := DataW.trod_struct Tryz.underlying26 hf
  have hxl : xs.length = 3 := hx
  have f0 := hfd 0 _ rfl
  have f1 := hfd 1 _ rfl
  have f2 := hfd 2 _ rfl
  simp only [Value.cells] at f0 f1 f2
  rw [List.getElem?_eq_getElem (by omega)] at f0 f1 f2
  obtain ⟨L, Ap, cp, rfl, hL, hLm, iL, _⟩ := rows_of_cell Tryz.underlying22 kOps opsRow f0
  obtain ⟨P, Ao, q, co, rfl, hP, hqm, iP, _⟩ := portsRow _ _ _ f1
  obtain ⟨T, At, m, ct, rfl, hT, htm, iT, _⟩ := introw_of_cell Tryz.underlying24 Tryz.underlying3 kInt1 _ _ _ f2
  have hTm : T.length = m := by omega
  subst hTm
  exact ⟨L, P, T, q, Ap, Ao, At, cp, co, ct, rfl, iL, iP.in_, hP, iT.in_, by omega, hqm, htm⟩
end
end Go.Proofs.YtanlmfnhlldkeaaGreatDoor
