/-
  From the reading of an argument to words of memory: roles, a struct of three slices and two ints.
-/
import Derived.Test.YtpfmllpodjcldaaDoorFrame
import Derived.Deep.Slices
import Derived.ChangeSame
namespace Go.Proofs.YtpfmllpodjcldaaDoor
open Go.ChangeShapes Go.WideShapes Go.ChangeAt Go.RowKit Go.Deep
set_option maxRecDepth 100000
set_option linter.unusedVariables false

theorem kRoles : Tryd.prog.cellsOf 47 = 5 := by kernel_rfl
theorem kInts : Tryd.prog.cellsOf 36 = 1 := by kernel_rfl
theorem kInt : Tryd.prog.cellsOf 3 = 1 := by kernel_rfl

theorem arr5 {cs : Array Value} (h : cs.size = 5) : ∃ a b c d e, cs = #[a, b, c, d, e] := by
  obtain ⟨l⟩ := cs
  match l, h with
  | [a, b, c, d, e], _ => exact ⟨a, b, c, d, e, rfl⟩
section
variable {H : Type} {enc : TypeId × Value → H} {P : Program} {W : World}
theorem ints_of_cell {t e : TypeId} {c : Value} {fuel : Nat} {x : DataW H × List MemPlace} (ht : P.underlying t = some (.slice e)) (he : P.underlying e = some (.int .i64)) (hc : P.cellsOf e = 1)
    (hf : DataW.trod enc P W 0 (fun _ => true) true fuel t [c] = some x) : ∃ (l : List Int) (A : Option Addr) (cap : Nat), c = .slice A l.length cap ∧ IntsAt W A l ∧ l.length < 2 ^ 64 ∧ ∀ x ∈ l, I64 x := by
  rcases open_ints ht he hc hf with ⟨hcs, _⟩ | ⟨a, len, cap, zs, hcs, _, hl, hm, hz, hx, hcell, hwf⟩
  · injection hcs with hcs
    exact ⟨[], none, 0, hcs, IntsAt.nil, by decide, fun x hx => by cases hx⟩
  · injection hcs with hcs
    have hz' : zs.length = cap := by simpa using hz
    have hlt : (zs.take len).length = len := by rw [List.length_take]; omega
    refine ⟨zs.take len, some a, cap, by rw [hlt]; exact hcs, fun hne => ?_, by rw [hlt]; unfold maxLen at hm; omega, fun x hx => bounds_i64 (hwf x (List.mem_of_mem_take hx))⟩
    have hpos : 0 < zs.length := by
      have := List.length_pos_iff.2 hne
      rw [List.length_take] at this
      omega
    obtain ⟨b, off, rfl, hc2⟩ := ints_at hcell hpos
    refine ⟨b, off, rfl, fun j x hj => ?_⟩
    rw [List.getElem?_take] at hj
    split at hj
    · have hjl := (List.getElem?_eq_some_iff.1 hj).1
      have := hc2 j hjl
      rw [List.getD, hj] at this
      exact this
    · cases hj
theorem open_roles {v : Value} {base : Nat} {d : DataW H} {p : List MemPlace} (hv : Value.okWide Tryd.prog W .any base 47 v)
    (h : DataW.Trod enc Tryd.prog W 0 (fun _ => true) true 47 v d p) : ∃ (U A M : List Int) (Au Aa Am : Option Addr) (cu ca cm : Nat) (few most : Int), v = .agg #[.slice Au U.length cu, .slice Aa A.length ca, .slice Am M.length cm, .int .i64 few, .int .i64 most] ∧
      IntsAt W Au U ∧ IntsAt W Aa A ∧ IntsAt W Am M ∧ U.length < 2 ^ 64 ∧ A.length < 2 ^ 64 ∧ M.length < 2 ^ 64 ∧ I64 few ∧ I64 most := by
  obtain ⟨cs, rfl, hs⟩ := okWide_struct Tryd.underlying47 hv
  rw [kRoles] at hs
  obtain ⟨c0, c1, c2, c3, c4, rfl⟩ := arr5 hs
  obtain ⟨fuel, hf⟩ := h
  obtain ⟨xs, n, rfl, _, hl, hx, hfd⟩ := DataW.trod_struct Tryd.underlying47 hf
  have hxl : xs.length = 5 := hx
  have k3 := kInt
  have f0 := hfd 0 _ rfl
  have f1 := hfd 1 _ rfl
  have f2 := hfd 2 _ rfl
  have f3 := hfd 3 _ rfl
  have f4 := hfd 4 _ rfl
  simp only [Value.cells] at f0 f1 f2 f3 f4
  rw [List.getElem?_eq_getElem (by omega)] at f0 f1 f2 f3 f4
  obtain ⟨U, Au, cu, rfl, iu, lu, _⟩ := ints_of_cell Tryd.underlying36 Tryd.underlying3 k3 f0
  obtain ⟨A, Aa, ca, rfl, ia, la, _⟩ := ints_of_cell Tryd.underlying36 Tryd.underlying3 k3 f1
  obtain ⟨M, Am, cm, rfl, im, lm, _⟩ := ints_of_cell Tryd.underlying36 Tryd.underlying3 k3 f2
  obtain ⟨few, hfe, _, wf⟩ := DataW.trod_int Tryd.underlying3 f3
  obtain ⟨most, hmo, _, wm⟩ := DataW.trod_int Tryd.underlying3 f4
  injection hfe with hfe
  injection hmo with hmo
  subst hfe hmo
  exact ⟨U, A, M, Au, Aa, Am, cu, ca, cm, few, most, rfl, iu, ia, im, lu, la, lm, bounds_i64 wf, bounds_i64 wm⟩
end
end Go.Proofs.YtpfmllpodjcldaaDoor
