/-
  Contracts: rel.Closure, and the closed fact of the laws on relations.
-/
import Derived.Test.YtbdochaahbpabaaDoorRel
namespace Go.Proofs.YtbdochaahbpabaaDoor
open Go.RowKit

section
variable {P : Program} {f : FuncId} {args : Array Value} {w : World} {v : Value}
theorem quiet0 (h : Calls P f args w fun e w' => e = .returned v ∧ w = w') : Calls P f args w fun e w'' => e = .returned v ∧ ∃ m, w'' = w.drewN m :=
  h.mono fun _ _ ⟨he, hm⟩ => ⟨he, 0, hm.symm⟩
theorem quiet1 {n : Nat} (h : Calls P f args (w.drewN n) fun e w' => e = .returned v ∧ w.drewN n = w') : Calls P f args (w.drewN n) fun e w'' => e = .returned v ∧ ∃ m, w'' = w.drewN m :=
  h.mono fun _ _ ⟨he, hm⟩ => ⟨he, n, hm.symm⟩
theorem quiet2 {a n : Nat} (h : Calls P f args (w.drewN (a + n)) fun e w' => e = .returned v ∧ w.drewN (a + n) = w') : Calls P f args (w.drewN (a + n)) fun e w'' => e = .returned v ∧ ∃ m, w'' = w.drewN (a + m) :=
  h.mono fun _ _ ⟨he, hm⟩ => ⟨he, n, hm.symm⟩
end

theorem castL_nil {r : List Nat} (h : r.length = 0) : r = [] := List.length_eq_zero_iff.1 h
theorem closed_nil : closed [] = [] := rfl

set_option maxHeartbeats 400000 in
theorem closed_empty (A : Option Addr) (c : Nat) (w : World) :
    Calls Tryd.prog 51 #[.slice A 0 c] w fun e w' => ∃ B c', e = .returned (.slice B 0 c') ∧ Below w.heap.size w w' := by
  have Hcl := Lib.hid (Clone_empty A c w)
  go_enter Tryd.func51, Tryd.ntmps51
  go_wp2_with (go_at_call 72; refine Hcl.out.mono ?_; rintro e w1 ⟨B, c', rfl, hbl⟩)
  go_loopw [11] (fun i wr => i = .int .i64 0 ∧ Below w.heap.size w wr) (fun i _ => 0)
  case atStart => exact ⟨rfl, hbl⟩
  case round =>
    clear hbl
    obtain ⟨rfl, hbl⟩ := hrel
    go_wp2
    go_loopw [25] (fun i wr => i = .int .i64 0 ∧ Below w.heap.size w wr) (fun i _ => 0)
    case atStart => exact ⟨rfl, hbl⟩
    case round =>
      clear hbl
      obtain ⟨rfl, hbl⟩ := hrel
      go_wp2
      go_ret
      exact ⟨B, c', rfl, hbl⟩

theorem closed_all (r : List Nat) (hlen : r.length ≤ 12) (hb : Bd r.length r) (A : Option Addr) (c : Nat) (w : World) (h : IntsAt w A (castL r)) :
    Calls Tryd.prog 51 #[.slice A r.length c] w fun e w' => ∃ B c', e = .returned (.slice B r.length c') ∧ IntsAt w' B (castL (closed r)) ∧ Below w.heap.size w w' := by
  by_cases hr : r = []
  · subst hr
    exact (closed_empty A c w).mono fun e w' ⟨B, c', he, hbl⟩ => ⟨B, c', he, IntsAt.nil, hbl⟩
  · obtain ⟨b, off, rfl, _⟩ := h (by intro e; exact hr (by simpa [castL] using e))
    exact closed_any r hr hlen hb b off c w h

theorem Closure_ok (r : List Nat) (hlen : r.length ≤ 12) (hb : Bd r.length r) (A : Option Addr) (c : Nat) (w : World) (h : IntsAt w A (castL r)) :
    Calls Tryd.prog 20 #[.slice A r.length c] w fun e w' => ∃ B c', e = .returned (.tuple #[.slice B r.length c', .nilIface]) ∧ IntsAt w' B (castL (closed r)) ∧ Below w.heap.size w w' := by
  have hch := Check_any (castL r) A c w h (by rw [length_castL]; omega)
  rw [relCode_cast hlen hb, length_castL, show errVal 0 = .nilIface from rfl] at hch
  have Hch := Lib.hid hch
  have Hcl := Lib.hid (closed_all r hlen hb A c w h)
  clear hch h
  generalize r.length = n at *
  go_enter Tryd.func20, Tryd.ntmps20
  go_wp2_with (first | (go_at_call 46; refine Hch.out.mono ?_; rintro e w' ⟨rfl, rfl⟩) | (go_at_call 51; refine Hcl.out.mono ?_; rintro e w1 ⟨B, c', rfl, hints, hbl⟩))
  go_ret2
  exact ⟨B, c', rfl, hints, hbl⟩

theorem Closure_bad (l : List Int) (A : Option Addr) (c : Nat) (w : World) (h : IntsAt w A l) (hl : l.length < 2 ^ 60) (hbad : relCode l ≠ 0) :
    Calls Tryd.prog 20 #[.slice A l.length c] w fun e w' => e = .returned (.tuple #[.slice none 0 0, .iface 72 (.int .i64 (relCode l))]) ∧ w = w' := by
  have hch := Check_any l A c w h hl
  rw [errVal, if_neg hbad] at hch
  have Hch := Lib.hid hch
  clear hch h hbad
  generalize l.length = n at *
  generalize relCode l = m at *
  go_enter Tryd.func20, Tryd.ntmps20
  go_wp2_with (go_at_call 46; refine Hch.out.mono ?_; rintro e w' ⟨rfl, rfl⟩)
  go_ret2
  exact ⟨rfl, rfl⟩

theorem intsAt_new3 (w : World) (x y z : Int) : IntsAt (w.alloc (.cells #[.int .i64 x, .int .i64 y, .int .i64 z] 3)) (some ⟨w.heap.size, 0, none⟩) [x, y, z] := fun _ => by
  refine ⟨w.heap.size, 0, rfl, fun j u hj => ?_⟩
  rw [Nat.zero_add, cell_of_row _ w.heap.size j _ _ _ (heap_alloc_new w _)]
  match j, hj with
  | 0, hj => simp at hj; subst hj; rfl
  | 1, hj => simp at hj; subst hj; rfl
  | 2, hj => simp at hj; subst hj; rfl

set_option maxHeartbeats 400000 in
theorem relFact_any (w : World) :
    Calls Tryd.prog 18 #[] w fun e w' => e = .returned (.bool true) ∧ Below w.heap.size w w' := by
  have Hc := Lib.hid (fun (c : Nat) (W : World) (h : IntsAt W (some ⟨w.heap.size, 0, none⟩) [2, 4, 0]) => Closure_ok [2, 4, 0] (by decide) (by
    intro i
    match i with
    | 0 => decide
    | 1 => decide
    | 2 => decide
    | i + 3 => exact (by decide : 0 < 2 ^ 3)) (some ⟨w.heap.size, 0, none⟩) c W h)
  have h1 := intsAt_new3 w 2 4 0
  go_enter Tryd.func18, Tryd.ntmps18
  go_wp2_with (go_at_call 20; refine (Hc.out _ _ h1).mono ?_; rintro e w1 ⟨B, c', rfl, hints, hbl⟩)
  have hcl : castL (closed [2, 4, 0]) = [7, 6, 4] := by decide
  rw [hcl] at hints
  have h3 := hints.below ((Below.refl _ w1).alloc (Nat.le_refl _) (.cells #[.int .i64 7, .int .i64 6, .int .i64 4] 3))
  have h4 := intsAt_new3 w1 7 6 4
  refine (Ints_any [7, 6, 4] [7, 6, 4] B _ c' 3 _ h3 h4 (by decide)).mono ?_
  rintro e w2 ⟨rfl, q, rfl⟩
  go_wp2
  go_ret
  refine ⟨ret_bool (by simp), ?_⟩
  exact below_drewN ((((Below.refl _ w).alloc (Nat.le_refl _) _).trans (hbl.mono (by simp))).alloc (by have := hbl.size; simp at this; omega) _) q
end Go.Proofs.YtbdochaahbpabaaDoor
