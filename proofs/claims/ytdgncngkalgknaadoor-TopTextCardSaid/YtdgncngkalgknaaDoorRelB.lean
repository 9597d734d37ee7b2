/-
  Contracts: rel.Closure, and the closed fact of the laws on relations.
-/
import Derived.Test.YtdgncngkalgknaaDoorRel
import Derived.Test.YtdgncngkalgknaaDoorWithin
namespace Go.Proofs.YtdgncngkalgknaaDoor
open Go.RowKit


theorem castL_nil {r : List Nat} (h : r.length = 0) : r = [] := List.length_eq_zero_iff.1 h
theorem closed_nil : closed [] = [] := rfl

set_option maxHeartbeats 400000 in
theorem closed_empty (A : Option Addr) (c : Nat) (w : World) :
    Calls Tryd.prog 83 #[.slice A 0 c] w fun e w' => ∃ B c', e = .returned (.slice B 0 c') ∧ Below w.heap.size w w' := by
  have Hcl := Lib.hid (Clone_empty A c w)
  go_enter Tryd.func83, Tryd.ntmps83
  go_wp2_with (go_at_call 39; refine Hcl.out.mono ?_; rintro e w1 ⟨B, c', rfl, hbl⟩)
  go_loopw [11] (fun i wr => i = .int .i64 0 ∧ Below w.heap.size w wr) (fun i _ => 0)
  case atStart => exact ⟨rfl, hbl⟩
  case round =>
    clear hbl
    obtain ⟨rfl, hbl⟩ := hrel
    go_wp2
    go_loopw [25] (fun i wr => i = .int .i64 0 ∧ Below w.heap.size w wr) (fun i _ => 0)
    case atStart => exact ⟨rfl, hbl⟩
    case round =>
      clear hbl
      obtain ⟨rfl, hbl⟩ := hrel
      go_wp2
      go_ret
      exact ⟨B, c', rfl, hbl⟩

theorem closed_all (r : List Nat) (hlen : r.length ≤ 12) (hb : Bd r.length r) (A : Option Addr) (c : Nat) (w : World) (h : IntsAt w A (castL r)) :
    Calls Tryd.prog 83 #[.slice A r.length c] w fun e w' => ∃ B c', e = .returned (.slice B r.length c') ∧ IntsAt w' B (castL (closed r)) ∧ Below w.heap.size w w' := by
  by_cases hr : r = []
  · subst hr
    exact (closed_empty A c w).mono fun e w' ⟨B, c', he, hbl⟩ => ⟨B, c', he, IntsAt.nil, hbl⟩
  · obtain ⟨b, off, rfl, _⟩ := h (by intro e; exact hr (by simpa [castL] using e))
    exact closed_any r hr hlen hb b off c w h

theorem Closure_ok (r : List Nat) (hlen : r.length ≤ 12) (hb : Bd r.length r) (A : Option Addr) (c : Nat) (w : World) (h : IntsAt w A (castL r)) :
    Calls Tryd.prog 61 #[.slice A r.length c] w fun e w' => ∃ B c', e = .returned (.tuple #[.slice B r.length c', .nilIface]) ∧ IntsAt w' B (castL (closed r)) ∧ Below w.heap.size w w' := by
  have hch := Check_any (castL r) A c w h (by rw [length_castL]; omega)
  rw [relCode_cast hlen hb, length_castL, show errVal 0 = .nilIface from rfl] at hch
  have Hch := Lib.hid hch
  have Hcl := Lib.hid (closed_all r hlen hb A c w h)
  clear hch h
  generalize r.length = n at *
  go_enter Tryd.func61, Tryd.ntmps61
  go_wp2_with (first | (go_at_call 82; refine Hch.out.mono ?_; rintro e w' ⟨rfl, rfl⟩) | (go_at_call 83; refine Hcl.out.mono ?_; rintro e w1 ⟨B, c', rfl, hints, hbl⟩))
  go_ret2
  exact ⟨B, c', rfl, hints, hbl⟩

theorem Closure_bad (l : List Int) (A : Option Addr) (c : Nat) (w : World) (h : IntsAt w A l) (hl : l.length < 2 ^ 60) (hbad : relCode l ≠ 0) :
    Calls Tryd.prog 61 #[.slice A l.length c] w fun e w' => e = .returned (.tuple #[.slice none 0 0, .iface 61 (.int .i64 (relCode l))]) ∧ w = w' := by
  have hch := Check_any l A c w h hl
  rw [errVal, if_neg hbad] at hch
  have Hch := Lib.hid hch
  clear hch h hbad
  generalize l.length = n at *
  generalize relCode l = m at *
  go_enter Tryd.func61, Tryd.ntmps61
  go_wp2_with (go_at_call 82; refine Hch.out.mono ?_; rintro e w' ⟨rfl, rfl⟩)
  go_ret2
  exact ⟨rfl, rfl⟩
end Go.Proofs.YtdgncngkalgknaaDoor
