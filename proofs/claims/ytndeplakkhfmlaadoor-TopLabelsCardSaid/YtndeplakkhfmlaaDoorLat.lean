/-
  Contracts: lattice.order, bound, Join, Meet.
-/
import Derived.Test.YtndeplakkhfmlaaDoorOrder
import Derived.Test.YtndeplakkhfmlaaDoorTurned
import Derived.Test.YtndeplakkhfmlaaDoorLatLaw
namespace Go.Proofs.YtndeplakkhfmlaaDoor
open Go.RowKit
set_option maxRecDepth 100000

/-- What is wrong with an order. -/
def latCode (l : List Int) : Nat := if relCode l ≠ 0 then relCode l else if orderB (closed (l.map Int.toNat)) then 0 else 6
theorem toNat_castL (r : List Nat) : (castL r).map Int.toNat = r := by
  unfold castL
  rw [List.map_map]
  have : (Int.toNat ∘ Int.ofNat) = id := by funext x; rfl
  rw [this, List.map_id]
theorem latCode_ok {l : List Int} (h : latCode l = 0) : ∃ r : List Nat, l = castL r ∧ r.length ≤ 12 ∧ Bd r.length r ∧ orderB (closed r) = true := by
  unfold latCode at h
  by_cases hc : relCode l = 0
  · obtain ⟨r, rfl, h1, h2⟩ := relCode_ok hc
    rw [toNat_castL] at h
    simp [hc] at h
    exact ⟨r, rfl, h1, h2, h⟩
  · simp [hc] at h
theorem latCode_cast {r : List Nat} (h1 : r.length ≤ 12) (h2 : Bd r.length r) : latCode (castL r) = if orderB (closed r) then 0 else 6 := by
  unfold latCode
  rw [toNat_castL, relCode_cast h1 h2]; simp

theorem lorder_err (l : List Int) (A : Option Addr) (c : Nat) (w : World) (h : IntsAt w A l) (hl : l.length < 2 ^ 60) (hT : Tab w) (hne : latCode l ≠ 0) :
    Calls Tryd.prog 58 #[.slice A l.length c] w fun e w' => e = .returned (.tuple #[.slice none 0 0, .iface 69 (.int .i64 (latCode l))]) ∧ Below w.heap.size w w' := by
  by_cases hc : relCode l = 0
  · obtain ⟨r, rfl, h1, h2⟩ := relCode_ok hc
    have hlc := latCode_cast h1 h2
    have ho : orderB (closed r) = false := by
      refine Bool.eq_false_iff.2 fun ho => hne ?_
      rw [hlc, ho]; rfl
    rw [hlc, ho]
    have Ho := Order_ok r h1 h2 A c w h hT
    rw [ho] at Ho
    rw [length_castL]
    have Ho := Lib.hid Ho
    clear h hl hne hlc ho hc h2 hT
    generalize r.length = n at *
    go_enter Tryd.func58, Tryd.ntmps58
    go_wp2_with fail
    refine Ho.out.mono ?_
    rintro e w1 ⟨rfl, hb⟩
    go_wp2_with fail
    go_ret2
    exact ⟨rfl, hb⟩
  · have e : latCode l = relCode l := by unfold latCode; rw [if_pos hc]
    rw [e]
    have Ho := Lib.hid (Order_bad l A c w h hl hc)
    clear h hl hne e hc hT
    generalize l.length = n at *
    generalize relCode l = m at *
    go_enter Tryd.func58, Tryd.ntmps58
    go_wp2_with fail
    refine Ho.out.mono ?_
    rintro e w1 ⟨rfl, hb⟩
    go_wp2_with fail
    go_ret2
    exact ⟨rfl, hb⟩
theorem lorder_ok (r : List Nat) (h1 : r.length ≤ 12) (h2 : Bd r.length r) (ho : orderB (closed r) = true) (A : Option Addr) (c : Nat) (w : World) (h : IntsAt w A (castL r)) (hT : Tab w) :
    Calls Tryd.prog 58 #[.slice A r.length c] w fun e w' => ∃ B c', e = .returned (.tuple #[.slice B r.length c', .nilIface]) ∧ IntsAt w' B (castL (closed r)) ∧ Below w.heap.size w w' := by
  have Ho := Order_ok r h1 h2 A c w h hT
  rw [ho] at Ho
  have Ho := Lib.hid Ho
  have Hc := Lib.hid (fun (V : World) (hV : IntsAt V A (castL r)) => Closure_ok r h1 h2 A c V hV)
  clear h1 h2 ho hT
  generalize closed r = cl at *
  generalize r.length = n at *
  go_enter Tryd.func58, Tryd.ntmps58
  go_wp2_with fail
  refine Ho.out.mono ?_
  rintro e w1 ⟨rfl, hb⟩
  go_wp2_with fail
  refine (Hc.out w1 (h.below hb)).mono ?_
  rintro e w2 ⟨B, c', rfl, hi, hb2⟩
  go_wp2_with fail
  go_ret2
  exact ⟨B, c', rfl, hi, hb.trans (hb2.mono hb.size)⟩

def boundI (turn : Bool) (c : List Nat) (a b : Nat) : Int := leastI (upOf turn c) (row (upOf turn c) a &&& row (upOf turn c) b)
theorem bound_err (l : List Int) (A : Option Addr) (c : Nat) (a b : Int) (turn : Bool) (w : World) (h : IntsAt w A l) (hl : l.length < 2 ^ 60) (hT : Tab w) (hne : latCode l ≠ 0) :
    Calls Tryd.prog 40 #[.slice A l.length c, .int .i64 a, .int .i64 b, .bool turn] w fun e w' => e = .returned (.tuple #[.int .i64 0, .iface 69 (.int .i64 (latCode l))]) ∧ Below w.heap.size w w' := by
  have Ho := Lib.hid (lorder_err l A c w h hl hT hne)
  clear h hl hne hT
  generalize l.length = n at *
  generalize latCode l = m at *
  go_enter Tryd.func40, Tryd.ntmps40
  go_wp2_with fail
  refine Ho.out.mono ?_
  rintro e w1 ⟨rfl, hb⟩
  go_wp2_with fail
  go_ret2
  exact ⟨rfl, hb⟩
theorem bound_out (r : List Nat) (h1 : r.length ≤ 12) (h2 : Bd r.length r) (ho : orderB (closed r) = true) (A : Option Addr) (c : Nat) (a b : Int) (turn : Bool) (w : World) (h : IntsAt w A (castL r)) (hT : Tab w)
    (hab : ¬ ((0 ≤ a ∧ a < r.length) ∧ 0 ≤ b ∧ b < r.length)) :
    Calls Tryd.prog 40 #[.slice A r.length c, .int .i64 a, .int .i64 b, .bool turn] w fun e w' => e = .returned (.tuple #[.int .i64 0, .iface 69 (.int .i64 1)]) ∧ Below w.heap.size w w' := by
  have Ho := Lib.hid (lorder_ok r h1 h2 ho A c w h hT)
  clear h h2 ho hT
  generalize closed r = cl at *
  generalize r.length = n at *
  by_cases ha : 0 ≤ a ∧ a < n
  · have hb : ¬ (0 ≤ b ∧ b < n) := fun k => hab ⟨ha, k⟩
    have C1 := Lib.hid (fun V => Within3_is a 0 ((n : Int) - 1) true V (by simp; omega))
    have C2 := Lib.hid (fun V => Within3_is b 0 ((n : Int) - 1) false V (by simp; omega))
    clear ha hb hab
    go_enter Tryd.func40, Tryd.ntmps40
    go_wp2_with fail
    refine Ho.out.mono ?_
    rintro e w1 ⟨B, c', rfl, hi, hb⟩
    go_wp2_with (first | (go_at_call 44; with_reducible refine (C1.out _).mono ?_; rintro e w' ⟨rfl, rfl⟩) | (go_at_call 44; with_reducible refine (C2.out _).mono ?_; rintro e w' ⟨rfl, rfl⟩))
    go_ret2
    exact ⟨rfl, hb⟩
  · have C1 := Lib.hid (fun V => Within3_is a 0 ((n : Int) - 1) false V (by simp; omega))
    clear ha hab
    go_enter Tryd.func40, Tryd.ntmps40
    go_wp2_with fail
    refine Ho.out.mono ?_
    rintro e w1 ⟨B, c', rfl, hi, hb⟩
    go_wp2_with (first | (go_at_call 44; with_reducible refine (C1.out _).mono ?_; rintro e w' ⟨rfl, rfl⟩))
    go_ret2
    exact ⟨rfl, hb⟩
end Go.Proofs.YtndeplakkhfmlaaDoor
