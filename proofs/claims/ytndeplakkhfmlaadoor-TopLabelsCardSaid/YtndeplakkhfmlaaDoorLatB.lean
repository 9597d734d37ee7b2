/-
  Contracts: lattice.bound of two things of an order; Join, Meet; the closed fact.
-/
import Derived.Test.YtndeplakkhfmlaaDoorLat
import Derived.Deep.RegionWith
namespace Go.Proofs.YtndeplakkhfmlaaDoor
open Go.RowKit
set_option maxRecDepth 100000

/-- What bound answers. -/
def bTuple (v : Int) : Value := if 0 ≤ v then .tuple #[.int .i64 v, .nilIface] else .tuple #[.int .i64 0, .iface 69 (.int .i64 5)]

set_option maxHeartbeats 1000000 in
theorem bound_in (r : List Nat) (h1 : r.length ≤ 12) (h2 : Bd r.length r) (ho : orderB (closed r) = true) (A : Option Addr) (c : Nat) (a b : Nat) (turn : Bool) (w : World) (h : IntsAt w A (castL r)) (hT : Tab w)
    (ha : a < r.length) (hb : b < r.length) :
    Calls Tryd.prog 40 #[.slice A r.length c, .int .i64 a, .int .i64 b, .bool turn] w fun e w' => e = .returned (bTuple (boundI turn (closed r) a b)) ∧ Below w.heap.size w w' := by
  have Ho := Lib.hid (lorder_ok r h1 h2 ho A c w h hT)
  have hcn := length_closed r
  have hcb := closed_lt r h2
  clear h h2 ho
  generalize closed r = cl at *
  generalize r.length = n at *
  have Ht := Lib.hid (fun (B : Option Addr) (c' : Nat) (V : World) (hV : IntsAt V B (castL cl)) (hTV : Tab V) => turned_any cl n hcn h1 hcb B c' V hV hTV)
  have Hun := Lib.hid ((length_upOf turn cl).trans hcn)
  have Hub := Lib.hid (show Bd n (upOf turn cl) from hcn ▸ bd_upOf turn (hcn.symm ▸ hcb))
  have Hl := Lib.hid (fun (s : Nat) (hs : s < 2 ^ n) (B : Option Addr) (c' : Nat) (V : World) (hV : IntsAt V B (castL (upOf turn cl))) (hTV : Tab V) => least_any (upOf turn cl) n s Hun.out h1 Hub.out hs B c' V hV hTV)
  have Hbe := Lib.hid (show boundI turn cl a b = leastI (upOf turn cl) (row (upOf turn cl) a &&& row (upOf turn cl) b) from rfl)
  have Hteq := Lib.hid (fun (D : List Nat) (hl : D.length = n) (hbd : Bd n D) (ht : Turned n cl D) => turned_eq hcn hl hbd ht)
  have C1 := Lib.hid (fun V => Within3_is (a : Int) 0 ((n : Int) - 1) true V (by simp; omega))
  have C2 := Lib.hid (fun V => Within3_is (b : Int) 0 ((n : Int) - 1) true V (by simp; omega))
  clear hcn hcb
  generalize boundI turn cl a b = v at *
  have Hfin : ∀ (W : World) (B : Option Addr) (c' : Nat), IntsAt W B (castL (upOf turn cl)) → True := fun _ _ _ _ => trivial
  clear Hfin
  cases turn with
  | false =>
    have hup : upOf false cl = cl := rfl
    rw [hup] at Hun Hub Hl Hbe
    clear hup Ht Hteq
    go_enter Tryd.func40, Tryd.ntmps40
    go_wp2_with fail
    refine Ho.out.mono ?_
    rintro e w1 ⟨B, c', rfl, hi, hb1⟩
    have hT1 := hT.next hb1
    obtain ⟨x, off, rfl, hca⟩ := hi.row (k := a) (by rw [Hun.out]; exact ha)
    obtain ⟨x', off', hE, hcb'⟩ := hi.row (k := b) (by rw [Hun.out]; exact hb)
    obtain ⟨rfl, rfl⟩ : x = x' ∧ off = off' := by injection hE with hE; injection hE with e1 e2; exact ⟨e1, e2⟩
    have hra : row (cl) a < 2 ^ 12 := Nat.lt_of_lt_of_le (Hub.out a) (Nat.pow_le_pow_right (by decide) h1)
    have hrb : row (cl) b < 2 ^ 12 := Nat.lt_of_lt_of_le (Hub.out b) (Nat.pow_le_pow_right (by decide) h1)
    have hbits := bits_and_nat (row (cl) a) (row (cl) b) (by omega) (by omega)
    have Hl2 := Hl.out (row (cl) a &&& row (cl) b) (Nat.and_lt_two_pow _ (Hub.out b)) (some ⟨x, off, none⟩) c' w1.drew hi hT1
    rw [← Hbe.out] at Hl2
    have Hl3 := Lib.hid Hl2
    clear Hl Hbe Hub hE Hl2
    generalize row (cl) a &&& row (cl) b = s at *
    generalize row (cl) a = y at *
    generalize row (cl) b = z at *
    go_wp2_with (first | (go_at_call 44; with_reducible refine (C1.out _).mono ?_; rintro e w' ⟨rfl, rfl⟩) | (go_at_call 44; with_reducible refine (C2.out _).mono ?_; rintro e w' ⟨rfl, rfl⟩))
    go_region_with (go_at_call 60; refine Hl3.out.mono ?_; rintro e w5 ⟨rfl, hb5⟩)
    all_goals
      rename_i w5 hb5
      by_cases hv : 0 ≤ v
      · go_wp2_with fail
        go_ret2
        exact ⟨by show Ending.returned (.tuple #[.int .i64 v, .nilIface]) = .returned (bTuple v); unfold bTuple; rw [if_pos (by omega)], hb1.drew.trans (hb5.mono hb1.size)⟩
      · go_wp2_with fail
        go_ret2
        exact ⟨by show Ending.returned (.tuple #[.int .i64 0, .iface 69 (.int .i64 5)]) = .returned (bTuple v); unfold bTuple; rw [if_neg (by omega)], hb1.drew.trans (hb5.mono hb1.size)⟩
  | true =>
    have hup : upOf true cl = turnL cl := rfl
    rw [hup] at Hun Hub Hl Hbe
    clear hup
    go_enter Tryd.func40, Tryd.ntmps40
    go_wp2_with fail
    refine Ho.out.mono ?_
    rintro e w1 ⟨B, c', rfl, hi, hb1⟩
    have hT1 := hT.next hb1
    go_wp2_with (first | (go_at_call 44; with_reducible refine (C1.out _).mono ?_; rintro e w' ⟨rfl, rfl⟩) | (go_at_call 44; with_reducible refine (C2.out _).mono ?_; rintro e w' ⟨rfl, rfl⟩))
    refine (Ht.out B c' w1 hi hT1).mono ?_
    rintro e w2 ⟨D, B2, c2, rfl, hi2, hl2, hbd2, htu, hb2⟩
    obtain rfl := Hteq.out D hl2 hbd2 htu
    have hT2 := hT1.next hb2
    clear Ht Hteq hi hl2 hbd2 htu hT1
    obtain ⟨x, off, rfl, hca⟩ := hi2.row (k := a) (by rw [Hun.out]; exact ha)
    obtain ⟨x', off', hE, hcb'⟩ := hi2.row (k := b) (by rw [Hun.out]; exact hb)
    obtain ⟨rfl, rfl⟩ : x = x' ∧ off = off' := by injection hE with hE; injection hE with e1 e2; exact ⟨e1, e2⟩
    have hra : row (turnL cl) a < 2 ^ 12 := Nat.lt_of_lt_of_le (Hub.out a) (Nat.pow_le_pow_right (by decide) h1)
    have hrb : row (turnL cl) b < 2 ^ 12 := Nat.lt_of_lt_of_le (Hub.out b) (Nat.pow_le_pow_right (by decide) h1)
    have hbits := bits_and_nat (row (turnL cl) a) (row (turnL cl) b) (by omega) (by omega)
    have Hl2 := Hl.out (row (turnL cl) a &&& row (turnL cl) b) (Nat.and_lt_two_pow _ (Hub.out b)) (some ⟨x, off, none⟩) c2 w2.drew hi2 hT2
    rw [← Hbe.out] at Hl2
    have Hl3 := Lib.hid Hl2
    clear Hl Hbe Hub hE Hl2
    generalize row (turnL cl) a &&& row (turnL cl) b = s at *
    generalize row (turnL cl) a = y at *
    generalize row (turnL cl) b = z at *
    go_wp2_with fail
    go_region_with (go_at_call 60; refine Hl3.out.mono ?_; rintro e w5 ⟨rfl, hb5⟩)
    all_goals
      rename_i w5 hb5
      by_cases hv : 0 ≤ v
      · go_wp2_with fail
        go_ret2
        exact ⟨by show Ending.returned (.tuple #[.int .i64 v, .nilIface]) = .returned (bTuple v); unfold bTuple; rw [if_pos (by omega)], (hb1.trans (hb2.mono hb1.size)).drew.trans (hb5.mono (Nat.le_trans hb1.size hb2.size))⟩
      · go_wp2_with fail
        go_ret2
        exact ⟨by show Ending.returned (.tuple #[.int .i64 0, .iface 69 (.int .i64 5)]) = .returned (bTuple v); unfold bTuple; rw [if_neg (by omega)], (hb1.trans (hb2.mono hb1.size)).drew.trans (hb5.mono (Nat.le_trans hb1.size hb2.size))⟩

section
variable (A : Option Addr) (c : Nat) (a b : Int) (w : World)
theorem Join_of {n : Nat} {v : Value} {u : Value} {B : Nat} (h : Calls Tryd.prog 40 #[.slice A n c, .int .i64 a, .int .i64 b, .bool false] w fun e w' => e = .returned (.tuple #[v, u]) ∧ Below B w w') :
    Calls Tryd.prog 14 #[.slice A n c, .int .i64 a, .int .i64 b] w fun e w' => e = .returned (.tuple #[v, u]) ∧ Below B w w' := by
  have H := Lib.hid h
  clear h
  go_enter Tryd.func14, Tryd.ntmps14
  go_wp2_with fail
  refine H.out.mono ?_
  rintro e w1 ⟨rfl, hb⟩
  go_wp2_with fail
  go_ret2
  exact ⟨rfl, hb⟩
theorem Meet_of {n : Nat} {v : Value} {u : Value} {B : Nat} (h : Calls Tryd.prog 40 #[.slice A n c, .int .i64 a, .int .i64 b, .bool true] w fun e w' => e = .returned (.tuple #[v, u]) ∧ Below B w w') :
    Calls Tryd.prog 15 #[.slice A n c, .int .i64 a, .int .i64 b] w fun e w' => e = .returned (.tuple #[v, u]) ∧ Below B w w' := by
  have H := Lib.hid h
  clear h
  go_enter Tryd.func15, Tryd.ntmps15
  go_wp2_with fail
  refine H.out.mono ?_
  rintro e w1 ⟨rfl, hb⟩
  go_wp2_with fail
  go_ret2
  exact ⟨rfl, hb⟩
end
end Go.Proofs.YtndeplakkhfmlaaDoor
