/-
  The document's Text: of a node's tree the text.
-/
import Derived.Test.YtfpghfmdkbdojaaGreatDoorPgN
import Derived.Test.YtfpghfmdkbdojaaGreatDoorPsH
import Derived.Lib.QuietBelow
import Derived.BigQuiet
import Derived.Test.YtfpghfmdkbdojaaGreatDoorBox
namespace Go.Proofs.YtfpghfmdkbdojaaGreatDoor
open Go.RowKit
set_option maxRecDepth 100000
set_option linter.unusedVariables false

/-- The contract of Text at a node. -/
def TxC (A : Option Addr) (n c : Nat) (P : List Int) (i : Nat) (t : List UInt8) : Prop := ∀ V : World, NodesAt V A P n → Calls Tryz.prog 7 #[.slice A n c, .int .i64 (i : Nat)] V fun e w' => e = .returned (.string ⟨t.toArray⟩) ∧ Below V.heap.size V w'
theorem txt_is {a b : ByteArray} (h : a.data.toList = b.data.toList) : Ending.returned (.string a) = .returned (.string b) := by rw [ByteArray.ext (Array.toList_inj.1 h)]
theorem RLet_any (V : World) {m : Nat} (hm : m < 6) : Calls Tryz.prog 20 #[.int .i64 m] V fun e w' => e = .returned (.string ⟨[nmC m].toArray⟩) ∧ Below V.heap.size V w' := by
  have he : (⟨#[97, 98, 99, 100, 101, 102]⟩ : ByteArray).extract m (m + 1) = ⟨[nmC m].toArray⟩ := by
    have : m = 0 ∨ m = 1 ∨ m = 2 ∨ m = 3 ∨ m = 4 ∨ m = 5 := by omega
    rcases this with rfl | rfl | rfl | rfl | rfl | rfl <;> rfl
  go_enter Tryz.func20, Tryz.ntmps20
  go_wp2_with fail
  go_ret
  exact ⟨by rw [← he]; rfl, Below.refl _ _⟩
set_option maxHeartbeats 8000000 in
theorem txt_num {P : List Int} {n c i : Nat} {A : Option Addr} {w : World} (h : NodesAt w A P n) (hi : i < n) (e0 : nd P i 0 = 0) {m : Nat} (e1 : nd P i 1 = m) (hm : m ≤ 999999) :
    Calls Tryz.prog 7 #[.slice A n c, .int .i64 (i : Nat)] w fun e w' => e = .returned (.string ⟨([35] ++ Lib.itoa (m : Int)).toArray⟩) ∧ Below w.heap.size w w' := by
  have hN := Lib.hid h
  obtain ⟨bk, off, rfl, c0, c1, c2, c3, c4⟩ := h.cells hi
  rw [e0] at c0
  rw [e1] at c1
  generalize nd P i 2 = u2 at *
  generalize nd P i 3 = u3 at *
  generalize nd P i 4 = u4 at *
  clear h
  have hx : BoxN (w.alloc (.cells #[.int .i64 0, .int .i64 (m : Int), .int .i64 u2, .int .i64 u3, .int .i64 u4] 39)) w.heap.size 39 #[.int .i64 0, .int .i64 (m : Int), .int .i64 u2, .int .i64 u3, .int .i64 u4] := BoxN.new w _ _
  have hbw : Below w.heap.size w (w.alloc (.cells #[.int .i64 0, .int .i64 (m : Int), .int .i64 u2, .int .i64 u3, .int .i64 u4] 39)) := (Below.refl _ _).alloc (Nat.le_refl _) _
  have hid := Lib.itoa_length_le (m : Int) (by omega) (by omega)
  have CD := Lib.hid (fun V => (RDig_any V m (by omega)).mono fun e w' ⟨he, hw⟩ => (⟨he, hw ▸ Below.refl _ _⟩ : _ ∧ Below V.heap.size V w'))
  generalize Lib.itoa (m : Int) = td at *
  go_enter Tryz.func7, Tryz.ntmps7
  go_wp2_with fail
  generalize w.alloc (.cells #[.int .i64 0, .int .i64 (m : Int), .int .i64 u2, .int .i64 u3, .int .i64 u4] 39) = w1 at *
  have q1 := cell_regrown (hx.cell (k := 1) rfl)
  have q2 := cell_regrown (hx.cell (k := 2) rfl)
  have q3 := cell_regrown (hx.cell (k := 3) rfl)
  have q4 := cell_regrown (hx.cell (k := 4) rfl)
  clear c0 c1 c2 c3 c4 hx
  have QD := Lib.hid (fun (d : Nat) (os : Array Obj) => Calls.regrown_of (CD.out (Sort.grow (redrawn w1 d) os)))
  have b1 : ¬ 9223372036854775807 < 1 + td.length := by omega
  refine (CD.out _).mono ?_
  rintro e w5 ⟨rfl, hb5⟩
  go_wp2_with fail
  go_ret
  exact ⟨txt_is (by simp), hbw.trans (hb5.mono hbw.size)⟩

set_option maxHeartbeats 8000000 in
theorem txt_var {P : List Int} {n c i : Nat} {A : Option Addr} {w : World} (h : NodesAt w A P n) (hi : i < n) (e0 : nd P i 0 = 1) {m : Nat} (e1 : nd P i 1 = m) (hm : m < 6) :
    Calls Tryz.prog 7 #[.slice A n c, .int .i64 (i : Nat)] w fun e w' => e = .returned (.string ⟨([nmC m]).toArray⟩) ∧ Below w.heap.size w w' := by
  have hN := Lib.hid h
  obtain ⟨bk, off, rfl, c0, c1, c2, c3, c4⟩ := h.cells hi
  rw [e0] at c0
  rw [e1] at c1
  generalize nd P i 2 = u2 at *
  generalize nd P i 3 = u3 at *
  generalize nd P i 4 = u4 at *
  clear h
  have hx : BoxN (w.alloc (.cells #[.int .i64 1, .int .i64 (m : Int), .int .i64 u2, .int .i64 u3, .int .i64 u4] 39)) w.heap.size 39 #[.int .i64 1, .int .i64 (m : Int), .int .i64 u2, .int .i64 u3, .int .i64 u4] := BoxN.new w _ _
  have hbw : Below w.heap.size w (w.alloc (.cells #[.int .i64 1, .int .i64 (m : Int), .int .i64 u2, .int .i64 u3, .int .i64 u4] 39)) := (Below.refl _ _).alloc (Nat.le_refl _) _
  have CL := Lib.hid (fun V => RLet_any V hm)
  go_enter Tryz.func7, Tryz.ntmps7
  go_wp2_with fail
  generalize w.alloc (.cells #[.int .i64 1, .int .i64 (m : Int), .int .i64 u2, .int .i64 u3, .int .i64 u4] 39) = w1 at *
  have q1 := cell_regrown (hx.cell (k := 1) rfl)
  have q2 := cell_regrown (hx.cell (k := 2) rfl)
  have q3 := cell_regrown (hx.cell (k := 3) rfl)
  have q4 := cell_regrown (hx.cell (k := 4) rfl)
  clear c0 c1 c2 c3 c4 hx
  have QL := Lib.hid (fun (d : Nat) (os : Array Obj) => Calls.regrown_of (CL.out (Sort.grow (redrawn w1 d) os)))
  refine (CL.out _).mono ?_
  rintro e w5 ⟨rfl, hb5⟩
  go_wp2_with fail
  go_ret
  exact ⟨txt_is (by simp), hbw.trans (hb5.mono hbw.size)⟩

set_option maxHeartbeats 8000000 in
theorem txt_op2 {P : List Int} {n c i : Nat} {A : Option Addr} {w : World} (h : NodesAt w A P n) (hi : i < n) (e0 : nd P i 0 = 2) {a2 : Nat} {t2 : List UInt8} (e2 : nd P i 2 = a2) (C2 : TxC A n c P a2 t2) (l2 : t2.length ≤ 100000) {a3 : Nat} {t3 : List UInt8} (e3 : nd P i 3 = a3) (C3 : TxC A n c P a3 t3) (l3 : t3.length ≤ 100000) :
    Calls Tryz.prog 7 #[.slice A n c, .int .i64 (i : Nat)] w fun e w' => e = .returned (.string ⟨([43] ++ t2 ++ t3).toArray⟩) ∧ Below w.heap.size w w' := by
  have hN := Lib.hid h
  obtain ⟨bk, off, rfl, c0, c1, c2, c3, c4⟩ := h.cells hi
  rw [e0] at c0
  rw [e2] at c2
  rw [e3] at c3
  generalize nd P i 1 = u1 at *
  generalize nd P i 4 = u4 at *
  clear h
  have hx : BoxN (w.alloc (.cells #[.int .i64 2, .int .i64 u1, .int .i64 (a2 : Int), .int .i64 (a3 : Int), .int .i64 u4] 39)) w.heap.size 39 #[.int .i64 2, .int .i64 u1, .int .i64 (a2 : Int), .int .i64 (a3 : Int), .int .i64 u4] := BoxN.new w _ _
  have hbw : Below w.heap.size w (w.alloc (.cells #[.int .i64 2, .int .i64 u1, .int .i64 (a2 : Int), .int .i64 (a3 : Int), .int .i64 u4] 39)) := (Below.refl _ _).alloc (Nat.le_refl _) _
  go_enter Tryz.func7, Tryz.ntmps7
  go_wp2_with fail
  generalize w.alloc (.cells #[.int .i64 2, .int .i64 u1, .int .i64 (a2 : Int), .int .i64 (a3 : Int), .int .i64 u4] 39) = w1 at *
  have q1 := cell_regrown (hx.cell (k := 1) rfl)
  have q2 := cell_regrown (hx.cell (k := 2) rfl)
  have q3 := cell_regrown (hx.cell (k := 3) rfl)
  have q4 := cell_regrown (hx.cell (k := 4) rfl)
  clear c0 c1 c2 c3 c4 hx
  have Q2 := Lib.hid (fun (d : Nat) (os : Array Obj) => Calls.regrown_of (C2 (Sort.grow (redrawn w1 d) os) ((hN.out.below (B := 0) hbw).below (B := 0) (below_regrown w1 d os))))
  have Q3 := Lib.hid (fun (d : Nat) (os : Array Obj) => Calls.regrown_of (C3 (Sort.grow (redrawn w1 d) os) ((hN.out.below (B := 0) hbw).below (B := 0) (below_regrown w1 d os))))
  have b1 : ¬ 9223372036854775807 < 1 + t2.length := by omega
  have b2 : ¬ 9223372036854775807 < 1 + t2.length + t3.length := by omega
  refine wp_region_quiet_below (by kernel_rfl) (by kernel_rfl) ?_
  repeat (go_big_quiet_step (first | (with_reducible exact Q2.out _ _) | (with_reducible exact Q3.out _ _)))
  refine wpQuiet_nil ?_
  rintro _ ⟨pq, rfl⟩
  have hbq := below_regrown w1 pq.d pq.os
  generalize Sort.grow (redrawn w1 pq.d) pq.os = w4 at *
  go_wp2_with fail
  go_ret
  exact ⟨txt_is (by simp), hbw.trans (hbq.mono hbw.size)⟩

set_option maxHeartbeats 8000000 in
theorem txt_op3 {P : List Int} {n c i : Nat} {A : Option Addr} {w : World} (h : NodesAt w A P n) (hi : i < n) (e0 : nd P i 0 = 3) {a2 : Nat} {t2 : List UInt8} (e2 : nd P i 2 = a2) (C2 : TxC A n c P a2 t2) (l2 : t2.length ≤ 100000) {a3 : Nat} {t3 : List UInt8} (e3 : nd P i 3 = a3) (C3 : TxC A n c P a3 t3) (l3 : t3.length ≤ 100000) :
    Calls Tryz.prog 7 #[.slice A n c, .int .i64 (i : Nat)] w fun e w' => e = .returned (.string ⟨([60] ++ t2 ++ t3).toArray⟩) ∧ Below w.heap.size w w' := by
  have hN := Lib.hid h
  obtain ⟨bk, off, rfl, c0, c1, c2, c3, c4⟩ := h.cells hi
  rw [e0] at c0
  rw [e2] at c2
  rw [e3] at c3
  generalize nd P i 1 = u1 at *
  generalize nd P i 4 = u4 at *
  clear h
  have hx : BoxN (w.alloc (.cells #[.int .i64 3, .int .i64 u1, .int .i64 (a2 : Int), .int .i64 (a3 : Int), .int .i64 u4] 39)) w.heap.size 39 #[.int .i64 3, .int .i64 u1, .int .i64 (a2 : Int), .int .i64 (a3 : Int), .int .i64 u4] := BoxN.new w _ _
  have hbw : Below w.heap.size w (w.alloc (.cells #[.int .i64 3, .int .i64 u1, .int .i64 (a2 : Int), .int .i64 (a3 : Int), .int .i64 u4] 39)) := (Below.refl _ _).alloc (Nat.le_refl _) _
  go_enter Tryz.func7, Tryz.ntmps7
  go_wp2_with fail
  generalize w.alloc (.cells #[.int .i64 3, .int .i64 u1, .int .i64 (a2 : Int), .int .i64 (a3 : Int), .int .i64 u4] 39) = w1 at *
  have q1 := cell_regrown (hx.cell (k := 1) rfl)
  have q2 := cell_regrown (hx.cell (k := 2) rfl)
  have q3 := cell_regrown (hx.cell (k := 3) rfl)
  have q4 := cell_regrown (hx.cell (k := 4) rfl)
  clear c0 c1 c2 c3 c4 hx
  have Q2 := Lib.hid (fun (d : Nat) (os : Array Obj) => Calls.regrown_of (C2 (Sort.grow (redrawn w1 d) os) ((hN.out.below (B := 0) hbw).below (B := 0) (below_regrown w1 d os))))
  have Q3 := Lib.hid (fun (d : Nat) (os : Array Obj) => Calls.regrown_of (C3 (Sort.grow (redrawn w1 d) os) ((hN.out.below (B := 0) hbw).below (B := 0) (below_regrown w1 d os))))
  have b1 : ¬ 9223372036854775807 < 1 + t2.length := by omega
  have b2 : ¬ 9223372036854775807 < 1 + t2.length + t3.length := by omega
  refine wp_region_quiet_below (by kernel_rfl) (by kernel_rfl) ?_
  repeat (go_big_quiet_step (first | (with_reducible exact Q2.out _ _) | (with_reducible exact Q3.out _ _)))
  refine wpQuiet_nil ?_
  rintro _ ⟨pq, rfl⟩
  have hbq := below_regrown w1 pq.d pq.os
  generalize Sort.grow (redrawn w1 pq.d) pq.os = w4 at *
  go_wp2_with fail
  go_ret
  exact ⟨txt_is (by simp), hbw.trans (hbq.mono hbw.size)⟩

set_option maxHeartbeats 8000000 in
theorem txt_op4 {P : List Int} {n c i : Nat} {A : Option Addr} {w : World} (h : NodesAt w A P n) (hi : i < n) (e0 : nd P i 0 = 4) {a2 : Nat} {t2 : List UInt8} (e2 : nd P i 2 = a2) (C2 : TxC A n c P a2 t2) (l2 : t2.length ≤ 100000) {a3 : Nat} {t3 : List UInt8} (e3 : nd P i 3 = a3) (C3 : TxC A n c P a3 t3) (l3 : t3.length ≤ 100000) :
    Calls Tryz.prog 7 #[.slice A n c, .int .i64 (i : Nat)] w fun e w' => e = .returned (.string ⟨([61] ++ t2 ++ t3).toArray⟩) ∧ Below w.heap.size w w' := by
  have hN := Lib.hid h
  obtain ⟨bk, off, rfl, c0, c1, c2, c3, c4⟩ := h.cells hi
  rw [e0] at c0
  rw [e2] at c2
  rw [e3] at c3
  generalize nd P i 1 = u1 at *
  generalize nd P i 4 = u4 at *
  clear h
  have hx : BoxN (w.alloc (.cells #[.int .i64 4, .int .i64 u1, .int .i64 (a2 : Int), .int .i64 (a3 : Int), .int .i64 u4] 39)) w.heap.size 39 #[.int .i64 4, .int .i64 u1, .int .i64 (a2 : Int), .int .i64 (a3 : Int), .int .i64 u4] := BoxN.new w _ _
  have hbw : Below w.heap.size w (w.alloc (.cells #[.int .i64 4, .int .i64 u1, .int .i64 (a2 : Int), .int .i64 (a3 : Int), .int .i64 u4] 39)) := (Below.refl _ _).alloc (Nat.le_refl _) _
  go_enter Tryz.func7, Tryz.ntmps7
  go_wp2_with fail
  generalize w.alloc (.cells #[.int .i64 4, .int .i64 u1, .int .i64 (a2 : Int), .int .i64 (a3 : Int), .int .i64 u4] 39) = w1 at *
  have q1 := cell_regrown (hx.cell (k := 1) rfl)
  have q2 := cell_regrown (hx.cell (k := 2) rfl)
  have q3 := cell_regrown (hx.cell (k := 3) rfl)
  have q4 := cell_regrown (hx.cell (k := 4) rfl)
  clear c0 c1 c2 c3 c4 hx
  have Q2 := Lib.hid (fun (d : Nat) (os : Array Obj) => Calls.regrown_of (C2 (Sort.grow (redrawn w1 d) os) ((hN.out.below (B := 0) hbw).below (B := 0) (below_regrown w1 d os))))
  have Q3 := Lib.hid (fun (d : Nat) (os : Array Obj) => Calls.regrown_of (C3 (Sort.grow (redrawn w1 d) os) ((hN.out.below (B := 0) hbw).below (B := 0) (below_regrown w1 d os))))
  have b1 : ¬ 9223372036854775807 < 1 + t2.length := by omega
  have b2 : ¬ 9223372036854775807 < 1 + t2.length + t3.length := by omega
  refine wp_region_quiet_below (by kernel_rfl) (by kernel_rfl) ?_
  repeat (go_big_quiet_step (first | (with_reducible exact Q2.out _ _) | (with_reducible exact Q3.out _ _)))
  refine wpQuiet_nil ?_
  rintro _ ⟨pq, rfl⟩
  have hbq := below_regrown w1 pq.d pq.os
  generalize Sort.grow (redrawn w1 pq.d) pq.os = w4 at *
  go_wp2_with fail
  go_ret
  exact ⟨txt_is (by simp), hbw.trans (hbq.mono hbw.size)⟩

set_option maxHeartbeats 8000000 in
theorem txt_skip {P : List Int} {n c i : Nat} {A : Option Addr} {w : World} (h : NodesAt w A P n) (hi : i < n) (e0 : nd P i 0 = 5) :
    Calls Tryz.prog 7 #[.slice A n c, .int .i64 (i : Nat)] w fun e w' => e = .returned (.string ⟨([]).toArray⟩) ∧ Below w.heap.size w w' := by
  have hN := Lib.hid h
  obtain ⟨bk, off, rfl, c0, c1, c2, c3, c4⟩ := h.cells hi
  rw [e0] at c0
  generalize nd P i 1 = u1 at *
  generalize nd P i 2 = u2 at *
  generalize nd P i 3 = u3 at *
  generalize nd P i 4 = u4 at *
  clear h
  have hx : BoxN (w.alloc (.cells #[.int .i64 5, .int .i64 u1, .int .i64 u2, .int .i64 u3, .int .i64 u4] 39)) w.heap.size 39 #[.int .i64 5, .int .i64 u1, .int .i64 u2, .int .i64 u3, .int .i64 u4] := BoxN.new w _ _
  have hbw : Below w.heap.size w (w.alloc (.cells #[.int .i64 5, .int .i64 u1, .int .i64 u2, .int .i64 u3, .int .i64 u4] 39)) := (Below.refl _ _).alloc (Nat.le_refl _) _
  go_enter Tryz.func7, Tryz.ntmps7
  go_wp2_with fail
  go_ret
  exact ⟨rfl, hbw⟩

set_option maxHeartbeats 8000000 in
theorem txt_set {P : List Int} {n c i : Nat} {A : Option Addr} {w : World} (h : NodesAt w A P n) (hi : i < n) (e0 : nd P i 0 = 6) {a2 : Nat} {t2 : List UInt8} (e2 : nd P i 2 = a2) (C2 : TxC A n c P a2 t2) (l2 : t2.length ≤ 100000) {m : Nat} (e1 : nd P i 1 = m) (hm : m < 6) :
    Calls Tryz.prog 7 #[.slice A n c, .int .i64 (i : Nat)] w fun e w' => e = .returned (.string ⟨([nmC m] ++ [61] ++ t2 ++ [59]).toArray⟩) ∧ Below w.heap.size w w' := by
  have hN := Lib.hid h
  obtain ⟨bk, off, rfl, c0, c1, c2, c3, c4⟩ := h.cells hi
  rw [e0] at c0
  rw [e1] at c1
  rw [e2] at c2
  generalize nd P i 3 = u3 at *
  generalize nd P i 4 = u4 at *
  clear h
  have hx : BoxN (w.alloc (.cells #[.int .i64 6, .int .i64 (m : Int), .int .i64 (a2 : Int), .int .i64 u3, .int .i64 u4] 39)) w.heap.size 39 #[.int .i64 6, .int .i64 (m : Int), .int .i64 (a2 : Int), .int .i64 u3, .int .i64 u4] := BoxN.new w _ _
  have hbw : Below w.heap.size w (w.alloc (.cells #[.int .i64 6, .int .i64 (m : Int), .int .i64 (a2 : Int), .int .i64 u3, .int .i64 u4] 39)) := (Below.refl _ _).alloc (Nat.le_refl _) _
  have CL := Lib.hid (fun V => RLet_any V hm)
  go_enter Tryz.func7, Tryz.ntmps7
  go_wp2_with fail
  generalize w.alloc (.cells #[.int .i64 6, .int .i64 (m : Int), .int .i64 (a2 : Int), .int .i64 u3, .int .i64 u4] 39) = w1 at *
  have q1 := cell_regrown (hx.cell (k := 1) rfl)
  have q2 := cell_regrown (hx.cell (k := 2) rfl)
  have q3 := cell_regrown (hx.cell (k := 3) rfl)
  have q4 := cell_regrown (hx.cell (k := 4) rfl)
  clear c0 c1 c2 c3 c4 hx
  have Q2 := Lib.hid (fun (d : Nat) (os : Array Obj) => Calls.regrown_of (C2 (Sort.grow (redrawn w1 d) os) ((hN.out.below (B := 0) hbw).below (B := 0) (below_regrown w1 d os))))
  have QL := Lib.hid (fun (d : Nat) (os : Array Obj) => Calls.regrown_of (CL.out (Sort.grow (redrawn w1 d) os)))
  have b1 : ¬ 9223372036854775807 < 1 + 1 := by omega
  have b2 : ¬ 9223372036854775807 < 1 + 1 + t2.length := by omega
  have b3 : ¬ 9223372036854775807 < 1 + 1 + t2.length + 1 := by omega
  refine wp_region_quiet_below (by kernel_rfl) (by kernel_rfl) ?_
  repeat (go_big_quiet_step (first | (with_reducible exact Q2.out _ _) | (with_reducible exact QL.out _ _)))
  refine wpQuiet_nil ?_
  rintro _ ⟨pq, rfl⟩
  have hbq := below_regrown w1 pq.d pq.os
  generalize Sort.grow (redrawn w1 pq.d) pq.os = w4 at *
  go_wp2_with fail
  go_ret
  exact ⟨txt_is (by simp), hbw.trans (hbq.mono hbw.size)⟩

set_option maxHeartbeats 8000000 in
theorem txt_both {P : List Int} {n c i : Nat} {A : Option Addr} {w : World} (h : NodesAt w A P n) (hi : i < n) (e0 : nd P i 0 = 7) {a2 : Nat} {t2 : List UInt8} (e2 : nd P i 2 = a2) (C2 : TxC A n c P a2 t2) (l2 : t2.length ≤ 100000) {a3 : Nat} {t3 : List UInt8} (e3 : nd P i 3 = a3) (C3 : TxC A n c P a3 t3) (l3 : t3.length ≤ 100000) :
    Calls Tryz.prog 7 #[.slice A n c, .int .i64 (i : Nat)] w fun e w' => e = .returned (.string ⟨(t2 ++ t3).toArray⟩) ∧ Below w.heap.size w w' := by
  have hN := Lib.hid h
  obtain ⟨bk, off, rfl, c0, c1, c2, c3, c4⟩ := h.cells hi
  rw [e0] at c0
  rw [e2] at c2
  rw [e3] at c3
  generalize nd P i 1 = u1 at *
  generalize nd P i 4 = u4 at *
  clear h
  have hx : BoxN (w.alloc (.cells #[.int .i64 7, .int .i64 u1, .int .i64 (a2 : Int), .int .i64 (a3 : Int), .int .i64 u4] 39)) w.heap.size 39 #[.int .i64 7, .int .i64 u1, .int .i64 (a2 : Int), .int .i64 (a3 : Int), .int .i64 u4] := BoxN.new w _ _
  have hbw : Below w.heap.size w (w.alloc (.cells #[.int .i64 7, .int .i64 u1, .int .i64 (a2 : Int), .int .i64 (a3 : Int), .int .i64 u4] 39)) := (Below.refl _ _).alloc (Nat.le_refl _) _
  go_enter Tryz.func7, Tryz.ntmps7
  go_wp2_with fail
  generalize w.alloc (.cells #[.int .i64 7, .int .i64 u1, .int .i64 (a2 : Int), .int .i64 (a3 : Int), .int .i64 u4] 39) = w1 at *
  have q1 := cell_regrown (hx.cell (k := 1) rfl)
  have q2 := cell_regrown (hx.cell (k := 2) rfl)
  have q3 := cell_regrown (hx.cell (k := 3) rfl)
  have q4 := cell_regrown (hx.cell (k := 4) rfl)
  clear c0 c1 c2 c3 c4 hx
  have Q2 := Lib.hid (fun (d : Nat) (os : Array Obj) => Calls.regrown_of (C2 (Sort.grow (redrawn w1 d) os) ((hN.out.below (B := 0) hbw).below (B := 0) (below_regrown w1 d os))))
  have Q3 := Lib.hid (fun (d : Nat) (os : Array Obj) => Calls.regrown_of (C3 (Sort.grow (redrawn w1 d) os) ((hN.out.below (B := 0) hbw).below (B := 0) (below_regrown w1 d os))))
  have b1 : ¬ 9223372036854775807 < t2.length + t3.length := by omega
  refine wp_region_quiet_below (by kernel_rfl) (by kernel_rfl) ?_
  repeat (go_big_quiet_step (first | (with_reducible exact Q2.out _ _) | (with_reducible exact Q3.out _ _)))
  refine wpQuiet_nil ?_
  rintro _ ⟨pq, rfl⟩
  have hbq := below_regrown w1 pq.d pq.os
  generalize Sort.grow (redrawn w1 pq.d) pq.os = w4 at *
  go_wp2_with fail
  go_ret
  exact ⟨txt_is (by simp), hbw.trans (hbq.mono hbw.size)⟩

set_option maxHeartbeats 8000000 in
theorem txt_ite {P : List Int} {n c i : Nat} {A : Option Addr} {w : World} (h : NodesAt w A P n) (hi : i < n) (e0 : nd P i 0 = 8) {a2 : Nat} {t2 : List UInt8} (e2 : nd P i 2 = a2) (C2 : TxC A n c P a2 t2) (l2 : t2.length ≤ 100000) {a3 : Nat} {t3 : List UInt8} (e3 : nd P i 3 = a3) (C3 : TxC A n c P a3 t3) (l3 : t3.length ≤ 100000) {a4 : Nat} {t4 : List UInt8} (e4 : nd P i 4 = a4) (C4 : TxC A n c P a4 t4) (l4 : t4.length ≤ 100000) :
    Calls Tryz.prog 7 #[.slice A n c, .int .i64 (i : Nat)] w fun e w' => e = .returned (.string ⟨([63] ++ t2 ++ [123] ++ t3 ++ [125, 123] ++ t4 ++ [125]).toArray⟩) ∧ Below w.heap.size w w' := by
  have hN := Lib.hid h
  obtain ⟨bk, off, rfl, c0, c1, c2, c3, c4⟩ := h.cells hi
  rw [e0] at c0
  rw [e2] at c2
  rw [e3] at c3
  rw [e4] at c4
  generalize nd P i 1 = u1 at *
  clear h
  have hx : BoxN (w.alloc (.cells #[.int .i64 8, .int .i64 u1, .int .i64 (a2 : Int), .int .i64 (a3 : Int), .int .i64 (a4 : Int)] 39)) w.heap.size 39 #[.int .i64 8, .int .i64 u1, .int .i64 (a2 : Int), .int .i64 (a3 : Int), .int .i64 (a4 : Int)] := BoxN.new w _ _
  have hbw : Below w.heap.size w (w.alloc (.cells #[.int .i64 8, .int .i64 u1, .int .i64 (a2 : Int), .int .i64 (a3 : Int), .int .i64 (a4 : Int)] 39)) := (Below.refl _ _).alloc (Nat.le_refl _) _
  go_enter Tryz.func7, Tryz.ntmps7
  go_wp2_with fail
  generalize w.alloc (.cells #[.int .i64 8, .int .i64 u1, .int .i64 (a2 : Int), .int .i64 (a3 : Int), .int .i64 (a4 : Int)] 39) = w1 at *
  have q1 := cell_regrown (hx.cell (k := 1) rfl)
  have q2 := cell_regrown (hx.cell (k := 2) rfl)
  have q3 := cell_regrown (hx.cell (k := 3) rfl)
  have q4 := cell_regrown (hx.cell (k := 4) rfl)
  clear c0 c1 c2 c3 c4 hx
  have Q2 := Lib.hid (fun (d : Nat) (os : Array Obj) => Calls.regrown_of (C2 (Sort.grow (redrawn w1 d) os) ((hN.out.below (B := 0) hbw).below (B := 0) (below_regrown w1 d os))))
  have Q3 := Lib.hid (fun (d : Nat) (os : Array Obj) => Calls.regrown_of (C3 (Sort.grow (redrawn w1 d) os) ((hN.out.below (B := 0) hbw).below (B := 0) (below_regrown w1 d os))))
  have Q4 := Lib.hid (fun (d : Nat) (os : Array Obj) => Calls.regrown_of (C4 (Sort.grow (redrawn w1 d) os) ((hN.out.below (B := 0) hbw).below (B := 0) (below_regrown w1 d os))))
  have b1 : ¬ 9223372036854775807 < 1 + t2.length := by omega
  have b2 : ¬ 9223372036854775807 < 1 + t2.length + 1 := by omega
  have b3 : ¬ 9223372036854775807 < 1 + t2.length + 1 + t3.length := by omega
  have b4 : ¬ 9223372036854775807 < 1 + t2.length + 1 + t3.length + 2 := by omega
  have b5 : ¬ 9223372036854775807 < 1 + t2.length + 1 + t3.length + 2 + t4.length := by omega
  have b6 : ¬ 9223372036854775807 < 1 + t2.length + 1 + t3.length + 2 + t4.length + 1 := by omega
  refine wp_region_quiet_below (by kernel_rfl) (by kernel_rfl) ?_
  repeat (go_big_quiet_step (first | (with_reducible exact Q2.out _ _) | (with_reducible exact Q3.out _ _) | (with_reducible exact Q4.out _ _)))
  refine wpQuiet_nil ?_
  rintro _ ⟨pq, rfl⟩
  have hbq := below_regrown w1 pq.d pq.os
  generalize Sort.grow (redrawn w1 pq.d) pq.os = w4 at *
  go_wp2_with fail
  go_ret
  exact ⟨txt_is (by simp), hbw.trans (hbq.mono hbw.size)⟩

set_option maxHeartbeats 8000000 in
theorem txt_loop {P : List Int} {n c i : Nat} {A : Option Addr} {w : World} (h : NodesAt w A P n) (hi : i < n) (e0 : nd P i 0 = 9) {a2 : Nat} {t2 : List UInt8} (e2 : nd P i 2 = a2) (C2 : TxC A n c P a2 t2) (l2 : t2.length ≤ 100000) {a3 : Nat} {t3 : List UInt8} (e3 : nd P i 3 = a3) (C3 : TxC A n c P a3 t3) (l3 : t3.length ≤ 100000) :
    Calls Tryz.prog 7 #[.slice A n c, .int .i64 (i : Nat)] w fun e w' => e = .returned (.string ⟨([64] ++ t2 ++ [123] ++ t3 ++ [125]).toArray⟩) ∧ Below w.heap.size w w' := by
  have hN := Lib.hid h
  obtain ⟨bk, off, rfl, c0, c1, c2, c3, c4⟩ := h.cells hi
  rw [e0] at c0
  rw [e2] at c2
  rw [e3] at c3
  generalize nd P i 1 = u1 at *
  generalize nd P i 4 = u4 at *
  clear h
  have hx : BoxN (w.alloc (.cells #[.int .i64 9, .int .i64 u1, .int .i64 (a2 : Int), .int .i64 (a3 : Int), .int .i64 u4] 39)) w.heap.size 39 #[.int .i64 9, .int .i64 u1, .int .i64 (a2 : Int), .int .i64 (a3 : Int), .int .i64 u4] := BoxN.new w _ _
  have hbw : Below w.heap.size w (w.alloc (.cells #[.int .i64 9, .int .i64 u1, .int .i64 (a2 : Int), .int .i64 (a3 : Int), .int .i64 u4] 39)) := (Below.refl _ _).alloc (Nat.le_refl _) _
  go_enter Tryz.func7, Tryz.ntmps7
  go_wp2_with fail
  generalize w.alloc (.cells #[.int .i64 9, .int .i64 u1, .int .i64 (a2 : Int), .int .i64 (a3 : Int), .int .i64 u4] 39) = w1 at *
  have q1 := cell_regrown (hx.cell (k := 1) rfl)
  have q2 := cell_regrown (hx.cell (k := 2) rfl)
  have q3 := cell_regrown (hx.cell (k := 3) rfl)
  have q4 := cell_regrown (hx.cell (k := 4) rfl)
  clear c0 c1 c2 c3 c4 hx
  have Q2 := Lib.hid (fun (d : Nat) (os : Array Obj) => Calls.regrown_of (C2 (Sort.grow (redrawn w1 d) os) ((hN.out.below (B := 0) hbw).below (B := 0) (below_regrown w1 d os))))
  have Q3 := Lib.hid (fun (d : Nat) (os : Array Obj) => Calls.regrown_of (C3 (Sort.grow (redrawn w1 d) os) ((hN.out.below (B := 0) hbw).below (B := 0) (below_regrown w1 d os))))
  have b1 : ¬ 9223372036854775807 < 1 + t2.length := by omega
  have b2 : ¬ 9223372036854775807 < 1 + t2.length + 1 := by omega
  have b3 : ¬ 9223372036854775807 < 1 + t2.length + 1 + t3.length := by omega
  have b4 : ¬ 9223372036854775807 < 1 + t2.length + 1 + t3.length + 1 := by omega
  refine wp_region_quiet_below (by kernel_rfl) (by kernel_rfl) ?_
  repeat (go_big_quiet_step (first | (with_reducible exact Q2.out _ _) | (with_reducible exact Q3.out _ _)))
  refine wpQuiet_nil ?_
  rintro _ ⟨pq, rfl⟩
  have hbq := below_regrown w1 pq.d pq.os
  generalize Sort.grow (redrawn w1 pq.d) pq.os = w4 at *
  go_wp2_with fail
  go_ret
  exact ⟨txt_is (by simp), hbw.trans (hbq.mono hbw.size)⟩
end Go.Proofs.YtfpghfmdkbdojaaGreatDoor
