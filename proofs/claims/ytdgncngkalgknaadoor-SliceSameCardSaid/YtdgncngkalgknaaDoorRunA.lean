/-
  Contracts: the runner's value and burn; run.bit.
-/
import Derived.Test.YtdgncngkalgknaaDoorPgB
import Derived.Test.YtdgncngkalgknaaDoorCast
import Derived.Test.YtdgncngkalgknaaDoorOver
import Derived.Lib.QuietBelow
import Derived.Deep.QuietTactic
import Derived.BigQuiet
namespace Go.Proofs.YtdgncngkalgknaaDoor
open Go.RowKit
set_option maxRecDepth 100000
set_option linter.unusedVariables false

/-- A runner of a program lies in a block of the call's own. -/
structure RunAt (w0 w : World) (p : Nat) (A : Option Addr) (P : List Int) (n c : Nat) (v : List Nat) (left : Int) : Prop where
  base : NodesAt w0 A P n
  low : Below w0.heap.size w0 w
  bp : w0.heap.size ≤ p
  box : BoxN w p 71 #[.slice A n c, .int .i64 (row v 0 : Nat), .int .i64 (row v 1 : Nat), .int .i64 (row v 2 : Nat), .int .i64 (row v 3 : Nat), .int .i64 (row v 4 : Nat), .int .i64 (row v 5 : Nat), .int .i64 left]
section
variable {w0 w w' : World} {p : Nat} {A : Option Addr} {P : List Int} {n c : Nat} {v : List Nat} {left : Int}
theorem RunAt.nodes (h : RunAt w0 w p A P n c v left) : NodesAt w A P n := h.base.below (B := 0) h.low
theorem RunAt.all (h : RunAt w0 w p A P n c v left) (hb : Below w.heap.size w w') : RunAt w0 w' p A P n c v left := ⟨h.base, h.low.trans (hb.mono h.low.size), h.bp, h.box.all hb⟩
theorem RunAt.var (h : RunAt w0 w p A P n c v left) {x : Nat} (hx : x < 6) : w.cell? ⟨p, 1 + x, none⟩ = some (.int .i64 (row v x : Nat)) := by
  have hc : x = 0 ∨ x = 1 ∨ x = 2 ∨ x = 3 ∨ x = 4 ∨ x = 5 := by omega
  rcases hc with rfl | rfl | rfl | rfl | rfl | rfl <;> exact h.box.cell rfl
end
theorem row_getD (v : List Nat) (i : Nat) : row v i = v.getD i 0 := by unfold row; rw [List.getD_eq_getElem?_getD]

theorem bit_any (b : Bool) (w : World) : Calls Tryd.prog 89 #[.bool b] w fun e w' => e = .returned (.int .i64 (if b then 1 else 0)) ∧ w = w' := by
  cases b with
  | false =>
    go_enter Tryd.func89, Tryd.ntmps89
    go_wp2_with fail
    go_ret
    exact ⟨rfl, rfl⟩
  | true =>
    go_enter Tryd.func89, Tryd.ntmps89
    go_wp2_with fail
    go_ret
    exact ⟨rfl, rfl⟩

set_option maxHeartbeats 4000000 in
theorem value_any {w0 : World} {P : List Int} {n c p : Nat} {A : Option Addr} {v : List Nat} {left : Int} (hv : Vars v) {i : Nat} {e : Ex} (he : IsEx P i e) (hi : i < n) : ∀ (w : World), RunAt w0 w p A P n c v left →
    Calls Tryd.prog 66 #[.pointer (some ⟨p, 0, none⟩), .int .i64 i] w fun r w' => r = .returned (.int .i64 (e.val v : Nat)) ∧ Below w.heap.size w w' := by
  induction he with
  | @num i m h0 h1 h2 =>
    intro w h
    obtain ⟨b, off, rfl, p0, p1, p2, p3, p4⟩ := h.nodes.cells hi
    rw [h0] at p0
    rw [h1] at p1
    have c0 : w.cell? ⟨p, 0, none⟩ = some (.slice (some ⟨b, off, none⟩) n c) := h.box.cell rfl
    have hb : Below w.heap.size w (w.alloc (.cells #[.int .i64 0, .int .i64 m, .int .i64 (nd P i 2), .int .i64 (nd P i 3), .int .i64 (nd P i 4)] 51)) := (Below.refl _ _).alloc (Nat.le_refl _) _
    have Hb := Lib.hid hb
    clear h h0 h1 hb
    go_enter Tryd.func66, Tryd.ntmps66
    go_wp2_with fail
    go_ret
    exact ⟨rfl, Hb.out⟩
  | @var i m h0 h1 h2 =>
    intro w h
    obtain ⟨b, off, rfl, p0, p1, p2, p3, p4⟩ := h.nodes.cells hi
    rw [h0] at p0
    rw [h1] at p1
    have c0 : w.cell? ⟨p, 0, none⟩ = some (.slice (some ⟨b, off, none⟩) n c) := h.box.cell rfl
    have hb : Below w.heap.size w (w.alloc (.cells #[.int .i64 1, .int .i64 m, .int .i64 (nd P i 2), .int .i64 (nd P i 3), .int .i64 (nd P i 4)] 51)) := (Below.refl _ _).alloc (Nat.le_refl _) _
    have hx0 := BoxN.new w 51 #[.int .i64 1, .int .i64 m, .int .i64 (nd P i 2), .int .i64 (nd P i 3), .int .i64 (nd P i 4)]
    have h2v := (h.all hb).var h2
    have Hr := Lib.hid (show (Ex.var m).val v = row v m by rw [row_getD]; rfl)
    clear h h0 h1
    generalize nd P i 2 = q2 at *
    generalize nd P i 3 = q3 at *
    generalize nd P i 4 = q4 at *
    go_enter Tryd.func66, Tryd.ntmps66
    go_wp2_with fail
    generalize (w.alloc (.cells #[.int .i64 1, .int .i64 m, .int .i64 q2, .int .i64 q3, .int .i64 q4] 51)) = W at *
    have e1 : W.cell? ⟨w.heap.size, 1, none⟩ = some (.int .i64 (m : Nat)) := hx0.cell rfl
    have hm6 : (m : Int) < 6 := by omega
    go_quiet (fail)
    go_wp2_with fail
    go_ret
    exact ⟨by rw [Hr.out]; rfl, belowD hb _⟩
  | @op i k a b x y hk2 hk4 h0 h2 h3 la lb hx hy iha ihb =>
    intro w h
    obtain ⟨bb, off, rfl, p0, p1, p2, p3, p4⟩ := h.nodes.cells hi
    rw [h0] at p0
    rw [h2] at p2
    rw [h3] at p3
    have c0 : w.cell? ⟨p, 0, none⟩ = some (.slice (some ⟨bb, off, none⟩) n c) := h.box.cell rfl
    have hb : Below w.heap.size w (w.alloc (.cells #[.int .i64 k, .int .i64 (nd P i 1), .int .i64 a, .int .i64 b, .int .i64 (nd P i 4)] 51)) := (Below.refl _ _).alloc (Nat.le_refl _) _
    have hx0 := BoxN.new w 51 #[.int .i64 k, .int .i64 (nd P i 1), .int .i64 a, .int .i64 b, .int .i64 (nd P i 4)]
    have bx := Ex.val_le hx.ok hv
    have by_ := Ex.val_le hy.ok hv
    have Ha := Lib.hid (fun V (hV : Below w.heap.size w V) => iha (by omega) V (h.all hV))
    have Hb := Lib.hid (fun V (hV : Below w.heap.size w V) => ihb (by omega) V (h.all hV))
    have Hr := Lib.hid (show (Ex.op k x y).val v = opV k (x.val v) (y.val v) from rfl)
    generalize (Ex.op k x y).val v = rr at *
    generalize x.val v = xv at *
    generalize y.val v = yv at *
    clear h iha ihb hx hy h0 h2 h3 la lb hv
    generalize nd P i 1 = q1 at *
    generalize nd P i 4 = q4 at *
    have hk : k = 2 ∨ k = 3 ∨ k = 4 := by omega
    rcases hk with rfl | rfl | rfl
    · go_enter Tryd.func66, Tryd.ntmps66
      go_wp2_with fail
      generalize (w.alloc (.cells #[.int .i64 2, .int .i64 q1, .int .i64 a, .int .i64 b, .int .i64 q4] 51)) = W at *
      have g2 := cell_regrown (show W.cell? ⟨w.heap.size, 2, none⟩ = some (.int .i64 (a : Nat)) from hx0.cell rfl)
      have g3 := cell_regrown (show W.cell? ⟨w.heap.size, 3, none⟩ = some (.int .i64 (b : Nat)) from hx0.cell rfl)
      have Q1 := Lib.hid (fun (d : Nat) (os : Array Obj) => Calls.regrown_of (Ha.out (Sort.grow (redrawn W d) os) (hb.trans ((below_regrown W d os).mono hb.size))))
      have Q2 := Lib.hid (fun (d : Nat) (os : Array Obj) => Calls.regrown_of (Hb.out (Sort.grow (redrawn W d) os) (hb.trans ((below_regrown W d os).mono hb.size))))
      refine wp_region_quiet_below (by kernel_rfl) (by kernel_rfl) ?_
      repeat (go_big_quiet_step (first | (with_reducible exact Q1.out _ _) | (with_reducible exact Q2.out _ _)))
      refine wpQuiet_nil ?_
      rintro _ ⟨pq, rfl⟩
      have hbq := hb.trans ((below_regrown W pq.d pq.os).mono hb.size)
      generalize Sort.grow (redrawn W pq.d) pq.os = wq at *
      go_wp2_with fail
      go_ret
      exact ⟨by rw [Hr.out]; exact ret_int (by unfold opV; rw [if_pos rfl]; omega), hbq⟩
    · by_cases hlt : xv < yv
      · have d3 : decide ((xv : Int) < (yv : Int)) = true := by simp; omega
        have d3' : decide (xv < yv) = true := by simpa using hlt
        have Hr1 := Lib.hid (show rr = 1 by rw [Hr.out]; simp [opV, hlt])
        clear Hr hlt
        go_enter Tryd.func66, Tryd.ntmps66
        go_wp2_with fail
        generalize (w.alloc (.cells #[.int .i64 3, .int .i64 q1, .int .i64 a, .int .i64 b, .int .i64 q4] 51)) = W at *
        have g2 := cell_regrown (show W.cell? ⟨w.heap.size, 2, none⟩ = some (.int .i64 (a : Nat)) from hx0.cell rfl)
        have g3 := cell_regrown (show W.cell? ⟨w.heap.size, 3, none⟩ = some (.int .i64 (b : Nat)) from hx0.cell rfl)
        have Q1 := Lib.hid (fun (d : Nat) (os : Array Obj) => Calls.regrown_of (Ha.out (Sort.grow (redrawn W d) os) (hb.trans ((below_regrown W d os).mono hb.size))))
        have Q2 := Lib.hid (fun (d : Nat) (os : Array Obj) => Calls.regrown_of (Hb.out (Sort.grow (redrawn W d) os) (hb.trans ((below_regrown W d os).mono hb.size))))
        have Q3 := Lib.hid (fun (d : Nat) (os : Array Obj) => Calls.regrown_of ((bit_any true (Sort.grow (redrawn W d) os)).mono fun e w' ⟨he, hw⟩ => (⟨he, hw ▸ Below.refl _ _⟩ : _ ∧ Below (Sort.grow (redrawn W d) os).heap.size (Sort.grow (redrawn W d) os) w')))
        refine wp_region_quiet_below (by kernel_rfl) (by kernel_rfl) ?_
        repeat (go_big_quiet_step (first | (with_reducible exact Q1.out _ _) | (with_reducible exact Q2.out _ _) | (with_reducible exact Q3.out _ _)))
        refine wpQuiet_nil ?_
        rintro _ ⟨pq, rfl⟩
        have hbq := hb.trans ((below_regrown W pq.d pq.os).mono hb.size)
        generalize Sort.grow (redrawn W pq.d) pq.os = wq at *
        go_wp2_with fail
        go_ret
        exact ⟨by rw [Hr1.out]; rfl, hbq⟩
      · have d3 : decide ((xv : Int) < (yv : Int)) = false := by simp; omega
        have d3' : decide (xv < yv) = false := by simpa using hlt
        have Hr1 := Lib.hid (show rr = 0 by rw [Hr.out]; simp [opV, hlt])
        clear Hr hlt
        go_enter Tryd.func66, Tryd.ntmps66
        go_wp2_with fail
        generalize (w.alloc (.cells #[.int .i64 3, .int .i64 q1, .int .i64 a, .int .i64 b, .int .i64 q4] 51)) = W at *
        have g2 := cell_regrown (show W.cell? ⟨w.heap.size, 2, none⟩ = some (.int .i64 (a : Nat)) from hx0.cell rfl)
        have g3 := cell_regrown (show W.cell? ⟨w.heap.size, 3, none⟩ = some (.int .i64 (b : Nat)) from hx0.cell rfl)
        have Q1 := Lib.hid (fun (d : Nat) (os : Array Obj) => Calls.regrown_of (Ha.out (Sort.grow (redrawn W d) os) (hb.trans ((below_regrown W d os).mono hb.size))))
        have Q2 := Lib.hid (fun (d : Nat) (os : Array Obj) => Calls.regrown_of (Hb.out (Sort.grow (redrawn W d) os) (hb.trans ((below_regrown W d os).mono hb.size))))
        have Q3 := Lib.hid (fun (d : Nat) (os : Array Obj) => Calls.regrown_of ((bit_any false (Sort.grow (redrawn W d) os)).mono fun e w' ⟨he, hw⟩ => (⟨he, hw ▸ Below.refl _ _⟩ : _ ∧ Below (Sort.grow (redrawn W d) os).heap.size (Sort.grow (redrawn W d) os) w')))
        refine wp_region_quiet_below (by kernel_rfl) (by kernel_rfl) ?_
        repeat (go_big_quiet_step (first | (with_reducible exact Q1.out _ _) | (with_reducible exact Q2.out _ _) | (with_reducible exact Q3.out _ _)))
        refine wpQuiet_nil ?_
        rintro _ ⟨pq, rfl⟩
        have hbq := hb.trans ((below_regrown W pq.d pq.os).mono hb.size)
        generalize Sort.grow (redrawn W pq.d) pq.os = wq at *
        go_wp2_with fail
        go_ret
        exact ⟨by rw [Hr1.out]; rfl, hbq⟩
    · by_cases hlt : xv = yv
      · have d3 : ((xv : Int) == (yv : Int)) = true := by simp; omega
        have Hr1 := Lib.hid (show rr = 1 by rw [Hr.out]; simp [opV, hlt])
        clear Hr hlt
        go_enter Tryd.func66, Tryd.ntmps66
        go_wp2_with fail
        generalize (w.alloc (.cells #[.int .i64 4, .int .i64 q1, .int .i64 a, .int .i64 b, .int .i64 q4] 51)) = W at *
        have g2 := cell_regrown (show W.cell? ⟨w.heap.size, 2, none⟩ = some (.int .i64 (a : Nat)) from hx0.cell rfl)
        have g3 := cell_regrown (show W.cell? ⟨w.heap.size, 3, none⟩ = some (.int .i64 (b : Nat)) from hx0.cell rfl)
        have Q1 := Lib.hid (fun (d : Nat) (os : Array Obj) => Calls.regrown_of (Ha.out (Sort.grow (redrawn W d) os) (hb.trans ((below_regrown W d os).mono hb.size))))
        have Q2 := Lib.hid (fun (d : Nat) (os : Array Obj) => Calls.regrown_of (Hb.out (Sort.grow (redrawn W d) os) (hb.trans ((below_regrown W d os).mono hb.size))))
        have Q3 := Lib.hid (fun (d : Nat) (os : Array Obj) => Calls.regrown_of ((bit_any true (Sort.grow (redrawn W d) os)).mono fun e w' ⟨he, hw⟩ => (⟨he, hw ▸ Below.refl _ _⟩ : _ ∧ Below (Sort.grow (redrawn W d) os).heap.size (Sort.grow (redrawn W d) os) w')))
        refine wp_region_quiet_below (by kernel_rfl) (by kernel_rfl) ?_
        repeat (go_big_quiet_step (first | (with_reducible exact Q1.out _ _) | (with_reducible exact Q2.out _ _) | (with_reducible exact Q3.out _ _)))
        refine wpQuiet_nil ?_
        rintro _ ⟨pq, rfl⟩
        have hbq := hb.trans ((below_regrown W pq.d pq.os).mono hb.size)
        generalize Sort.grow (redrawn W pq.d) pq.os = wq at *
        go_wp2_with fail
        go_ret
        exact ⟨by rw [Hr1.out]; rfl, hbq⟩
      · have d3 : ((xv : Int) == (yv : Int)) = false := by simp; omega
        have Hr1 := Lib.hid (show rr = 0 by rw [Hr.out]; simp [opV, hlt])
        clear Hr hlt
        go_enter Tryd.func66, Tryd.ntmps66
        go_wp2_with fail
        generalize (w.alloc (.cells #[.int .i64 4, .int .i64 q1, .int .i64 a, .int .i64 b, .int .i64 q4] 51)) = W at *
        have g2 := cell_regrown (show W.cell? ⟨w.heap.size, 2, none⟩ = some (.int .i64 (a : Nat)) from hx0.cell rfl)
        have g3 := cell_regrown (show W.cell? ⟨w.heap.size, 3, none⟩ = some (.int .i64 (b : Nat)) from hx0.cell rfl)
        have Q1 := Lib.hid (fun (d : Nat) (os : Array Obj) => Calls.regrown_of (Ha.out (Sort.grow (redrawn W d) os) (hb.trans ((below_regrown W d os).mono hb.size))))
        have Q2 := Lib.hid (fun (d : Nat) (os : Array Obj) => Calls.regrown_of (Hb.out (Sort.grow (redrawn W d) os) (hb.trans ((below_regrown W d os).mono hb.size))))
        have Q3 := Lib.hid (fun (d : Nat) (os : Array Obj) => Calls.regrown_of ((bit_any false (Sort.grow (redrawn W d) os)).mono fun e w' ⟨he, hw⟩ => (⟨he, hw ▸ Below.refl _ _⟩ : _ ∧ Below (Sort.grow (redrawn W d) os).heap.size (Sort.grow (redrawn W d) os) w')))
        refine wp_region_quiet_below (by kernel_rfl) (by kernel_rfl) ?_
        repeat (go_big_quiet_step (first | (with_reducible exact Q1.out _ _) | (with_reducible exact Q2.out _ _) | (with_reducible exact Q3.out _ _)))
        refine wpQuiet_nil ?_
        rintro _ ⟨pq, rfl⟩
        have hbq := hb.trans ((below_regrown W pq.d pq.os).mono hb.size)
        generalize Sort.grow (redrawn W pq.d) pq.os = wq at *
        go_wp2_with fail
        go_ret
        exact ⟨by rw [Hr1.out]; rfl, hbq⟩
end Go.Proofs.YtdgncngkalgknaaDoor
