/-
  Contracts: the runner's value and burn; run.bit.
  Contracts: the runner's burn and do.
  Contracts: run.Check, run.Run.
  Contract: run.Run.
  What Run tells, by ways.
  The closed facts of the laws on reading and on running.
  The walk of ProgJoins.
-/
import Derived.Test.YtdgncngkalgknaaDoorPgB
import Derived.Test.YtdgncngkalgknaaDoorCast
import Derived.Test.YtdgncngkalgknaaDoorOver
import Derived.Lib.QuietBelow
import Derived.Deep.QuietTactic
import Derived.BigQuiet
import Derived.Test.YtdgncngkalgknaaDoorBut
import Derived.Deep.LoopGhost
import Derived.Deep.RegionWith
import Derived.Test.YtdgncngkalgknaaDoorPgC
import Derived.Test.YtdgncngkalgknaaDoorClone
import Derived.Test.YtdgncngkalgknaaDoorBibaLaw
import Derived.Test.YtdgncngkalgknaaDoorCells6
import Derived.Test.YtdgncngkalgknaaDoorRdN
import Derived.Test.YtdgncngkalgknaaDoorInts
import Derived.Test.YtdgncngkalgknaaDoorTxM
import Derived.Test.YtdgncngkalgknaaDoorAs
import Derived.Test.YtdgncngkalgknaaDoorFrame
namespace Go.Proofs.YtdgncngkalgknaaDoor
open Go.RowKit
set_option maxRecDepth 100000
set_option linter.unusedVariables false

/-- A runner of a program lies in a block of the call's own. -/
structure RunAt (w0 w : World) (p : Nat) (A : Option Addr) (P : List Int) (n c : Nat) (v : List Nat) (left : Int) : Prop where
  base : NodesAt w0 A P n
  low : Below w0.heap.size w0 w
  bp : w0.heap.size ≤ p
  box : BoxN w p 71 #[.slice A n c, .int .i64 (row v 0 : Nat), .int .i64 (row v 1 : Nat), .int .i64 (row v 2 : Nat), .int .i64 (row v 3 : Nat), .int .i64 (row v 4 : Nat), .int .i64 (row v 5 : Nat), .int .i64 left]
section
variable {w0 w w' : World} {p : Nat} {A : Option Addr} {P : List Int} {n c : Nat} {v : List Nat} {left : Int}
theorem RunAt.nodes (h : RunAt w0 w p A P n c v left) : NodesAt w A P n := h.base.below (B := 0) h.low
theorem RunAt.all (h : RunAt w0 w p A P n c v left) (hb : Below w.heap.size w w') : RunAt w0 w' p A P n c v left := ⟨h.base, h.low.trans (hb.mono h.low.size), h.bp, h.box.all hb⟩
theorem RunAt.var (h : RunAt w0 w p A P n c v left) {x : Nat} (hx : x < 6) : w.cell? ⟨p, 1 + x, none⟩ = some (.int .i64 (row v x : Nat)) := by
  have hc : x = 0 ∨ x = 1 ∨ x = 2 ∨ x = 3 ∨ x = 4 ∨ x = 5 := by omega
  rcases hc with rfl | rfl | rfl | rfl | rfl | rfl <;> exact h.box.cell rfl
end
theorem row_getD (v : List Nat) (i : Nat) : row v i = v.getD i 0 := by unfold row; rw [List.getD_eq_getElem?_getD]

theorem bit_any (b : Bool) (w : World) : Calls Tryd.prog 89 #[.bool b] w fun e w' => e = .returned (.int .i64 (if b then 1 else 0)) ∧ w = w' := by
  cases b with
  | false =>
    go_enter Tryd.func89, Tryd.ntmps89
    go_wp2_with fail
    go_ret
    exact ⟨rfl, rfl⟩
  | true =>
    go_enter Tryd.func89, Tryd.ntmps89
    go_wp2_with fail
    go_ret
    exact ⟨rfl, rfl⟩

set_option maxHeartbeats 4000000 in
theorem value_any {w0 : World} {P : List Int} {n c p : Nat} {A : Option Addr} {v : List Nat} {left : Int} (hv : Vars v) {i : Nat} {e : Ex} (he : IsEx P i e) (hi : i < n) : ∀ (w : World), RunAt w0 w p A P n c v left →
    Calls Tryd.prog 66 #[.pointer (some ⟨p, 0, none⟩), .int .i64 i] w fun r w' => r = .returned (.int .i64 (e.val v : Nat)) ∧ Below w.heap.size w w' := by
  induction he with
  | @num i m h0 h1 h2 =>
    intro w h
    obtain ⟨b, off, rfl, p0, p1, p2, p3, p4⟩ := h.nodes.cells hi
    rw [h0] at p0
    rw [h1] at p1
    have c0 : w.cell? ⟨p, 0, none⟩ = some (.slice (some ⟨b, off, none⟩) n c) := h.box.cell rfl
    have hb : Below w.heap.size w (w.alloc (.cells #[.int .i64 0, .int .i64 m, .int .i64 (nd P i 2), .int .i64 (nd P i 3), .int .i64 (nd P i 4)] 51)) := (Below.refl _ _).alloc (Nat.le_refl _) _
    have Hb := Lib.hid hb
    clear h h0 h1 hb
    go_enter Tryd.func66, Tryd.ntmps66
    go_wp2_with fail
    go_ret
    exact ⟨rfl, Hb.out⟩
  | @var i m h0 h1 h2 =>
    intro w h
    obtain ⟨b, off, rfl, p0, p1, p2, p3, p4⟩ := h.nodes.cells hi
    rw [h0] at p0
    rw [h1] at p1
    have c0 : w.cell? ⟨p, 0, none⟩ = some (.slice (some ⟨b, off, none⟩) n c) := h.box.cell rfl
    have hb : Below w.heap.size w (w.alloc (.cells #[.int .i64 1, .int .i64 m, .int .i64 (nd P i 2), .int .i64 (nd P i 3), .int .i64 (nd P i 4)] 51)) := (Below.refl _ _).alloc (Nat.le_refl _) _
    have hx0 := BoxN.new w 51 #[.int .i64 1, .int .i64 m, .int .i64 (nd P i 2), .int .i64 (nd P i 3), .int .i64 (nd P i 4)]
    have h2v := (h.all hb).var h2
    have Hr := Lib.hid (show (Ex.var m).val v = row v m by rw [row_getD]; rfl)
    clear h h0 h1
    generalize nd P i 2 = q2 at *
    generalize nd P i 3 = q3 at *
    generalize nd P i 4 = q4 at *
    go_enter Tryd.func66, Tryd.ntmps66
    go_wp2_with fail
    generalize (w.alloc (.cells #[.int .i64 1, .int .i64 m, .int .i64 q2, .int .i64 q3, .int .i64 q4] 51)) = W at *
    have e1 : W.cell? ⟨w.heap.size, 1, none⟩ = some (.int .i64 (m : Nat)) := hx0.cell rfl
    have hm6 : (m : Int) < 6 := by omega
    go_quiet (fail)
    go_wp2_with fail
    go_ret
    exact ⟨by rw [Hr.out]; rfl, belowD hb _⟩
  | @op i k a b x y hk2 hk4 h0 h2 h3 la lb hx hy iha ihb =>
    intro w h
    obtain ⟨bb, off, rfl, p0, p1, p2, p3, p4⟩ := h.nodes.cells hi
    rw [h0] at p0
    rw [h2] at p2
    rw [h3] at p3
    have c0 : w.cell? ⟨p, 0, none⟩ = some (.slice (some ⟨bb, off, none⟩) n c) := h.box.cell rfl
    have hb : Below w.heap.size w (w.alloc (.cells #[.int .i64 k, .int .i64 (nd P i 1), .int .i64 a, .int .i64 b, .int .i64 (nd P i 4)] 51)) := (Below.refl _ _).alloc (Nat.le_refl _) _
    have hx0 := BoxN.new w 51 #[.int .i64 k, .int .i64 (nd P i 1), .int .i64 a, .int .i64 b, .int .i64 (nd P i 4)]
    have bx := Ex.val_le hx.ok hv
    have by_ := Ex.val_le hy.ok hv
    have Ha := Lib.hid (fun V (hV : Below w.heap.size w V) => iha (by omega) V (h.all hV))
    have Hb := Lib.hid (fun V (hV : Below w.heap.size w V) => ihb (by omega) V (h.all hV))
    have Hr := Lib.hid (show (Ex.op k x y).val v = opV k (x.val v) (y.val v) from rfl)
    generalize (Ex.op k x y).val v = rr at *
    generalize x.val v = xv at *
    generalize y.val v = yv at *
    clear h iha ihb hx hy h0 h2 h3 la lb hv
    generalize nd P i 1 = q1 at *
    generalize nd P i 4 = q4 at *
    have hk : k = 2 ∨ k = 3 ∨ k = 4 := by omega
    rcases hk with rfl | rfl | rfl
    · go_enter Tryd.func66, Tryd.ntmps66
      go_wp2_with fail
      generalize (w.alloc (.cells #[.int .i64 2, .int .i64 q1, .int .i64 a, .int .i64 b, .int .i64 q4] 51)) = W at *
      have g2 := cell_regrown (show W.cell? ⟨w.heap.size, 2, none⟩ = some (.int .i64 (a : Nat)) from hx0.cell rfl)
      have g3 := cell_regrown (show W.cell? ⟨w.heap.size, 3, none⟩ = some (.int .i64 (b : Nat)) from hx0.cell rfl)
      have Q1 := Lib.hid (fun (d : Nat) (os : Array Obj) => Calls.regrown_of (Ha.out (Sort.grow (redrawn W d) os) (hb.trans ((below_regrown W d os).mono hb.size))))
      have Q2 := Lib.hid (fun (d : Nat) (os : Array Obj) => Calls.regrown_of (Hb.out (Sort.grow (redrawn W d) os) (hb.trans ((below_regrown W d os).mono hb.size))))
      refine wp_region_quiet_below (by kernel_rfl) (by kernel_rfl) ?_
      repeat (go_big_quiet_step (first | (with_reducible exact Q1.out _ _) | (with_reducible exact Q2.out _ _)))
      refine wpQuiet_nil ?_
      rintro _ ⟨pq, rfl⟩
      have hbq := hb.trans ((below_regrown W pq.d pq.os).mono hb.size)
      generalize Sort.grow (redrawn W pq.d) pq.os = wq at *
      go_wp2_with fail
      go_ret
      exact ⟨by rw [Hr.out]; exact ret_int (by unfold opV; rw [if_pos rfl]; omega), hbq⟩
    · by_cases hlt : xv < yv
      · have d3 : decide ((xv : Int) < (yv : Int)) = true := by simp; omega
        have d3' : decide (xv < yv) = true := by simpa using hlt
        have Hr1 := Lib.hid (show rr = 1 by rw [Hr.out]; simp [opV, hlt])
        clear Hr hlt
        go_enter Tryd.func66, Tryd.ntmps66
        go_wp2_with fail
        generalize (w.alloc (.cells #[.int .i64 3, .int .i64 q1, .int .i64 a, .int .i64 b, .int .i64 q4] 51)) = W at *
        have g2 := cell_regrown (show W.cell? ⟨w.heap.size, 2, none⟩ = some (.int .i64 (a : Nat)) from hx0.cell rfl)
        have g3 := cell_regrown (show W.cell? ⟨w.heap.size, 3, none⟩ = some (.int .i64 (b : Nat)) from hx0.cell rfl)
        have Q1 := Lib.hid (fun (d : Nat) (os : Array Obj) => Calls.regrown_of (Ha.out (Sort.grow (redrawn W d) os) (hb.trans ((below_regrown W d os).mono hb.size))))
        have Q2 := Lib.hid (fun (d : Nat) (os : Array Obj) => Calls.regrown_of (Hb.out (Sort.grow (redrawn W d) os) (hb.trans ((below_regrown W d os).mono hb.size))))
        have Q3 := Lib.hid (fun (d : Nat) (os : Array Obj) => Calls.regrown_of ((bit_any true (Sort.grow (redrawn W d) os)).mono fun e w' ⟨he, hw⟩ => (⟨he, hw ▸ Below.refl _ _⟩ : _ ∧ Below (Sort.grow (redrawn W d) os).heap.size (Sort.grow (redrawn W d) os) w')))
        refine wp_region_quiet_below (by kernel_rfl) (by kernel_rfl) ?_
        repeat (go_big_quiet_step (first | (with_reducible exact Q1.out _ _) | (with_reducible exact Q2.out _ _) | (with_reducible exact Q3.out _ _)))
        refine wpQuiet_nil ?_
        rintro _ ⟨pq, rfl⟩
        have hbq := hb.trans ((below_regrown W pq.d pq.os).mono hb.size)
        generalize Sort.grow (redrawn W pq.d) pq.os = wq at *
        go_wp2_with fail
        go_ret
        exact ⟨by rw [Hr1.out]; rfl, hbq⟩
      · have d3 : decide ((xv : Int) < (yv : Int)) = false := by simp; omega
        have d3' : decide (xv < yv) = false := by simpa using hlt
        have Hr1 := Lib.hid (show rr = 0 by rw [Hr.out]; simp [opV, hlt])
        clear Hr hlt
        go_enter Tryd.func66, Tryd.ntmps66
        go_wp2_with fail
        generalize (w.alloc (.cells #[.int .i64 3, .int .i64 q1, .int .i64 a, .int .i64 b, .int .i64 q4] 51)) = W at *
        have g2 := cell_regrown (show W.cell? ⟨w.heap.size, 2, none⟩ = some (.int .i64 (a : Nat)) from hx0.cell rfl)
        have g3 := cell_regrown (show W.cell? ⟨w.heap.size, 3, none⟩ = some (.int .i64 (b : Nat)) from hx0.cell rfl)
        have Q1 := Lib.hid (fun (d : Nat) (os : Array Obj) => Calls.regrown_of (Ha.out (Sort.grow (redrawn W d) os) (hb.trans ((below_regrown W d os).mono hb.size))))
        have Q2 := Lib.hid (fun (d : Nat) (os : Array Obj) => Calls.regrown_of (Hb.out (Sort.grow (redrawn W d) os) (hb.trans ((below_regrown W d os).mono hb.size))))
        have Q3 := Lib.hid (fun (d : Nat) (os : Array Obj) => Calls.regrown_of ((bit_any false (Sort.grow (redrawn W d) os)).mono fun e w' ⟨he, hw⟩ => (⟨he, hw ▸ Below.refl _ _⟩ : _ ∧ Below (Sort.grow (redrawn W d) os).heap.size (Sort.grow (redrawn W d) os) w')))
        refine wp_region_quiet_below (by kernel_rfl) (by kernel_rfl) ?_
        repeat (go_big_quiet_step (first | (with_reducible exact Q1.out _ _) | (with_reducible exact Q2.out _ _) | (with_reducible exact Q3.out _ _)))
        refine wpQuiet_nil ?_
        rintro _ ⟨pq, rfl⟩
        have hbq := hb.trans ((below_regrown W pq.d pq.os).mono hb.size)
        generalize Sort.grow (redrawn W pq.d) pq.os = wq at *
        go_wp2_with fail
        go_ret
        exact ⟨by rw [Hr1.out]; rfl, hbq⟩
    · by_cases hlt : xv = yv
      · have d3 : ((xv : Int) == (yv : Int)) = true := by simp; omega
        have Hr1 := Lib.hid (show rr = 1 by rw [Hr.out]; simp [opV, hlt])
        clear Hr hlt
        go_enter Tryd.func66, Tryd.ntmps66
        go_wp2_with fail
        generalize (w.alloc (.cells #[.int .i64 4, .int .i64 q1, .int .i64 a, .int .i64 b, .int .i64 q4] 51)) = W at *
        have g2 := cell_regrown (show W.cell? ⟨w.heap.size, 2, none⟩ = some (.int .i64 (a : Nat)) from hx0.cell rfl)
        have g3 := cell_regrown (show W.cell? ⟨w.heap.size, 3, none⟩ = some (.int .i64 (b : Nat)) from hx0.cell rfl)
        have Q1 := Lib.hid (fun (d : Nat) (os : Array Obj) => Calls.regrown_of (Ha.out (Sort.grow (redrawn W d) os) (hb.trans ((below_regrown W d os).mono hb.size))))
        have Q2 := Lib.hid (fun (d : Nat) (os : Array Obj) => Calls.regrown_of (Hb.out (Sort.grow (redrawn W d) os) (hb.trans ((below_regrown W d os).mono hb.size))))
        have Q3 := Lib.hid (fun (d : Nat) (os : Array Obj) => Calls.regrown_of ((bit_any true (Sort.grow (redrawn W d) os)).mono fun e w' ⟨he, hw⟩ => (⟨he, hw ▸ Below.refl _ _⟩ : _ ∧ Below (Sort.grow (redrawn W d) os).heap.size (Sort.grow (redrawn W d) os) w')))
        refine wp_region_quiet_below (by kernel_rfl) (by kernel_rfl) ?_
        repeat (go_big_quiet_step (first | (with_reducible exact Q1.out _ _) | (with_reducible exact Q2.out _ _) | (with_reducible exact Q3.out _ _)))
        refine wpQuiet_nil ?_
        rintro _ ⟨pq, rfl⟩
        have hbq := hb.trans ((below_regrown W pq.d pq.os).mono hb.size)
        generalize Sort.grow (redrawn W pq.d) pq.os = wq at *
        go_wp2_with fail
        go_ret
        exact ⟨by rw [Hr1.out]; rfl, hbq⟩
      · have d3 : ((xv : Int) == (yv : Int)) = false := by simp; omega
        have Hr1 := Lib.hid (show rr = 0 by rw [Hr.out]; simp [opV, hlt])
        clear Hr hlt
        go_enter Tryd.func66, Tryd.ntmps66
        go_wp2_with fail
        generalize (w.alloc (.cells #[.int .i64 4, .int .i64 q1, .int .i64 a, .int .i64 b, .int .i64 q4] 51)) = W at *
        have g2 := cell_regrown (show W.cell? ⟨w.heap.size, 2, none⟩ = some (.int .i64 (a : Nat)) from hx0.cell rfl)
        have g3 := cell_regrown (show W.cell? ⟨w.heap.size, 3, none⟩ = some (.int .i64 (b : Nat)) from hx0.cell rfl)
        have Q1 := Lib.hid (fun (d : Nat) (os : Array Obj) => Calls.regrown_of (Ha.out (Sort.grow (redrawn W d) os) (hb.trans ((below_regrown W d os).mono hb.size))))
        have Q2 := Lib.hid (fun (d : Nat) (os : Array Obj) => Calls.regrown_of (Hb.out (Sort.grow (redrawn W d) os) (hb.trans ((below_regrown W d os).mono hb.size))))
        have Q3 := Lib.hid (fun (d : Nat) (os : Array Obj) => Calls.regrown_of ((bit_any false (Sort.grow (redrawn W d) os)).mono fun e w' ⟨he, hw⟩ => (⟨he, hw ▸ Below.refl _ _⟩ : _ ∧ Below (Sort.grow (redrawn W d) os).heap.size (Sort.grow (redrawn W d) os) w')))
        refine wp_region_quiet_below (by kernel_rfl) (by kernel_rfl) ?_
        repeat (go_big_quiet_step (first | (with_reducible exact Q1.out _ _) | (with_reducible exact Q2.out _ _) | (with_reducible exact Q3.out _ _)))
        refine wpQuiet_nil ?_
        rintro _ ⟨pq, rfl⟩
        have hbq := hb.trans ((below_regrown W pq.d pq.os).mono hb.size)
        generalize Sort.grow (redrawn W pq.d) pq.os = wq at *
        go_wp2_with fail
        go_ret
        exact ⟨by rw [Hr1.out]; rfl, hbq⟩
end Go.Proofs.YtdgncngkalgknaaDoor

namespace Go.Proofs.YtdgncngkalgknaaDoor
open Go.RowKit
set_option maxRecDepth 100000
set_option linter.unusedVariables false

theorem burn_any {w : World} {p : Nat} {q0 q1 q2 q3 q4 q5 q6 : Value} {l : Nat} (h : BoxN w p 71 #[q0, q1, q2, q3, q4, q5, q6, .int .i64 (l : Nat)]) (hl : l ≤ 5000) (r : Bool) (hr : decide (1 ≤ l) = r) :
    Calls Tryd.prog 65 #[.pointer (some ⟨p, 0, none⟩)] w fun e w' => e = .returned (.bool r) ∧ w' = w.setCell ⟨p, 7, none⟩ (.int .i64 ((l : Int) - 1)) := by
  have c7 : w.cell? ⟨p, 7, none⟩ = some (.int .i64 (l : Nat)) := h.cell rfl
  have f7 := h.free 7
  cases r with
  | true =>
    have h1 : 1 ≤ l := of_decide_eq_true hr
    clear h hr
    go_enter Tryd.func65, Tryd.ntmps65
    go_wp2_with fail
    go_ret
    exact ⟨ret_bool (by simp; omega), rfl⟩
  | false =>
    have h1 : ¬ 1 ≤ l := of_decide_eq_false hr
    obtain rfl : l = 0 := by omega
    clear h hr
    go_enter Tryd.func65, Tryd.ntmps65
    go_wp2_with fail
    go_ret
    exact ⟨rfl, rfl⟩

/-- From one world of a run to a later one. -/
structure RunTo (p : Nat) (w w' : World) : Prop where
  low : Below p w w'
  but : KeepsBut p w w'
section
variable {p : Nat} {w w' w'' : World}
theorem RunTo.trans (h : RunTo p w w') (k : RunTo p w' w'') : RunTo p w w'' := ⟨h.low.trans k.low, h.but.trans k.but⟩
theorem RunTo.below (h : Below w.heap.size w w') (hp : p ≤ w.heap.size) : RunTo p w w' := ⟨h.mono hp, KeepsBut.below h⟩
theorem RunTo.refl (p : Nat) (w : World) : RunTo p w w := ⟨Below.refl _ _, KeepsBut.refl _ _⟩
theorem RunTo.setCell (h : RunTo p w w') (k : Nat) (v : Value) : RunTo p w (w'.setCell ⟨p, k, none⟩ v) := ⟨h.low.setCell (p := ⟨p, k, none⟩) (Nat.le_refl _) _, h.but.setCell k v⟩
theorem RunTo.drew (h : RunTo p w w') : RunTo p w w'.drew := ⟨h.low.drew, h.but.below'⟩
end
section
variable {w0 w w' : World} {p : Nat} {A : Option Addr} {P : List Int} {n c : Nat} {v : List Nat} {left : Int}
theorem RunAt.setLeft (h : RunAt w0 w p A P n c v left) (l : Int) : RunAt w0 (w.setCell ⟨p, 7, none⟩ (.int .i64 l)) p A P n c v l :=
  ⟨h.base, h.low.setCell (p := ⟨p, 7, none⟩) h.bp _, h.bp, h.box.set 7 _⟩
theorem RunAt.setVar (h : RunAt w0 w p A P n c v left) (h6 : v.length = 6) {x : Nat} (hx : x < 6) (y : Nat) : RunAt w0 (w.setCell ⟨p, 1 + x, none⟩ (.int .i64 (y : Nat))) p A P n c (v.set x y) left := by
  refine ⟨h.base, h.low.setCell (p := ⟨p, 1 + x, none⟩) h.bp _, h.bp, ?_⟩
  have hb := h.box.set (1 + x) (.int .i64 (y : Nat))
  have hr : ∀ i, row (v.set x y) i = if x = i then y else row v i := fun i => by rw [row_set _ _ _ _ (by omega)]
  simp only [hr]
  have hc : x = 0 ∨ x = 1 ∨ x = 2 ∨ x = 3 ∨ x = 4 ∨ x = 5 := by omega
  rcases hc with rfl | rfl | rfl | rfl | rfl | rfl <;> exact hb
theorem RunAt.drew (h : RunAt w0 w p A P n c v left) : RunAt w0 w.drew p A P n c v left := ⟨h.base, h.low.drew, h.bp, h.box.drew⟩
end

/-- What a deed leaves behind it. -/
def DoPost (w0 : World) (p : Nat) (A : Option Addr) (P : List Int) (n c : Nat) (V : World) (r : Option (List Nat × Nat)) (e : Ending) (w' : World) : Prop :=
  RunTo p V w' ∧ match r with
    | none => e = .returned (.bool false)
    | some (v', l') => e = .returned (.bool true) ∧ RunAt w0 w' p A P n c v' l'

set_option maxHeartbeats 4000000 in
theorem do_any {w0 : World} {P : List Int} {n c p : Nat} {A : Option Addr} {i : Nat} {s : St} (hs : IsSt P i s) (hi : i < n) : ∀ (v : List Nat) (l : Nat) (V : World), Vars v → l ≤ 5000 → RunAt w0 V p A P n c v l →
    Calls Tryd.prog 38 #[.pointer (some ⟨p, 0, none⟩), .int .i64 i] V (DoPost w0 p A P n c V (s.run v l)) := by
  induction hs with
  | @skip i h0 =>
    intro v l V hv hl h
    obtain ⟨b, off, rfl, p0, p1, p2, p3, p4⟩ := h.nodes.cells hi
    rw [h0] at p0
    have c0 : V.cell? ⟨p, 0, none⟩ = some (.slice (some ⟨b, off, none⟩) n c) := h.box.cell rfl
    have hb : Below V.heap.size V (V.alloc (.cells #[.int .i64 5, .int .i64 (nd P i 1), .int .i64 (nd P i 2), .int .i64 (nd P i 3), .int .i64 (nd P i 4)] 51)) := (Below.refl _ _).alloc (Nat.le_refl _) _
    have Hr := Lib.hid (h.all hb)
    have Ht := Lib.hid (RunTo.below hb (Nat.le_of_lt h.box.lt))
    have Hrun := Lib.hid (show St.run .skip v l = some (v, l) from rfl)
    clear h h0 hb hv
    go_enter Tryd.func38, Tryd.ntmps38
    go_wp2_with fail
    go_ret
    rw [Hrun.out]
    exact ⟨Ht.out, rfl, Hr.out⟩
  | @set i m a x h0 h1 h6 h2 la hx =>
    intro v l V hv hl h
    obtain ⟨b, off, rfl, p0, p1, p2, p3, p4⟩ := h.nodes.cells hi
    rw [h0] at p0
    rw [h1] at p1
    rw [h2] at p2
    have c0 : V.cell? ⟨p, 0, none⟩ = some (.slice (some ⟨b, off, none⟩) n c) := h.box.cell rfl
    have hb : Below V.heap.size V (V.alloc (.cells #[.int .i64 6, .int .i64 m, .int .i64 a, .int .i64 (nd P i 3), .int .i64 (nd P i 4)] 51)) := (Below.refl _ _).alloc (Nat.le_refl _) _
    have hx0 := BoxN.new V 51 #[.int .i64 6, .int .i64 m, .int .i64 a, .int .i64 (nd P i 3), .int .i64 (nd P i 4)]
    have hpV := h.box.lt
    have hW := h.all hb
    have hT := RunTo.below hb (Nat.le_of_lt hpV)
    generalize nd P i 3 = q3 at *
    generalize nd P i 4 = q4 at *
    clear h h0 h1 h2
    go_enter Tryd.func38, Tryd.ntmps38
    go_wp2_with fail
    generalize (V.alloc (.cells #[.int .i64 6, .int .i64 m, .int .i64 a, .int .i64 q3, .int .i64 q4] 51)) = W at *
    clear p0 p1 p2 p3 p4 c0 hb
    by_cases hl0 : l = 0
    · subst hl0
      have Hrun := Lib.hid (show St.run (.set m x) v 0 = none from rfl)
      refine (burn_any hW.box (by omega) false rfl).mono ?_
      rintro e w1 ⟨rfl, rfl⟩
      go_wp2_with fail
      go_ret
      rw [Hrun.out]
      exact ⟨hT.setCell _ _, rfl⟩
    · have Hrun := Lib.hid (show St.run (.set m x) v l = some (v.set m (x.val v), l - 1) by rw [St.run, if_neg hl0])
      refine (burn_any hW.box hl true (decide_eq_true (by omega))).mono ?_
      rintro e w1 ⟨rfl, hw1⟩
      have h1' := hW.setLeft ((l : Int) - 1)
      have hl1 : ((l : Int) - 1) = ((l - 1 : Nat) : Int) := by omega
      have hT1 := hT.setCell 7 (.int .i64 ((l : Int) - 1))
      have hx1 := hx0.other (a := ⟨p, 7, none⟩) (by show V.heap.size ≠ p; omega) (.int .i64 ((l : Int) - 1))
      rw [← hw1] at h1' hT1 hx1
      rw [hl1] at h1'
      have HV := Lib.hid (fun X (hX : Below w1.heap.size w1 X) => (value_any hv hx (by omega) X (h1'.all hX)).mono fun e w' ⟨he, hb⟩ => (⟨he, hX.trans (hb.mono hX.size)⟩ : _ ∧ Below w1.heap.size w1 w'))
      have e1 : w1.cell? ⟨V.heap.size, 1, none⟩ = some (.int .i64 (m : Nat)) := hx1.cell rfl
      have e2 : w1.cell? ⟨V.heap.size, 2, none⟩ = some (.int .i64 (a : Nat)) := hx1.cell rfl
      have hbd := (Below.refl w1.heap.size w1).drew
      have H1 := Lib.hid h1'
      have HT1 := Lib.hid hT1
      have hps' := Nat.le_of_lt h1'.box.lt
      have hm6 : (m : Int) < 6 := by omega
      have hmm : (1 + (m : Int)).toNat = 1 + m := by omega
      generalize x.val v = xv at *
      clear hw1 h1' hT1 hT hW hx0 hx
      go_wp2_with fail
      go_region_with (go_at_call 66; with_reducible refine (HV.out _ hbd).mono ?_; rintro e w2 ⟨rfl, hb2⟩; have z1 := (hx1.all hb2).cell (k := 1) rfl; have z2 := (hx1.all hb2).cell (k := 2) rfl; have zv := (H1.out.all hb2).var h6; have zf := (H1.out.all hb2).box.free (1 + m))
      all_goals (go_wp2_with fail)
      all_goals go_ret
      all_goals rw [Hrun.out]
      all_goals exact ⟨(HT1.out.trans (RunTo.below hb2 hps')).setCell _ _, rfl, (H1.out.all hb2).setVar hv.1 h6 _⟩
  | @both i a b x y h0 h2 h3 la lb hx hy iha ihb =>
    intro v l V hv hl h
    obtain ⟨bb, off, rfl, p0, p1, p2, p3, p4⟩ := h.nodes.cells hi
    rw [h0] at p0
    rw [h2] at p2
    rw [h3] at p3
    have c0 : V.cell? ⟨p, 0, none⟩ = some (.slice (some ⟨bb, off, none⟩) n c) := h.box.cell rfl
    have hb : Below V.heap.size V (V.alloc (.cells #[.int .i64 7, .int .i64 (nd P i 1), .int .i64 a, .int .i64 b, .int .i64 (nd P i 4)] 51)) := (Below.refl _ _).alloc (Nat.le_refl _) _
    have hx0 := BoxN.new V 51 #[.int .i64 7, .int .i64 (nd P i 1), .int .i64 a, .int .i64 b, .int .i64 (nd P i 4)]
    have hpV := h.box.lt
    have hW := h.all hb
    have hT := RunTo.below hb (Nat.le_of_lt hpV)
    generalize (nd P i 1) = q1 at *
    generalize (nd P i 4) = q4 at *
    clear h h0 h2 h3
    go_enter Tryd.func38, Tryd.ntmps38
    go_wp2_with fail
    generalize (V.alloc (.cells #[.int .i64 7, .int .i64 q1, .int .i64 a, .int .i64 b, .int .i64 q4] 51)) = W at *
    clear p0 p1 p2 p3 p4 c0 hb
    have e2 : W.cell? ⟨V.heap.size, 2, none⟩ = some (.int .i64 (a : Nat)) := hx0.cell rfl
    have hrun : St.run (.both x y) v l = match x.run v l with
      | none => none
      | some (v', n') => y.run v' n' := rfl
    have Ha := iha (by omega) v l W hv hl hW
    have hpw : V.heap.size ≠ p := by omega
    cases hx1 : x.run v l with
    | none =>
      rw [hx1] at hrun Ha
      have Hrun := Lib.hid (show St.run (.both x y) v l = none from hrun)
      clear hrun hx1
      go_wp2_with fail
      refine Ha.mono ?_
      rintro e w1 ⟨hT1, he⟩
      have he : e = .returned (.bool false) := he
      subst he
      go_wp2_with fail
      go_ret
      rw [Hrun.out]
      exact ⟨hT.trans hT1, rfl⟩
    | some q =>
      obtain ⟨v1, l1⟩ := q
      rw [hx1] at hrun Ha
      have Hrun := Lib.hid (show St.run (.both x y) v l = y.run v1 l1 from hrun)
      have hv1 := St.run_vars hx.ok hx1 hv
      have hl1 := St.left _ _ _ _ hx1
      clear hrun hx1
      go_wp2_with fail
      refine Ha.mono ?_
      rintro e w1 ⟨hT1, he⟩
      obtain ⟨he, h1⟩ : e = .returned (.bool true) ∧ RunAt w0 w1 p (some ⟨bb, off, none⟩) P n c v1 l1 := he
      subst he
      have hx2 := hT1.but.box hx0 hpw
      have e3 : w1.cell? ⟨V.heap.size, 3, none⟩ = some (.int .i64 (b : Nat)) := hx2.cell rfl
      have Hb := ihb (by omega) v1 l1 w1 hv1 (by omega) h1
      clear Ha e2
      go_wp2_with fail
      refine Hb.mono ?_
      rintro e w2 ⟨hT2, he⟩
      cases hy1 : y.run v1 l1 with
      | none =>
        rw [hy1] at he
        have he : e = .returned (.bool false) := he
        subst he
        go_wp2_with fail
        go_ret
        rw [Hrun.out, hy1]
        exact ⟨(hT.trans hT1).trans hT2, rfl⟩
      | some q =>
        obtain ⟨v2, l2⟩ := q
        rw [hy1] at he
        obtain ⟨he, h2⟩ : e = .returned (.bool true) ∧ RunAt w0 w2 p (some ⟨bb, off, none⟩) P n c v2 l2 := he
        subst he
        go_wp2_with fail
        go_ret
        rw [Hrun.out, hy1]
        exact ⟨(hT.trans hT1).trans hT2, rfl, h2⟩
  | @ite i a b d x y z h0 h2 h3 h4 la lb ld hx hy hz ihb ihd =>
    intro v l V hv hl h
    obtain ⟨bb, off, rfl, p0, p1, p2, p3, p4⟩ := h.nodes.cells hi
    rw [h0] at p0
    rw [h2] at p2
    rw [h3] at p3
    rw [h4] at p4
    have c0 : V.cell? ⟨p, 0, none⟩ = some (.slice (some ⟨bb, off, none⟩) n c) := h.box.cell rfl
    have hb : Below V.heap.size V (V.alloc (.cells #[.int .i64 8, .int .i64 (nd P i 1), .int .i64 a, .int .i64 b, .int .i64 d] 51)) := (Below.refl _ _).alloc (Nat.le_refl _) _
    have hx0 := BoxN.new V 51 #[.int .i64 8, .int .i64 (nd P i 1), .int .i64 a, .int .i64 b, .int .i64 d]
    have hpV := h.box.lt
    have hW := h.all hb
    have hT := RunTo.below hb (Nat.le_of_lt hpV)
    generalize (nd P i 1) = q1 at *
    clear h h0 h2 h3 h4
    go_enter Tryd.func38, Tryd.ntmps38
    go_wp2_with fail
    generalize (V.alloc (.cells #[.int .i64 8, .int .i64 q1, .int .i64 a, .int .i64 b, .int .i64 d] 51)) = W at *
    clear p0 p1 p2 p3 p4 c0 hb
    by_cases hl0 : l = 0
    · subst hl0
      have Hrun := Lib.hid (show St.run (.ite x y z) v 0 = none from rfl)
      refine (burn_any hW.box (by omega) false rfl).mono ?_
      rintro e w1 ⟨rfl, rfl⟩
      go_wp2_with fail
      go_ret
      rw [Hrun.out]
      exact ⟨hT.setCell _ _, rfl⟩
    · have Hrun0 := Lib.hid (show St.run (.ite x y z) v l = if x.val v ≠ 0 then y.run v (l - 1) else z.run v (l - 1) by rw [St.run, if_neg hl0])
      refine (burn_any hW.box hl true (decide_eq_true (by omega))).mono ?_
      rintro e w1 ⟨rfl, hw1⟩
      have h1' := hW.setLeft ((l : Int) - 1)
      have hl1 : ((l : Int) - 1) = ((l - 1 : Nat) : Int) := by omega
      have hT1 := hT.setCell 7 (.int .i64 ((l : Int) - 1))
      have hx1 := hx0.other (a := ⟨p, 7, none⟩) (by show V.heap.size ≠ p; omega) (.int .i64 ((l : Int) - 1))
      rw [← hw1] at h1' hT1 hx1
      rw [hl1] at h1'
      have HV := value_any hv hx (by omega) w1 h1'
      have e2 : w1.cell? ⟨V.heap.size, 2, none⟩ = some (.int .i64 (a : Nat)) := hx1.cell rfl
      clear hw1
      go_wp2_with fail
      refine HV.mono ?_
      rintro e w2 ⟨rfl, hb2⟩
      by_cases hxv : x.val v = 0
      · have hrun := Hrun0.out
        rw [if_neg (fun e => e hxv)] at hrun
        have Hrun := Lib.hid hrun
        clear Hrun0
        have dz : (((x.val v : Nat) : Int) != 0) = false := by simp [hxv]
        clear hrun hxv HV
        generalize x.val v = xv at *
        have Hb := ihd (by omega) v (l - 1) w2 hv (by omega) (h1'.all hb2)
        have e3 : w2.cell? ⟨V.heap.size, 4, none⟩ = some (.int .i64 (d : Nat)) := (hx1.all hb2).cell rfl
        have hT2 := hT1.trans (RunTo.below hb2 (Nat.le_of_lt h1'.box.lt))
        clear e2
        go_wp2_with fail
        refine Hb.mono ?_
        rintro e w3 ⟨hT3, he⟩
        cases hy1 : z.run v (l - 1) with
        | none =>
          rw [hy1] at he
          have he : e = .returned (.bool false) := he
          subst he
          go_wp2_with fail
          go_ret
          rw [Hrun.out, hy1]
          exact ⟨hT2.trans hT3, rfl⟩
        | some q =>
          obtain ⟨v2, l2⟩ := q
          rw [hy1] at he
          obtain ⟨he, h2⟩ : e = .returned (.bool true) ∧ RunAt w0 w3 p (some ⟨bb, off, none⟩) P n c v2 l2 := he
          subst he
          go_wp2_with fail
          go_ret
          rw [Hrun.out, hy1]
          exact ⟨hT2.trans hT3, rfl, h2⟩
      · have hrun := Hrun0.out
        rw [if_pos hxv] at hrun
        have Hrun := Lib.hid hrun
        clear Hrun0
        have dz : (((x.val v : Nat) : Int) != 0) = true := by simp; omega
        clear hrun HV
        generalize x.val v = xv at *
        have Hb := ihb (by omega) v (l - 1) w2 hv (by omega) (h1'.all hb2)
        have e3 : w2.cell? ⟨V.heap.size, 3, none⟩ = some (.int .i64 (b : Nat)) := (hx1.all hb2).cell rfl
        have hT2 := hT1.trans (RunTo.below hb2 (Nat.le_of_lt h1'.box.lt))
        clear e2
        go_wp2_with fail
        refine Hb.mono ?_
        rintro e w3 ⟨hT3, he⟩
        cases hy1 : y.run v (l - 1) with
        | none =>
          rw [hy1] at he
          have he : e = .returned (.bool false) := he
          subst he
          go_wp2_with fail
          go_ret
          rw [Hrun.out, hy1]
          exact ⟨hT2.trans hT3, rfl⟩
        | some q =>
          obtain ⟨v2, l2⟩ := q
          rw [hy1] at he
          obtain ⟨he, h2⟩ : e = .returned (.bool true) ∧ RunAt w0 w3 p (some ⟨bb, off, none⟩) P n c v2 l2 := he
          subst he
          go_wp2_with fail
          go_ret
          rw [Hrun.out, hy1]
          exact ⟨hT2.trans hT3, rfl, h2⟩
  | @loop i a b x y h0 h2 h3 la lb hx hy ihb =>
    intro v l V hv hl h
    obtain ⟨bb, off, rfl, p0, p1, p2, p3, p4⟩ := h.nodes.cells hi
    rw [h0] at p0
    rw [h2] at p2
    rw [h3] at p3
    have c0 : V.cell? ⟨p, 0, none⟩ = some (.slice (some ⟨bb, off, none⟩) n c) := h.box.cell rfl
    have hb : Below V.heap.size V (V.alloc (.cells #[.int .i64 9, .int .i64 (nd P i 1), .int .i64 a, .int .i64 b, .int .i64 (nd P i 4)] 51)) := (Below.refl _ _).alloc (Nat.le_refl _) _
    have hx0 := BoxN.new V 51 #[.int .i64 9, .int .i64 (nd P i 1), .int .i64 a, .int .i64 b, .int .i64 (nd P i 4)]
    have hpV := h.box.lt
    have hW := h.all hb
    have hT := RunTo.below hb (Nat.le_of_lt hpV)
    generalize (nd P i 1) = q1 at *
    generalize (nd P i 4) = q4 at *
    clear h h0 h2 h3
    go_enter Tryd.func38, Tryd.ntmps38
    go_wp2_with fail
    generalize (V.alloc (.cells #[.int .i64 9, .int .i64 q1, .int .i64 a, .int .i64 b, .int .i64 q4] 51)) = W at *
    clear p0 p1 p2 p3 p4 c0 hb
    have hpw : V.heap.size ≠ p := by omega
    go_loopg [62] (l + 1) (fun m k wr => ∃ (v1 : List Nat) (l1 : Nat), l1 < m ∧ l1 ≤ l ∧ Vars v1 ∧ Hid ((St.loop x y).run v l = (St.loop x y).run v1 l1) ∧ RunAt w0 wr p (some ⟨bb, off, none⟩) P n c v1 l1 ∧ RunTo p V wr ∧ BoxN wr V.heap.size 51 #[.int .i64 9, .int .i64 q1, .int .i64 a, .int .i64 b, .int .i64 q4])
    case atStart => exact ⟨v, l, by omega, Nat.le_refl _, hv, Lib.hid rfl, hW, hT, hx0⟩
    case round =>
      clear hW hT hx0 hv
      obtain ⟨v1, l1, hlm, hll, hv, hrl, hW, hT, hx0⟩ := hrel
      by_cases hl0 : l1 = 0
      · subst hl0
        have Hrun := Lib.hid (show St.run (.loop x y) v l = none by rw [hrl.out, St.run_loop, if_pos rfl])
        have HB := burn_any hW.box (by omega) false rfl
        go_wp2_with fail
        refine HB.mono ?_
        rintro e w1 ⟨rfl, rfl⟩
        go_wp2_with fail
        go_ret
        rw [Hrun.out]
        exact ⟨hT.setCell _ _, rfl⟩
      · have hrun : St.run (.loop x y) v1 l1 = if x.val v1 = 0 then some (v1, l1 - 1) else match y.run v1 (l1 - 1) with
          | none => none
          | some (v', n') => (St.loop x y).run v' n' := by rw [St.run_loop, if_neg hl0]; rfl
        rw [← hrl.out] at hrun
        have Hrun0 := Lib.hid hrun
        clear hrun
        have HB := burn_any hW.box (by omega) true (decide_eq_true (by omega))
        go_wp2_with fail
        refine HB.mono ?_
        rintro e w1 ⟨rfl, hw1⟩
        have h1' := hW.setLeft ((l1 : Int) - 1)
        have hl1 : ((l1 : Int) - 1) = ((l1 - 1 : Nat) : Int) := by omega
        have hT1 := hT.setCell 7 (.int .i64 ((l1 : Int) - 1))
        have hx1 := hx0.other (a := ⟨p, 7, none⟩) (by show V.heap.size ≠ p; omega) (.int .i64 ((l1 : Int) - 1))
        rw [← hw1] at h1' hT1 hx1
        rw [hl1] at h1'
        have HV := value_any hv hx (by omega) w1 h1'
        have e2 : w1.cell? ⟨V.heap.size, 2, none⟩ = some (.int .i64 (a : Nat)) := hx1.cell rfl
        clear hw1 HB
        go_wp2_with fail
        refine HV.mono ?_
        rintro e w2 ⟨rfl, hb2⟩
        have hT2 := hT1.trans (RunTo.below hb2 (Nat.le_of_lt h1'.box.lt))
        have h2' := h1'.all hb2
        have hx2 := hx1.all hb2
        by_cases hxv : x.val v1 = 0
        · have hrun := Hrun0.out
          rw [if_pos hxv] at hrun
          clear Hrun0
          have Hrun := Lib.hid hrun
          have dz : (((x.val v1 : Nat) : Int) == 0) = true := by simp [hxv]
          clear hrun hxv HV
          generalize x.val v1 = xv at *
          go_wp2_with fail
          go_ret
          rw [Hrun.out]
          exact ⟨hT2, rfl, h2'⟩
        · have hrun := Hrun0.out
          rw [if_neg hxv] at hrun
          clear Hrun0
          have dz : (((x.val v1 : Nat) : Int) == 0) = false := by simp; omega
          have Hb := ihb (by omega) v1 (l1 - 1) w2 hv (by omega) h2'
          have e3 : w2.cell? ⟨V.heap.size, 3, none⟩ = some (.int .i64 (b : Nat)) := hx2.cell rfl
          clear HV e2
          generalize x.val v1 = xv at *
          cases hy1 : y.run v1 (l1 - 1) with
          | none =>
            rw [hy1] at hrun Hb
            have Hrun := Lib.hid (show St.run (.loop x y) v l = none from hrun)
            clear hrun hy1
            go_wp2_with fail
            refine Hb.mono ?_
            rintro e w3 ⟨hT3, he⟩
            have he : e = .returned (.bool false) := he
            subst he
            go_wp2_with fail
            go_ret
            rw [Hrun.out]
            exact ⟨hT2.trans hT3, rfl⟩
          | some q =>
            obtain ⟨v2, l2⟩ := q
            rw [hy1] at hrun Hb
            have Hrun := Lib.hid (show St.run (.loop x y) v1 l1 = (St.loop x y).run v2 l2 from hrl.out.symm.trans hrun)
            have hv2 := St.run_vars hy.ok hy1 hv
            have hl2 := St.left _ _ _ _ hy1
            clear hrun hy1
            go_wp2_with fail
            refine Hb.mono ?_
            rintro e w3 ⟨hT3, he⟩
            obtain ⟨he, h3⟩ : e = .returned (.bool true) ∧ RunAt w0 w3 p (some ⟨bb, off, none⟩) P n c v2 l2 := he
            subst he
            go_wp2_with fail
            go_roundg l1
            case measure => exact hlm
            case rel => exact ⟨v2, l2, by omega, by omega, hv2, Lib.hid (hrl.out.trans Hrun.out), h3, hT2.trans hT3, hT3.but.box hx2 hpw⟩
end Go.Proofs.YtdgncngkalgknaaDoor

namespace Go.Proofs.YtdgncngkalgknaaDoor
open Go.RowKit
set_option maxRecDepth 100000
set_option linter.unusedVariables false

def valOk (x : Int) : Bool := decide (0 ≤ x ∧ x ≤ 999999)
/-- What is wrong with a program, its variables and fuel. -/
def runCode (P : List Int) (n : Nat) (L : List Int) (fuel : Int) : Nat :=
  if progCode P n = 0 then if L.length = 6 then if L.all valOk then if 0 ≤ fuel ∧ fuel ≤ 5000 then 0 else 1 else 1 else 3 else progCode P n

set_option maxHeartbeats 2000000 in
theorem RunCheck_any {P : List Int} {n : Nat} {A : Option Addr} {c : Nat} {w : World} {L : List Int} {Al : Option Addr} {cl : Nat} (fuel : Int) (h : NodesAt w A P n) (hL : IntsAt w Al L) :
    Calls Tryd.prog 37 #[.slice A n c, .slice Al L.length cl, .int .i64 fuel] w fun e w' => e = .returned (errVal (runCode P n L fuel)) ∧ Below w.heap.size w w' := by
  have HC := PCheck_any (c := c) h
  by_cases hc : progCode P n = 0
  · rw [hc, errVal_zero] at HC
    have HC := Lib.hid HC
    by_cases h6 : L.length = 6
    · have Hc := Lib.hid (show runCode P n L fuel = if L.all valOk then if 0 ≤ fuel ∧ fuel ≤ 5000 then 0 else 1 else 1 by unfold runCode; rw [if_pos hc, if_pos h6])
      have H6 := Lib.hid h6
      rw [h6]
      clear h6 hc
      go_enter Tryd.func37, Tryd.ntmps37
      go_wp2_with (go_at_call 30; with_reducible refine HC.out.mono ?_; rintro e w1 ⟨rfl, hb1⟩)
      go_loopw [21] (fun i wr => ∃ k : Nat, k ≤ 6 ∧ i = .int .i64 k ∧ Hid (∀ j x, j < k → L[j]? = some x → 0 ≤ x ∧ x ≤ 999999) ∧ wr = w1) (fun i _ => 6 - (intOf i).toNat)
      case atStart => exact ⟨0, Nat.zero_le _, rfl, Lib.hid (fun j x hj => by omega), rfl⟩
      case round =>
        obtain ⟨k, hk, rfl, hall, rfl⟩ := hrel
        by_cases hlt : k < 6
        · obtain ⟨b, off, x, rfl, hx, hc0⟩ := hL.at_ (k := k) (by have := H6.out; omega)
          have hcx := (hb1.cell (p := ⟨b, off + k, none⟩) (block_lt hc0)).trans hc0
          clear hL hc0
          by_cases hok : 0 ≤ x ∧ x ≤ 999999
          · have W1 := Lib.hid (fun V => Within3_is x 0 999999 true V (decide_eq_true hok))
            have Hn := Lib.hid (show ∀ j y, j < k + 1 → L[j]? = some y → 0 ≤ y ∧ y ≤ 999999 from fun j y hj hy => by
              rcases Nat.lt_or_ge j k with h1 | h1
              · exact hall.out j y h1 hy
              · obtain rfl : j = k := by omega
                rw [hx.out] at hy
                injection hy with hy
                subst hy
                exact hok)
            clear hall hx hok
            go_wp2_with (go_at_call 57; with_reducible refine (W1.out _).mono ?_; rintro e w' ⟨rfl, rfl⟩)
            refine ⟨⟨k + 1, ?qa, ?qb, Hn, trivial⟩, ?qd⟩
            case qa => omega
            case qb => go_num
            case qd => simp [intOf]; omega
          · have W1 := Lib.hid (fun V => Within3_is x 0 999999 false V (decide_eq_false hok))
            have Hr := Lib.hid (show runCode P n L fuel = 1 by
              rw [Hc.out, if_neg]
              rw [List.all_eq_true]
              intro ha
              have := ha x (List.mem_of_getElem? hx.out)
              exact hok (of_decide_eq_true this))
            clear hall hx hok Hc
            go_wp2_with (go_at_call 57; with_reducible refine (W1.out _).mono ?_; rintro e w' ⟨rfl, rfl⟩)
            go_ret
            exact ⟨by rw [Hr.out]; rfl, hb1⟩
        · obtain rfl : k = 6 := by omega
          have ha : L.all valOk = true := by
            rw [List.all_eq_true]
            intro x hx
            obtain ⟨j, hj, rfl⟩ := List.getElem_of_mem hx
            exact decide_eq_true (hall.out j _ (by have := H6.out; omega) (List.getElem?_eq_getElem hj))
          have Hc2 := Lib.hid (show runCode P n L fuel = if 0 ≤ fuel ∧ fuel ≤ 5000 then 0 else 1 by rw [Hc.out, if_pos ha])
          clear hall Hc hL ha
          by_cases hf : 0 ≤ fuel ∧ fuel ≤ 5000
          · have W1 := Lib.hid (fun V => Within3_is fuel 0 5000 true V (decide_eq_true hf))
            have Hr := Lib.hid (show runCode P n L fuel = 0 by rw [Hc2.out, if_pos hf])
            clear Hc2 hf
            go_wp2_with (go_at_call 57; with_reducible refine (W1.out _).mono ?_; rintro e w' ⟨rfl, rfl⟩)
            go_ret
            exact ⟨by rw [Hr.out]; rfl, hb1⟩
          · have W1 := Lib.hid (fun V => Within3_is fuel 0 5000 false V (decide_eq_false hf))
            have Hr := Lib.hid (show runCode P n L fuel = 1 by rw [Hc2.out, if_neg hf])
            clear Hc2 hf
            go_wp2_with (go_at_call 57; with_reducible refine (W1.out _).mono ?_; rintro e w' ⟨rfl, rfl⟩)
            go_ret
            exact ⟨by rw [Hr.out]; rfl, hb1⟩
    · have hb : ((L.length : Int) != 6) = true := by rw [bne_iff_ne]; omega
      have Hr := Lib.hid (show runCode P n L fuel = 3 by unfold runCode; rw [if_pos hc, if_neg h6])
      clear h6 hL hc
      generalize L.length = m at *
      go_enter Tryd.func37, Tryd.ntmps37
      go_wp2_with (go_at_call 30; with_reducible refine HC.out.mono ?_; rintro e w1 ⟨rfl, hb1⟩)
      go_ret
      exact ⟨by rw [Hr.out]; rfl, hb1⟩
  · obtain ⟨k, hk⟩ : ∃ k, progCode P n = k := ⟨_, rfl⟩
    rw [hk] at hc
    rw [hk, errVal_pos hc] at HC
    have HC := Lib.hid HC
    have Hr := Lib.hid (show runCode P n L fuel = k by unfold runCode; rw [hk, if_neg hc])
    have He := Lib.hid (errVal_pos hc)
    clear hc hk hL
    generalize L.length = m at *
    go_enter Tryd.func37, Tryd.ntmps37
    go_wp2_with (go_at_call 30; with_reducible refine HC.out.mono ?_; rintro e w1 ⟨rfl, hb1⟩)
    go_ret
    exact ⟨by rw [Hr.out, He.out]; rfl, hb1⟩

theorem runCode_ok {P : List Int} {n : Nat} {L : List Int} {fuel : Int} (h : runCode P n L fuel = 0) : progCode P n = 0 ∧ (∃ v, L = castL v ∧ Vars v) ∧ ∃ l : Nat, fuel = l ∧ l ≤ 5000 := by
  unfold runCode at h
  split at h
  · rename_i hc
    split at h
    · rename_i h6
      split at h
      · rename_i ha
        split at h
        · rename_i hf
          refine ⟨hc, ⟨L.map Int.toNat, ?_, by rw [List.length_map]; exact h6, fun i => ?_⟩, fuel.toNat, by omega, by omega⟩
          · unfold castL
            rw [List.map_map]
            refine List.ext_getElem (by simp) fun i h1 h2 => ?_
            rw [List.getElem_map]
            rw [List.all_eq_true] at ha
            have := of_decide_eq_true (ha _ (List.getElem_mem h1))
            show L[i] = (((L[i]).toNat : Nat) : Int)
            omega
          · rw [List.getD_eq_getElem?_getD, List.getElem?_map]
            cases hx : L[i]? with
            | none => simp
            | some x =>
              rw [List.all_eq_true] at ha
              have := of_decide_eq_true (ha _ (List.mem_of_getElem? hx))
              simp only [Option.map_some, Option.getD_some]
              omega
        · cases h
      · cases h
    · cases h
  · rename_i hc; exact absurd h hc

end Go.Proofs.YtdgncngkalgknaaDoor

namespace Go.Proofs.YtdgncngkalgknaaDoor
open Go.RowKit
set_option maxRecDepth 100000
set_option linter.unusedVariables false

theorem Run_bad {P : List Int} {n : Nat} {A : Option Addr} {c : Nat} {w : World} {L : List Int} {Al : Option Addr} {cl : Nat} {fuel : Int} {k : Nat} (h : NodesAt w A P n) (hL : IntsAt w Al L) (hk : runCode P n L fuel = k) (hne : k ≠ 0) :
    Calls Tryd.prog 14 #[.slice A n c, .slice Al L.length cl, .int .i64 fuel] w fun e w' => e = .returned (.tuple #[.slice none 0 0, .int .i64 0, .iface 61 (.int .i64 k)]) ∧ Below w.heap.size w w' := by
  have HC := RunCheck_any (c := c) (cl := cl) fuel h hL
  rw [hk, errVal_pos hne] at HC
  have HC := Lib.hid HC
  clear hk hne hL h
  generalize L.length = m at *
  go_enter Tryd.func14, Tryd.ntmps14
  go_wp2_with (go_at_call 37; with_reducible refine HC.out.mono ?_; rintro e w1 ⟨rfl, hb1⟩)
  go_ret3
  exact ⟨rfl, hb1⟩
theorem RunAt.ints {w0 w : World} {p : Nat} {A : Option Addr} {P : List Int} {n c : Nat} {v : List Nat} {left : Int} (h : RunAt w0 w p A P n c v left) (h6 : v.length = 6) : IntsAt w (some ⟨p, 1, none⟩) (castL v) := fun _ => by
  refine ⟨p, 1, rfl, fun j x hx => ?_⟩
  have hj : j < 6 := by have := (List.getElem?_eq_some_iff.1 hx).1; rw [length_castL, h6] at this; exact this
  rw [get_castL hx]
  exact h.var hj
/-- What a run leaves behind it. -/
def RunPost (w : World) (l : Nat) (r : Option (List Nat × Nat)) (e : Ending) (w' : World) : Prop :=
  (match r with
    | none => e = .returned (.tuple #[.slice none 0 0, .int .i64 0, .iface 61 (.int .i64 4)])
    | some (v', l') => ∃ B c', e = .returned (.tuple #[.slice B 6 c', .int .i64 (l - l' : Nat), .nilIface]) ∧ IntsAt w' B (castL v')) ∧ Below w.heap.size w w'
set_option maxHeartbeats 1000000 in
theorem Run_ok {P : List Int} {n : Nat} {A : Option Addr} {c : Nat} {w : World} {v : List Nat} {Al : Option Addr} {cl : Nat} {l : Nat} {s : St} (h : NodesAt w A P n) (hL : IntsAt w Al (castL v)) (hk : runCode P n (castL v) l = 0) (hv : Vars v) (hs : IsSt P (n - 1) s) :
    Calls Tryd.prog 14 #[.slice A n c, .slice Al 6 cl, .int .i64 l] w (RunPost w l (s.run v l)) := by
  obtain ⟨hc, -, l', hl', hl5⟩ := runCode_ok hk
  obtain ⟨⟨hn1, hn80⟩, -, -⟩ := progCode_tree hc
  have hl5 : l ≤ 5000 := by omega
  have hlv : (castL v).length = 6 := by rw [length_castL, hv.1]
  have HC := RunCheck_any (c := c) (cl := cl) (l : Int) h hL
  rw [hk, errVal_zero, hlv] at HC
  have HC := Lib.hid HC
  obtain ⟨b, off, rfl, hcl⟩ := (show _ from hL) (by intro e; rw [e] at hlv; cases hlv)
  have Hcl := Lib.hid (show ∀ x, x < 6 → w.cell? ⟨b, off + x, none⟩ = some (.int .i64 (row v x : Nat)) from fun x hx => by
    have h1 : (castL v)[x]? = some ((row v x : Nat) : Int) := by unfold castL row; rw [List.getElem?_map, List.getElem?_eq_getElem (by rw [hv.1]; exact hx)]; rfl
    exact hcl x _ h1)
  have hbw := block_lt (Hcl.out 0 (by decide))
  have hsub : (n : Int) - 1 = ((n - 1 : Nat) : Int) := by omega
  have h1n : (1 : Int) ≤ n := by omega
  have harr : ∀ V : World, (Instr.arrayAt 69 (.slice (some ⟨b, off, none⟩) 6 cl)).run Tryd.prog V = .ok (.pointer (some ⟨b, off, none⟩)) V := fun V => by
    simp [Instr.arrayAt, go_sem]
  clear hcl hk hc hlv hl' hL
  go_enter Tryd.func14, Tryd.ntmps14
  go_wp2_with fail
  with_reducible refine HC.out.mono ?_
  rintro e w1 ⟨rfl, hb1⟩
  have g0 : w1.cell? ⟨b, off, none⟩ = some (.int .i64 (row v 0 : Nat)) := (hb1.cell (p := ⟨b, off, none⟩) hbw).trans (Hcl.out 0 (by decide))
  have g1 : w1.cell? ⟨b, off + 1, none⟩ = some (.int .i64 (row v 1 : Nat)) := (hb1.cell (p := ⟨b, off + 1, none⟩) hbw).trans (Hcl.out 1 (by decide))
  have g2 : w1.cell? ⟨b, off + 2, none⟩ = some (.int .i64 (row v 2 : Nat)) := (hb1.cell (p := ⟨b, off + 2, none⟩) hbw).trans (Hcl.out 2 (by decide))
  have g3 : w1.cell? ⟨b, off + 3, none⟩ = some (.int .i64 (row v 3 : Nat)) := (hb1.cell (p := ⟨b, off + 3, none⟩) hbw).trans (Hcl.out 3 (by decide))
  have g4 : w1.cell? ⟨b, off + 4, none⟩ = some (.int .i64 (row v 4 : Nat)) := (hb1.cell (p := ⟨b, off + 4, none⟩) hbw).trans (Hcl.out 4 (by decide))
  have g5 : w1.cell? ⟨b, off + 5, none⟩ = some (.int .i64 (row v 5 : Nat)) := (hb1.cell (p := ⟨b, off + 5, none⟩) hbw).trans (Hcl.out 5 (by decide))
  clear HC
  go_wp2_with fail
  have hs1 := hb1.size
  have hbW := hb1.alloc hs1 (.cells #[.slice A n c, .int .i64 (row v 0 : Nat), .int .i64 (row v 1 : Nat), .int .i64 (row v 2 : Nat), .int .i64 (row v 3 : Nat), .int .i64 (row v 4 : Nat), .int .i64 (row v 5 : Nat), .int .i64 (l : Nat)] 71)
  have hR : RunAt w (w1.alloc (.cells #[.slice A n c, .int .i64 (row v 0 : Nat), .int .i64 (row v 1 : Nat), .int .i64 (row v 2 : Nat), .int .i64 (row v 3 : Nat), .int .i64 (row v 4 : Nat), .int .i64 (row v 5 : Nat), .int .i64 (l : Nat)] 71)) w1.heap.size A P n c v l := ⟨h, hbW, hs1, BoxN.new w1 _ _⟩
  generalize (w1.alloc (.cells #[.slice A n c, .int .i64 (row v 0 : Nat), .int .i64 (row v 1 : Nat), .int .i64 (row v 2 : Nat), .int .i64 (row v 3 : Nat), .int .i64 (row v 4 : Nat), .int .i64 (row v 5 : Nat), .int .i64 (l : Nat)] 71)) = W at *
  have HD := do_any hs (show n - 1 < n by omega) v l W hv hl5 hR
  clear g0 g1 g2 g3 g4 g5 harr Hcl
  cases hr : s.run v l with
  | none =>
    rw [hr] at HD
    have Hr := Lib.hid hr
    clear hr
    refine HD.mono ?_
    rintro e w2 ⟨hT, he⟩
    have he : e = .returned (.bool false) := he
    subst he
    go_wp2_with fail
    go_ret3
    rw [Hr.out]
    exact ⟨rfl, hbW.trans (hT.low.mono hs1)⟩
  | some q =>
    obtain ⟨v', l'⟩ := q
    rw [hr] at HD
    have hv' := St.run_vars hs.ok hr hv
    have hle := St.left _ _ _ _ hr
    refine HD.mono ?_
    rintro e w2 ⟨hT, he⟩
    obtain ⟨he, h2⟩ : e = .returned (.bool true) ∧ RunAt w w2 w1.heap.size A P n c v' l' := he
    subst he
    have h6' : (castL v').length = 6 := by rw [length_castL, hv'.1]
    have HCl := fun V (hV : Below w2.heap.size w2 V) => Clone_some w1.heap.size 1 6 (castL v') V ((h2.all hV).ints hv'.1) (by intro e; rw [e] at h6'; cases h6') (by rw [h6']; decide)
    rw [h6'] at HCl
    have HCl := Lib.hid HCl
    have hbd := (Below.refl w2.heap.size w2).drew
    have e7 : w2.cell? ⟨w1.heap.size, 7, none⟩ = some (.int .i64 (l' : Nat)) := h2.box.cell rfl
    have hbl2 := h2.low
    have H2 := Lib.hid h2
    have Hr := Lib.hid hr
    have hwr : IntKind.i64.wrap ((l : Int) - l') = ((l - l' : Nat) : Int) := by rw [IntKind.wrap_i64]; omega
    have Hwr := Lib.hid hwr
    clear hwr
    clear HD hT hR h h2 hs hr h6'
    have hsl : ∀ V : World, (Instr.sliceAt 69 (.pointer (some ⟨w1.heap.size, 1, none⟩)) none none none).run Tryd.prog V = .ok (.slice (some ⟨w1.heap.size, 1, none⟩) 6 6) V := fun V => by
      simp [Instr.sliceAt, Instr.sliceBounds, go_sem]
    generalize w1.heap.size = p at *
    go_wp2_with fail
    go_region_with (go_at_call 39; with_reducible refine (HCl.out _ hbd).mono ?_; rintro e w3 ⟨g, c3, rfl, hg3, ho3, hb3⟩; have e7' := (H2.out.all (hbd.trans (hb3.mono hbd.size))).box.cell (k := 7) rfl)
    all_goals go_wp2_with fail
    all_goals go_ret3
    all_goals rw [Hr.out]
    all_goals (refine ⟨⟨some ⟨g, 0, none⟩, c3, ?_, ho3.ints⟩, hbl2.trans ((hbd.trans (hb3.mono hbd.size)).mono hbl2.size)⟩; show Ending.returned (.tuple #[.slice (some ⟨g, 0, none⟩) 6 c3, .int .i64 (IntKind.i64.wrap ((l : Int) - l')), .nilIface]) = _; rw [Hwr.out])
end Go.Proofs.YtdgncngkalgknaaDoor

namespace Go.Proofs.YtdgncngkalgknaaDoor
open Go.RowKit
set_option maxRecDepth 100000
set_option linter.unusedVariables false

/-- Run tells an error. -/
def RunErr (w : World) (e : Ending) (w' : World) (k : Nat) : Prop := e = .returned (.tuple #[.slice none 0 0, .int .i64 0, .iface 61 (.int .i64 k)]) ∧ Below w.heap.size w w'
/-- Run ends. -/
def RunEnd (w V : World) (e : Ending) (w' : World) (b : Nat) (v' : List Nat) : Prop := (∃ B c', e = .returned (.tuple #[.slice B 6 c', .int .i64 (b : Nat), .nilIface]) ∧ IntsAt w' B (castL v')) ∧ Below V.heap.size V w' ∧ Below w.heap.size w w'
section
variable {P : List Int} {n : Nat} {A : Option Addr} {c : Nat} {w : World} {L : List Int} {Al : Option Addr} {cl : Nat} {fuel : Int} {s : St}
theorem Run_cases (h : NodesAt w A P n) (hL : IntsAt w Al L) (hs : progCode P n = 0 → IsSt P (n - 1) s) :
    (∃ k, k ≠ 0 ∧ ∀ V, Below w.heap.size w V → Calls Tryd.prog 14 #[.slice A n c, .slice Al L.length cl, .int .i64 fuel] V fun e w' => RunErr w e w' k) ∨
    (∃ v l v' l', (L = castL v ∧ L.length = 6 ∧ fuel = (l : Nat) ∧ Vars v ∧ progCode P n = 0 ∧ s.run v l = some (v', l') ∧ Vars v') ∧ ∀ V, Below w.heap.size w V → Calls Tryd.prog 14 #[.slice A n c, .slice Al L.length cl, .int .i64 fuel] V fun e w' => RunEnd w V e w' (l - l') v') := by
  obtain ⟨k, hk⟩ : ∃ k, runCode P n L fuel = k := ⟨_, rfl⟩
  by_cases hne : k = 0
  · subst hne
    obtain ⟨hc, ⟨v, rfl, hv⟩, l, rfl, hl⟩ := runCode_ok hk
    have h6 : (castL v).length = 6 := by rw [length_castL, hv.1]
    have hR := fun V (hV : Below w.heap.size w V) => Run_ok (c := c) (cl := cl) (h.below (B := 0) hV) (hL.below hV) hk hv (hs hc)
    cases hr : s.run v l with
    | none =>
      refine .inl ⟨4, by decide, fun V hV => ?_⟩
      rw [h6]
      have := hR V hV
      rw [hr] at this
      exact this.mono fun e w' ⟨he, hb⟩ => ⟨he, hV.trans (hb.mono hV.size)⟩
    | some q =>
      obtain ⟨v', l'⟩ := q
      refine .inr ⟨v, l, v', l', ⟨rfl, h6, rfl, hv, hc, hr, St.run_vars (hs hc).ok hr hv⟩, fun V hV => ?_⟩
      rw [h6]
      have := hR V hV
      rw [hr] at this
      exact this.mono fun e w' ⟨he, hb⟩ => ⟨he, hb, hV.trans (hb.mono hV.size)⟩
  · exact .inl ⟨k, hne, fun V hV => (Run_bad (c := c) (cl := cl) (h.below (B := 0) hV) (hL.below hV) hk hne).mono fun e w' ⟨he, hb⟩ => ⟨he, hV.trans (hb.mono hV.size)⟩⟩
theorem Run_some (h : NodesAt w A P n) (hL : IntsAt w Al L) (hs : progCode P n = 0 → IsSt P (n - 1) s) (V : World) (hV : Below w.heap.size w V) :
    Calls Tryd.prog 14 #[.slice A n c, .slice Al L.length cl, .int .i64 fuel] V fun e w' => (∃ x b y, e = .returned (.tuple #[x, b, y])) ∧ Below w.heap.size w w' := by
  rcases Run_cases (c := c) (cl := cl) (fuel := fuel) h hL hs with ⟨k, -, h⟩ | ⟨v, l, v', l', -, h⟩
  · exact (h V hV).mono fun e w' ⟨he, hb⟩ => ⟨⟨_, _, _, he⟩, hb⟩
  · exact (h V hV).mono fun e w' ⟨⟨B, c', he, _⟩, _, hb⟩ => ⟨⟨_, _, _, he⟩, hb⟩
end
end Go.Proofs.YtdgncngkalgknaaDoor

namespace Go.Proofs.YtdgncngkalgknaaDoor
open Go.RowKit
set_option maxRecDepth 100000
set_option linter.unusedVariables false

def factL : List Int := [1, 1, 0, 0, 0, 0, 2, 0, 0, 0, 2, 0, 0, 1, 0, 6, 0, 2, 0, 0]
def factS : St := .set 0 (.op 2 (.var 1) (.num 2))
theorem fact_code : progCode factL 4 = 0 := by decide +kernel
theorem fact_st : IsSt factL (4 - 1) factS :=
  .set (i := 3) (a := 2) rfl rfl (by decide) rfl (by decide) (.op (k := 2) (a := 0) (b := 1) (by decide) (by decide) rfl rfl rfl (by decide) (by decide) (.var rfl rfl (by decide)) (.num rfl rfl (by decide)))
theorem fact_run : factS.run [0, 5, 0, 0, 0, 0] 9 = some ([7, 5, 0, 0, 0, 0], 8) := by decide +kernel
theorem fact_runCode : runCode factL 4 (castL [0, 5, 0, 0, 0, 0]) (9 : Nat) = 0 := by decide +kernel
theorem fact_vars : Vars [0, 5, 0, 0, 0, 0] := ⟨rfl, fun i => by rcases i with _ | _ | _ | _ | _ | _ | i <;> simp⟩
theorem intsAt_built (w : World) (t : TypeId) (l : List Int) : IntsAt (w.alloc (.cells (l.map (Value.int .i64)).toArray t)) (some ⟨w.heap.size, 0, none⟩) l := fun _ => by
  refine ⟨w.heap.size, 0, rfl, fun j u hj => ?_⟩
  rw [Nat.zero_add, cell_of_row _ w.heap.size j _ _ _ (heap_alloc_new w _)]
  simp [hj]
theorem Read_fact {w : World} (hP : Pow10 w.heap.size w) : Calls Tryd.prog 13 #[.string ⟨#[97, 61, 43, 98, 35, 50, 59]⟩] w fun e w' => (∃ A c, e = .returned (.tuple #[.slice A 4 c, .nilIface]) ∧ NodesAt w' A factL 4) ∧ Below w.heap.size w w' := by
  refine (Read_good (s := ⟨#[97, 61, 43, 98, 35, 50, 59]⟩) (by decide) hP (f := 8) (i := 3) (o := factL) factT_read).mono ?_
  rintro e w' ⟨⟨A, n, c, he, hl, _, hi⟩, hb⟩
  obtain rfl : n = 4 := by have : factL.length = 20 := rfl; omega
  exact ⟨⟨A, c, he, hi, hl, by decide⟩, hb⟩

set_option maxHeartbeats 4000000 in
theorem runFact_any {w : World} (hP : Pow10 w.heap.size w) : Calls Tryd.prog 28 #[] w fun e w' => e = .returned (.bool true) ∧ Below w.heap.size w w' := by
  have HR := Lib.hid (Read_fact hP)
  clear hP
  go_enter Tryd.func28, Tryd.ntmps28
  go_wp2_with fail
  refine HR.out.mono ?_
  rintro e w1 ⟨⟨A, c, rfl, hA⟩, hb1⟩
  have hl1 := intsAt_built w1 3 (castL [0, 5, 0, 0, 0, 0])
  have hbl1 := (Below.refl w1.heap.size w1).alloc (Nat.le_refl _) (.cells ((castL [0, 5, 0, 0, 0, 0]).map (Value.int .i64)).toArray 3)
  have C1 := Run_ok (c := c) (cl := 6) (hA.below (B := 0) hbl1) hl1 fact_runCode fact_vars fact_st
  rw [fact_run] at C1
  have C1 := Lib.hid (show Calls Tryd.prog 14 #[.slice A 4 c, .slice (some ⟨w1.heap.size, 0, none⟩) 6 6, .int .i64 9] (w1.alloc (.cells ((castL [0, 5, 0, 0, 0, 0]).map (Value.int .i64)).toArray 3)) (fun e w' => (∃ B c', e = .returned (.tuple #[.slice B 6 c', .int .i64 1, .nilIface]) ∧ IntsAt w' B (castL [7, 5, 0, 0, 0, 0])) ∧ Below (w1.alloc (.cells ((castL [0, 5, 0, 0, 0, 0]).map (Value.int .i64)).toArray 3)).heap.size (w1.alloc (.cells ((castL [0, 5, 0, 0, 0, 0]).map (Value.int .i64)).toArray 3)) w') from C1)
  have hbw1 := hb1.trans (hbl1.mono hb1.size)
  have Hs1 := Lib.hid hbw1.size
  go_wp2_with fail
  refine C1.out.mono ?_
  rintro e w2 ⟨⟨B, c', rfl, hB⟩, hb2⟩
  have hbw2 := hbw1.trans (hb2.mono Hs1.out)
  have hl2 := intsAt_built w2 3 (castL [7, 5, 0, 0, 0, 0])
  have hbl2 := (Below.refl w2.heap.size w2).alloc (Nat.le_refl _) (.cells ((castL [7, 5, 0, 0, 0, 0]).map (Value.int .i64)).toArray 3)
  have C2 := Lib.hid (show Calls Tryd.prog 15 #[.slice B 6 c', .slice (some ⟨w2.heap.size, 0, none⟩) 6 6] (w2.alloc (.cells ((castL [7, 5, 0, 0, 0, 0]).map (Value.int .i64)).toArray 3)) (fun e w' => e = .returned (.bool true) ∧ ∃ n, w' = (w2.alloc (.cells ((castL [7, 5, 0, 0, 0, 0]).map (Value.int .i64)).toArray 3)).drewN n) from Ints_any (castL [7, 5, 0, 0, 0, 0]) (castL [7, 5, 0, 0, 0, 0]) B _ c' 6 _ (hB.below hbl2) hl2 (by decide))
  have hbw3 := hbw2.trans (hbl2.mono hbw2.size)
  have H3 := Lib.hid hbw3
  clear C1 hb1 hb2 hB hl2 hbl2 hl1 hbl1 hbw1 hbw2 hbw3
  go_wp2_with fail
  refine C2.out.mono ?_
  rintro e w3 ⟨rfl, k, rfl⟩
  go_wp2_with fail
  go_ret
  exact ⟨rfl, belowD H3.out k⟩

set_option maxHeartbeats 4000000 in
theorem progFact_any {w : World} (hP : Pow10 w.heap.size w) : Calls Tryd.prog 26 #[] w fun e w' => e = .returned (.bool true) ∧ Below w.heap.size w w' := by
  have HR := Lib.hid (Read_fact hP)
  clear hP
  go_enter Tryd.func26, Tryd.ntmps26
  go_wp2_with fail
  refine HR.out.mono ?_
  rintro e w1 ⟨⟨A, c, rfl, hA⟩, hb1⟩
  obtain ⟨b, off, rfl, hc⟩ := hA.ints (by decide)
  have c0 : w1.cell? ⟨b, off + 15, none⟩ = some (.int .i64 6) := hc 15 6 rfl
  have c1 : w1.cell? ⟨b, off + 10, none⟩ = some (.int .i64 2) := hc 10 2 rfl
  clear hc hA
  go_wp2_with fail
  go_ret
  exact ⟨rfl, hb1⟩
end Go.Proofs.YtdgncngkalgknaaDoor

namespace Go.Proofs.YtdgncngkalgknaaDoor
open Go.RowKit
set_option maxRecDepth 100000
set_option linter.unusedVariables false

section
theorem sameInts (l : List Int) (h6 : l.length = 6) (V : World) (B B2 : Option Addr) (c3 c4 : Nat) (h1 : IntsAt V B l) (h2 : IntsAt V B2 l) : Calls Tryd.prog 15 #[.slice B 6 c3, .slice B2 6 c4] V fun e w' => e = .returned (.bool true) ∧ Below V.heap.size V w' := by
  have := Ints_any l l B B2 c3 c4 V h1 h2 (by rw [h6]; decide)
  rw [h6] at this
  exact this.mono fun e w' ⟨he, q, hw⟩ => ⟨by rw [he]; simp, by rw [hw]; exact belowD (Below.refl _ _) _⟩
variable {w : World} {s t : ByteArray}
theorem Pow10.at {V : World} (hP : Pow10 w.heap.size w) (hV : Below w.heap.size w V) : Pow10 V.heap.size V := hP.next hV hV.size (Nat.le_refl _)
theorem Read_wrong {k : Nat} (hP : Pow10 w.heap.size w) (hN : ∀ V, Below w.heap.size w V → NumErrs V) (h : readP s = .bad k) (V : World) (hV : Below w.heap.size w V) :
    Calls Tryd.prog 13 #[.string s] V fun e w' => e = .returned (.tuple #[.slice none 0 0, .iface 61 (.int .i64 k)]) ∧ Below w.heap.size w w' := by
  refine (Read_any (s := s) (hP.at hV) fun U hU => hN U (hV.trans (hU.mono hV.size))).mono fun e w' g => ?_
  unfold ReadSaid at g
  rw [h] at g
  exact ⟨g.1, hV.trans (g.2.mono hV.size)⟩
theorem Read_right {i : Nat} {l : List UInt8} {o : List Int} (hP : Pow10 w.heap.size w) (hN : ∀ V, Below w.heap.size w V → NumErrs V) (h : readP s = .good i l o) (V : World) (hV : Below w.heap.size w V) :
    Calls Tryd.prog 13 #[.string s] V fun e w' => (∃ A c, e = .returned (.tuple #[.slice A (i + 1) c, .nilIface]) ∧ NodesAt w' A o (i + 1)) ∧ Below V.heap.size V w' ∧ Below w.heap.size w w' := by
  refine (Read_any (s := s) (hP.at hV) fun U hU => hN U (hV.trans (hU.mono hV.size))).mono fun e w' g => ?_
  unfold ReadSaid at g
  rw [h] at g
  obtain ⟨⟨A, n, c, he, hl, _, hi⟩, hb⟩ := g
  obtain ⟨-, hl2, hi80, -⟩ := readP_good h
  obtain rfl : n = i + 1 := by omega
  exact ⟨⟨A, c, he, hi, hl2, by omega⟩, hb, hV.trans (hb.mono hV.size)⟩
theorem Read_some (hP : Pow10 w.heap.size w) (hN : ∀ V, Below w.heap.size w V → NumErrs V) (V : World) (hV : Below w.heap.size w V) :
    Calls Tryd.prog 13 #[.string s] V fun e w' => (∃ x y, e = .returned (.tuple #[x, y])) ∧ Below w.heap.size w w' := by
  cases h : readP s with
  | bad k => exact (Read_wrong hP hN h V hV).mono fun e w' ⟨he, hb⟩ => ⟨⟨_, _, he⟩, hb⟩
  | good i l o => exact (Read_right hP hN h V hV).mono fun e w' ⟨⟨A, c, he, _⟩, _, hb⟩ => ⟨⟨_, _, he⟩, hb⟩
theorem runCode_of {P : List Int} {n : Nat} {v : List Nat} {l : Nat} (hc : progCode P n = 0) (hv : Vars v) (hl : l ≤ 5000) : runCode P n (castL v) l = 0 := by
  unfold runCode
  rw [if_pos hc, if_pos (by rw [length_castL, hv.1]), if_pos, if_pos (by omega)]
  rw [List.all_eq_true]
  intro x hx
  unfold castL at hx
  rw [List.mem_map] at hx
  obtain ⟨y, hy, rfl⟩ := hx
  obtain ⟨j, hj⟩ := List.getElem?_of_mem hy
  have := hv.2 j
  rw [List.getD_eq_getElem?_getD, hj] at this
  unfold valOk
  simp at this ⊢
  omega
variable {L : List Int} {Al : Option Addr} {cl : Nat}
set_option maxHeartbeats 4000000 in
theorem PJ_bad1 {k : Nat} (hs : s.size + t.size ≤ 9223372036854775807) (hP : Pow10 w.heap.size w) (hN : ∀ V, Below w.heap.size w V → NumErrs V) (h : readP s = .bad k) :
    Calls Tryd.prog 9 #[.string s, .string t, .slice Al L.length cl] w fun e w' => e = .returned (.bool true) ∧ Below w.heap.size w w' := by
  have C0 := Lib.hid (progFact_any hP)
  have C1 := Lib.hid (Read_wrong hP hN h)
  have C2 := Lib.hid (fun V hV => Read_some (s := t) hP hN V hV)
  have C3 := Lib.hid (fun V hV => Read_some (s := s ++ t) hP hN V hV)
  have hsz : ¬ (9223372036854775807 < s.size + t.size) := by omega
  clear hP hN h hs
  generalize L.length = m at *
  go_enter Tryd.func9, Tryd.ntmps9
  go_wp2_with fail
  refine C0.out.mono ?_
  rintro e w1 ⟨rfl, hb1⟩
  go_wp2_with fail
  refine (C1.out _ hb1).mono ?_
  rintro e w2 ⟨rfl, hb2⟩
  go_wp2_with fail
  refine (C2.out _ hb2).mono ?_
  rintro e w3 ⟨⟨x, y, rfl⟩, hb3⟩
  go_wp2_with fail
  refine (C3.out _ hb3).mono ?_
  rintro e w4 ⟨⟨x4, y4, rfl⟩, hb4⟩
  go_wp2_with fail
  go_ret
  exact ⟨rfl, hb4⟩
set_option maxHeartbeats 4000000 in
theorem PJ_bad2 {k i : Nat} {l : List UInt8} {o : List Int} (hs : s.size + t.size ≤ 9223372036854775807) (hP : Pow10 w.heap.size w) (hN : ∀ V, Below w.heap.size w V → NumErrs V) (h : readP s = .good i l o) (g : readP t = .bad k) :
    Calls Tryd.prog 9 #[.string s, .string t, .slice Al L.length cl] w fun e w' => e = .returned (.bool true) ∧ Below w.heap.size w w' := by
  have C0 := Lib.hid (progFact_any hP)
  have C1 := Lib.hid (Read_right hP hN h)
  have C2 := Lib.hid (Read_wrong hP hN g)
  have C3 := Lib.hid (fun V hV => Read_some (s := s ++ t) hP hN V hV)
  have hsz : ¬ (9223372036854775807 < s.size + t.size) := by omega
  clear hP hN h hs g
  generalize L.length = m at *
  go_enter Tryd.func9, Tryd.ntmps9
  go_wp2_with fail
  refine C0.out.mono ?_
  rintro e w1 ⟨rfl, hb1⟩
  go_wp2_with fail
  refine (C1.out _ hb1).mono ?_
  rintro e w2 ⟨⟨A, c, rfl, hA⟩, -, hb2⟩
  go_wp2_with fail
  refine (C2.out _ hb2).mono ?_
  rintro e w3 ⟨rfl, hb3⟩
  go_wp2_with fail
  refine (C3.out _ hb3).mono ?_
  rintro e w4 ⟨⟨x4, y4, rfl⟩, hb4⟩
  go_wp2_with fail
  go_ret
  exact ⟨rfl, hb4⟩
set_option maxHeartbeats 4000000 in
theorem PJ_full {i j : Nat} {l l2 : List UInt8} {o o2 : List Int} (hs : s.size + t.size ≤ 9223372036854775807) (hP : Pow10 w.heap.size w) (hE : ErrT w) (hN : ∀ V, Below w.heap.size w V → NumErrs V) (h : readP s = .good i l o) (g : readP t = .good j l2 o2) (hj : readP (s ++ t) = .bad 4) :
    Calls Tryd.prog 9 #[.string s, .string t, .slice Al L.length cl] w fun e w' => e = .returned (.bool true) ∧ Below w.heap.size w w' := by
  have C0 := Lib.hid (progFact_any hP)
  have C1 := Lib.hid (Read_right hP hN h)
  have C2 := Lib.hid (Read_right hP hN g)
  have C3 := Lib.hid (Read_wrong hP hN hj)
  have CE := Lib.hid (fun V (hV : Below w.heap.size w V) => ((Error_is 4 4 true V (hE.next hV) (by simp) : Calls Tryd.prog 23 #[.iface 61 (.int .i64 4), .int .i64 4] V _)).mono fun e w' ⟨he, hb⟩ => (⟨he, hV.trans (hb.mono hV.size)⟩ : e = Ending.returned (.bool true) ∧ Below w.heap.size w w'))
  have hsz : ¬ (9223372036854775807 < s.size + t.size) := by omega
  clear hP hN h hs g hj hE
  generalize L.length = m at *
  go_enter Tryd.func9, Tryd.ntmps9
  go_wp2_with fail
  refine C0.out.mono ?_
  rintro e w1 ⟨rfl, hb1⟩
  go_wp2_with fail
  refine (C1.out _ hb1).mono ?_
  rintro e w2 ⟨⟨A, c, rfl, hA⟩, -, hb2⟩
  go_wp2_with fail
  refine (C2.out _ hb2).mono ?_
  rintro e w3 ⟨⟨A2, c2, rfl, hA2⟩, -, hb3⟩
  go_wp2_with fail
  refine (C3.out _ hb3).mono ?_
  rintro e w4 ⟨rfl, hb4⟩
  go_wp2_with fail
  refine (CE.out _ hb4).mono ?_
  rintro e w5 ⟨rfl, hb5⟩
  go_wp2_with fail
  go_ret
  exact ⟨rfl, hb5⟩
set_option maxHeartbeats 8000000 in
theorem PJ_runs {i j k : Nat} {l l2 l3 : List UInt8} {o o2 o3 : List Int} {x y : St} (hs : s.size + t.size ≤ 9223372036854775807) (hL : IntsAt w Al L) (hP : Pow10 w.heap.size w) (hN : ∀ V, Below w.heap.size w V → NumErrs V)
    (h : readP s = .good i l o) (g : readP t = .good j l2 o2) (hj : readP (s ++ t) = .good k l3 o3) (hx : IsSt o i x) (hy : IsSt o2 j y) (hz : IsSt o3 k (St.both x y).norm) :
    Calls Tryd.prog 9 #[.string s, .string t, .slice Al L.length cl] w fun e w' => e = .returned (.bool true) ∧ Below w.heap.size w w' := by
  have C0 := Lib.hid (progFact_any hP)
  have C1 := Lib.hid (Read_right hP hN h)
  have C2 := Lib.hid (Read_right hP hN g)
  have C3 := Lib.hid (Read_right hP hN hj)
  have hsz : ¬ (9223372036854775807 < s.size + t.size) := by omega
  obtain ⟨-, -, -, hc1, -⟩ := readP_good h
  obtain ⟨-, -, -, hc2, -⟩ := readP_good g
  obtain ⟨-, -, -, hc3, -⟩ := readP_good hj
  have Hc := Lib.hid (And.intro hc1 (And.intro hc2 hc3))
  have HX := Lib.hid (And.intro hx (And.intro hy hz))
  have HL := Lib.hid hL
  clear hP hN h hs g hj hx hy hz hc1 hc2 hc3 hL
  go_enter Tryd.func9, Tryd.ntmps9
  go_wp2_with fail
  refine C0.out.mono ?_
  rintro e w1 ⟨rfl, hb1⟩
  go_wp2_with fail
  refine (C1.out _ hb1).mono ?_
  rintro e w2 ⟨⟨A, c, rfl, hA⟩, -, hb2⟩
  have HA := Lib.hid hA
  go_wp2_with fail
  refine (C2.out _ hb2).mono ?_
  rintro e w3 ⟨⟨A2, c2, rfl, hA2⟩, hd3, hb3⟩
  have HA := Lib.hid (HA.out.below (B := 0) hd3)
  have HA2 := Lib.hid hA2
  go_wp2_with fail
  refine (C3.out _ hb3).mono ?_
  rintro e w4 ⟨⟨A3, c3, rfl, hA3⟩, hd4, hb4⟩
  have HA := Lib.hid (HA.out.below (B := 0) hd4)
  have HA2 := Lib.hid (HA2.out.below (B := 0) hd4)
  have HA3 := Lib.hid hA3
  have HB := Lib.hid hb4
  have HL4 := Lib.hid (HL.out.below hb4)
  clear C0 C1 C2 C3 hA hA2 hA3 hb1 hb2 hb3 hd3 hd4 hb4 HL
  rcases Run_cases (c := c) (cl := cl) (fuel := 200) (s := x) HA.out HL4.out (fun _ => HX.out.1) with ⟨q, hq, hR⟩ | ⟨v, l1, x', l1', ⟨hLv, h6, hl200, hv, -, hr, hv'⟩, hR⟩
  · have CR := Lib.hid (hR _ (Below.refl _ _))
    clear hR
    generalize L.length = m at *
    go_wp2_with fail
    refine CR.out.mono ?_
    rintro e w5 ⟨rfl, hb5⟩
    have HB5 := Lib.hid (HB.out.trans (hb5.mono HB.out.size))
    clear hb5
    go_wp2_with fail
    go_ret
    exact ⟨rfl, HB5.out⟩
  · have CR := Lib.hid (hR _ (Below.refl _ _))
    have HR := Lib.hid (And.intro hr (And.intro hl200 (And.intro hv hv')))
    have HLv := Lib.hid hLv
    have H6 := Lib.hid h6
    clear hR hr hl200 hv hv' hLv
    rw [h6] at CR
    rw [h6]
    clear h6
    generalize hbn : l1 - l1' = b1 at *
    have Hbn := Lib.hid hbn
    clear hbn
    go_wp2_with fail
    refine CR.out.mono ?_
    rintro e w5 ⟨⟨B, cB, rfl, hiB⟩, -, hb5⟩
    have HA2 := Lib.hid (HA2.out.below (B := 0) hb5)
    have HA3 := Lib.hid (HA3.out.below (B := 0) hb5)
    have HL5 := Lib.hid (HL4.out.below hb5)
    have HB5 := Lib.hid (HB.out.trans (hb5.mono HB.out.size))
    have HiB := Lib.hid hiB
    have hb0 : (castL x').length = 6 := by rw [length_castL, HR.out.2.2.2.1]
    clear hb5 hiB CR
    rcases Run_cases (c := c2) (cl := cB) (fuel := 200) (s := y) HA2.out HiB.out (fun _ => HX.out.2.1) with ⟨q, hq, hR2⟩ | ⟨v2, l2', z, l2'', ⟨hLv2, -, hl200b, hv2, -, hr2, hvz⟩, hR2⟩
    · have CR2 := Lib.hid (hR2 _ (Below.refl _ _))
      rw [hb0] at CR2
      have C4 := Run_some (c := c3) (cl := cl) (fuel := 400) (s := (St.both x y).norm) HA3.out HL5.out (fun _ => HX.out.2.2)
      rw [H6.out] at C4
      have C4 := Lib.hid C4
      clear hR2 hb0
      go_wp2_with fail
      refine CR2.out.mono ?_
      rintro e w6 ⟨rfl, hb6⟩
      go_wp2_with fail
      refine (C4.out _ hb6).mono ?_
      rintro e w7 ⟨⟨z1, z2, z3, rfl⟩, hb7⟩
      have HB7 := Lib.hid (HB5.out.trans (hb7.mono HB5.out.size))
      clear hb6 hb7
      go_wp2_with fail
      go_ret
      exact ⟨rfl, HB7.out⟩
    · have CR2 := Lib.hid (hR2 _ (Below.refl _ _))
      rw [hb0] at CR2
      obtain ⟨hr, hl200, hv, hv'⟩ := HR.out
      obtain rfl : x' = v2 := castL_inj hLv2
      obtain rfl : l1 = 200 := by omega
      obtain rfl : l2' = 200 := by omega
      have e1 := St.left _ _ _ _ hr
      have e2 := St.left _ _ _ _ hr2
      have hb1 := Hbn.out
      have hrun := join_run hr hr2 400 (by omega)
      have C4 := fun (V : World) (hV : Below w5.heap.size w5 V) => (Run_ok (c := c3) (cl := cl) (l := 400) (s := (St.both x y).norm) (HA3.out.below (B := 0) hV) ((HLv.out ▸ HL5.out : IntsAt w5 Al (castL v)).below hV) (runCode_of Hc.out.2.2 hv (by decide)) hv HX.out.2.2)
      rw [hrun] at C4
      have C4 := Lib.hid (fun V hV => show Calls Tryd.prog 14 #[.slice A3 (k + 1) c3, .slice Al 6 cl, .int .i64 400] V (fun e w' => (∃ B c', e = .returned (.tuple #[.slice B 6 c', .int .i64 ((400 - (400 - (200 - l1' + (200 - l2''))) : Nat) : Int), .nilIface]) ∧ IntsAt w' B (castL z)) ∧ Below V.heap.size V w') from C4 V hV)
      have hsum : ((400 - (400 - (200 - l1' + (200 - l2''))) : Nat) : Int) = ((200 - l1' : Nat) : Int) + ((200 - l2'' : Nat) : Int) := by omega
      have hb2 : 200 - l2'' ≤ 200 := by omega
      generalize 400 - (400 - (200 - l1' + (200 - l2''))) = b3 at *
      generalize 200 - l2'' = b2 at *
      have hz6 : (castL z).length = 6 := by rw [length_castL, hvz.1]
      have CI := Lib.hid (fun V B1 B2 cc1 cc2 (h1 : IntsAt V B1 (castL z)) (h2 : IntsAt V B2 (castL z)) => sameInts (castL z) hz6 V B1 B2 cc1 cc2 h1 h2)
      rw [hb1] at hsum
      have hlt : b1 ≤ 200 := by omega
      have dk : decide ((b3 : Int) = (b1 : Int) + (b2 : Int)) = true := by simpa using hsum
      have dk' : b3 = b1 + b2 := by omega
      subst dk'
      clear hR2 hb0 hrun hr hr2 e1 e2 hsum hz6 hvz hb1 Hbn hLv2 HR hl200 hl200b hv hv' hv2
      go_wp2_with fail
      refine CR2.out.mono ?_
      rintro e w6 ⟨⟨B6, c6, rfl, hi6⟩, -, hb6⟩
      have Hi6 := Lib.hid hi6
      clear hi6
      go_wp2_with fail
      refine (C4.out _ hb6).mono ?_
      rintro e w7 ⟨⟨B7, c7, rfl, hi7⟩, hb7⟩
      have hb57 := hb6.trans (hb7.mono hb6.size)
      have HB7 := Lib.hid (HB5.out.trans (hb57.mono HB5.out.size))
      have C5 := Lib.hid (CI.out w7 B7 B6 c7 c6 hi7 (Hi6.out.below hb7))
      clear hb6 hb7 hi7 hb57
      go_wp2_with fail
      refine C5.out.mono ?_
      rintro e w8 ⟨rfl, hb8⟩
      have HB8 := Lib.hid (HB7.out.trans (hb8.mono HB7.out.size))
      clear hb8
      go_wp2_with fail
      go_ret
      exact ⟨rfl, HB8.out⟩
end
theorem ProgJoins_walk (s : ByteArray) (hs : s.size < 2 ^ 47) (t : ByteArray) (ht : t.size < 2 ^ 47) (L : List Int) (Al : Option Addr) (cl : Nat) {W : World} (hL : IntsAt W Al L) (s1 : L.length < 2 ^ 47) (b1 : ∀ x ∈ L, I64 x)
    (w : World) (hw : w = W) (hP : Pow10 W.heap.size W) (hE : ErrT W) (hN : ∀ V, Below W.heap.size W V → NumErrs V) :
    Calls Tryd.prog 9 #[.string s, .string t, .slice Al L.length cl] w fun e w' => e = .returned (.bool true) ∧ Below W.heap.size W w' := by
  subst hw
  have hst : s.size + t.size ≤ 9223372036854775807 := by omega
  cases h : readP s with
  | bad k => exact PJ_bad1 hst hP hN h
  | good i l o =>
    cases g : readP t with
    | bad k => exact PJ_bad2 hst hP hN h g
    | good j l2 o2 =>
      obtain ⟨x, y, hx, hy, hj | ⟨k, o3, hj, hz⟩⟩ := readP_join h g
      · exact PJ_full hst hP hE hN h g hj
      · exact PJ_runs hst hL hP hN h g hj hx hy hz
end Go.Proofs.YtdgncngkalgknaaDoor
