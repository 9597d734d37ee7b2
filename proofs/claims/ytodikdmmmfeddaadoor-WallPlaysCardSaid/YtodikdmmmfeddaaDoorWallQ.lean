/-
  Contract: the reference's AskWall. (printed by askwallq.py)
-/
import Derived.Test.YtodikdmmmfeddaaDoorWallLaw2
import Derived.Test.YtodikdmmmfeddaaDoorWallA
import Derived.Test.YtodikdmmmfeddaaDoorBibaR
import Derived.Test.YtodikdmmmfeddaaDoorRefW
import Derived.Test.YtodikdmmmfeddaaDoorEither
namespace Go.Proofs.YtodikdmmmfeddaaDoor
open Go.RowKit
set_option maxRecDepth 100000
set_option linter.unusedVariables false

theorem IntsIn.spares {ok : Nat → Prop} {w w' : World} {A : Option Addr} {l : List Int} (h : IntsIn ok w A l) (hs : Spares ok w w') : IntsIn ok w' A l := ⟨fun hl => by
  obtain ⟨b, off, rfl, hc⟩ := h.1 hl
  have hok := h.2 b off rfl hl
  have hbl : b < w.heap.size := block_lt (hc 0 _ (get_gI (List.length_pos_iff.2 hl)))
  exact ⟨b, off, rfl, fun j x hj => (World.cell?_of_block (w := w) (hs b hok hbl) : w'.cell? ⟨b, off + j, none⟩ = w.cell? ⟨b, off + j, none⟩).trans (hc j x hj)⟩, h.2⟩

/-- The reference's wall as a value. -/
structure RW (ok : Nat → Prop) (w : World) (v : Value) (T : List Int) (S : WS) : Prop where
  is : ∃ a1 a2 a3 c1 c2 c3, v = .agg #[.slice a1 T.length c1, .slice a2 S.Saw.length c2, .slice a3 S.Ho.length c3] ∧ IntsIn ok w a1 T ∧ IntsIn ok w a2 (castL S.Saw) ∧ IntsIn ok w a3 (castL S.Ho)
theorem RW.below {ok : Nat → Prop} {w w' : World} {v : Value} {T : List Int} {S : WS} (h : RW ok w v T S) (hb : Below w.heap.size w w') : RW ok w' v T S := by
  obtain ⟨a1, a2, a3, c1, c2, c3, e, i1, i2, i3⟩ := h.is
  exact ⟨a1, a2, a3, c1, c2, c3, e, i1.below hb, i2.below hb, i3.below hb⟩
theorem RW.spares {ok : Nat → Prop} {w w' : World} {v : Value} {T : List Int} {S : WS} (h : RW ok w v T S) (hs : Spares ok w w') : RW ok w' v T S := by
  obtain ⟨a1, a2, a3, c1, c2, c3, e, i1, i2, i3⟩ := h.is
  exact ⟨a1, a2, a3, c1, c2, c3, e, i1.spares hs, i2.spares hs, i3.spares hs⟩
theorem castL_set (l : List Nat) (i x : Nat) : castL (l.set i x) = (castL l).set i ((x : Nat) : Int) := by unfold castL; rw [List.map_set]; rfl
theorem slices3_no {a1 a2 a3 : Option Addr} {n1 n2 n3 c1 c2 c3 : Nat} : noInt #[.slice a1 n1 c1, .slice a2 n2 c2, .slice a3 n3 c3] := noInt_of rfl

section
variable {ok : Nat → Prop} {w : World} {T : List Int} {S : WS} {a1 a2 a3 : Option Addr} {c1 c2 c3 : Nat}

set_option maxHeartbeats 1000000 in
theorem AskWall_range (hl : S.Saw.length ≤ 100) (hl2 : T.length ≤ 100) (k u f t : Int) (hno : ¬ wOk T S k u f) :
    Calls Tryd.prog 29 #[.agg #[.slice a1 T.length c1, .slice a2 S.Saw.length c2, .slice a3 S.Ho.length c3], .agg #[.int .i64 k, .int .i64 u, .int .i64 f, .int .i64 t]] w fun e w' => e = .returned (.tuple #[.agg #[.slice a1 T.length c1, .slice a2 S.Saw.length c2, .slice a3 S.Ho.length c3], .int .i64 1]) ∧ Below w.heap.size w w' := by
  unfold wOk at hno
  by_cases h1 : 0 ≤ k ∧ k ≤ 1
  · have C1 := Lib.hid (fun V => Rin_is k 0 1 true V (by simp; omega))
    by_cases h2 : 0 ≤ u ∧ u < S.Saw.length
    · have C2 := Lib.hid (fun V => Rin_is u 0 ((S.Saw.length : Int) - 1) true V (by simp; omega))
      have C3 := Lib.hid (fun V => Rin_is f 0 ((T.length : Int) - 1) false V (by simp; omega))
      clear h1 h2 hno
      go_enter Tryd.func29, Tryd.ntmps29
      go_wp2_with fail
      have hX := ((BoxN.new w 48 #[.slice a1 T.length c1, .slice a2 S.Saw.length c2, .slice a3 S.Ho.length c3]).alloc (.cells #[.int .i64 k, .int .i64 u, .int .i64 f, .int .i64 t] 31)).alloc (.cells #[.slice none 0 0, .slice none 0 0, .slice none 0 0] 48)
      have hY := (BoxN.new (w.alloc (.cells #[.slice a1 T.length c1, .slice a2 S.Saw.length c2, .slice a3 S.Ho.length c3] 48)) 31 #[.int .i64 k, .int .i64 u, .int .i64 f, .int .i64 t]).alloc (.cells #[.slice none 0 0, .slice none 0 0, .slice none 0 0] 48)
      have hZ := BoxN.new ((w.alloc (.cells #[.slice a1 T.length c1, .slice a2 S.Saw.length c2, .slice a3 S.Ho.length c3] 48)).alloc (.cells #[.int .i64 k, .int .i64 u, .int .i64 f, .int .i64 t] 31)) 48 #[.slice none 0 0, .slice none 0 0, .slice none 0 0]
      have hb : Below w.heap.size w (((w.alloc (.cells #[.slice a1 T.length c1, .slice a2 S.Saw.length c2, .slice a3 S.Ho.length c3] 48)).alloc (.cells #[.int .i64 k, .int .i64 u, .int .i64 f, .int .i64 t] 31)).alloc (.cells #[.slice none 0 0, .slice none 0 0, .slice none 0 0] 48)) := (((Below.refl _ _).alloc (Nat.le_refl _) _).alloc (by simp) _).alloc (by simp; omega) _
      simp only [World.size_alloc] at hY hZ
      generalize (((w.alloc (.cells #[.slice a1 T.length c1, .slice a2 S.Saw.length c2, .slice a3 S.Ho.length c3] 48)).alloc (.cells #[.int .i64 k, .int .i64 u, .int .i64 f, .int .i64 t] 31)).alloc (.cells #[.slice none 0 0, .slice none 0 0, .slice none 0 0] 48)) = wa at *
      have x0 := hX.cell (k := 0) rfl
      have x1 := hX.cell (k := 1) rfl
      have x2 := hX.cell (k := 2) rfl
      have y0 := hY.cell (k := 0) rfl
      have y1 := hY.cell (k := 1) rfl
      have y2 := hY.cell (k := 2) rfl
      have z0 := hZ.cell (k := 0) rfl
      have z1 := hZ.cell (k := 1) rfl
      have z2 := hZ.cell (k := 2) rfl
      have fz0 := hZ.free 0
      have fz1 := hZ.free 1
      have fz2 := hZ.free 2
      have fx0 := hX.free 0
      have fx1 := hX.free 1
      have fx2 := hX.free 2
      refine (C1.out _).mono ?_
      rintro e w' ⟨rfl, rfl⟩
      go_wp2_with (first | (go_at_call 42; with_reducible refine (C1.out _).mono ?_; rintro e w' ⟨rfl, rfl⟩) | (go_at_call 42; with_reducible refine (C2.out _).mono ?_; rintro e w' ⟨rfl, rfl⟩) | (go_at_call 42; with_reducible refine (C3.out _).mono ?_; rintro e w' ⟨rfl, rfl⟩))
      have hR := ((hZ.set 0 (.slice a1 T.length c1)).set 1 (.slice a2 S.Saw.length c2)).set 2 (.slice a3 S.Ho.length c3)
      refine bodyPost_ret (results_row_tmp rfl _ _ (w.heap.size + 1 + 1) 48 #[.slice a1 T.length c1, .slice a2 S.Saw.length c2, .slice a3 S.Ho.length c3] (0, 0) _ rfl hR Tryd.underlying48 rfl (by kernel_rfl)) rfl ?_
      exact ⟨rfl, (((hb.setCell (p := ⟨w.heap.size + 1 + 1, 0, none⟩) (by simp; omega) _).setCell (p := ⟨w.heap.size + 1 + 1, 1, none⟩) (by simp; omega) _).setCell (p := ⟨w.heap.size + 1 + 1, 2, none⟩) (by simp; omega) _)⟩

    · have C2 := Lib.hid (fun V => Rin_is u 0 ((S.Saw.length : Int) - 1) false V (by simp; omega))
      clear h1 h2 hno
      go_enter Tryd.func29, Tryd.ntmps29
      go_wp2_with fail
      have hX := ((BoxN.new w 48 #[.slice a1 T.length c1, .slice a2 S.Saw.length c2, .slice a3 S.Ho.length c3]).alloc (.cells #[.int .i64 k, .int .i64 u, .int .i64 f, .int .i64 t] 31)).alloc (.cells #[.slice none 0 0, .slice none 0 0, .slice none 0 0] 48)
      have hY := (BoxN.new (w.alloc (.cells #[.slice a1 T.length c1, .slice a2 S.Saw.length c2, .slice a3 S.Ho.length c3] 48)) 31 #[.int .i64 k, .int .i64 u, .int .i64 f, .int .i64 t]).alloc (.cells #[.slice none 0 0, .slice none 0 0, .slice none 0 0] 48)
      have hZ := BoxN.new ((w.alloc (.cells #[.slice a1 T.length c1, .slice a2 S.Saw.length c2, .slice a3 S.Ho.length c3] 48)).alloc (.cells #[.int .i64 k, .int .i64 u, .int .i64 f, .int .i64 t] 31)) 48 #[.slice none 0 0, .slice none 0 0, .slice none 0 0]
      have hb : Below w.heap.size w (((w.alloc (.cells #[.slice a1 T.length c1, .slice a2 S.Saw.length c2, .slice a3 S.Ho.length c3] 48)).alloc (.cells #[.int .i64 k, .int .i64 u, .int .i64 f, .int .i64 t] 31)).alloc (.cells #[.slice none 0 0, .slice none 0 0, .slice none 0 0] 48)) := (((Below.refl _ _).alloc (Nat.le_refl _) _).alloc (by simp) _).alloc (by simp; omega) _
      simp only [World.size_alloc] at hY hZ
      generalize (((w.alloc (.cells #[.slice a1 T.length c1, .slice a2 S.Saw.length c2, .slice a3 S.Ho.length c3] 48)).alloc (.cells #[.int .i64 k, .int .i64 u, .int .i64 f, .int .i64 t] 31)).alloc (.cells #[.slice none 0 0, .slice none 0 0, .slice none 0 0] 48)) = wa at *
      have x0 := hX.cell (k := 0) rfl
      have x1 := hX.cell (k := 1) rfl
      have x2 := hX.cell (k := 2) rfl
      have y0 := hY.cell (k := 0) rfl
      have y1 := hY.cell (k := 1) rfl
      have y2 := hY.cell (k := 2) rfl
      have z0 := hZ.cell (k := 0) rfl
      have z1 := hZ.cell (k := 1) rfl
      have z2 := hZ.cell (k := 2) rfl
      have fz0 := hZ.free 0
      have fz1 := hZ.free 1
      have fz2 := hZ.free 2
      have fx0 := hX.free 0
      have fx1 := hX.free 1
      have fx2 := hX.free 2
      refine (C1.out _).mono ?_
      rintro e w' ⟨rfl, rfl⟩
      go_wp2_with (first | (go_at_call 42; with_reducible refine (C1.out _).mono ?_; rintro e w' ⟨rfl, rfl⟩) | (go_at_call 42; with_reducible refine (C2.out _).mono ?_; rintro e w' ⟨rfl, rfl⟩))
      have hR := ((hZ.set 0 (.slice a1 T.length c1)).set 1 (.slice a2 S.Saw.length c2)).set 2 (.slice a3 S.Ho.length c3)
      refine bodyPost_ret (results_row_tmp rfl _ _ (w.heap.size + 1 + 1) 48 #[.slice a1 T.length c1, .slice a2 S.Saw.length c2, .slice a3 S.Ho.length c3] (0, 0) _ rfl hR Tryd.underlying48 rfl (by kernel_rfl)) rfl ?_
      exact ⟨rfl, (((hb.setCell (p := ⟨w.heap.size + 1 + 1, 0, none⟩) (by simp; omega) _).setCell (p := ⟨w.heap.size + 1 + 1, 1, none⟩) (by simp; omega) _).setCell (p := ⟨w.heap.size + 1 + 1, 2, none⟩) (by simp; omega) _)⟩

  · have C1 := Lib.hid (fun V => Rin_is k 0 1 false V (by simp; omega))
    clear h1 hno
    go_enter Tryd.func29, Tryd.ntmps29
    go_wp2_with fail
    have hX := ((BoxN.new w 48 #[.slice a1 T.length c1, .slice a2 S.Saw.length c2, .slice a3 S.Ho.length c3]).alloc (.cells #[.int .i64 k, .int .i64 u, .int .i64 f, .int .i64 t] 31)).alloc (.cells #[.slice none 0 0, .slice none 0 0, .slice none 0 0] 48)
    have hY := (BoxN.new (w.alloc (.cells #[.slice a1 T.length c1, .slice a2 S.Saw.length c2, .slice a3 S.Ho.length c3] 48)) 31 #[.int .i64 k, .int .i64 u, .int .i64 f, .int .i64 t]).alloc (.cells #[.slice none 0 0, .slice none 0 0, .slice none 0 0] 48)
    have hZ := BoxN.new ((w.alloc (.cells #[.slice a1 T.length c1, .slice a2 S.Saw.length c2, .slice a3 S.Ho.length c3] 48)).alloc (.cells #[.int .i64 k, .int .i64 u, .int .i64 f, .int .i64 t] 31)) 48 #[.slice none 0 0, .slice none 0 0, .slice none 0 0]
    have hb : Below w.heap.size w (((w.alloc (.cells #[.slice a1 T.length c1, .slice a2 S.Saw.length c2, .slice a3 S.Ho.length c3] 48)).alloc (.cells #[.int .i64 k, .int .i64 u, .int .i64 f, .int .i64 t] 31)).alloc (.cells #[.slice none 0 0, .slice none 0 0, .slice none 0 0] 48)) := (((Below.refl _ _).alloc (Nat.le_refl _) _).alloc (by simp) _).alloc (by simp; omega) _
    simp only [World.size_alloc] at hY hZ
    generalize (((w.alloc (.cells #[.slice a1 T.length c1, .slice a2 S.Saw.length c2, .slice a3 S.Ho.length c3] 48)).alloc (.cells #[.int .i64 k, .int .i64 u, .int .i64 f, .int .i64 t] 31)).alloc (.cells #[.slice none 0 0, .slice none 0 0, .slice none 0 0] 48)) = wa at *
    have x0 := hX.cell (k := 0) rfl
    have x1 := hX.cell (k := 1) rfl
    have x2 := hX.cell (k := 2) rfl
    have y0 := hY.cell (k := 0) rfl
    have y1 := hY.cell (k := 1) rfl
    have y2 := hY.cell (k := 2) rfl
    have z0 := hZ.cell (k := 0) rfl
    have z1 := hZ.cell (k := 1) rfl
    have z2 := hZ.cell (k := 2) rfl
    have fz0 := hZ.free 0
    have fz1 := hZ.free 1
    have fz2 := hZ.free 2
    have fx0 := hX.free 0
    have fx1 := hX.free 1
    have fx2 := hX.free 2
    refine (C1.out _).mono ?_
    rintro e w' ⟨rfl, rfl⟩
    go_wp2_with (first | (go_at_call 42; with_reducible refine (C1.out _).mono ?_; rintro e w' ⟨rfl, rfl⟩))
    have hR := ((hZ.set 0 (.slice a1 T.length c1)).set 1 (.slice a2 S.Saw.length c2)).set 2 (.slice a3 S.Ho.length c3)
    refine bodyPost_ret (results_row_tmp rfl _ _ (w.heap.size + 1 + 1) 48 #[.slice a1 T.length c1, .slice a2 S.Saw.length c2, .slice a3 S.Ho.length c3] (0, 0) _ rfl hR Tryd.underlying48 rfl (by kernel_rfl)) rfl ?_
    exact ⟨rfl, (((hb.setCell (p := ⟨w.heap.size + 1 + 1, 0, none⟩) (by simp; omega) _).setCell (p := ⟨w.heap.size + 1 + 1, 1, none⟩) (by simp; omega) _).setCell (p := ⟨w.heap.size + 1 + 1, 2, none⟩) (by simp; omega) _)⟩

set_option maxHeartbeats 4000000 in
theorem AskWall_read (hI : WInv T S) (i1 : IntsIn ok w a1 T) (i2 : IntsIn ok w a2 (castL S.Saw)) (i3 : IntsIn ok w a3 (castL S.Ho)) (hok : ∀ b, w.heap.size ≤ b → ok b) (u f : Nat) (t : Int) (hu : u < S.Saw.length) (hf : f < T.length) :
    Calls Tryd.prog 29 #[.agg #[.slice a1 T.length c1, .slice a2 S.Saw.length c2, .slice a3 S.Ho.length c3], .agg #[.int .i64 0, .int .i64 u, .int .i64 f, .int .i64 t]] w fun e w' => (∃ v, e = .returned (.tuple #[v, .int .i64 (wAsk T S 0 u f).2]) ∧ RW ok w' v T (wAsk T S 0 u f).1) ∧ Below w.heap.size w w' := by
  have hn8 := hI.ln
  have hm8 := hI.lm
  have Hlh := Lib.hid hI.lh
  rw [hI.lh]
  have C1 := Lib.hid (fun V => Rin_is 0 0 1 true V (by simp))
  have C2 := Lib.hid (fun V => Rin_is (u : Int) 0 ((S.Saw.length : Int) - 1) true V (by simp; omega))
  have C3 := Lib.hid (fun V => Rin_is (f : Int) 0 ((T.length : Int) - 1) true V (by simp; omega))
  obtain ⟨b1, o1, rfl, j1⟩ := i1.1 (by intro e; simp [e] at hf)
  obtain ⟨b2, o2, rfl, p2⟩ := i2.1.row hu
  obtain ⟨b3, o3, rfl, p3⟩ := i3.1.row (k := f) (by rw [hI.lh]; exact hf)
  have J3 := Lib.hid (fun x (hx : x < T.length) => by
    obtain ⟨b', o', e, p⟩ := i3.1.row (k := x) (by rw [hI.lh]; exact hx)
    cases e
    exact (p : w.cell? ⟨b3, o3 + x, none⟩ = some (.int .i64 (row S.Ho x : Nat))))
  have J1 := Lib.hid (fun x (hx : x < T.length) => j1 x _ (get_gI hx))
  have p1 := j1 f _ (get_gI hf)
  have r1 : b1 < w.heap.size := block_lt p1
  have r2 : b2 < w.heap.size := block_lt p2
  have r3 : b3 < w.heap.size := block_lt p3
  have Hden := Lib.hid (fun x => wAsk_deny hI hu hf (k := 0) (by decide) (x := x))
  have Hpass := Lib.hid (wAsk_pass hI hu hf (k := 0) (by decide))
  have Hrd := Lib.hid (fun x => show rDeny T (row S.Saw u) f 0 x = ((row S.Saw u).testBit x && decide (x ≠ f) && decide (gI T x ≠ 0) && (decide ((0 : Int) = 1) || decide (gI T x = gI T f))) from rfl)
  have Hjs := Lib.hid (fun x => joinR_succ S.Ho f (row S.Saw u) x)
  have Hj0 := Lib.hid (show joinR S.Ho f (row S.Saw u) 0 = row S.Ho f from rfl)
  have Hjl := Lib.hid (fun x => show joinR S.Ho f (row S.Saw u) x < 256 from lt256 (joinTo_lt hI.bh f _) hn8)
  have Hhl := Lib.hid (fun x => hI.ho_lt x)
  have hs256 := hI.saw_lt u
  have Hs := Lib.hid (show row S.Saw u = row S.Saw u from rfl)
  clear j1 hI
  generalize row S.Saw u = s at *
  clear Hs
  have CW := Lib.hid (fun V => (With_any s f V (by omega) (by omega)).mono fun e w' ⟨he, hw⟩ => (⟨he, hw.symm⟩ : e = _ ∧ w' = V))
  have CS := Lib.hid (fun x V (hV : Below w.heap.size w V) => by have := Rset_any (castL S.Saw) u (x : Nat) (some ⟨b2, o2, none⟩) c2 V (i2.1.below hV) (by rw [length_castL]; omega); simp only [List.length_set, length_castL] at this; exact this)
  go_enter Tryd.func29, Tryd.ntmps29
  go_wp2_with fail
  have hX := ((BoxN.new w 48 #[.slice (some ⟨b1, o1, none⟩) T.length c1, .slice (some ⟨b2, o2, none⟩) S.Saw.length c2, .slice (some ⟨b3, o3, none⟩) T.length c3]).alloc (.cells #[.int .i64 0, .int .i64 u, .int .i64 f, .int .i64 t] 31)).alloc (.cells #[.slice none 0 0, .slice none 0 0, .slice none 0 0] 48)
  have hY := (BoxN.new (w.alloc (.cells #[.slice (some ⟨b1, o1, none⟩) T.length c1, .slice (some ⟨b2, o2, none⟩) S.Saw.length c2, .slice (some ⟨b3, o3, none⟩) T.length c3] 48)) 31 #[.int .i64 0, .int .i64 u, .int .i64 f, .int .i64 t]).alloc (.cells #[.slice none 0 0, .slice none 0 0, .slice none 0 0] 48)
  have hZ := BoxN.new ((w.alloc (.cells #[.slice (some ⟨b1, o1, none⟩) T.length c1, .slice (some ⟨b2, o2, none⟩) S.Saw.length c2, .slice (some ⟨b3, o3, none⟩) T.length c3] 48)).alloc (.cells #[.int .i64 0, .int .i64 u, .int .i64 f, .int .i64 t] 31)) 48 #[.slice none 0 0, .slice none 0 0, .slice none 0 0]
  have hb : Below w.heap.size w (((w.alloc (.cells #[.slice (some ⟨b1, o1, none⟩) T.length c1, .slice (some ⟨b2, o2, none⟩) S.Saw.length c2, .slice (some ⟨b3, o3, none⟩) T.length c3] 48)).alloc (.cells #[.int .i64 0, .int .i64 u, .int .i64 f, .int .i64 t] 31)).alloc (.cells #[.slice none 0 0, .slice none 0 0, .slice none 0 0] 48)) := (((Below.refl _ _).alloc (Nat.le_refl _) _).alloc (by simp) _).alloc (by simp; omega) _
  simp only [World.size_alloc] at hY hZ
  generalize (((w.alloc (.cells #[.slice (some ⟨b1, o1, none⟩) T.length c1, .slice (some ⟨b2, o2, none⟩) S.Saw.length c2, .slice (some ⟨b3, o3, none⟩) T.length c3] 48)).alloc (.cells #[.int .i64 0, .int .i64 u, .int .i64 f, .int .i64 t] 31)).alloc (.cells #[.slice none 0 0, .slice none 0 0, .slice none 0 0] 48)) = wa at *
  have x0 := hX.cell (k := 0) rfl
  have x1 := hX.cell (k := 1) rfl
  have x2 := hX.cell (k := 2) rfl
  have y0 := hY.cell (k := 0) rfl
  have y1 := hY.cell (k := 1) rfl
  have y2 := hY.cell (k := 2) rfl
  have z0 := hZ.cell (k := 0) rfl
  have z1 := hZ.cell (k := 1) rfl
  have z2 := hZ.cell (k := 2) rfl
  have fz0 := hZ.free 0
  have fz1 := hZ.free 1
  have fz2 := hZ.free 2
  have fx0 := hX.free 0
  have fx1 := hX.free 1
  have fx2 := hX.free 2
  have q1 := fun x (hx : x < T.length) => (hb.cell (p := ⟨b1, o1 + x, none⟩) r1).trans (J1.out x hx)
  have q2 : wa.cell? ⟨b2, o2 + u, none⟩ = some (.int .i64 (s : Nat)) := (hb.cell (p := ⟨b2, o2 + u, none⟩) r2).trans p2
  have q3 := fun x (hx : x < T.length) => (hb.cell (p := ⟨b3, o3 + x, none⟩) r3).trans (J3.out x hx)
  have q3f := q3 f hf
  have Q1 := Lib.hid q1
  have Q3 := Lib.hid q3
  clear q1 q3 J1 J3 p1 p2 p3
  refine (C1.out _).mono ?_
  rintro e w' ⟨rfl, rfl⟩
  go_wp2_with (first | (go_at_call 42; with_reducible refine (C1.out _).mono ?_; rintro e w' ⟨rfl, rfl⟩) | (go_at_call 42; with_reducible refine (C2.out _).mono ?_; rintro e w' ⟨rfl, rfl⟩) | (go_at_call 42; with_reducible refine (C3.out _).mono ?_; rintro e w' ⟨rfl, rfl⟩))
  go_loopw [8, 9] (fun h i wr => ∃ (x q : Nat), x ≤ T.length ∧ i = .int .i64 x ∧ h = .int .i64 (joinR S.Ho f s x : Nat) ∧ Hid (∀ y, y < x → rDeny T s f 0 y = false) ∧ wr = wa.drewN q) (fun _ i _ => T.length - (intOf i).toNat)
  case atStart => exact ⟨0, 0, Nat.zero_le _, rfl, by rw [Hj0.out], Lib.hid (fun y hy => by omega), rfl⟩
  case round =>
    obtain ⟨x, q, hx, rfl, rfl, hall, rfl⟩ := hrel
    by_cases hxn : x < T.length
    · have Hstep := Lib.hid (Hjs.out x)
      have hJ := Hjl.out x
      have hhx := Hhl.out x
      have hr := Hrd.out x
      have ex := Q1.out x hxn
      have ey := Q3.out x hxn
      have Hnext := Lib.hid (fun (h : rDeny T s f 0 x = false) y (hy : y < x + 1) => show rDeny T s f 0 y = false from by
        rcases Nat.lt_or_ge y x with h1 | h1
        · exact hall.out y h1
        · obtain rfl : y = x := by omega
          exact h)
      have HB := Lib.hid (fun (bb : Bool) (V : World) (hh : s.testBit x = bb) => Bit_is s x bb V (by omega) (by omega) hh)
      have HE := Lib.hid (fun (V : World) => Either_any (joinR S.Ho f s x) (row S.Ho x) V (by omega) (by omega))
      have hxT : ((x : Nat) : Int) < T.length := by omega
      have hfT : ((f : Nat) : Int) < T.length := by omega
      cases hbt : s.testBit x with
      | false =>
        have Hb := Lib.hid (fun V => HB.out false V hbt)
        rw [hbt] at Hstep hr
        have Hn := Lib.hid (Hnext.out (by rw [hr]; rfl))
        generalize joinR S.Ho f s x = J at *
        clear hbt hr ex ey
        go_wp2_with (go_at_call 26; with_reducible refine (Hb.out _).mono ?_; rintro e w' ⟨rfl, rfl⟩)
        exact ⟨⟨x + 1, q, by omega, by go_num, by rw [Hstep.out]; rfl, Hn, rfl⟩, by simp [intOf]; omega⟩
      | true =>
        have Hb := Lib.hid (fun V => HB.out true V hbt)
        rw [hbt] at Hstep hr
        generalize hJe : joinR S.Ho f s x = J at *
        generalize hHe : row S.Ho x = H at *
        clear hbt hJe hHe
        by_cases hxf : x = f
        · subst hxf
          have Hn := Lib.hid (Hnext.out (by rw [hr]; simp))
          clear hr ex
          go_wp2_with (first | (go_at_call 26; with_reducible refine (Hb.out _).mono ?_; rintro e w' ⟨rfl, rfl⟩) | (go_at_call 50; with_reducible refine (HE.out _).mono ?_; rintro e w' ⟨rfl, rfl⟩))
          go_quiet (fail)
          go_wp2_with fail
          exact ⟨⟨x + 1, _, by omega, by go_num, by rw [Hstep.out]; rfl, Hn, rfl⟩, by simp [intOf]; omega⟩
        · have dn : ((x : Int) != (f : Int)) = true := by simp; omega
          by_cases h0 : gI T x = 0
          · have Hn := Lib.hid (Hnext.out (by rw [hr]; simp [h0]))
            rw [h0] at ex
            clear hr h0
            go_wp2_with (first | (go_at_call 26; with_reducible refine (Hb.out _).mono ?_; rintro e w' ⟨rfl, rfl⟩) | (go_at_call 50; with_reducible refine (HE.out _).mono ?_; rintro e w' ⟨rfl, rfl⟩))
            go_quiet (fail)
            go_wp2_with fail
            exact ⟨⟨x + 1, _, by omega, by go_num, by rw [Hstep.out]; rfl, Hn, rfl⟩, by simp [intOf]; omega⟩
          · have d0 : (gI T x != 0) = true := by simpa using h0
            by_cases heq : gI T x = gI T f
            · have be1 : (gI T x == gI T f) = true := by simpa using heq
              have ez := Q1.out f hf
              have hd : rDeny T s f 0 x = true := by rw [hr]; simp [hxf, heq, (heq ▸ h0 : gI T f ≠ 0)]
              have h7 := Lib.hid (Hden.out x hd)
              clear hr hd h0 heq Hnext Hstep
              go_wp2_with (first | (go_at_call 26; with_reducible refine (Hb.out _).mono ?_; rintro e w' ⟨rfl, rfl⟩) | (go_at_call 50; with_reducible refine (HE.out _).mono ?_; rintro e w' ⟨rfl, rfl⟩))
              go_quiet (fail)
              go_wp2_with fail
              have hZ := hZ.drewN (q + nq)
              have hb := belowD hb (q + nq)
              have hR := ((hZ.set 0 (.slice (some ⟨b1, o1, none⟩) T.length c1)).set 1 (.slice (some ⟨b2, o2, none⟩) S.Saw.length c2)).set 2 (.slice (some ⟨b3, o3, none⟩) T.length c3)
              have hbf := (((hb.setCell (p := ⟨w.heap.size + 1 + 1, 0, none⟩) (by simp; omega) (.slice (some ⟨b1, o1, none⟩) T.length c1)).setCell (p := ⟨w.heap.size + 1 + 1, 1, none⟩) (by simp; omega) (.slice (some ⟨b2, o2, none⟩) S.Saw.length c2)).setCell (p := ⟨w.heap.size + 1 + 1, 2, none⟩) (by simp; omega) (.slice (some ⟨b3, o3, none⟩) T.length c3))
              refine bodyPost_ret (results_row_tmp rfl _ _ (w.heap.size + 1 + 1) 48 #[.slice (some ⟨b1, o1, none⟩) T.length c1, .slice (some ⟨b2, o2, none⟩) S.Saw.length c2, .slice (some ⟨b3, o3, none⟩) T.length c3] (0, 0) _ rfl hR Tryd.underlying48 rfl (by kernel_rfl)) rfl ?_
              rw [h7.out]
              exact ⟨⟨_, rfl, ⟨_, _, _, _, _, _, by rw [Hlh.out], i1.below hbf, i2.below hbf, i3.below hbf⟩⟩, hbf⟩
            · have be1 : (gI T x == gI T f) = false := by simpa using heq
              have ez := Q1.out f hf
              have Hn := Lib.hid (Hnext.out (by rw [hr]; simp [heq]))
              clear hr h0 heq
              go_wp2_with (first | (go_at_call 26; with_reducible refine (Hb.out _).mono ?_; rintro e w' ⟨rfl, rfl⟩) | (go_at_call 50; with_reducible refine (HE.out _).mono ?_; rintro e w' ⟨rfl, rfl⟩))
              go_quiet (fail)
              go_wp2_with fail
              exact ⟨⟨x + 1, _, by omega, by go_num, by rw [Hstep.out]; rfl, Hn, rfl⟩, by simp [intOf]; omega⟩
    · obtain rfl : x = T.length := by omega
      have hres := Hpass.out hall.out
      have HRes := Lib.hid hres
      have hJ := Hjl.out T.length
      clear hall hres q3f Q1 Q3
      have hne : castL S.Saw ≠ [] := by intro e; have := congrArg List.length e; rw [length_castL] at this; simp only [List.length_nil] at this; have := Hlh.out; omega
      generalize hJe : joinR S.Ho f s T.length = J at *
      clear hJe
      go_wp2_with fail
      refine wp_still_tailD2 10 (by kernel_rfl) (by kernel_rfl) ?_
      simp only [List.take_succ_cons, List.take_zero, List.drop_succ_cons, List.drop_zero]
      repeat (first | still_step | still_call (CW.out _))
      refine wpStill_nil ?_
      go_wp2_with fail
      refine (CS.out _ _ (belowD hb _)).mono ?_
      rintro e w1 ⟨⟨A1, d1, rfl, -, hown⟩, hb1⟩
      obtain ⟨g, rfl, hg, ho⟩ := hown hne
      have hX1 := (hX.drewN (q + 1)).all hb1
      have hZ1 := (hZ.drewN (q + 1)).all hb1
      have hwa : w.heap.size ≤ wa.heap.size := hb.size
      have hb01 : Below w.heap.size w w1 := (belowD hb (q + 1)).trans (hb1.mono hwa)
      have ngX : g ≠ w.heap.size := ho.ne_box hX1 (by decide)
      have ngZ : g ≠ w.heap.size + 1 + 1 := ho.ne_box hZ1 (by decide)
      clear x0 x1 x2 y0 y1 y2 z0 z1 z2 fx0 fx1 fx2 fz0 fz1 fz2 C1 C2 C3 hown hX hY hZ CS
      have x0 := hX1.cell (k := 0) rfl
      have x1 := hX1.cell (k := 1) rfl
      have x2 := hX1.cell (k := 2) rfl
      have z0 := hZ1.cell (k := 0) rfl
      have z1 := hZ1.cell (k := 1) rfl
      have z2 := hZ1.cell (k := 2) rfl
      have fx0 := hX1.free 0
      have fx1 := hX1.free 1
      have fx2 := hX1.free 2
      have fz0 := hZ1.free 0
      have fz1 := hZ1.free 1
      have fz2 := hZ1.free 2
      go_wp2_with fail
      have hR := (((hZ1.other (a := ⟨w.heap.size, 1, none⟩) (by simp; omega) (.slice (some ⟨g, 0, none⟩) S.Saw.length d1)).set 0 (.slice (some ⟨b1, o1, none⟩) T.length c1)).set 1 (.slice (some ⟨g, 0, none⟩) S.Saw.length d1)).set 2 (.slice (some ⟨b3, o3, none⟩) T.length c3)
      refine bodyPost_ret (results_row_tmp rfl _ _ (w.heap.size + 1 + 1) 48 #[.slice (some ⟨b1, o1, none⟩) T.length c1, .slice (some ⟨g, 0, none⟩) S.Saw.length d1, .slice (some ⟨b3, o3, none⟩) T.length c3] (0, 0) _ rfl hR Tryd.underlying48 rfl (by kernel_rfl)) rfl ?_
      have hof := (((ho.far (a := ⟨w.heap.size, 1, none⟩) ngX (.slice (some ⟨g, 0, none⟩) S.Saw.length d1)).far (a := ⟨w.heap.size + 1 + 1, 0, none⟩) ngZ (.slice (some ⟨b1, o1, none⟩) T.length c1)).far (a := ⟨w.heap.size + 1 + 1, 1, none⟩) ngZ (.slice (some ⟨g, 0, none⟩) S.Saw.length d1)).far (a := ⟨w.heap.size + 1 + 1, 2, none⟩) ngZ (.slice (some ⟨b3, o3, none⟩) T.length c3)
      have hbf := (((hb01.setCell (p := ⟨w.heap.size, 1, none⟩) (by simp) (.slice (some ⟨g, 0, none⟩) S.Saw.length d1)).setCell (p := ⟨w.heap.size + 1 + 1, 0, none⟩) (by simp; omega) (.slice (some ⟨b1, o1, none⟩) T.length c1)).setCell (p := ⟨w.heap.size + 1 + 1, 1, none⟩) (by simp; omega) (.slice (some ⟨g, 0, none⟩) S.Saw.length d1)).setCell (p := ⟨w.heap.size + 1 + 1, 2, none⟩) (by simp; omega) (.slice (some ⟨b3, o3, none⟩) T.length c3)
      rw [HRes.out]
      exact ⟨⟨_, rfl, ⟨some ⟨b1, o1, none⟩, some ⟨g, 0, none⟩, some ⟨b3, o3, none⟩, c1, d1, c3, by simp [Hlh.out], i1.below hbf, ⟨by show IntsAt _ _ (castL (S.Saw.set u _)); rw [castL_set]; exact hof.ints, fun b off e _ => by cases e; exact hok _ (Nat.le_trans hwa hg)⟩, i3.below hbf⟩⟩, hbf⟩

set_option maxHeartbeats 4000000 in
theorem AskWall_write (hI : WInv T S) (i1 : IntsIn ok w a1 T) (i2 : IntsIn ok w a2 (castL S.Saw)) (i3 : IntsIn ok w a3 (castL S.Ho)) (hok : ∀ b, w.heap.size ≤ b → ok b) (u f : Nat) (t : Int) (hu : u < S.Saw.length) (hf : f < T.length) :
    Calls Tryd.prog 29 #[.agg #[.slice a1 T.length c1, .slice a2 S.Saw.length c2, .slice a3 S.Ho.length c3], .agg #[.int .i64 1, .int .i64 u, .int .i64 f, .int .i64 t]] w fun e w' => (∃ v, e = .returned (.tuple #[v, .int .i64 (wAsk T S 1 u f).2]) ∧ RW ok w' v T (wAsk T S 1 u f).1) ∧ Below w.heap.size w w' := by
  have hn8 := hI.ln
  have hm8 := hI.lm
  have Hlh := Lib.hid hI.lh
  rw [hI.lh]
  have C1 := Lib.hid (fun V => Rin_is 1 0 1 true V (by simp))
  have C2 := Lib.hid (fun V => Rin_is (u : Int) 0 ((S.Saw.length : Int) - 1) true V (by simp; omega))
  have C3 := Lib.hid (fun V => Rin_is (f : Int) 0 ((T.length : Int) - 1) true V (by simp; omega))
  obtain ⟨b1, o1, rfl, j1⟩ := i1.1 (by intro e; simp [e] at hf)
  obtain ⟨b2, o2, rfl, p2⟩ := i2.1.row hu
  obtain ⟨b3, o3, rfl, p3⟩ := i3.1.row (k := f) (by rw [hI.lh]; exact hf)
  have J3 := Lib.hid (fun x (hx : x < T.length) => by
    obtain ⟨b', o', e, p⟩ := i3.1.row (k := x) (by rw [hI.lh]; exact hx)
    cases e
    exact (p : w.cell? ⟨b3, o3 + x, none⟩ = some (.int .i64 (row S.Ho x : Nat))))
  have J1 := Lib.hid (fun x (hx : x < T.length) => j1 x _ (get_gI hx))
  have p1 := j1 f _ (get_gI hf)
  have r1 : b1 < w.heap.size := block_lt p1
  have r2 : b2 < w.heap.size := block_lt p2
  have r3 : b3 < w.heap.size := block_lt p3
  have Hden := Lib.hid (fun x => wAsk_deny hI hu hf (k := 1) (by decide) (x := x))
  have Hpass := Lib.hid (wAsk_pass hI hu hf (k := 1) (by decide))
  have Hrd := Lib.hid (fun x => show rDeny T (row S.Saw u) f 1 x = ((row S.Saw u).testBit x && decide (x ≠ f) && decide (gI T x ≠ 0) && (decide ((1 : Int) = 1) || decide (gI T x = gI T f))) from rfl)
  have Hjs := Lib.hid (fun x => joinR_succ S.Ho f (row S.Saw u) x)
  have Hj0 := Lib.hid (show joinR S.Ho f (row S.Saw u) 0 = row S.Ho f from rfl)
  have Hjl := Lib.hid (fun x => show joinR S.Ho f (row S.Saw u) x < 256 from lt256 (joinTo_lt hI.bh f _) hn8)
  have Hhl := Lib.hid (fun x => hI.ho_lt x)
  have hs256 := hI.saw_lt u
  have Hs := Lib.hid (show row S.Saw u = row S.Saw u from rfl)
  clear j1 hI
  generalize row S.Saw u = s at *
  clear Hs
  have CS := Lib.hid (fun x V (hV : Below w.heap.size w V) => by have := Rset_any (castL S.Ho) f (x : Nat) (some ⟨b3, o3, none⟩) c3 V (i3.1.below hV) (by rw [length_castL]; have := Hlh.out; omega); simp only [List.length_set, length_castL, Hlh.out] at this; exact this)
  go_enter Tryd.func29, Tryd.ntmps29
  go_wp2_with fail
  have hX := ((BoxN.new w 48 #[.slice (some ⟨b1, o1, none⟩) T.length c1, .slice (some ⟨b2, o2, none⟩) S.Saw.length c2, .slice (some ⟨b3, o3, none⟩) T.length c3]).alloc (.cells #[.int .i64 1, .int .i64 u, .int .i64 f, .int .i64 t] 31)).alloc (.cells #[.slice none 0 0, .slice none 0 0, .slice none 0 0] 48)
  have hY := (BoxN.new (w.alloc (.cells #[.slice (some ⟨b1, o1, none⟩) T.length c1, .slice (some ⟨b2, o2, none⟩) S.Saw.length c2, .slice (some ⟨b3, o3, none⟩) T.length c3] 48)) 31 #[.int .i64 1, .int .i64 u, .int .i64 f, .int .i64 t]).alloc (.cells #[.slice none 0 0, .slice none 0 0, .slice none 0 0] 48)
  have hZ := BoxN.new ((w.alloc (.cells #[.slice (some ⟨b1, o1, none⟩) T.length c1, .slice (some ⟨b2, o2, none⟩) S.Saw.length c2, .slice (some ⟨b3, o3, none⟩) T.length c3] 48)).alloc (.cells #[.int .i64 1, .int .i64 u, .int .i64 f, .int .i64 t] 31)) 48 #[.slice none 0 0, .slice none 0 0, .slice none 0 0]
  have hb : Below w.heap.size w (((w.alloc (.cells #[.slice (some ⟨b1, o1, none⟩) T.length c1, .slice (some ⟨b2, o2, none⟩) S.Saw.length c2, .slice (some ⟨b3, o3, none⟩) T.length c3] 48)).alloc (.cells #[.int .i64 1, .int .i64 u, .int .i64 f, .int .i64 t] 31)).alloc (.cells #[.slice none 0 0, .slice none 0 0, .slice none 0 0] 48)) := (((Below.refl _ _).alloc (Nat.le_refl _) _).alloc (by simp) _).alloc (by simp; omega) _
  simp only [World.size_alloc] at hY hZ
  generalize (((w.alloc (.cells #[.slice (some ⟨b1, o1, none⟩) T.length c1, .slice (some ⟨b2, o2, none⟩) S.Saw.length c2, .slice (some ⟨b3, o3, none⟩) T.length c3] 48)).alloc (.cells #[.int .i64 1, .int .i64 u, .int .i64 f, .int .i64 t] 31)).alloc (.cells #[.slice none 0 0, .slice none 0 0, .slice none 0 0] 48)) = wa at *
  have x0 := hX.cell (k := 0) rfl
  have x1 := hX.cell (k := 1) rfl
  have x2 := hX.cell (k := 2) rfl
  have y0 := hY.cell (k := 0) rfl
  have y1 := hY.cell (k := 1) rfl
  have y2 := hY.cell (k := 2) rfl
  have z0 := hZ.cell (k := 0) rfl
  have z1 := hZ.cell (k := 1) rfl
  have z2 := hZ.cell (k := 2) rfl
  have fz0 := hZ.free 0
  have fz1 := hZ.free 1
  have fz2 := hZ.free 2
  have fx0 := hX.free 0
  have fx1 := hX.free 1
  have fx2 := hX.free 2
  have q1 := fun x (hx : x < T.length) => (hb.cell (p := ⟨b1, o1 + x, none⟩) r1).trans (J1.out x hx)
  have q2 : wa.cell? ⟨b2, o2 + u, none⟩ = some (.int .i64 (s : Nat)) := (hb.cell (p := ⟨b2, o2 + u, none⟩) r2).trans p2
  have q3 := fun x (hx : x < T.length) => (hb.cell (p := ⟨b3, o3 + x, none⟩) r3).trans (J3.out x hx)
  have q3f := q3 f hf
  have Q1 := Lib.hid q1
  have Q3 := Lib.hid q3
  clear q1 q3 J1 J3 p1 p2 p3
  refine (C1.out _).mono ?_
  rintro e w' ⟨rfl, rfl⟩
  go_wp2_with (first | (go_at_call 42; with_reducible refine (C1.out _).mono ?_; rintro e w' ⟨rfl, rfl⟩) | (go_at_call 42; with_reducible refine (C2.out _).mono ?_; rintro e w' ⟨rfl, rfl⟩) | (go_at_call 42; with_reducible refine (C3.out _).mono ?_; rintro e w' ⟨rfl, rfl⟩))
  go_loopw [8, 9] (fun h i wr => ∃ (x q : Nat), x ≤ T.length ∧ i = .int .i64 x ∧ h = .int .i64 (joinR S.Ho f s x : Nat) ∧ Hid (∀ y, y < x → rDeny T s f 1 y = false) ∧ wr = wa.drewN q) (fun _ i _ => T.length - (intOf i).toNat)
  case atStart => exact ⟨0, 0, Nat.zero_le _, rfl, by rw [Hj0.out], Lib.hid (fun y hy => by omega), rfl⟩
  case round =>
    obtain ⟨x, q, hx, rfl, rfl, hall, rfl⟩ := hrel
    by_cases hxn : x < T.length
    · have Hstep := Lib.hid (Hjs.out x)
      have hJ := Hjl.out x
      have hhx := Hhl.out x
      have hr := Hrd.out x
      have ex := Q1.out x hxn
      have ey := Q3.out x hxn
      have Hnext := Lib.hid (fun (h : rDeny T s f 1 x = false) y (hy : y < x + 1) => show rDeny T s f 1 y = false from by
        rcases Nat.lt_or_ge y x with h1 | h1
        · exact hall.out y h1
        · obtain rfl : y = x := by omega
          exact h)
      have HB := Lib.hid (fun (bb : Bool) (V : World) (hh : s.testBit x = bb) => Bit_is s x bb V (by omega) (by omega) hh)
      have HE := Lib.hid (fun (V : World) => Either_any (joinR S.Ho f s x) (row S.Ho x) V (by omega) (by omega))
      have hxT : ((x : Nat) : Int) < T.length := by omega
      have hfT : ((f : Nat) : Int) < T.length := by omega
      cases hbt : s.testBit x with
      | false =>
        have Hb := Lib.hid (fun V => HB.out false V hbt)
        rw [hbt] at Hstep hr
        have Hn := Lib.hid (Hnext.out (by rw [hr]; rfl))
        generalize joinR S.Ho f s x = J at *
        clear hbt hr ex ey
        go_wp2_with (go_at_call 26; with_reducible refine (Hb.out _).mono ?_; rintro e w' ⟨rfl, rfl⟩)
        exact ⟨⟨x + 1, q, by omega, by go_num, by rw [Hstep.out]; rfl, Hn, rfl⟩, by simp [intOf]; omega⟩
      | true =>
        have Hb := Lib.hid (fun V => HB.out true V hbt)
        rw [hbt] at Hstep hr
        generalize hJe : joinR S.Ho f s x = J at *
        generalize hHe : row S.Ho x = H at *
        clear hbt hJe hHe
        by_cases hxf : x = f
        · subst hxf
          have Hn := Lib.hid (Hnext.out (by rw [hr]; simp))
          clear hr ex
          go_wp2_with (first | (go_at_call 26; with_reducible refine (Hb.out _).mono ?_; rintro e w' ⟨rfl, rfl⟩) | (go_at_call 50; with_reducible refine (HE.out _).mono ?_; rintro e w' ⟨rfl, rfl⟩))
          go_quiet (fail)
          go_wp2_with fail
          exact ⟨⟨x + 1, _, by omega, by go_num, by rw [Hstep.out]; rfl, Hn, rfl⟩, by simp [intOf]; omega⟩
        · have dn : ((x : Int) != (f : Int)) = true := by simp; omega
          by_cases h0 : gI T x = 0
          · have Hn := Lib.hid (Hnext.out (by rw [hr]; simp [h0]))
            rw [h0] at ex
            clear hr h0
            go_wp2_with (first | (go_at_call 26; with_reducible refine (Hb.out _).mono ?_; rintro e w' ⟨rfl, rfl⟩) | (go_at_call 50; with_reducible refine (HE.out _).mono ?_; rintro e w' ⟨rfl, rfl⟩))
            go_quiet (fail)
            go_wp2_with fail
            exact ⟨⟨x + 1, _, by omega, by go_num, by rw [Hstep.out]; rfl, Hn, rfl⟩, by simp [intOf]; omega⟩
          · have d0 : (gI T x != 0) = true := by simpa using h0
            have hd : rDeny T s f 1 x = true := by rw [hr]; simp [hxf, h0]
            have h7 := Lib.hid (Hden.out x hd)
            clear hr hd h0 Hnext Hstep
            go_wp2_with (first | (go_at_call 26; with_reducible refine (Hb.out _).mono ?_; rintro e w' ⟨rfl, rfl⟩) | (go_at_call 50; with_reducible refine (HE.out _).mono ?_; rintro e w' ⟨rfl, rfl⟩))
            go_quiet (fail)
            go_wp2_with fail
            have hZ := hZ.drewN (q + nq)
            have hb := belowD hb (q + nq)
            have hR := ((hZ.set 0 (.slice (some ⟨b1, o1, none⟩) T.length c1)).set 1 (.slice (some ⟨b2, o2, none⟩) S.Saw.length c2)).set 2 (.slice (some ⟨b3, o3, none⟩) T.length c3)
            have hbf := (((hb.setCell (p := ⟨w.heap.size + 1 + 1, 0, none⟩) (by simp; omega) (.slice (some ⟨b1, o1, none⟩) T.length c1)).setCell (p := ⟨w.heap.size + 1 + 1, 1, none⟩) (by simp; omega) (.slice (some ⟨b2, o2, none⟩) S.Saw.length c2)).setCell (p := ⟨w.heap.size + 1 + 1, 2, none⟩) (by simp; omega) (.slice (some ⟨b3, o3, none⟩) T.length c3))
            refine bodyPost_ret (results_row_tmp rfl _ _ (w.heap.size + 1 + 1) 48 #[.slice (some ⟨b1, o1, none⟩) T.length c1, .slice (some ⟨b2, o2, none⟩) S.Saw.length c2, .slice (some ⟨b3, o3, none⟩) T.length c3] (0, 0) _ rfl hR Tryd.underlying48 rfl (by kernel_rfl)) rfl ?_
            rw [h7.out]
            exact ⟨⟨_, rfl, ⟨_, _, _, _, _, _, by rw [Hlh.out], i1.below hbf, i2.below hbf, i3.below hbf⟩⟩, hbf⟩
    · obtain rfl : x = T.length := by omega
      have hres := Hpass.out hall.out
      have HRes := Lib.hid hres
      have hJ := Hjl.out T.length
      clear hall hres q3f Q1 Q3
      have hne : castL S.Ho ≠ [] := by intro e; have := congrArg List.length e; rw [length_castL] at this; simp only [List.length_nil] at this; have := Hlh.out; omega
      generalize hJe : joinR S.Ho f s T.length = J at *
      clear hJe
      go_wp2_with fail
      refine (CS.out _ _ (belowD hb _)).mono ?_
      rintro e w1 ⟨⟨A1, d1, rfl, -, hown⟩, hb1⟩
      obtain ⟨g, rfl, hg, ho⟩ := hown hne
      have hX1 := (hX.drewN q).all hb1
      have hZ1 := (hZ.drewN q).all hb1
      have hwa : w.heap.size ≤ wa.heap.size := hb.size
      have hb01 : Below w.heap.size w w1 := (belowD hb q).trans (hb1.mono hwa)
      have ngX : g ≠ w.heap.size := ho.ne_box hX1 (by decide)
      have ngZ : g ≠ w.heap.size + 1 + 1 := ho.ne_box hZ1 (by decide)
      clear x0 x1 x2 y0 y1 y2 z0 z1 z2 fx0 fx1 fx2 fz0 fz1 fz2 C1 C2 C3 hown hX hY hZ CS
      have x0 := hX1.cell (k := 0) rfl
      have x1 := hX1.cell (k := 1) rfl
      have x2 := hX1.cell (k := 2) rfl
      have z0 := hZ1.cell (k := 0) rfl
      have z1 := hZ1.cell (k := 1) rfl
      have z2 := hZ1.cell (k := 2) rfl
      have fx0 := hX1.free 0
      have fx1 := hX1.free 1
      have fx2 := hX1.free 2
      have fz0 := hZ1.free 0
      have fz1 := hZ1.free 1
      have fz2 := hZ1.free 2
      go_wp2_with fail
      have hR := (((hZ1.other (a := ⟨w.heap.size, 2, none⟩) (by simp; omega) (.slice (some ⟨g, 0, none⟩) T.length d1)).set 0 (.slice (some ⟨b1, o1, none⟩) T.length c1)).set 1 (.slice (some ⟨b2, o2, none⟩) S.Saw.length c2)).set 2 (.slice (some ⟨g, 0, none⟩) T.length d1)
      refine bodyPost_ret (results_row_tmp rfl _ _ (w.heap.size + 1 + 1) 48 #[.slice (some ⟨b1, o1, none⟩) T.length c1, .slice (some ⟨b2, o2, none⟩) S.Saw.length c2, .slice (some ⟨g, 0, none⟩) T.length d1] (0, 0) _ rfl hR Tryd.underlying48 rfl (by kernel_rfl)) rfl ?_
      have hof := (((ho.far (a := ⟨w.heap.size, 2, none⟩) ngX (.slice (some ⟨g, 0, none⟩) T.length d1)).far (a := ⟨w.heap.size + 1 + 1, 0, none⟩) ngZ (.slice (some ⟨b1, o1, none⟩) T.length c1)).far (a := ⟨w.heap.size + 1 + 1, 1, none⟩) ngZ (.slice (some ⟨b2, o2, none⟩) S.Saw.length c2)).far (a := ⟨w.heap.size + 1 + 1, 2, none⟩) ngZ (.slice (some ⟨g, 0, none⟩) T.length d1)
      have hbf := (((hb01.setCell (p := ⟨w.heap.size, 2, none⟩) (by simp) (.slice (some ⟨g, 0, none⟩) T.length d1)).setCell (p := ⟨w.heap.size + 1 + 1, 0, none⟩) (by simp; omega) (.slice (some ⟨b1, o1, none⟩) T.length c1)).setCell (p := ⟨w.heap.size + 1 + 1, 1, none⟩) (by simp; omega) (.slice (some ⟨b2, o2, none⟩) S.Saw.length c2)).setCell (p := ⟨w.heap.size + 1 + 1, 2, none⟩) (by simp; omega) (.slice (some ⟨g, 0, none⟩) T.length d1)
      rw [HRes.out]
      exact ⟨⟨_, rfl, ⟨some ⟨b1, o1, none⟩, some ⟨b2, o2, none⟩, some ⟨g, 0, none⟩, c1, c2, d1, by simp [Hlh.out], i1.below hbf, i2.below hbf, ⟨by show IntsAt _ _ (castL (S.Ho.set f _)); rw [castL_set]; exact hof.ints, fun b off e _ => by cases e; exact hok _ (Nat.le_trans hwa hg)⟩⟩⟩, hbf⟩

theorem AskWall_any {v : Value} (h : RW ok w v T S) (hI : WInv T S) (hok : ∀ b, w.heap.size ≤ b → ok b) (k u f t : Int) :
    Calls Tryd.prog 29 #[v, .agg #[.int .i64 k, .int .i64 u, .int .i64 f, .int .i64 t]] w fun e w' => (∃ v', e = .returned (.tuple #[v', .int .i64 (wAsk T S k u f).2]) ∧ RW ok w' v' T (wAsk T S k u f).1) ∧ Below w.heap.size w w' := by
  obtain ⟨a1, a2, a3, c1, c2, c3, rfl, i1, i2, i3⟩ := h.is
  have hn8 := hI.ln
  have hm8 := hI.lm
  by_cases hbok : wOk T S k u f
  · obtain ⟨hk, ⟨hu0, hu1⟩, hf0, hf1⟩ := id hbok
    obtain ⟨un, rfl⟩ := Int.eq_ofNat_of_zero_le hu0
    obtain ⟨fn, rfl⟩ := Int.eq_ofNat_of_zero_le hf0
    by_cases hk0 : k = 0
    · subst hk0
      exact AskWall_read hI i1 i2 i3 hok un fn t (by omega) (by omega)
    · obtain rfl : k = 1 := by omega
      exact AskWall_write hI i1 i2 i3 hok un fn t (by omega) (by omega)
  · unfold wAsk
    rw [if_neg hbok]
    exact (AskWall_range (by omega) (by omega) k u f t hbok).mono fun e w' ⟨he, hb⟩ => ⟨⟨_, he, h.below hb⟩, hb⟩

end
end Go.Proofs.YtodikdmmmfeddaaDoor
