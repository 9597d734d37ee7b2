/-
  Contract: the reference's AskBiba. (printed by askbiba.py)
-/
import Derived.Test.YtodikdmmmfeddaaDoorBibaR
import Derived.StillTailTactics
import Derived.Laws.ResultCell
import Derived.Laws.Rows
namespace Go.Proofs.YtodikdmmmfeddaaDoor
open Go.RowKit
set_option maxRecDepth 100000
set_option linter.unusedVariables false

/-- As wp_region_still_tail, with the world's words kept. -/
theorem wp_still_tailD {P : Program} {id : Nat} {Q : Exit → Act → World → Prop} {a : Act} {w : World} {l : List Oper} (n : Nat) (hm : P.follows .mixedOrders = true) (hB : Region.lexTailB .any l.toArray n = true)
    (h : wpStill P l.toArray (w.drewN 1) (fun a' => wpList P l.toArray Q (l.drop n) a' (w.drewN 1)) (l.take n) a) : (Code.region id l.toArray true).wp P Q a w := wp_region_still_tail n hm hB h

/-- Ints that lie where they may. -/
def IntsIn (ok : Nat → Prop) (w : World) (A : Option Addr) (l : List Int) : Prop := IntsAt w A l ∧ ∀ b off, A = some ⟨b, off, none⟩ → l ≠ [] → ok b
theorem IntsIn.below {ok : Nat → Prop} {w w' : World} {A : Option Addr} {l : List Int} (h : IntsIn ok w A l) (hb : Below w.heap.size w w') : IntsIn ok w' A l := ⟨h.1.below hb, h.2⟩
/-- The reference's monitor as a value. -/
structure RB (ok : Nat → Prop) (w : World) (v : Value) (F : List Int) (S : BS) : Prop where
  is : ∃ a1 a2 a3 a4 c1 c2 c3 c4, v = .agg #[.slice a1 S.U.length c1, .slice a2 F.length c2, .slice a3 S.Wo.length c3, .slice a4 S.He.length c4] ∧ IntsIn ok w a1 S.U ∧ IntsIn ok w a2 F ∧ IntsIn ok w a3 S.Wo ∧ IntsIn ok w a4 S.He
theorem RB.below {ok : Nat → Prop} {w w' : World} {v : Value} {F : List Int} {S : BS} (h : RB ok w v F S) (hb : Below w.heap.size w w') : RB ok w' v F S := by
  obtain ⟨a1, a2, a3, a4, c1, c2, c3, c4, e, i1, i2, i3, i4⟩ := h.is
  exact ⟨a1, a2, a3, a4, c1, c2, c3, c4, e, i1.below hb, i2.below hb, i3.below hb, i4.below hb⟩
theorem results_row_tmp {P : Program} {fn : Func} {p u : Tmp} {ty : TypeId} (h : fn.results = #[.cell p ty, .tmp u]) (tmps : Array Value) (w : World) (g : Nat) (t : TypeId) (cs : Array Value) (fr : Nat × Nat) (d : TypeDesc)
    (hp : tmps.getD p undef = .pointer (some ⟨g, 0, none⟩)) (hg : w.heap[g]? = some (.cells cs t fr))
    (hu : P.underlying ty = some d) (hd : (match d with | .struct _ | .array _ _ => true | _ => false) = true) (hi : (P.info? ty).map (·.size) = some cs.size) :
    (results fn tmps).run P w = .ok (.tuple #[.agg cs, tmps.getD u undef]) w := by
  rw [results_cell_tmp h, hp]
  simp [asAddr, Result.andThen, run_loadVar_row w g t ty cs fr d hg hu hd hi]

section
variable {ok : Nat → Prop} {w : World} {F : List Int} {S : BS} {a1 a2 a3 a4 : Option Addr} {c1 c2 c3 c4 : Nat}

set_option maxHeartbeats 1000000 in
theorem AskBiba_range (i1 : IntsAt w a1 S.U) (i2 : IntsAt w a2 F) (i3 : IntsAt w a3 S.Wo) (i4 : IntsAt w a4 S.He) (hl : S.U.length ≤ 100) (hl2 : F.length ≤ 100) (k u f t : Int) (hno : ¬ bOk F S k u f) :
    Calls Tryd.prog 21 #[.agg #[.slice a1 S.U.length c1, .slice a2 F.length c2, .slice a3 S.Wo.length c3, .slice a4 S.He.length c4], .agg #[.int .i64 k, .int .i64 u, .int .i64 f, .int .i64 t]] w fun e w' => e = .returned (.tuple #[.agg #[.slice a1 S.U.length c1, .slice a2 F.length c2, .slice a3 S.Wo.length c3, .slice a4 S.He.length c4], .int .i64 1]) ∧ Below w.heap.size w w' := by
  unfold bOk at hno
  clear i1 i2 i3 i4
  by_cases h1 : 0 ≤ k ∧ k ≤ 1
  · have C1 := Lib.hid (fun V => Rin_is k 0 1 true V (by simp; omega))
    by_cases h2 : 0 ≤ u ∧ u < S.U.length
    · have C2 := Lib.hid (fun V => Rin_is u 0 ((S.U.length : Int) - 1) true V (by simp; omega))
      have C3 := Lib.hid (fun V => Rin_is f 0 ((F.length : Int) - 1) false V (by simp; omega))
      clear h1 h2 hno
      go_enter Tryd.func21, Tryd.ntmps21
      go_wp2_with fail
      have hX := (((BoxN.new w 38 #[.slice a1 S.U.length c1, .slice a2 F.length c2, .slice a3 S.Wo.length c3, .slice a4 S.He.length c4]).alloc (.cells #[.int .i64 k, .int .i64 u, .int .i64 f, .int .i64 t] 31)).alloc (.cells #[.slice none 0 0, .slice none 0 0, .slice none 0 0, .slice none 0 0] 38))
      have hY := (BoxN.new (w.alloc (.cells #[.slice a1 S.U.length c1, .slice a2 F.length c2, .slice a3 S.Wo.length c3, .slice a4 S.He.length c4] 38)) 31 #[.int .i64 k, .int .i64 u, .int .i64 f, .int .i64 t]).alloc (.cells #[.slice none 0 0, .slice none 0 0, .slice none 0 0, .slice none 0 0] 38)
      have hZ := BoxN.new ((w.alloc (.cells #[.slice a1 S.U.length c1, .slice a2 F.length c2, .slice a3 S.Wo.length c3, .slice a4 S.He.length c4] 38)).alloc (.cells #[.int .i64 k, .int .i64 u, .int .i64 f, .int .i64 t] 31)) 38 #[.slice none 0 0, .slice none 0 0, .slice none 0 0, .slice none 0 0]
      have hb : Below w.heap.size w (((w.alloc (.cells #[.slice a1 S.U.length c1, .slice a2 F.length c2, .slice a3 S.Wo.length c3, .slice a4 S.He.length c4] 38)).alloc (.cells #[.int .i64 k, .int .i64 u, .int .i64 f, .int .i64 t] 31)).alloc (.cells #[.slice none 0 0, .slice none 0 0, .slice none 0 0, .slice none 0 0] 38)) := (((Below.refl _ _).alloc (Nat.le_refl _) _).alloc (by simp) _).alloc (by simp; omega) _
      have hsz : (((w.alloc (.cells #[.slice a1 S.U.length c1, .slice a2 F.length c2, .slice a3 S.Wo.length c3, .slice a4 S.He.length c4] 38)).alloc (.cells #[.int .i64 k, .int .i64 u, .int .i64 f, .int .i64 t] 31)).alloc (.cells #[.slice none 0 0, .slice none 0 0, .slice none 0 0, .slice none 0 0] 38)).heap.size = w.heap.size + 3 := by simp
      simp only [World.size_alloc] at hY hZ
      generalize ((w.alloc (.cells #[.slice a1 S.U.length c1, .slice a2 F.length c2, .slice a3 S.Wo.length c3, .slice a4 S.He.length c4] 38)).alloc (.cells #[.int .i64 k, .int .i64 u, .int .i64 f, .int .i64 t] 31)).alloc (.cells #[.slice none 0 0, .slice none 0 0, .slice none 0 0, .slice none 0 0] 38) = wa at *
      have x0 := hX.cell (k := 0) rfl
      have x1 := hX.cell (k := 1) rfl
      have x2 := hX.cell (k := 2) rfl
      have x3 := hX.cell (k := 3) rfl
      have y0 := hY.cell (k := 0) rfl
      have y1 := hY.cell (k := 1) rfl
      have y2 := hY.cell (k := 2) rfl
      have z0 := hZ.cell (k := 0) rfl
      have z1 := hZ.cell (k := 1) rfl
      have z2 := hZ.cell (k := 2) rfl
      have z3 := hZ.cell (k := 3) rfl
      have fz0 := hZ.free 0
      have fz1 := hZ.free 1
      have fz2 := hZ.free 2
      have fz3 := hZ.free 3
      have fx0 := hX.free 0
      have fx1 := hX.free 1
      have fx2 := hX.free 2
      have fx3 := hX.free 3
      refine (C1.out _).mono ?_
      rintro e w' ⟨rfl, rfl⟩
      go_wp2_with (first | (go_at_call 42; with_reducible refine (C1.out _).mono ?_; rintro e w' ⟨rfl, rfl⟩) | (go_at_call 42; with_reducible refine (C2.out _).mono ?_; rintro e w' ⟨rfl, rfl⟩) | (go_at_call 42; with_reducible refine (C3.out _).mono ?_; rintro e w' ⟨rfl, rfl⟩))
      have hR := (((hZ.set 0 (.slice a1 S.U.length c1)).set 1 (.slice a2 F.length c2)).set 2 (.slice a3 S.Wo.length c3)).set 3 (.slice a4 S.He.length c4)
      refine bodyPost_ret (results_row_tmp rfl _ _ (w.heap.size + 1 + 1) 38 #[.slice a1 S.U.length c1, .slice a2 F.length c2, .slice a3 S.Wo.length c3, .slice a4 S.He.length c4] (0, 0) _ rfl hR Tryd.underlying38 rfl (by kernel_rfl)) rfl ?_
      exact ⟨rfl, (((hb.setCell (p := ⟨w.heap.size + 1 + 1, 0, none⟩) (by simp; omega) _).setCell (p := ⟨w.heap.size + 1 + 1, 1, none⟩) (by simp; omega) _).setCell (p := ⟨w.heap.size + 1 + 1, 2, none⟩) (by simp; omega) _).setCell (p := ⟨w.heap.size + 1 + 1, 3, none⟩) (by simp; omega) _⟩
    · have C2 := Lib.hid (fun V => Rin_is u 0 ((S.U.length : Int) - 1) false V (by simp; omega))
      clear h1 h2 hno
      go_enter Tryd.func21, Tryd.ntmps21
      go_wp2_with fail
      have hX := (((BoxN.new w 38 #[.slice a1 S.U.length c1, .slice a2 F.length c2, .slice a3 S.Wo.length c3, .slice a4 S.He.length c4]).alloc (.cells #[.int .i64 k, .int .i64 u, .int .i64 f, .int .i64 t] 31)).alloc (.cells #[.slice none 0 0, .slice none 0 0, .slice none 0 0, .slice none 0 0] 38))
      have hY := (BoxN.new (w.alloc (.cells #[.slice a1 S.U.length c1, .slice a2 F.length c2, .slice a3 S.Wo.length c3, .slice a4 S.He.length c4] 38)) 31 #[.int .i64 k, .int .i64 u, .int .i64 f, .int .i64 t]).alloc (.cells #[.slice none 0 0, .slice none 0 0, .slice none 0 0, .slice none 0 0] 38)
      have hZ := BoxN.new ((w.alloc (.cells #[.slice a1 S.U.length c1, .slice a2 F.length c2, .slice a3 S.Wo.length c3, .slice a4 S.He.length c4] 38)).alloc (.cells #[.int .i64 k, .int .i64 u, .int .i64 f, .int .i64 t] 31)) 38 #[.slice none 0 0, .slice none 0 0, .slice none 0 0, .slice none 0 0]
      have hb : Below w.heap.size w (((w.alloc (.cells #[.slice a1 S.U.length c1, .slice a2 F.length c2, .slice a3 S.Wo.length c3, .slice a4 S.He.length c4] 38)).alloc (.cells #[.int .i64 k, .int .i64 u, .int .i64 f, .int .i64 t] 31)).alloc (.cells #[.slice none 0 0, .slice none 0 0, .slice none 0 0, .slice none 0 0] 38)) := (((Below.refl _ _).alloc (Nat.le_refl _) _).alloc (by simp) _).alloc (by simp; omega) _
      have hsz : (((w.alloc (.cells #[.slice a1 S.U.length c1, .slice a2 F.length c2, .slice a3 S.Wo.length c3, .slice a4 S.He.length c4] 38)).alloc (.cells #[.int .i64 k, .int .i64 u, .int .i64 f, .int .i64 t] 31)).alloc (.cells #[.slice none 0 0, .slice none 0 0, .slice none 0 0, .slice none 0 0] 38)).heap.size = w.heap.size + 3 := by simp
      simp only [World.size_alloc] at hY hZ
      generalize ((w.alloc (.cells #[.slice a1 S.U.length c1, .slice a2 F.length c2, .slice a3 S.Wo.length c3, .slice a4 S.He.length c4] 38)).alloc (.cells #[.int .i64 k, .int .i64 u, .int .i64 f, .int .i64 t] 31)).alloc (.cells #[.slice none 0 0, .slice none 0 0, .slice none 0 0, .slice none 0 0] 38) = wa at *
      have x0 := hX.cell (k := 0) rfl
      have x1 := hX.cell (k := 1) rfl
      have x2 := hX.cell (k := 2) rfl
      have x3 := hX.cell (k := 3) rfl
      have y0 := hY.cell (k := 0) rfl
      have y1 := hY.cell (k := 1) rfl
      have y2 := hY.cell (k := 2) rfl
      have z0 := hZ.cell (k := 0) rfl
      have z1 := hZ.cell (k := 1) rfl
      have z2 := hZ.cell (k := 2) rfl
      have z3 := hZ.cell (k := 3) rfl
      have fz0 := hZ.free 0
      have fz1 := hZ.free 1
      have fz2 := hZ.free 2
      have fz3 := hZ.free 3
      have fx0 := hX.free 0
      have fx1 := hX.free 1
      have fx2 := hX.free 2
      have fx3 := hX.free 3
      refine (C1.out _).mono ?_
      rintro e w' ⟨rfl, rfl⟩
      go_wp2_with (first | (go_at_call 42; with_reducible refine (C1.out _).mono ?_; rintro e w' ⟨rfl, rfl⟩) | (go_at_call 42; with_reducible refine (C2.out _).mono ?_; rintro e w' ⟨rfl, rfl⟩))
      have hR := (((hZ.set 0 (.slice a1 S.U.length c1)).set 1 (.slice a2 F.length c2)).set 2 (.slice a3 S.Wo.length c3)).set 3 (.slice a4 S.He.length c4)
      refine bodyPost_ret (results_row_tmp rfl _ _ (w.heap.size + 1 + 1) 38 #[.slice a1 S.U.length c1, .slice a2 F.length c2, .slice a3 S.Wo.length c3, .slice a4 S.He.length c4] (0, 0) _ rfl hR Tryd.underlying38 rfl (by kernel_rfl)) rfl ?_
      exact ⟨rfl, (((hb.setCell (p := ⟨w.heap.size + 1 + 1, 0, none⟩) (by simp; omega) _).setCell (p := ⟨w.heap.size + 1 + 1, 1, none⟩) (by simp; omega) _).setCell (p := ⟨w.heap.size + 1 + 1, 2, none⟩) (by simp; omega) _).setCell (p := ⟨w.heap.size + 1 + 1, 3, none⟩) (by simp; omega) _⟩
  · have C1 := Lib.hid (fun V => Rin_is k 0 1 false V (by simp; omega))
    clear h1 hno
    go_enter Tryd.func21, Tryd.ntmps21
    go_wp2_with fail
    have hX := (((BoxN.new w 38 #[.slice a1 S.U.length c1, .slice a2 F.length c2, .slice a3 S.Wo.length c3, .slice a4 S.He.length c4]).alloc (.cells #[.int .i64 k, .int .i64 u, .int .i64 f, .int .i64 t] 31)).alloc (.cells #[.slice none 0 0, .slice none 0 0, .slice none 0 0, .slice none 0 0] 38))
    have hY := (BoxN.new (w.alloc (.cells #[.slice a1 S.U.length c1, .slice a2 F.length c2, .slice a3 S.Wo.length c3, .slice a4 S.He.length c4] 38)) 31 #[.int .i64 k, .int .i64 u, .int .i64 f, .int .i64 t]).alloc (.cells #[.slice none 0 0, .slice none 0 0, .slice none 0 0, .slice none 0 0] 38)
    have hZ := BoxN.new ((w.alloc (.cells #[.slice a1 S.U.length c1, .slice a2 F.length c2, .slice a3 S.Wo.length c3, .slice a4 S.He.length c4] 38)).alloc (.cells #[.int .i64 k, .int .i64 u, .int .i64 f, .int .i64 t] 31)) 38 #[.slice none 0 0, .slice none 0 0, .slice none 0 0, .slice none 0 0]
    have hb : Below w.heap.size w (((w.alloc (.cells #[.slice a1 S.U.length c1, .slice a2 F.length c2, .slice a3 S.Wo.length c3, .slice a4 S.He.length c4] 38)).alloc (.cells #[.int .i64 k, .int .i64 u, .int .i64 f, .int .i64 t] 31)).alloc (.cells #[.slice none 0 0, .slice none 0 0, .slice none 0 0, .slice none 0 0] 38)) := (((Below.refl _ _).alloc (Nat.le_refl _) _).alloc (by simp) _).alloc (by simp; omega) _
    have hsz : (((w.alloc (.cells #[.slice a1 S.U.length c1, .slice a2 F.length c2, .slice a3 S.Wo.length c3, .slice a4 S.He.length c4] 38)).alloc (.cells #[.int .i64 k, .int .i64 u, .int .i64 f, .int .i64 t] 31)).alloc (.cells #[.slice none 0 0, .slice none 0 0, .slice none 0 0, .slice none 0 0] 38)).heap.size = w.heap.size + 3 := by simp
    simp only [World.size_alloc] at hY hZ
    generalize ((w.alloc (.cells #[.slice a1 S.U.length c1, .slice a2 F.length c2, .slice a3 S.Wo.length c3, .slice a4 S.He.length c4] 38)).alloc (.cells #[.int .i64 k, .int .i64 u, .int .i64 f, .int .i64 t] 31)).alloc (.cells #[.slice none 0 0, .slice none 0 0, .slice none 0 0, .slice none 0 0] 38) = wa at *
    have x0 := hX.cell (k := 0) rfl
    have x1 := hX.cell (k := 1) rfl
    have x2 := hX.cell (k := 2) rfl
    have x3 := hX.cell (k := 3) rfl
    have y0 := hY.cell (k := 0) rfl
    have y1 := hY.cell (k := 1) rfl
    have y2 := hY.cell (k := 2) rfl
    have z0 := hZ.cell (k := 0) rfl
    have z1 := hZ.cell (k := 1) rfl
    have z2 := hZ.cell (k := 2) rfl
    have z3 := hZ.cell (k := 3) rfl
    have fz0 := hZ.free 0
    have fz1 := hZ.free 1
    have fz2 := hZ.free 2
    have fz3 := hZ.free 3
    have fx0 := hX.free 0
    have fx1 := hX.free 1
    have fx2 := hX.free 2
    have fx3 := hX.free 3
    refine (C1.out _).mono ?_
    rintro e w' ⟨rfl, rfl⟩
    go_wp2_with (first | (go_at_call 42; with_reducible refine (C1.out _).mono ?_; rintro e w' ⟨rfl, rfl⟩))
    have hR := (((hZ.set 0 (.slice a1 S.U.length c1)).set 1 (.slice a2 F.length c2)).set 2 (.slice a3 S.Wo.length c3)).set 3 (.slice a4 S.He.length c4)
    refine bodyPost_ret (results_row_tmp rfl _ _ (w.heap.size + 1 + 1) 38 #[.slice a1 S.U.length c1, .slice a2 F.length c2, .slice a3 S.Wo.length c3, .slice a4 S.He.length c4] (0, 0) _ rfl hR Tryd.underlying38 rfl (by kernel_rfl)) rfl ?_
    exact ⟨rfl, (((hb.setCell (p := ⟨w.heap.size + 1 + 1, 0, none⟩) (by simp; omega) _).setCell (p := ⟨w.heap.size + 1 + 1, 1, none⟩) (by simp; omega) _).setCell (p := ⟨w.heap.size + 1 + 1, 2, none⟩) (by simp; omega) _).setCell (p := ⟨w.heap.size + 1 + 1, 3, none⟩) (by simp; omega) _⟩

set_option maxHeartbeats 1000000 in
theorem AskBiba_denied (i1 : IntsAt w a1 S.U) (i2 : IntsAt w a2 F) (i3 : IntsAt w a3 S.Wo) (i4 : IntsAt w a4 S.He) (lw : S.Wo.length = F.length) (lh : S.He.length = S.U.length) (hl : S.U.length ≤ 100) (hl2 : F.length ≤ 100) (u f : Nat) (t : Int) (hu : u < S.U.length) (hf : f < F.length) (hd : gI S.U u < gI F f) :
    Calls Tryd.prog 21 #[.agg #[.slice a1 S.U.length c1, .slice a2 F.length c2, .slice a3 S.Wo.length c3, .slice a4 S.He.length c4], .agg #[.int .i64 1, .int .i64 u, .int .i64 f, .int .i64 t]] w fun e w' => e = .returned (.tuple #[.agg #[.slice a1 S.U.length c1, .slice a2 F.length c2, .slice a3 S.Wo.length c3, .slice a4 S.He.length c4], .int .i64 7]) ∧ Below w.heap.size w w' := by
  rw [lw, lh]
  have C1 := Lib.hid (fun V => Rin_is 1 0 1 true V (by simp))
  have C2 := Lib.hid (fun V => Rin_is (u : Int) 0 ((S.U.length : Int) - 1) true V (by simp; omega))
  have C3 := Lib.hid (fun V => Rin_is (f : Int) 0 ((F.length : Int) - 1) true V (by simp; omega))
  obtain ⟨b1, o1, rfl, j1⟩ := i1 (by intro e; simp [e] at hu)
  obtain ⟨b2, o2, rfl, j2⟩ := i2 (by intro e; simp [e] at hf)
  obtain ⟨b3, o3, rfl, j3⟩ := i3 (by intro e; simp [e] at lw; omega)
  obtain ⟨b4, o4, rfl, j4⟩ := i4 (by intro e; simp [e] at lh; omega)
  have p1 := j1 u _ (get_gI hu)
  have p2 := j2 f _ (get_gI hf)
  have p3 := j3 f _ (get_gI (by omega))
  have p4 := j4 u _ (get_gI (by omega))
  have r1 : b1 < w.heap.size := block_lt p1
  have r2 : b2 < w.heap.size := block_lt p2
  have r3 : b3 < w.heap.size := block_lt p3
  have r4 : b4 < w.heap.size := block_lt p4
  clear j1 j2 j3 j4
  have hd1 : decide (gI F f > gI S.U u) = true := by simp; omega
  clear i1 i2 i3 i4 hd
  generalize gI S.U u = xu at *
  generalize gI F f = xf at *
  go_enter Tryd.func21, Tryd.ntmps21
  go_wp2_with fail
  have hX := (((BoxN.new w 38 #[.slice (some ⟨b1, o1, none⟩) S.U.length c1, .slice (some ⟨b2, o2, none⟩) F.length c2, .slice (some ⟨b3, o3, none⟩) F.length c3, .slice (some ⟨b4, o4, none⟩) S.U.length c4]).alloc (.cells #[.int .i64 1, .int .i64 u, .int .i64 f, .int .i64 t] 31)).alloc (.cells #[.slice none 0 0, .slice none 0 0, .slice none 0 0, .slice none 0 0] 38))
  have hY := (BoxN.new (w.alloc (.cells #[.slice (some ⟨b1, o1, none⟩) S.U.length c1, .slice (some ⟨b2, o2, none⟩) F.length c2, .slice (some ⟨b3, o3, none⟩) F.length c3, .slice (some ⟨b4, o4, none⟩) S.U.length c4] 38)) 31 #[.int .i64 1, .int .i64 u, .int .i64 f, .int .i64 t]).alloc (.cells #[.slice none 0 0, .slice none 0 0, .slice none 0 0, .slice none 0 0] 38)
  have hZ := BoxN.new ((w.alloc (.cells #[.slice (some ⟨b1, o1, none⟩) S.U.length c1, .slice (some ⟨b2, o2, none⟩) F.length c2, .slice (some ⟨b3, o3, none⟩) F.length c3, .slice (some ⟨b4, o4, none⟩) S.U.length c4] 38)).alloc (.cells #[.int .i64 1, .int .i64 u, .int .i64 f, .int .i64 t] 31)) 38 #[.slice none 0 0, .slice none 0 0, .slice none 0 0, .slice none 0 0]
  have hb : Below w.heap.size w (((w.alloc (.cells #[.slice (some ⟨b1, o1, none⟩) S.U.length c1, .slice (some ⟨b2, o2, none⟩) F.length c2, .slice (some ⟨b3, o3, none⟩) F.length c3, .slice (some ⟨b4, o4, none⟩) S.U.length c4] 38)).alloc (.cells #[.int .i64 1, .int .i64 u, .int .i64 f, .int .i64 t] 31)).alloc (.cells #[.slice none 0 0, .slice none 0 0, .slice none 0 0, .slice none 0 0] 38)) := (((Below.refl _ _).alloc (Nat.le_refl _) _).alloc (by simp) _).alloc (by simp; omega) _
  have hsz : (((w.alloc (.cells #[.slice (some ⟨b1, o1, none⟩) S.U.length c1, .slice (some ⟨b2, o2, none⟩) F.length c2, .slice (some ⟨b3, o3, none⟩) F.length c3, .slice (some ⟨b4, o4, none⟩) S.U.length c4] 38)).alloc (.cells #[.int .i64 1, .int .i64 u, .int .i64 f, .int .i64 t] 31)).alloc (.cells #[.slice none 0 0, .slice none 0 0, .slice none 0 0, .slice none 0 0] 38)).heap.size = w.heap.size + 3 := by simp
  simp only [World.size_alloc] at hY hZ
  generalize ((w.alloc (.cells #[.slice (some ⟨b1, o1, none⟩) S.U.length c1, .slice (some ⟨b2, o2, none⟩) F.length c2, .slice (some ⟨b3, o3, none⟩) F.length c3, .slice (some ⟨b4, o4, none⟩) S.U.length c4] 38)).alloc (.cells #[.int .i64 1, .int .i64 u, .int .i64 f, .int .i64 t] 31)).alloc (.cells #[.slice none 0 0, .slice none 0 0, .slice none 0 0, .slice none 0 0] 38) = wa at *
  have x0 := hX.cell (k := 0) rfl
  have x1 := hX.cell (k := 1) rfl
  have x2 := hX.cell (k := 2) rfl
  have x3 := hX.cell (k := 3) rfl
  have y0 := hY.cell (k := 0) rfl
  have y1 := hY.cell (k := 1) rfl
  have y2 := hY.cell (k := 2) rfl
  have z0 := hZ.cell (k := 0) rfl
  have z1 := hZ.cell (k := 1) rfl
  have z2 := hZ.cell (k := 2) rfl
  have z3 := hZ.cell (k := 3) rfl
  have fz0 := hZ.free 0
  have fz1 := hZ.free 1
  have fz2 := hZ.free 2
  have fz3 := hZ.free 3
  have fx0 := hX.free 0
  have fx1 := hX.free 1
  have fx2 := hX.free 2
  have fx3 := hX.free 3
  have q1a := (hb.cell (p := ⟨b1, _, none⟩) r1).trans p1
  have q2a := (hb.cell (p := ⟨b2, _, none⟩) r2).trans p2
  have q3a := (hb.cell (p := ⟨b3, _, none⟩) r3).trans p3
  have q4a := (hb.cell (p := ⟨b4, _, none⟩) r4).trans p4
  refine (C1.out _).mono ?_
  rintro e w' ⟨rfl, rfl⟩
  go_wp2_with (first | (go_at_call 42; with_reducible refine (C1.out _).mono ?_; rintro e w' ⟨rfl, rfl⟩) | (go_at_call 42; with_reducible refine (C2.out _).mono ?_; rintro e w' ⟨rfl, rfl⟩) | (go_at_call 42; with_reducible refine (C3.out _).mono ?_; rintro e w' ⟨rfl, rfl⟩))
  go_quiet (fail)
  go_wp2_with fail
  have hZ := hZ.drewN nq
  have hb := belowD hb nq
  have hR := (((hZ.set 0 (.slice (some ⟨b1, o1, none⟩) S.U.length c1)).set 1 (.slice (some ⟨b2, o2, none⟩) F.length c2)).set 2 (.slice (some ⟨b3, o3, none⟩) F.length c3)).set 3 (.slice (some ⟨b4, o4, none⟩) S.U.length c4)
  refine bodyPost_ret (results_row_tmp rfl _ _ (w.heap.size + 1 + 1) 38 #[.slice (some ⟨b1, o1, none⟩) S.U.length c1, .slice (some ⟨b2, o2, none⟩) F.length c2, .slice (some ⟨b3, o3, none⟩) F.length c3, .slice (some ⟨b4, o4, none⟩) S.U.length c4] (0, 0) _ rfl hR Tryd.underlying38 rfl (by kernel_rfl)) rfl ?_
  exact ⟨rfl, (((hb.setCell (p := ⟨w.heap.size + 1 + 1, 0, none⟩) (by simp; omega) _).setCell (p := ⟨w.heap.size + 1 + 1, 1, none⟩) (by simp; omega) _).setCell (p := ⟨w.heap.size + 1 + 1, 2, none⟩) (by simp; omega) _).setCell (p := ⟨w.heap.size + 1 + 1, 3, none⟩) (by simp; omega) _⟩

set_option maxHeartbeats 1000000 in
theorem AskBiba_write (i1 : IntsAt w a1 S.U) (i2 : IntsAt w a2 F) (i3 : IntsAt w a3 S.Wo) (i4 : IntsAt w a4 S.He) (k1 : ∀ b off, a1 = some ⟨b, off, none⟩ → S.U ≠ [] → ok b) (k2 : ∀ b off, a2 = some ⟨b, off, none⟩ → F ≠ [] → ok b) (k3 : ∀ b off, a3 = some ⟨b, off, none⟩ → S.Wo ≠ [] → ok b) (k4 : ∀ b off, a4 = some ⟨b, off, none⟩ → S.He ≠ [] → ok b) (hok : ∀ b, w.heap.size ≤ b → ok b) (lw : S.Wo.length = F.length) (lh : S.He.length = S.U.length) (hl : S.U.length ≤ 100) (hl2 : F.length ≤ 100) (u f : Nat) (t : Int) (hu : u < S.U.length) (hf : f < F.length) (hd : ¬ gI S.U u < gI F f) :
    Calls Tryd.prog 21 #[.agg #[.slice a1 S.U.length c1, .slice a2 F.length c2, .slice a3 S.Wo.length c3, .slice a4 S.He.length c4], .agg #[.int .i64 1, .int .i64 u, .int .i64 f, .int .i64 t]] w fun e w' => (∃ v, e = .returned (.tuple #[v, .int .i64 0]) ∧ RB ok w' v F { S with Wo := S.Wo.set f (min (gI S.Wo f) (gI S.He u)) }) ∧ Below w.heap.size w w' := by
  rw [lw, lh]
  have C1 := Lib.hid (fun V => Rin_is 1 0 1 true V (by simp))
  have C2 := Lib.hid (fun V => Rin_is (u : Int) 0 ((S.U.length : Int) - 1) true V (by simp; omega))
  have C3 := Lib.hid (fun V => Rin_is (f : Int) 0 ((F.length : Int) - 1) true V (by simp; omega))
  obtain ⟨b1, o1, rfl, j1⟩ := i1 (by intro e; simp [e] at hu)
  obtain ⟨b2, o2, rfl, j2⟩ := i2 (by intro e; simp [e] at hf)
  obtain ⟨b3, o3, rfl, j3⟩ := i3 (by intro e; simp [e] at lw; omega)
  obtain ⟨b4, o4, rfl, j4⟩ := i4 (by intro e; simp [e] at lh; omega)
  have p1 := j1 u _ (get_gI hu)
  have p2 := j2 f _ (get_gI hf)
  have p3 := j3 f _ (get_gI (by omega))
  have p4 := j4 u _ (get_gI (by omega))
  have r1 : b1 < w.heap.size := block_lt p1
  have r2 : b2 < w.heap.size := block_lt p2
  have r3 : b3 < w.heap.size := block_lt p3
  have r4 : b4 < w.heap.size := block_lt p4
  clear j1 j2 j3 j4
  have hd1 : decide (gI F f > gI S.U u) = false := by simp; omega
  have CL := Lib.hid (fun V => (Rless_any (gI S.Wo f) (gI S.He u) V).mono fun e w' ⟨he, hw⟩ => (⟨he, hw.symm⟩ : e = _ ∧ w' = V))
  have CS := Lib.hid (fun x V (hV : Below w.heap.size w V) => by have := Rset_any S.Wo f x (some ⟨b3, o3, none⟩) c3 V (i3.below hV) (by omega); simp only [List.length_set, lw] at this; exact this)
  have hne : S.Wo ≠ [] := by intro e; simp [e] at lw; omega
  clear hd
  generalize gI S.U u = xu at *
  generalize gI F f = xf at *
  generalize gI S.Wo f = xw at *
  generalize gI S.He u = xh at *
  go_enter Tryd.func21, Tryd.ntmps21
  go_wp2_with fail
  have hX := (((BoxN.new w 38 #[.slice (some ⟨b1, o1, none⟩) S.U.length c1, .slice (some ⟨b2, o2, none⟩) F.length c2, .slice (some ⟨b3, o3, none⟩) F.length c3, .slice (some ⟨b4, o4, none⟩) S.U.length c4]).alloc (.cells #[.int .i64 1, .int .i64 u, .int .i64 f, .int .i64 t] 31)).alloc (.cells #[.slice none 0 0, .slice none 0 0, .slice none 0 0, .slice none 0 0] 38))
  have hY := (BoxN.new (w.alloc (.cells #[.slice (some ⟨b1, o1, none⟩) S.U.length c1, .slice (some ⟨b2, o2, none⟩) F.length c2, .slice (some ⟨b3, o3, none⟩) F.length c3, .slice (some ⟨b4, o4, none⟩) S.U.length c4] 38)) 31 #[.int .i64 1, .int .i64 u, .int .i64 f, .int .i64 t]).alloc (.cells #[.slice none 0 0, .slice none 0 0, .slice none 0 0, .slice none 0 0] 38)
  have hZ := BoxN.new ((w.alloc (.cells #[.slice (some ⟨b1, o1, none⟩) S.U.length c1, .slice (some ⟨b2, o2, none⟩) F.length c2, .slice (some ⟨b3, o3, none⟩) F.length c3, .slice (some ⟨b4, o4, none⟩) S.U.length c4] 38)).alloc (.cells #[.int .i64 1, .int .i64 u, .int .i64 f, .int .i64 t] 31)) 38 #[.slice none 0 0, .slice none 0 0, .slice none 0 0, .slice none 0 0]
  have hb : Below w.heap.size w (((w.alloc (.cells #[.slice (some ⟨b1, o1, none⟩) S.U.length c1, .slice (some ⟨b2, o2, none⟩) F.length c2, .slice (some ⟨b3, o3, none⟩) F.length c3, .slice (some ⟨b4, o4, none⟩) S.U.length c4] 38)).alloc (.cells #[.int .i64 1, .int .i64 u, .int .i64 f, .int .i64 t] 31)).alloc (.cells #[.slice none 0 0, .slice none 0 0, .slice none 0 0, .slice none 0 0] 38)) := (((Below.refl _ _).alloc (Nat.le_refl _) _).alloc (by simp) _).alloc (by simp; omega) _
  have hsz : (((w.alloc (.cells #[.slice (some ⟨b1, o1, none⟩) S.U.length c1, .slice (some ⟨b2, o2, none⟩) F.length c2, .slice (some ⟨b3, o3, none⟩) F.length c3, .slice (some ⟨b4, o4, none⟩) S.U.length c4] 38)).alloc (.cells #[.int .i64 1, .int .i64 u, .int .i64 f, .int .i64 t] 31)).alloc (.cells #[.slice none 0 0, .slice none 0 0, .slice none 0 0, .slice none 0 0] 38)).heap.size = w.heap.size + 3 := by simp
  simp only [World.size_alloc] at hY hZ
  generalize ((w.alloc (.cells #[.slice (some ⟨b1, o1, none⟩) S.U.length c1, .slice (some ⟨b2, o2, none⟩) F.length c2, .slice (some ⟨b3, o3, none⟩) F.length c3, .slice (some ⟨b4, o4, none⟩) S.U.length c4] 38)).alloc (.cells #[.int .i64 1, .int .i64 u, .int .i64 f, .int .i64 t] 31)).alloc (.cells #[.slice none 0 0, .slice none 0 0, .slice none 0 0, .slice none 0 0] 38) = wa at *
  have x0 := hX.cell (k := 0) rfl
  have x1 := hX.cell (k := 1) rfl
  have x2 := hX.cell (k := 2) rfl
  have x3 := hX.cell (k := 3) rfl
  have y0 := hY.cell (k := 0) rfl
  have y1 := hY.cell (k := 1) rfl
  have y2 := hY.cell (k := 2) rfl
  have z0 := hZ.cell (k := 0) rfl
  have z1 := hZ.cell (k := 1) rfl
  have z2 := hZ.cell (k := 2) rfl
  have z3 := hZ.cell (k := 3) rfl
  have fz0 := hZ.free 0
  have fz1 := hZ.free 1
  have fz2 := hZ.free 2
  have fz3 := hZ.free 3
  have fx0 := hX.free 0
  have fx1 := hX.free 1
  have fx2 := hX.free 2
  have fx3 := hX.free 3
  have q1a := (hb.cell (p := ⟨b1, _, none⟩) r1).trans p1
  have q2a := (hb.cell (p := ⟨b2, _, none⟩) r2).trans p2
  have q3a := (hb.cell (p := ⟨b3, _, none⟩) r3).trans p3
  have q4a := (hb.cell (p := ⟨b4, _, none⟩) r4).trans p4
  refine (C1.out _).mono ?_
  rintro e w' ⟨rfl, rfl⟩
  go_wp2_with (first | (go_at_call 42; with_reducible refine (C1.out _).mono ?_; rintro e w' ⟨rfl, rfl⟩) | (go_at_call 42; with_reducible refine (C2.out _).mono ?_; rintro e w' ⟨rfl, rfl⟩) | (go_at_call 42; with_reducible refine (C3.out _).mono ?_; rintro e w' ⟨rfl, rfl⟩))
  go_quiet (fail)
  go_wp2_with fail
  refine wp_still_tailD 17 (by kernel_rfl) (by kernel_rfl) ?_
  simp only [List.take_succ_cons, List.take_zero, List.drop_succ_cons, List.drop_zero]
  repeat (first | still_step | still_call (CL.out _))
  refine wpStill_nil ?_
  go_wp2_with fail
  refine (CS.out _ _ (belowD hb _)).mono ?_
  rintro e w1 ⟨⟨A1, d1, rfl, -, hown⟩, hb1⟩
  obtain ⟨g, rfl, hg, ho⟩ := hown hne
  have hX1 := (hX.drewN (nq + 1)).all hb1
  have hZ1 := (hZ.drewN (nq + 1)).all hb1
  have hb01 : Below w.heap.size w w1 := (belowD hb (nq + 1)).trans (hb1.mono (by show w.heap.size ≤ wa.heap.size; omega))
  have ngX : g ≠ w.heap.size := ho.ne_box hX1 (by decide)
  have ngZ : g ≠ w.heap.size + 1 + 1 := ho.ne_box hZ1 (by decide)
  clear x0 x1 x2 x3 y0 y1 y2 z0 z1 z2 z3 fx0 fx1 fx2 fx3 fz0 fz1 fz2 fz3 q1a q2a q3a q4a C1 C2 C3 hown hX hY hZ CS CL
  have x0 := hX1.cell (k := 0) rfl
  have x1 := hX1.cell (k := 1) rfl
  have x2 := hX1.cell (k := 2) rfl
  have x3 := hX1.cell (k := 3) rfl
  have z0 := hZ1.cell (k := 0) rfl
  have z1 := hZ1.cell (k := 1) rfl
  have z2 := hZ1.cell (k := 2) rfl
  have z3 := hZ1.cell (k := 3) rfl
  have fx0 := hX1.free 0
  have fx1 := hX1.free 1
  have fx2 := hX1.free 2
  have fx3 := hX1.free 3
  have fz0 := hZ1.free 0
  have fz1 := hZ1.free 1
  have fz2 := hZ1.free 2
  have fz3 := hZ1.free 3
  go_wp2_with fail
  have hR := ((((hZ1.other (a := ⟨w.heap.size, 2, none⟩) (by simp; omega) (.slice (some ⟨g, 0, none⟩) F.length d1)).set 0 (.slice (some ⟨b1, o1, none⟩) S.U.length c1)).set 1 (.slice (some ⟨b2, o2, none⟩) F.length c2)).set 2 (.slice (some ⟨g, 0, none⟩) F.length d1)).set 3 (.slice (some ⟨b4, o4, none⟩) S.U.length c4)
  refine bodyPost_ret (results_row_tmp rfl _ _ (w.heap.size + 1 + 1) 38 #[.slice (some ⟨b1, o1, none⟩) S.U.length c1, .slice (some ⟨b2, o2, none⟩) F.length c2, .slice (some ⟨g, 0, none⟩) F.length d1, .slice (some ⟨b4, o4, none⟩) S.U.length c4] (0, 0) _ rfl hR Tryd.underlying38 rfl (by kernel_rfl)) rfl ?_
  have hof := ((((ho.far (a := ⟨w.heap.size, 2, none⟩) ngX (.slice (some ⟨g, 0, none⟩) F.length d1)).far (a := ⟨w.heap.size + 1 + 1, 0, none⟩) ngZ (.slice (some ⟨b1, o1, none⟩) S.U.length c1)).far (a := ⟨w.heap.size + 1 + 1, 1, none⟩) ngZ (.slice (some ⟨b2, o2, none⟩) F.length c2)).far (a := ⟨w.heap.size + 1 + 1, 2, none⟩) ngZ (.slice (some ⟨g, 0, none⟩) F.length d1)).far (a := ⟨w.heap.size + 1 + 1, 3, none⟩) ngZ (.slice (some ⟨b4, o4, none⟩) S.U.length c4)
  have hbf := ((((hb01.setCell (p := ⟨w.heap.size, 2, none⟩) (by simp) (.slice (some ⟨g, 0, none⟩) F.length d1)).setCell (p := ⟨w.heap.size + 1 + 1, 0, none⟩) (by simp; omega) (.slice (some ⟨b1, o1, none⟩) S.U.length c1)).setCell (p := ⟨w.heap.size + 1 + 1, 1, none⟩) (by simp; omega) (.slice (some ⟨b2, o2, none⟩) F.length c2)).setCell (p := ⟨w.heap.size + 1 + 1, 2, none⟩) (by simp; omega) (.slice (some ⟨g, 0, none⟩) F.length d1)).setCell (p := ⟨w.heap.size + 1 + 1, 3, none⟩) (by simp; omega) (.slice (some ⟨b4, o4, none⟩) S.U.length c4)
  exact ⟨⟨_, rfl, ⟨some ⟨b1, o1, none⟩, some ⟨b2, o2, none⟩, some ⟨g, 0, none⟩, some ⟨b4, o4, none⟩, c1, c2, d1, c4, by simp [lw, lh], ⟨i1.below hbf, k1⟩, ⟨i2.below hbf, k2⟩, ⟨hof.ints, fun b off e _ => by cases e; exact hok _ (Nat.le_trans (by show w.heap.size ≤ wa.heap.size; omega) hg)⟩, ⟨i4.below hbf, k4⟩⟩⟩, hbf⟩

set_option maxHeartbeats 1000000 in
theorem AskBiba_read (i1 : IntsAt w a1 S.U) (i2 : IntsAt w a2 F) (i3 : IntsAt w a3 S.Wo) (i4 : IntsAt w a4 S.He) (k1 : ∀ b off, a1 = some ⟨b, off, none⟩ → S.U ≠ [] → ok b) (k2 : ∀ b off, a2 = some ⟨b, off, none⟩ → F ≠ [] → ok b) (k3 : ∀ b off, a3 = some ⟨b, off, none⟩ → S.Wo ≠ [] → ok b) (k4 : ∀ b off, a4 = some ⟨b, off, none⟩ → S.He ≠ [] → ok b) (hok : ∀ b, w.heap.size ≤ b → ok b) (lw : S.Wo.length = F.length) (lh : S.He.length = S.U.length) (hl : S.U.length ≤ 100) (hl2 : F.length ≤ 100) (u f : Nat) (t : Int) (hu : u < S.U.length) (hf : f < F.length) :
    Calls Tryd.prog 21 #[.agg #[.slice a1 S.U.length c1, .slice a2 F.length c2, .slice a3 S.Wo.length c3, .slice a4 S.He.length c4], .agg #[.int .i64 0, .int .i64 u, .int .i64 f, .int .i64 t]] w fun e w' => (∃ v, e = .returned (.tuple #[v, .int .i64 0]) ∧ RB ok w' v F { S with U := S.U.set u (min (gI S.U u) (gI F f)), He := S.He.set u (min (gI S.He u) (gI S.Wo f)) }) ∧ Below w.heap.size w w' := by
  rw [lw, lh]
  have C1 := Lib.hid (fun V => Rin_is 0 0 1 true V (by simp))
  have C2 := Lib.hid (fun V => Rin_is (u : Int) 0 ((S.U.length : Int) - 1) true V (by simp; omega))
  have C3 := Lib.hid (fun V => Rin_is (f : Int) 0 ((F.length : Int) - 1) true V (by simp; omega))
  obtain ⟨b1, o1, rfl, j1⟩ := i1 (by intro e; simp [e] at hu)
  obtain ⟨b2, o2, rfl, j2⟩ := i2 (by intro e; simp [e] at hf)
  obtain ⟨b3, o3, rfl, j3⟩ := i3 (by intro e; simp [e] at lw; omega)
  obtain ⟨b4, o4, rfl, j4⟩ := i4 (by intro e; simp [e] at lh; omega)
  have p1 := j1 u _ (get_gI hu)
  have p2 := j2 f _ (get_gI hf)
  have p3 := j3 f _ (get_gI (by omega))
  have p4 := j4 u _ (get_gI (by omega))
  have r1 : b1 < w.heap.size := block_lt p1
  have r2 : b2 < w.heap.size := block_lt p2
  have r3 : b3 < w.heap.size := block_lt p3
  have r4 : b4 < w.heap.size := block_lt p4
  clear j1 j2 j3 j4
  have CL1 := Lib.hid (fun V => (Rless_any (gI S.U u) (gI F f) V).mono fun e w' ⟨he, hw⟩ => (⟨he, hw.symm⟩ : e = _ ∧ w' = V))
  have CL2 := Lib.hid (fun V => (Rless_any (gI S.He u) (gI S.Wo f) V).mono fun e w' ⟨he, hw⟩ => (⟨he, hw.symm⟩ : e = _ ∧ w' = V))
  have CS1 := Lib.hid (fun x V (hV : Below w.heap.size w V) => by have := Rset_any S.U u x (some ⟨b1, o1, none⟩) c1 V (i1.below hV) (by omega); simp only [List.length_set] at this; exact this)
  have CS4 := Lib.hid (fun x V (hV : Below w.heap.size w V) => by have := Rset_any S.He u x (some ⟨b4, o4, none⟩) c4 V (i4.below hV) (by omega); simp only [List.length_set, lh] at this; exact this)
  have hne1 : S.U ≠ [] := by intro e; simp [e] at hu
  have hne4 : S.He ≠ [] := by intro e; simp [e] at lh; omega
  generalize gI S.U u = xu at *
  generalize gI F f = xf at *
  generalize gI S.Wo f = xw at *
  generalize gI S.He u = xh at *
  go_enter Tryd.func21, Tryd.ntmps21
  go_wp2_with fail
  have hX := (((BoxN.new w 38 #[.slice (some ⟨b1, o1, none⟩) S.U.length c1, .slice (some ⟨b2, o2, none⟩) F.length c2, .slice (some ⟨b3, o3, none⟩) F.length c3, .slice (some ⟨b4, o4, none⟩) S.U.length c4]).alloc (.cells #[.int .i64 0, .int .i64 u, .int .i64 f, .int .i64 t] 31)).alloc (.cells #[.slice none 0 0, .slice none 0 0, .slice none 0 0, .slice none 0 0] 38))
  have hY := (BoxN.new (w.alloc (.cells #[.slice (some ⟨b1, o1, none⟩) S.U.length c1, .slice (some ⟨b2, o2, none⟩) F.length c2, .slice (some ⟨b3, o3, none⟩) F.length c3, .slice (some ⟨b4, o4, none⟩) S.U.length c4] 38)) 31 #[.int .i64 0, .int .i64 u, .int .i64 f, .int .i64 t]).alloc (.cells #[.slice none 0 0, .slice none 0 0, .slice none 0 0, .slice none 0 0] 38)
  have hZ := BoxN.new ((w.alloc (.cells #[.slice (some ⟨b1, o1, none⟩) S.U.length c1, .slice (some ⟨b2, o2, none⟩) F.length c2, .slice (some ⟨b3, o3, none⟩) F.length c3, .slice (some ⟨b4, o4, none⟩) S.U.length c4] 38)).alloc (.cells #[.int .i64 0, .int .i64 u, .int .i64 f, .int .i64 t] 31)) 38 #[.slice none 0 0, .slice none 0 0, .slice none 0 0, .slice none 0 0]
  have hb : Below w.heap.size w (((w.alloc (.cells #[.slice (some ⟨b1, o1, none⟩) S.U.length c1, .slice (some ⟨b2, o2, none⟩) F.length c2, .slice (some ⟨b3, o3, none⟩) F.length c3, .slice (some ⟨b4, o4, none⟩) S.U.length c4] 38)).alloc (.cells #[.int .i64 0, .int .i64 u, .int .i64 f, .int .i64 t] 31)).alloc (.cells #[.slice none 0 0, .slice none 0 0, .slice none 0 0, .slice none 0 0] 38)) := (((Below.refl _ _).alloc (Nat.le_refl _) _).alloc (by simp) _).alloc (by simp; omega) _
  have hsz : (((w.alloc (.cells #[.slice (some ⟨b1, o1, none⟩) S.U.length c1, .slice (some ⟨b2, o2, none⟩) F.length c2, .slice (some ⟨b3, o3, none⟩) F.length c3, .slice (some ⟨b4, o4, none⟩) S.U.length c4] 38)).alloc (.cells #[.int .i64 0, .int .i64 u, .int .i64 f, .int .i64 t] 31)).alloc (.cells #[.slice none 0 0, .slice none 0 0, .slice none 0 0, .slice none 0 0] 38)).heap.size = w.heap.size + 3 := by simp
  simp only [World.size_alloc] at hY hZ
  generalize ((w.alloc (.cells #[.slice (some ⟨b1, o1, none⟩) S.U.length c1, .slice (some ⟨b2, o2, none⟩) F.length c2, .slice (some ⟨b3, o3, none⟩) F.length c3, .slice (some ⟨b4, o4, none⟩) S.U.length c4] 38)).alloc (.cells #[.int .i64 0, .int .i64 u, .int .i64 f, .int .i64 t] 31)).alloc (.cells #[.slice none 0 0, .slice none 0 0, .slice none 0 0, .slice none 0 0] 38) = wa at *
  have x0 := hX.cell (k := 0) rfl
  have x1 := hX.cell (k := 1) rfl
  have x2 := hX.cell (k := 2) rfl
  have x3 := hX.cell (k := 3) rfl
  have y0 := hY.cell (k := 0) rfl
  have y1 := hY.cell (k := 1) rfl
  have y2 := hY.cell (k := 2) rfl
  have z0 := hZ.cell (k := 0) rfl
  have z1 := hZ.cell (k := 1) rfl
  have z2 := hZ.cell (k := 2) rfl
  have z3 := hZ.cell (k := 3) rfl
  have fz0 := hZ.free 0
  have fz1 := hZ.free 1
  have fz2 := hZ.free 2
  have fz3 := hZ.free 3
  have fx0 := hX.free 0
  have fx1 := hX.free 1
  have fx2 := hX.free 2
  have fx3 := hX.free 3
  have q1a := (hb.cell (p := ⟨b1, _, none⟩) r1).trans p1
  have q2a := (hb.cell (p := ⟨b2, _, none⟩) r2).trans p2
  have q3a := (hb.cell (p := ⟨b3, _, none⟩) r3).trans p3
  have q4a := (hb.cell (p := ⟨b4, _, none⟩) r4).trans p4
  refine (C1.out _).mono ?_
  rintro e w' ⟨rfl, rfl⟩
  go_wp2_with (first | (go_at_call 42; with_reducible refine (C1.out _).mono ?_; rintro e w' ⟨rfl, rfl⟩) | (go_at_call 42; with_reducible refine (C2.out _).mono ?_; rintro e w' ⟨rfl, rfl⟩) | (go_at_call 42; with_reducible refine (C3.out _).mono ?_; rintro e w' ⟨rfl, rfl⟩))
  refine wp_still_tailD 17 (by kernel_rfl) (by kernel_rfl) ?_
  simp only [List.take_succ_cons, List.take_zero, List.drop_succ_cons, List.drop_zero]
  repeat (first | still_step | still_call (CL1.out _))
  refine wpStill_nil ?_
  go_wp2_with fail
  refine (CS1.out _ _ (belowD hb _)).mono ?_
  rintro e w1 ⟨⟨A1, d1, rfl, -, hown⟩, hb1⟩
  obtain ⟨g1, rfl, hg, ho⟩ := hown hne1
  have hk1 : w.heap.size ≤ g1 := Nat.le_trans (by show w.heap.size ≤ wa.heap.size; omega) hg
  have hX1 := (hX.drewN 1).all hb1
  have hY1 := (hY.drewN 1).all hb1
  have hZ1 := (hZ.drewN 1).all hb1
  have hs1 : w.heap.size + 3 ≤ w1.heap.size := by have := hb1.size; simp only [World.heap_drewN] at this; omega
  have hb01 : Below w.heap.size w w1 := (belowD hb 1).trans (hb1.mono (by show w.heap.size ≤ wa.heap.size; omega))
  have ngX : g1 ≠ w.heap.size := ho.ne_box hX1 (by decide)
  have ngZ : g1 ≠ w.heap.size + 1 + 1 := ho.ne_box hZ1 (by decide)
  clear x0 x1 x2 x3 y0 y1 y2 z0 z1 z2 z3 fx0 fx1 fx2 fx3 fz0 fz1 fz2 fz3 q1a q2a q3a q4a
  clear C1 C2 C3 hown hX hY hZ CS1 CL1
  have x0 := hX1.cell (k := 0) rfl
  have x1 := hX1.cell (k := 1) rfl
  have x2 := hX1.cell (k := 2) rfl
  have x3 := hX1.cell (k := 3) rfl
  have z0 := hZ1.cell (k := 0) rfl
  have z1 := hZ1.cell (k := 1) rfl
  have z2 := hZ1.cell (k := 2) rfl
  have z3 := hZ1.cell (k := 3) rfl
  have fx0 := hX1.free 0
  have fx1 := hX1.free 1
  have fx2 := hX1.free 2
  have fx3 := hX1.free 3
  have fz0 := hZ1.free 0
  have fz1 := hZ1.free 1
  have fz2 := hZ1.free 2
  have fz3 := hZ1.free 3
  go_wp2_with fail
  have hX2 := hX1.set 0 (.slice (some ⟨g1, 0, none⟩) S.U.length d1)
  have hY2 := hY1.other (a := ⟨w.heap.size, 0, none⟩) (by simp) (.slice (some ⟨g1, 0, none⟩) S.U.length d1)
  have hZ2 := hZ1.other (a := ⟨w.heap.size, 0, none⟩) (by simp; omega) (.slice (some ⟨g1, 0, none⟩) S.U.length d1)
  have ho2 := ho.far (a := ⟨w.heap.size, 0, none⟩) ngX (.slice (some ⟨g1, 0, none⟩) S.U.length d1)
  have hb02 := hb01.setCell (p := ⟨w.heap.size, 0, none⟩) (by simp) (.slice (some ⟨g1, 0, none⟩) S.U.length d1)
  have hs2 : w.heap.size + 3 ≤ (w1.setCell ⟨w.heap.size, 0, none⟩ (.slice (some ⟨g1, 0, none⟩) S.U.length d1)).heap.size := by simpa using hs1
  have hX2 : BoxN _ _ _ #[.slice (some ⟨g1, 0, none⟩) S.U.length d1, .slice (some ⟨b2, o2, none⟩) F.length c2, .slice (some ⟨b3, o3, none⟩) F.length c3, .slice (some ⟨b4, o4, none⟩) S.U.length c4] := hX2
  clear x0 x1 x2 x3 z0 z1 z2 z3 fx0 fx1 fx2 fx3 fz0 fz1 fz2 fz3 hX1 hY1 hZ1 hb01 hb1 ho hb hs1
  generalize w1.setCell ⟨w.heap.size, 0, none⟩ (.slice (some ⟨g1, 0, none⟩) S.U.length d1) = w2 at *
  have x0 := hX2.cell (k := 0) rfl
  have x1 := hX2.cell (k := 1) rfl
  have x2 := hX2.cell (k := 2) rfl
  have x3 := hX2.cell (k := 3) rfl
  have z0 := hZ2.cell (k := 0) rfl
  have z1 := hZ2.cell (k := 1) rfl
  have z2 := hZ2.cell (k := 2) rfl
  have z3 := hZ2.cell (k := 3) rfl
  have fx0 := hX2.free 0
  have fx1 := hX2.free 1
  have fx2 := hX2.free 2
  have fx3 := hX2.free 3
  have fz0 := hZ2.free 0
  have fz1 := hZ2.free 1
  have fz2 := hZ2.free 2
  have fz3 := hZ2.free 3
  have y1 := hY2.cell (k := 1) rfl
  have y2 := hY2.cell (k := 2) rfl
  have q1b := (hb02.cell (p := ⟨b1, _, none⟩) r1).trans p1
  have q2b := (hb02.cell (p := ⟨b2, _, none⟩) r2).trans p2
  have q3b := (hb02.cell (p := ⟨b3, _, none⟩) r3).trans p3
  have q4b := (hb02.cell (p := ⟨b4, _, none⟩) r4).trans p4
  refine wp_still_tailD 17 (by kernel_rfl) (by kernel_rfl) ?_
  simp only [List.take_succ_cons, List.take_zero, List.drop_succ_cons, List.drop_zero]
  repeat (first | still_step | still_call (CL2.out _))
  refine wpStill_nil ?_
  go_wp2_with fail
  refine (CS4.out _ _ (belowD hb02 _)).mono ?_
  rintro e w3 ⟨⟨A4, d4, rfl, -, hown⟩, hb3⟩
  obtain ⟨g4, rfl, hg4, ho4⟩ := hown hne4
  have hk4 : w.heap.size ≤ g4 := Nat.le_trans (by show w.heap.size ≤ w2.heap.size; omega) hg4
  have hX3 := (hX2.drewN 1).all hb3
  have hZ3 := (hZ2.drewN 1).all hb3
  have ho3 := (ho2.drewN 1).all hb3
  have hb03 : Below w.heap.size w w3 := (belowD hb02 1).trans (hb3.mono (by show w.heap.size ≤ w2.heap.size; omega))
  have mgX : g4 ≠ w.heap.size := ho4.ne_box hX3 (by decide)
  have mgZ : g4 ≠ w.heap.size + 1 + 1 := ho4.ne_box hZ3 (by decide)
  clear x0 x1 x2 x3 y1 y2 z0 z1 z2 z3 fx0 fx1 fx2 fx3 fz0 fz1 fz2 fz3 q1b q2b q3b q4b
  clear hown hX2 hY2 hZ2 ho2 hb02 hb3 hs2 CS4 CL2
  have x0 := hX3.cell (k := 0) rfl
  have x1 := hX3.cell (k := 1) rfl
  have x2 := hX3.cell (k := 2) rfl
  have x3 := hX3.cell (k := 3) rfl
  have z0 := hZ3.cell (k := 0) rfl
  have z1 := hZ3.cell (k := 1) rfl
  have z2 := hZ3.cell (k := 2) rfl
  have z3 := hZ3.cell (k := 3) rfl
  have fx0 := hX3.free 0
  have fx1 := hX3.free 1
  have fx2 := hX3.free 2
  have fx3 := hX3.free 3
  have fz0 := hZ3.free 0
  have fz1 := hZ3.free 1
  have fz2 := hZ3.free 2
  have fz3 := hZ3.free 3
  go_wp2_with fail
  have hR := ((((hZ3.other (a := ⟨w.heap.size, 3, none⟩) (by simp; omega) (.slice (some ⟨g4, 0, none⟩) S.U.length d4)).set 0 (.slice (some ⟨g1, 0, none⟩) S.U.length d1)).set 1 (.slice (some ⟨b2, o2, none⟩) F.length c2)).set 2 (.slice (some ⟨b3, o3, none⟩) F.length c3)).set 3 (.slice (some ⟨g4, 0, none⟩) S.U.length d4)
  refine bodyPost_ret (results_row_tmp rfl _ _ (w.heap.size + 1 + 1) 38 #[.slice (some ⟨g1, 0, none⟩) S.U.length d1, .slice (some ⟨b2, o2, none⟩) F.length c2, .slice (some ⟨b3, o3, none⟩) F.length c3, .slice (some ⟨g4, 0, none⟩) S.U.length d4] (0, 0) _ rfl hR Tryd.underlying38 rfl (by kernel_rfl)) rfl ?_
  have hof1 := ((((ho3.far (a := ⟨w.heap.size, 3, none⟩) ngX (.slice (some ⟨g4, 0, none⟩) S.U.length d4)).far (a := ⟨w.heap.size + 1 + 1, 0, none⟩) ngZ (.slice (some ⟨g1, 0, none⟩) S.U.length d1)).far (a := ⟨w.heap.size + 1 + 1, 1, none⟩) ngZ (.slice (some ⟨b2, o2, none⟩) F.length c2)).far (a := ⟨w.heap.size + 1 + 1, 2, none⟩) ngZ (.slice (some ⟨b3, o3, none⟩) F.length c3)).far (a := ⟨w.heap.size + 1 + 1, 3, none⟩) ngZ (.slice (some ⟨g4, 0, none⟩) S.U.length d4)
  have hof4 := ((((ho4.far (a := ⟨w.heap.size, 3, none⟩) mgX (.slice (some ⟨g4, 0, none⟩) S.U.length d4)).far (a := ⟨w.heap.size + 1 + 1, 0, none⟩) mgZ (.slice (some ⟨g1, 0, none⟩) S.U.length d1)).far (a := ⟨w.heap.size + 1 + 1, 1, none⟩) mgZ (.slice (some ⟨b2, o2, none⟩) F.length c2)).far (a := ⟨w.heap.size + 1 + 1, 2, none⟩) mgZ (.slice (some ⟨b3, o3, none⟩) F.length c3)).far (a := ⟨w.heap.size + 1 + 1, 3, none⟩) mgZ (.slice (some ⟨g4, 0, none⟩) S.U.length d4)
  have hbf := ((((hb03.setCell (p := ⟨w.heap.size, 3, none⟩) (by simp) (.slice (some ⟨g4, 0, none⟩) S.U.length d4)).setCell (p := ⟨w.heap.size + 1 + 1, 0, none⟩) (by simp; omega) (.slice (some ⟨g1, 0, none⟩) S.U.length d1)).setCell (p := ⟨w.heap.size + 1 + 1, 1, none⟩) (by simp; omega) (.slice (some ⟨b2, o2, none⟩) F.length c2)).setCell (p := ⟨w.heap.size + 1 + 1, 2, none⟩) (by simp; omega) (.slice (some ⟨b3, o3, none⟩) F.length c3)).setCell (p := ⟨w.heap.size + 1 + 1, 3, none⟩) (by simp; omega) (.slice (some ⟨g4, 0, none⟩) S.U.length d4)
  exact ⟨⟨_, rfl, ⟨some ⟨g1, 0, none⟩, some ⟨b2, o2, none⟩, some ⟨b3, o3, none⟩, some ⟨g4, 0, none⟩, d1, c2, c3, d4, by simp [lw, lh], ⟨hof1.ints, fun b off e _ => by cases e; exact hok _ hk1⟩, ⟨i2.below hbf, k2⟩, ⟨i3.below hbf, k3⟩, ⟨hof4.ints, fun b off e _ => by cases e; exact hok _ hk4⟩⟩⟩, hbf⟩

theorem AskBiba_any {v : Value} (h : RB ok w v F S) (hok : ∀ b, w.heap.size ≤ b → ok b) (lw : S.Wo.length = F.length) (lh : S.He.length = S.U.length) (hl : S.U.length ≤ 100) (hl2 : F.length ≤ 100) (k u f t : Int) :
    Calls Tryd.prog 21 #[v, .agg #[.int .i64 k, .int .i64 u, .int .i64 f, .int .i64 t]] w fun e w' => (∃ v', e = .returned (.tuple #[v', .int .i64 (bAsk F S k u f).2]) ∧ RB ok w' v' F (bAsk F S k u f).1) ∧ Below w.heap.size w w' := by
  obtain ⟨a1, a2, a3, a4, c1, c2, c3, c4, rfl, ⟨i1, k1⟩, ⟨i2, k2⟩, ⟨i3, k3⟩, ⟨i4, k4⟩⟩ := h.is
  by_cases hbok : bOk F S k u f
  · obtain ⟨hk, ⟨hu0, hu1⟩, hf0, hf1⟩ := id hbok
    unfold bAsk
    rw [if_pos hbok]
    obtain ⟨un, rfl⟩ := Int.eq_ofNat_of_zero_le hu0
    obtain ⟨fn, rfl⟩ := Int.eq_ofNat_of_zero_le hf0
    have hu : un < S.U.length := by omega
    have hf : fn < F.length := by omega
    by_cases hk0 : k = 0
    · rw [if_pos hk0]
      subst hk0
      exact AskBiba_read i1 i2 i3 i4 k1 k2 k3 k4 hok lw lh hl hl2 un fn t hu hf
    · rw [if_neg hk0]
      obtain rfl : k = 1 := by omega
      split
      · rename_i hd
        exact (AskBiba_denied i1 i2 i3 i4 lw lh hl hl2 un fn t hu hf hd).mono fun e w' ⟨he, hb⟩ => ⟨⟨_, he, h.below hb⟩, hb⟩
      · rename_i hd
        exact AskBiba_write i1 i2 i3 i4 k1 k2 k3 k4 hok lw lh hl hl2 un fn t hu hf hd
  · unfold bAsk
    rw [if_neg hbok]
    exact (AskBiba_range i1 i2 i3 i4 hl hl2 k u f t hbok).mono fun e w' ⟨he, hb⟩ => ⟨⟨_, he, h.below hb⟩, hb⟩

end
end Go.Proofs.YtodikdmmmfeddaaDoor
