/-
  Contract: quietwingref5.act, where sets are told.
-/
import Derived.Test.YtanlmfnhlldkeaaGreatDoorRDsC
import Derived.Test.YtanlmfnhlldkeaaGreatDoorDkCA
import Derived.Deep.RegionHeld3
namespace Go.Proofs.YtanlmfnhlldkeaaGreatDoor
open Go.RowKit
set_option maxRecDepth 100000
set_option linter.unusedVariables false

theorem drew_heapD (V : World) : V.drew.heap = V.heap := rfl
theorem drew_cellD (V : World) (a : Addr) : V.drew.cell? a = V.cell? a := rfl
theorem drew_boxD {V : World} {b : Nat} {t : TypeId} {vs : Array Value} (h : BoxN V b t vs) : BoxN V.drew b t vs := h
theorem drew_belowD {B : Nat} {w V : World} (h : Below B w V) : Below B w V.drew := ⟨h.os, h.tape, h.output, h.size, h.block⟩
theorem drew_ints {V : World} {A : Option Addr} {l : List Int} (h : IntsAt V A l) : IntsAt V.drew A l := h
section
variable {w w' V : World} {b g B : Nat} {t : TypeId}
theorem BoxN.put11 {x0 x1 x2 x3 x4 x5 x6 x7 x8 x9 x10 : Value} (h : BoxN w b t #[x0, x1, x2, x3, x4, x5, x6, x7, x8, x9, x10]) (y0 y1 y2 y3 y4 y5 y6 y7 y8 y9 y10 : Value) : BoxN (((((((((((w.setCell ⟨b, 0, none⟩ y0).setCell ⟨b, 1, none⟩ y1).setCell ⟨b, 2, none⟩ y2).setCell ⟨b, 3, none⟩ y3).setCell ⟨b, 4, none⟩ y4).setCell ⟨b, 5, none⟩ y5).setCell ⟨b, 6, none⟩ y6).setCell ⟨b, 7, none⟩ y7).setCell ⟨b, 8, none⟩ y8).setCell ⟨b, 9, none⟩ y9).setCell ⟨b, 10, none⟩ y10) b t #[y0, y1, y2, y3, y4, y5, y6, y7, y8, y9, y10] := by
  have := ((((((((((h.set 0 y0).set 1 y1).set 2 y2).set 3 y3).set 4 y4).set 5 y5).set 6 y6).set 7 y7).set 8 y8).set 9 y9).set 10 y10
  simp only [List.setIfInBounds_toArray, List.set_cons_succ, List.set_cons_zero] at this
  exact this
theorem heap_put11 (y0 y1 y2 y3 y4 y5 y6 y7 y8 y9 y10 : Value) (ha : b ≠ g) : (((((((((((V.setCell ⟨g, 0, none⟩ y0).setCell ⟨g, 1, none⟩ y1).setCell ⟨g, 2, none⟩ y2).setCell ⟨g, 3, none⟩ y3).setCell ⟨g, 4, none⟩ y4).setCell ⟨g, 5, none⟩ y5).setCell ⟨g, 6, none⟩ y6).setCell ⟨g, 7, none⟩ y7).setCell ⟨g, 8, none⟩ y8).setCell ⟨g, 9, none⟩ y9).setCell ⟨g, 10, none⟩ y10).heap[b]? = V.heap[b]? := by
  rw [Below.heap_setCell _ _ _ _ ha, Below.heap_setCell _ _ _ _ ha, Below.heap_setCell _ _ _ _ ha, Below.heap_setCell _ _ _ _ ha, Below.heap_setCell _ _ _ _ ha, Below.heap_setCell _ _ _ _ ha, Below.heap_setCell _ _ _ _ ha, Below.heap_setCell _ _ _ _ ha, Below.heap_setCell _ _ _ _ ha, Below.heap_setCell _ _ _ _ ha, Below.heap_setCell _ _ _ _ ha]
theorem cell_put11 {a : Addr} {v : Value} (y0 y1 y2 y3 y4 y5 y6 y7 y8 y9 y10 : Value) (ha : a.block ≠ g) (h : V.cell? a = some v) : (((((((((((V.setCell ⟨g, 0, none⟩ y0).setCell ⟨g, 1, none⟩ y1).setCell ⟨g, 2, none⟩ y2).setCell ⟨g, 3, none⟩ y3).setCell ⟨g, 4, none⟩ y4).setCell ⟨g, 5, none⟩ y5).setCell ⟨g, 6, none⟩ y6).setCell ⟨g, 7, none⟩ y7).setCell ⟨g, 8, none⟩ y8).setCell ⟨g, 9, none⟩ y9).setCell ⟨g, 10, none⟩ y10).drew.cell? a = some v :=
  (drew_cellD _ _).trans ((World.cell?_of_block (a := a) (heap_put11 _ _ _ _ _ _ _ _ _ _ _ ha)).trans h)
theorem below_put11 (h : Below B w w') (hg : B ≤ g) (y0 y1 y2 y3 y4 y5 y6 y7 y8 y9 y10 : Value) : Below B w (((((((((((w'.setCell ⟨g, 0, none⟩ y0).setCell ⟨g, 1, none⟩ y1).setCell ⟨g, 2, none⟩ y2).setCell ⟨g, 3, none⟩ y3).setCell ⟨g, 4, none⟩ y4).setCell ⟨g, 5, none⟩ y5).setCell ⟨g, 6, none⟩ y6).setCell ⟨g, 7, none⟩ y7).setCell ⟨g, 8, none⟩ y8).setCell ⟨g, 9, none⟩ y9).setCell ⟨g, 10, none⟩ y10) :=
  (((((((((((h.setCell (p := ⟨g, 0, none⟩) hg _).setCell (p := ⟨g, 1, none⟩) hg _).setCell (p := ⟨g, 2, none⟩) hg _).setCell (p := ⟨g, 3, none⟩) hg _).setCell (p := ⟨g, 4, none⟩) hg _).setCell (p := ⟨g, 5, none⟩) hg _).setCell (p := ⟨g, 6, none⟩) hg _).setCell (p := ⟨g, 7, none⟩) hg _).setCell (p := ⟨g, 8, none⟩) hg _).setCell (p := ⟨g, 9, none⟩) hg _).setCell (p := ⟨g, 10, none⟩) hg _)
theorem BoxN.st11 {x0 x1 x2 x3 x4 x5 x6 x7 x8 x9 x10 : Value} (h : BoxN w b t #[x0, x1, x2, x3, x4, x5, x6, x7, x8, x9, x10]) : (w.cell? ⟨b, 0, none⟩ = some x0 ∧ w.cell? ⟨b, 1, none⟩ = some x1 ∧ w.cell? ⟨b, 2, none⟩ = some x2 ∧ w.cell? ⟨b, 3, none⟩ = some x3 ∧ w.cell? ⟨b, 4, none⟩ = some x4 ∧ w.cell? ⟨b, 5, none⟩ = some x5 ∧ w.cell? ⟨b, 6, none⟩ = some x6 ∧ w.cell? ⟨b, 7, none⟩ = some x7 ∧ w.cell? ⟨b, 8, none⟩ = some x8 ∧ w.cell? ⟨b, 9, none⟩ = some x9 ∧ w.cell? ⟨b, 10, none⟩ = some x10) ∧ w.frozen? ⟨b, 0, none⟩ = false ∧ w.frozen? ⟨b, 1, none⟩ = false ∧ w.frozen? ⟨b, 2, none⟩ = false ∧ w.frozen? ⟨b, 3, none⟩ = false ∧ w.frozen? ⟨b, 4, none⟩ = false ∧ w.frozen? ⟨b, 5, none⟩ = false ∧ w.frozen? ⟨b, 6, none⟩ = false ∧ w.frozen? ⟨b, 7, none⟩ = false ∧ w.frozen? ⟨b, 8, none⟩ = false ∧ w.frozen? ⟨b, 9, none⟩ = false ∧ w.frozen? ⟨b, 10, none⟩ = false :=
  ⟨⟨h.cell rfl, h.cell rfl, h.cell rfl, h.cell rfl, h.cell rfl, h.cell rfl, h.cell rfl, h.cell rfl, h.cell rfl, h.cell rfl, h.cell rfl⟩, h.free 0, h.free 1, h.free 2, h.free 3, h.free 4, h.free 5, h.free 6, h.free 7, h.free 8, h.free 9, h.free 10⟩
end
section
variable {ok : Nat → Prop} {W0 w : World} {D : DS} {T : TS} {a1 a2 : Option Addr} {c1 c2 m n : Nat} {b1 b2 b3 b4 b5 : Option Addr} {k1 d1 k2 d2 k3 d3 k4 d4 k5 d5 : Nat} {ts : ByteArray} {mn ch : Int}
theorem RT.vals {U F : List Int} (h : RT ok w (.agg #[.slice b1 k1 d1, .slice b2 k2 d2, .slice b3 k3 d3, .slice b4 k4 d4, .slice b5 k5 d5, .string ts, .int .i64 mn, .int .i64 ch]) U F T) : (k1 = T.S.Re.length ∧ k2 = T.S.Ho.length ∧ k3 = T.S.Re.length ∧ k4 = T.S.Re.length ∧ k5 = T.S.Ho.length ∧ ts = ⟨T.log.toArray⟩ ∧ mn = (T.many : Int) ∧ ch = (T.chain : Int)) ∧ IntsAt w b3 (castL T.S.Re) ∧ IntsAt w b4 (castL T.S.Wr) ∧ IntsAt w b5 (castL T.S.Ho) := by
  obtain ⟨x1, x2, x3, x4, x5, z1, z2, z3, z4, z5, e, i1, i2, i3, i4, i5⟩ := h.is
  injection e with e
  unfold rtV at e
  simp only [Array.mk.injEq, List.cons.injEq, Value.slice.injEq, Value.string.injEq, Value.int.injEq, true_and, and_true] at e
  obtain ⟨⟨rfl, h1, rfl⟩, ⟨rfl, h2, rfl⟩, ⟨rfl, h3, rfl⟩, ⟨rfl, h4, rfl⟩, ⟨rfl, h5, rfl⟩, h6, h7, h8⟩ := e
  exact ⟨⟨h1, h2, h3, h4, h5, h6, h7, h8⟩, i3.1, i4.1, i5.1⟩
theorem RDAt.opened {up : Bool} (h : RDAt ok w (.agg #[.slice a1 m c1, .slice a2 n c2, .slice b1 k1 d1, .slice b2 k2 d2, .slice b3 k3 d3, .slice b4 k4 d4, .slice b5 k5 d5, .string ts, .int .i64 mn, .int .i64 ch, .bool up]) D) : (m = D.m ∧ n = D.n ∧ up = D.T.isSome) ∧ IntsIn ok w a1 D.U ∧ IntsIn ok w a2 D.F ∧ ∀ T, D.T = some T → RT ok w (.agg #[.slice b1 k1 d1, .slice b2 k2 d2, .slice b3 k3 d3, .slice b4 k4 d4, .slice b5 k5 d5, .string ts, .int .i64 mn, .int .i64 ch]) D.U D.F T := by
  obtain ⟨p1, p2, q1, q2, r1, r2, r3, r4, r5, s1, z1, s2, z2, s3, z3, s4, z4, s5, z5, ts', mn', ch', e, i1, i2, i3⟩ := h.is
  injection e with e
  simp only [Array.mk.injEq, List.cons.injEq, Value.slice.injEq, Value.string.injEq, Value.int.injEq, Value.bool.injEq, true_and, and_true] at e
  obtain ⟨⟨rfl, h1, rfl⟩, ⟨rfl, h2, rfl⟩, ⟨rfl, rfl, rfl⟩, ⟨rfl, rfl, rfl⟩, ⟨rfl, rfl, rfl⟩, ⟨rfl, rfl, rfl⟩, ⟨rfl, rfl, rfl⟩, rfl, rfl, rfl, h3⟩ := e
  exact ⟨⟨h1, h2, h3⟩, i1, i2, i3⟩
set_option maxHeartbeats 8000000 in
theorem actReads_do (hR : RDAt ok W0 (.agg #[.slice a1 m c1, .slice a2 n c2, .slice b1 k1 d1, .slice b2 k2 d2, .slice b3 k3 d3, .slice b4 k4 d4, .slice b5 k5 d5, .string ts, .int .i64 mn, .int .i64 ch, .bool true]) D) (hT : D.T = some T) (hl : TLen D.m D.n D.U D.F T) (h8 : D.m ≤ 8 ∧ D.n ≤ 8) (hbW : Below W0.heap.size W0 w) (s : ByteArray) {g o c x : Nat} (hx : w.cell? ⟨g, o, none⟩ = some (.int .i64 (x : Int))) :
    Calls Tryz.prog 66 #[.agg #[.slice a1 m c1, .slice a2 n c2, .slice b1 k1 d1, .slice b2 k2 d2, .slice b3 k3 d3, .slice b4 k4 d4, .slice b5 k5 d5, .string ts, .int .i64 mn, .int .i64 ch, .bool true], .string s, .string ⟨#[114, 101, 97, 100, 115]⟩, .slice (some ⟨g, o, none⟩) 1 c] w fun e w' => RDPost ok W0 (D, setV [114, 101, 97, 100, 115] (told T.S.Re (x : Int))) e w' := by
  obtain ⟨-, -, -, hrt⟩ := hR.opened
  have hv := (hrt T hT).vals
  obtain ⟨W, hW⟩ : ∃ W, (w.alloc (.cells #[.slice a1 m c1, .slice a2 n c2, .slice b1 k1 d1, .slice b2 k2 d2, .slice b3 k3 d3, .slice b4 k4 d4, .slice b5 k5 d5, .string ts, .int .i64 mn, .int .i64 ch, .bool true] 103)).alloc (.cells #[.slice none 0 0, .slice none 0 0, .slice none 0 0, .slice none 0 0, .slice none 0 0, .slice none 0 0, .slice none 0 0, .string ⟨#[]⟩, .int .i64 0, .int .i64 0, .bool false] 103) = W := ⟨_, rfl⟩
  have hxb : BoxN W w.heap.size 103 #[.slice a1 m c1, .slice a2 n c2, .slice b1 k1 d1, .slice b2 k2 d2, .slice b3 k3 d3, .slice b4 k4 d4, .slice b5 k5 d5, .string ts, .int .i64 mn, .int .i64 ch, .bool true] := by rw [← hW]; exact (BoxN.new _ _ _).alloc _
  have hzb : BoxN W (w.heap.size + 1) 103 #[.slice none 0 0, .slice none 0 0, .slice none 0 0, .slice none 0 0, .slice none 0 0, .slice none 0 0, .slice none 0 0, .string ⟨#[]⟩, .int .i64 0, .int .i64 0, .bool false] := by rw [← hW]; exact BoxN.new' _ _ _ _ (by simp)
  have hbb : Below W0.heap.size W0 W := by rw [← hW]; exact act_boxes hbW _ _ _
  have hwW : Below w.heap.size w W := by rw [← hW]; exact ((Below.refl _ _).alloc (Nat.le_refl _) _).alloc (by simp) _
  have hx' := (hwW.cell (p := ⟨g, o, none⟩) (block_lt hx)).trans hx
  have hg := block_lt hx
  have hlen : T.S.Re.length = k3 := by have := hv.1; have h1 := hl.inv.inv; have h2 := hl.re; have h3 := hl.ho; omega
  have hk8 : k3 ≤ 8 := by have h2 := hl.re; have h3 := hl.ho; have := hv.1; omega
  have HO := Lib.hid (ROf_any (w := W.drew) (c := d3) (drew_ints (hv.2.1.below hbb)) hlen x (by omega))
  have HFi := Lib.hid (RFiles_any [114, 101, 97, 100, 115] (by decide) (told T.S.Re (x : Int)) (told_lt hl x).1 W.drew)
  obtain ⟨⟨x0, x1, x2, x3, x4, x5, x6, x7, x8, x9, x10⟩, -⟩ := BoxN.st11 hxb
  obtain ⟨⟨z0, z1, z2, z3, z4, z5, z6, z7, z8, z9, z10⟩, f0, f1, f2, f3, f4, f5, f6, f7, f8, f9, f10⟩ := BoxN.st11 hzb
  have HSt := Lib.hid (fun (y0 y1 y2 y3 y4 y5 y6 y7 y8 y9 y10 : Value) => And.intro (cell_put11 (V := W) (g := w.heap.size + 1) y0 y1 y2 y3 y4 y5 y6 y7 y8 y9 y10 (by show w.heap.size ≠ _; omega) x0) (And.intro (cell_put11 (V := W) (g := w.heap.size + 1) y0 y1 y2 y3 y4 y5 y6 y7 y8 y9 y10 (by show w.heap.size ≠ _; omega) x1) (And.intro (cell_put11 (V := W) (g := w.heap.size + 1) y0 y1 y2 y3 y4 y5 y6 y7 y8 y9 y10 (by show w.heap.size ≠ _; omega) x2) (And.intro (cell_put11 (V := W) (g := w.heap.size + 1) y0 y1 y2 y3 y4 y5 y6 y7 y8 y9 y10 (by show w.heap.size ≠ _; omega) x3) (And.intro (cell_put11 (V := W) (g := w.heap.size + 1) y0 y1 y2 y3 y4 y5 y6 y7 y8 y9 y10 (by show w.heap.size ≠ _; omega) x4) (And.intro (cell_put11 (V := W) (g := w.heap.size + 1) y0 y1 y2 y3 y4 y5 y6 y7 y8 y9 y10 (by show w.heap.size ≠ _; omega) x5) (And.intro (cell_put11 (V := W) (g := w.heap.size + 1) y0 y1 y2 y3 y4 y5 y6 y7 y8 y9 y10 (by show w.heap.size ≠ _; omega) x6) (And.intro (cell_put11 (V := W) (g := w.heap.size + 1) y0 y1 y2 y3 y4 y5 y6 y7 y8 y9 y10 (by show w.heap.size ≠ _; omega) x7) (And.intro (cell_put11 (V := W) (g := w.heap.size + 1) y0 y1 y2 y3 y4 y5 y6 y7 y8 y9 y10 (by show w.heap.size ≠ _; omega) x8) (And.intro (cell_put11 (V := W) (g := w.heap.size + 1) y0 y1 y2 y3 y4 y5 y6 y7 y8 y9 y10 (by show w.heap.size ≠ _; omega) x9) (And.intro (cell_put11 (V := W) (g := w.heap.size + 1) y0 y1 y2 y3 y4 y5 y6 y7 y8 y9 y10 (by show w.heap.size ≠ _; omega) x10) (cell_put11 (V := W) (g := w.heap.size + 1) y0 y1 y2 y3 y4 y5 y6 y7 y8 y9 y10 (by show g ≠ _; have hg2 : g < w.heap.size := hg; omega) hx'))))))))))))
  have HSd := Lib.hid (show W.drew.cell? ⟨w.heap.size, 0, none⟩ = some (.slice a1 m c1) ∧ W.drew.cell? ⟨w.heap.size, 1, none⟩ = some (.slice a2 n c2) ∧ W.drew.cell? ⟨w.heap.size, 2, none⟩ = some (.slice b1 k1 d1) ∧ W.drew.cell? ⟨w.heap.size, 3, none⟩ = some (.slice b2 k2 d2) ∧ W.drew.cell? ⟨w.heap.size, 4, none⟩ = some (.slice b3 k3 d3) ∧ W.drew.cell? ⟨w.heap.size, 5, none⟩ = some (.slice b4 k4 d4) ∧ W.drew.cell? ⟨w.heap.size, 6, none⟩ = some (.slice b5 k5 d5) ∧ W.drew.cell? ⟨w.heap.size, 7, none⟩ = some (.string ts) ∧ W.drew.cell? ⟨w.heap.size, 8, none⟩ = some (.int .i64 mn) ∧ W.drew.cell? ⟨w.heap.size, 9, none⟩ = some (.int .i64 ch) ∧ W.drew.cell? ⟨w.heap.size, 10, none⟩ = some (.bool true) ∧ W.drew.cell? ⟨g, o, none⟩ = some (.int .i64 (x : Int)) from ⟨x0, x1, x2, x3, x4, x5, x6, x7, x8, x9, x10, hx'⟩)
  have HZ := Lib.hid hzb
  have Hbf := Lib.hid (fun y0 y1 y2 y3 y4 y5 y6 y7 y8 y9 y10 => drew_belowD (below_put11 hbb (g := w.heap.size + 1) (by have := hbW.size; omega) y0 y1 y2 y3 y4 y5 y6 y7 y8 y9 y10))
  have HR := Lib.hid hR
  clear hR hT hl h8 hbW hx hrt hv hxb hzb hbb hwW hg
  go_enter Tryz.func66, Tryz.ntmps66
  go_wp2_with fail
  try rw [hW]
  clear hW
  go_region_held3 (fun V => V.cell? ⟨w.heap.size, 0, none⟩ = some (.slice a1 m c1) ∧ V.cell? ⟨w.heap.size, 1, none⟩ = some (.slice a2 n c2) ∧ V.cell? ⟨w.heap.size, 2, none⟩ = some (.slice b1 k1 d1) ∧ V.cell? ⟨w.heap.size, 3, none⟩ = some (.slice b2 k2 d2) ∧ V.cell? ⟨w.heap.size, 4, none⟩ = some (.slice b3 k3 d3) ∧ V.cell? ⟨w.heap.size, 5, none⟩ = some (.slice b4 k4 d4) ∧ V.cell? ⟨w.heap.size, 6, none⟩ = some (.slice b5 k5 d5) ∧ V.cell? ⟨w.heap.size, 7, none⟩ = some (.string ts) ∧ V.cell? ⟨w.heap.size, 8, none⟩ = some (.int .i64 mn) ∧ V.cell? ⟨w.heap.size, 9, none⟩ = some (.int .i64 ch) ∧ V.cell? ⟨w.heap.size, 10, none⟩ = some (.bool true) ∧ V.cell? ⟨g, o, none⟩ = some (.int .i64 (x : Int)))
    ((first | with_reducible exact HSd.out | exact HSt.out _ _ _ _ _ _ _ _ _ _ _))
    ((first
      | (go_at_call 97; with_reducible refine HO.out.mono ?_; rintro e w' ⟨rfl, rfl⟩)
      | (go_at_call 96; with_reducible refine HFi.out.mono ?_; rintro e w' ⟨rfl, rfl⟩)
      | fail))
  go_wp2_with fail
  refine bodyPost_ret (results_row_tmpD rfl _ _ (w.heap.size + 1) 103 #[.slice a1 m c1, .slice a2 n c2, .slice b1 k1 d1, .slice b2 k2 d2, .slice b3 k3 d3, .slice b4 k4 d4, .slice b5 k5 d5, .string ts, .int .i64 mn, .int .i64 ch, .bool true] (0, 0) _ rfl (drew_boxD (HZ.out.put11 _ _ _ _ _ _ _ _ _ _ _)) Tryz.underlying103 rfl (by kernel_rfl)) rfl ?_
  exact ⟨⟨_, rfl, HR.out.below (Hbf.out _ _ _ _ _ _ _ _ _ _ _)⟩, Hbf.out _ _ _ _ _ _ _ _ _ _ _⟩
set_option maxHeartbeats 8000000 in
theorem actWrites_do (hR : RDAt ok W0 (.agg #[.slice a1 m c1, .slice a2 n c2, .slice b1 k1 d1, .slice b2 k2 d2, .slice b3 k3 d3, .slice b4 k4 d4, .slice b5 k5 d5, .string ts, .int .i64 mn, .int .i64 ch, .bool true]) D) (hT : D.T = some T) (hl : TLen D.m D.n D.U D.F T) (h8 : D.m ≤ 8 ∧ D.n ≤ 8) (hbW : Below W0.heap.size W0 w) (s : ByteArray) {g o c x : Nat} (hx : w.cell? ⟨g, o, none⟩ = some (.int .i64 (x : Int))) :
    Calls Tryz.prog 66 #[.agg #[.slice a1 m c1, .slice a2 n c2, .slice b1 k1 d1, .slice b2 k2 d2, .slice b3 k3 d3, .slice b4 k4 d4, .slice b5 k5 d5, .string ts, .int .i64 mn, .int .i64 ch, .bool true], .string s, .string ⟨#[119, 114, 105, 116, 101, 115]⟩, .slice (some ⟨g, o, none⟩) 1 c] w fun e w' => RDPost ok W0 (D, setV [119, 114, 105, 116, 101, 115] (told T.S.Wr (x : Int))) e w' := by
  obtain ⟨-, -, -, hrt⟩ := hR.opened
  have hv := (hrt T hT).vals
  obtain ⟨W, hW⟩ : ∃ W, (w.alloc (.cells #[.slice a1 m c1, .slice a2 n c2, .slice b1 k1 d1, .slice b2 k2 d2, .slice b3 k3 d3, .slice b4 k4 d4, .slice b5 k5 d5, .string ts, .int .i64 mn, .int .i64 ch, .bool true] 103)).alloc (.cells #[.slice none 0 0, .slice none 0 0, .slice none 0 0, .slice none 0 0, .slice none 0 0, .slice none 0 0, .slice none 0 0, .string ⟨#[]⟩, .int .i64 0, .int .i64 0, .bool false] 103) = W := ⟨_, rfl⟩
  have hxb : BoxN W w.heap.size 103 #[.slice a1 m c1, .slice a2 n c2, .slice b1 k1 d1, .slice b2 k2 d2, .slice b3 k3 d3, .slice b4 k4 d4, .slice b5 k5 d5, .string ts, .int .i64 mn, .int .i64 ch, .bool true] := by rw [← hW]; exact (BoxN.new _ _ _).alloc _
  have hzb : BoxN W (w.heap.size + 1) 103 #[.slice none 0 0, .slice none 0 0, .slice none 0 0, .slice none 0 0, .slice none 0 0, .slice none 0 0, .slice none 0 0, .string ⟨#[]⟩, .int .i64 0, .int .i64 0, .bool false] := by rw [← hW]; exact BoxN.new' _ _ _ _ (by simp)
  have hbb : Below W0.heap.size W0 W := by rw [← hW]; exact act_boxes hbW _ _ _
  have hwW : Below w.heap.size w W := by rw [← hW]; exact ((Below.refl _ _).alloc (Nat.le_refl _) _).alloc (by simp) _
  have hx' := (hwW.cell (p := ⟨g, o, none⟩) (block_lt hx)).trans hx
  have hg := block_lt hx
  have hlen : T.S.Wr.length = k4 := by have := hv.1; have h1 := hl.inv.inv; have h2 := hl.re; have h3 := hl.ho; have h4 := hl.inv.inv.lw; omega
  have hk8 : k4 ≤ 8 := by have h2 := hl.re; have h3 := hl.ho; have := hv.1; omega
  have HO := Lib.hid (ROf_any (w := W.drew) (c := d4) (drew_ints (hv.2.2.1.below hbb)) hlen x (by omega))
  have HFi := Lib.hid (RFiles_any [119, 114, 105, 116, 101, 115] (by decide) (told T.S.Wr (x : Int)) (told_lt hl x).2.1 W.drew)
  obtain ⟨⟨x0, x1, x2, x3, x4, x5, x6, x7, x8, x9, x10⟩, -⟩ := BoxN.st11 hxb
  obtain ⟨⟨z0, z1, z2, z3, z4, z5, z6, z7, z8, z9, z10⟩, f0, f1, f2, f3, f4, f5, f6, f7, f8, f9, f10⟩ := BoxN.st11 hzb
  have HSt := Lib.hid (fun (y0 y1 y2 y3 y4 y5 y6 y7 y8 y9 y10 : Value) => And.intro (cell_put11 (V := W) (g := w.heap.size + 1) y0 y1 y2 y3 y4 y5 y6 y7 y8 y9 y10 (by show w.heap.size ≠ _; omega) x0) (And.intro (cell_put11 (V := W) (g := w.heap.size + 1) y0 y1 y2 y3 y4 y5 y6 y7 y8 y9 y10 (by show w.heap.size ≠ _; omega) x1) (And.intro (cell_put11 (V := W) (g := w.heap.size + 1) y0 y1 y2 y3 y4 y5 y6 y7 y8 y9 y10 (by show w.heap.size ≠ _; omega) x2) (And.intro (cell_put11 (V := W) (g := w.heap.size + 1) y0 y1 y2 y3 y4 y5 y6 y7 y8 y9 y10 (by show w.heap.size ≠ _; omega) x3) (And.intro (cell_put11 (V := W) (g := w.heap.size + 1) y0 y1 y2 y3 y4 y5 y6 y7 y8 y9 y10 (by show w.heap.size ≠ _; omega) x4) (And.intro (cell_put11 (V := W) (g := w.heap.size + 1) y0 y1 y2 y3 y4 y5 y6 y7 y8 y9 y10 (by show w.heap.size ≠ _; omega) x5) (And.intro (cell_put11 (V := W) (g := w.heap.size + 1) y0 y1 y2 y3 y4 y5 y6 y7 y8 y9 y10 (by show w.heap.size ≠ _; omega) x6) (And.intro (cell_put11 (V := W) (g := w.heap.size + 1) y0 y1 y2 y3 y4 y5 y6 y7 y8 y9 y10 (by show w.heap.size ≠ _; omega) x7) (And.intro (cell_put11 (V := W) (g := w.heap.size + 1) y0 y1 y2 y3 y4 y5 y6 y7 y8 y9 y10 (by show w.heap.size ≠ _; omega) x8) (And.intro (cell_put11 (V := W) (g := w.heap.size + 1) y0 y1 y2 y3 y4 y5 y6 y7 y8 y9 y10 (by show w.heap.size ≠ _; omega) x9) (And.intro (cell_put11 (V := W) (g := w.heap.size + 1) y0 y1 y2 y3 y4 y5 y6 y7 y8 y9 y10 (by show w.heap.size ≠ _; omega) x10) (cell_put11 (V := W) (g := w.heap.size + 1) y0 y1 y2 y3 y4 y5 y6 y7 y8 y9 y10 (by show g ≠ _; have hg2 : g < w.heap.size := hg; omega) hx'))))))))))))
  have HSd := Lib.hid (show W.drew.cell? ⟨w.heap.size, 0, none⟩ = some (.slice a1 m c1) ∧ W.drew.cell? ⟨w.heap.size, 1, none⟩ = some (.slice a2 n c2) ∧ W.drew.cell? ⟨w.heap.size, 2, none⟩ = some (.slice b1 k1 d1) ∧ W.drew.cell? ⟨w.heap.size, 3, none⟩ = some (.slice b2 k2 d2) ∧ W.drew.cell? ⟨w.heap.size, 4, none⟩ = some (.slice b3 k3 d3) ∧ W.drew.cell? ⟨w.heap.size, 5, none⟩ = some (.slice b4 k4 d4) ∧ W.drew.cell? ⟨w.heap.size, 6, none⟩ = some (.slice b5 k5 d5) ∧ W.drew.cell? ⟨w.heap.size, 7, none⟩ = some (.string ts) ∧ W.drew.cell? ⟨w.heap.size, 8, none⟩ = some (.int .i64 mn) ∧ W.drew.cell? ⟨w.heap.size, 9, none⟩ = some (.int .i64 ch) ∧ W.drew.cell? ⟨w.heap.size, 10, none⟩ = some (.bool true) ∧ W.drew.cell? ⟨g, o, none⟩ = some (.int .i64 (x : Int)) from ⟨x0, x1, x2, x3, x4, x5, x6, x7, x8, x9, x10, hx'⟩)
  have HZ := Lib.hid hzb
  have Hbf := Lib.hid (fun y0 y1 y2 y3 y4 y5 y6 y7 y8 y9 y10 => drew_belowD (below_put11 hbb (g := w.heap.size + 1) (by have := hbW.size; omega) y0 y1 y2 y3 y4 y5 y6 y7 y8 y9 y10))
  have HR := Lib.hid hR
  clear hR hT hl h8 hbW hx hrt hv hxb hzb hbb hwW hg
  go_enter Tryz.func66, Tryz.ntmps66
  go_wp2_with fail
  try rw [hW]
  clear hW
  go_region_held3 (fun V => V.cell? ⟨w.heap.size, 0, none⟩ = some (.slice a1 m c1) ∧ V.cell? ⟨w.heap.size, 1, none⟩ = some (.slice a2 n c2) ∧ V.cell? ⟨w.heap.size, 2, none⟩ = some (.slice b1 k1 d1) ∧ V.cell? ⟨w.heap.size, 3, none⟩ = some (.slice b2 k2 d2) ∧ V.cell? ⟨w.heap.size, 4, none⟩ = some (.slice b3 k3 d3) ∧ V.cell? ⟨w.heap.size, 5, none⟩ = some (.slice b4 k4 d4) ∧ V.cell? ⟨w.heap.size, 6, none⟩ = some (.slice b5 k5 d5) ∧ V.cell? ⟨w.heap.size, 7, none⟩ = some (.string ts) ∧ V.cell? ⟨w.heap.size, 8, none⟩ = some (.int .i64 mn) ∧ V.cell? ⟨w.heap.size, 9, none⟩ = some (.int .i64 ch) ∧ V.cell? ⟨w.heap.size, 10, none⟩ = some (.bool true) ∧ V.cell? ⟨g, o, none⟩ = some (.int .i64 (x : Int)))
    ((first | with_reducible exact HSd.out | exact HSt.out _ _ _ _ _ _ _ _ _ _ _))
    ((first
      | (go_at_call 97; with_reducible refine HO.out.mono ?_; rintro e w' ⟨rfl, rfl⟩)
      | (go_at_call 96; with_reducible refine HFi.out.mono ?_; rintro e w' ⟨rfl, rfl⟩)
      | fail))
  go_wp2_with fail
  refine bodyPost_ret (results_row_tmpD rfl _ _ (w.heap.size + 1) 103 #[.slice a1 m c1, .slice a2 n c2, .slice b1 k1 d1, .slice b2 k2 d2, .slice b3 k3 d3, .slice b4 k4 d4, .slice b5 k5 d5, .string ts, .int .i64 mn, .int .i64 ch, .bool true] (0, 0) _ rfl (drew_boxD (HZ.out.put11 _ _ _ _ _ _ _ _ _ _ _)) Tryz.underlying103 rfl (by kernel_rfl)) rfl ?_
  exact ⟨⟨_, rfl, HR.out.below (Hbf.out _ _ _ _ _ _ _ _ _ _ _)⟩, Hbf.out _ _ _ _ _ _ _ _ _ _ _⟩
set_option maxHeartbeats 8000000 in
theorem actHolds_do (hR : RDAt ok W0 (.agg #[.slice a1 m c1, .slice a2 n c2, .slice b1 k1 d1, .slice b2 k2 d2, .slice b3 k3 d3, .slice b4 k4 d4, .slice b5 k5 d5, .string ts, .int .i64 mn, .int .i64 ch, .bool true]) D) (hT : D.T = some T) (hl : TLen D.m D.n D.U D.F T) (h8 : D.m ≤ 8 ∧ D.n ≤ 8) (hbW : Below W0.heap.size W0 w) (s : ByteArray) {g o c x : Nat} (hx : w.cell? ⟨g, o, none⟩ = some (.int .i64 (x : Int))) :
    Calls Tryz.prog 66 #[.agg #[.slice a1 m c1, .slice a2 n c2, .slice b1 k1 d1, .slice b2 k2 d2, .slice b3 k3 d3, .slice b4 k4 d4, .slice b5 k5 d5, .string ts, .int .i64 mn, .int .i64 ch, .bool true], .string s, .string ⟨#[104, 111, 108, 100, 115]⟩, .slice (some ⟨g, o, none⟩) 1 c] w fun e w' => RDPost ok W0 (D, setV [104, 111, 108, 100, 115] (told T.S.Ho (x : Int))) e w' := by
  obtain ⟨-, -, -, hrt⟩ := hR.opened
  have hv := (hrt T hT).vals
  obtain ⟨W, hW⟩ : ∃ W, (w.alloc (.cells #[.slice a1 m c1, .slice a2 n c2, .slice b1 k1 d1, .slice b2 k2 d2, .slice b3 k3 d3, .slice b4 k4 d4, .slice b5 k5 d5, .string ts, .int .i64 mn, .int .i64 ch, .bool true] 103)).alloc (.cells #[.slice none 0 0, .slice none 0 0, .slice none 0 0, .slice none 0 0, .slice none 0 0, .slice none 0 0, .slice none 0 0, .string ⟨#[]⟩, .int .i64 0, .int .i64 0, .bool false] 103) = W := ⟨_, rfl⟩
  have hxb : BoxN W w.heap.size 103 #[.slice a1 m c1, .slice a2 n c2, .slice b1 k1 d1, .slice b2 k2 d2, .slice b3 k3 d3, .slice b4 k4 d4, .slice b5 k5 d5, .string ts, .int .i64 mn, .int .i64 ch, .bool true] := by rw [← hW]; exact (BoxN.new _ _ _).alloc _
  have hzb : BoxN W (w.heap.size + 1) 103 #[.slice none 0 0, .slice none 0 0, .slice none 0 0, .slice none 0 0, .slice none 0 0, .slice none 0 0, .slice none 0 0, .string ⟨#[]⟩, .int .i64 0, .int .i64 0, .bool false] := by rw [← hW]; exact BoxN.new' _ _ _ _ (by simp)
  have hbb : Below W0.heap.size W0 W := by rw [← hW]; exact act_boxes hbW _ _ _
  have hwW : Below w.heap.size w W := by rw [← hW]; exact ((Below.refl _ _).alloc (Nat.le_refl _) _).alloc (by simp) _
  have hx' := (hwW.cell (p := ⟨g, o, none⟩) (block_lt hx)).trans hx
  have hg := block_lt hx
  have hlen : T.S.Ho.length = k5 := by have := hv.1; have h1 := hl.inv.inv; have h2 := hl.re; have h3 := hl.ho; omega
  have hk8 : k5 ≤ 8 := by have h2 := hl.re; have h3 := hl.ho; have := hv.1; omega
  have HO := Lib.hid (ROf_any (w := W.drew) (c := d5) (drew_ints (hv.2.2.2.below hbb)) hlen x (by omega))
  have HFi := Lib.hid (RFiles_any [104, 111, 108, 100, 115] (by decide) (told T.S.Ho (x : Int)) (told_lt hl x).2.2 W.drew)
  obtain ⟨⟨x0, x1, x2, x3, x4, x5, x6, x7, x8, x9, x10⟩, -⟩ := BoxN.st11 hxb
  obtain ⟨⟨z0, z1, z2, z3, z4, z5, z6, z7, z8, z9, z10⟩, f0, f1, f2, f3, f4, f5, f6, f7, f8, f9, f10⟩ := BoxN.st11 hzb
  have HSt := Lib.hid (fun (y0 y1 y2 y3 y4 y5 y6 y7 y8 y9 y10 : Value) => And.intro (cell_put11 (V := W) (g := w.heap.size + 1) y0 y1 y2 y3 y4 y5 y6 y7 y8 y9 y10 (by show w.heap.size ≠ _; omega) x0) (And.intro (cell_put11 (V := W) (g := w.heap.size + 1) y0 y1 y2 y3 y4 y5 y6 y7 y8 y9 y10 (by show w.heap.size ≠ _; omega) x1) (And.intro (cell_put11 (V := W) (g := w.heap.size + 1) y0 y1 y2 y3 y4 y5 y6 y7 y8 y9 y10 (by show w.heap.size ≠ _; omega) x2) (And.intro (cell_put11 (V := W) (g := w.heap.size + 1) y0 y1 y2 y3 y4 y5 y6 y7 y8 y9 y10 (by show w.heap.size ≠ _; omega) x3) (And.intro (cell_put11 (V := W) (g := w.heap.size + 1) y0 y1 y2 y3 y4 y5 y6 y7 y8 y9 y10 (by show w.heap.size ≠ _; omega) x4) (And.intro (cell_put11 (V := W) (g := w.heap.size + 1) y0 y1 y2 y3 y4 y5 y6 y7 y8 y9 y10 (by show w.heap.size ≠ _; omega) x5) (And.intro (cell_put11 (V := W) (g := w.heap.size + 1) y0 y1 y2 y3 y4 y5 y6 y7 y8 y9 y10 (by show w.heap.size ≠ _; omega) x6) (And.intro (cell_put11 (V := W) (g := w.heap.size + 1) y0 y1 y2 y3 y4 y5 y6 y7 y8 y9 y10 (by show w.heap.size ≠ _; omega) x7) (And.intro (cell_put11 (V := W) (g := w.heap.size + 1) y0 y1 y2 y3 y4 y5 y6 y7 y8 y9 y10 (by show w.heap.size ≠ _; omega) x8) (And.intro (cell_put11 (V := W) (g := w.heap.size + 1) y0 y1 y2 y3 y4 y5 y6 y7 y8 y9 y10 (by show w.heap.size ≠ _; omega) x9) (And.intro (cell_put11 (V := W) (g := w.heap.size + 1) y0 y1 y2 y3 y4 y5 y6 y7 y8 y9 y10 (by show w.heap.size ≠ _; omega) x10) (cell_put11 (V := W) (g := w.heap.size + 1) y0 y1 y2 y3 y4 y5 y6 y7 y8 y9 y10 (by show g ≠ _; have hg2 : g < w.heap.size := hg; omega) hx'))))))))))))
  have HSd := Lib.hid (show W.drew.cell? ⟨w.heap.size, 0, none⟩ = some (.slice a1 m c1) ∧ W.drew.cell? ⟨w.heap.size, 1, none⟩ = some (.slice a2 n c2) ∧ W.drew.cell? ⟨w.heap.size, 2, none⟩ = some (.slice b1 k1 d1) ∧ W.drew.cell? ⟨w.heap.size, 3, none⟩ = some (.slice b2 k2 d2) ∧ W.drew.cell? ⟨w.heap.size, 4, none⟩ = some (.slice b3 k3 d3) ∧ W.drew.cell? ⟨w.heap.size, 5, none⟩ = some (.slice b4 k4 d4) ∧ W.drew.cell? ⟨w.heap.size, 6, none⟩ = some (.slice b5 k5 d5) ∧ W.drew.cell? ⟨w.heap.size, 7, none⟩ = some (.string ts) ∧ W.drew.cell? ⟨w.heap.size, 8, none⟩ = some (.int .i64 mn) ∧ W.drew.cell? ⟨w.heap.size, 9, none⟩ = some (.int .i64 ch) ∧ W.drew.cell? ⟨w.heap.size, 10, none⟩ = some (.bool true) ∧ W.drew.cell? ⟨g, o, none⟩ = some (.int .i64 (x : Int)) from ⟨x0, x1, x2, x3, x4, x5, x6, x7, x8, x9, x10, hx'⟩)
  have HZ := Lib.hid hzb
  have Hbf := Lib.hid (fun y0 y1 y2 y3 y4 y5 y6 y7 y8 y9 y10 => drew_belowD (below_put11 hbb (g := w.heap.size + 1) (by have := hbW.size; omega) y0 y1 y2 y3 y4 y5 y6 y7 y8 y9 y10))
  have HR := Lib.hid hR
  clear hR hT hl h8 hbW hx hrt hv hxb hzb hbb hwW hg
  go_enter Tryz.func66, Tryz.ntmps66
  go_wp2_with fail
  try rw [hW]
  clear hW
  go_region_held3 (fun V => V.cell? ⟨w.heap.size, 0, none⟩ = some (.slice a1 m c1) ∧ V.cell? ⟨w.heap.size, 1, none⟩ = some (.slice a2 n c2) ∧ V.cell? ⟨w.heap.size, 2, none⟩ = some (.slice b1 k1 d1) ∧ V.cell? ⟨w.heap.size, 3, none⟩ = some (.slice b2 k2 d2) ∧ V.cell? ⟨w.heap.size, 4, none⟩ = some (.slice b3 k3 d3) ∧ V.cell? ⟨w.heap.size, 5, none⟩ = some (.slice b4 k4 d4) ∧ V.cell? ⟨w.heap.size, 6, none⟩ = some (.slice b5 k5 d5) ∧ V.cell? ⟨w.heap.size, 7, none⟩ = some (.string ts) ∧ V.cell? ⟨w.heap.size, 8, none⟩ = some (.int .i64 mn) ∧ V.cell? ⟨w.heap.size, 9, none⟩ = some (.int .i64 ch) ∧ V.cell? ⟨w.heap.size, 10, none⟩ = some (.bool true) ∧ V.cell? ⟨g, o, none⟩ = some (.int .i64 (x : Int)))
    ((first | with_reducible exact HSd.out | exact HSt.out _ _ _ _ _ _ _ _ _ _ _))
    ((first
      | (go_at_call 97; with_reducible refine HO.out.mono ?_; rintro e w' ⟨rfl, rfl⟩)
      | (go_at_call 96; with_reducible refine HFi.out.mono ?_; rintro e w' ⟨rfl, rfl⟩)
      | fail))
  go_wp2_with fail
  refine bodyPost_ret (results_row_tmpD rfl _ _ (w.heap.size + 1) 103 #[.slice a1 m c1, .slice a2 n c2, .slice b1 k1 d1, .slice b2 k2 d2, .slice b3 k3 d3, .slice b4 k4 d4, .slice b5 k5 d5, .string ts, .int .i64 mn, .int .i64 ch, .bool true] (0, 0) _ rfl (drew_boxD (HZ.out.put11 _ _ _ _ _ _ _ _ _ _ _)) Tryz.underlying103 rfl (by kernel_rfl)) rfl ?_
  exact ⟨⟨_, rfl, HR.out.below (Hbf.out _ _ _ _ _ _ _ _ _ _ _)⟩, Hbf.out _ _ _ _ _ _ _ _ _ _ _⟩
end
end Go.Proofs.YtanlmfnhlldkeaaGreatDoor
