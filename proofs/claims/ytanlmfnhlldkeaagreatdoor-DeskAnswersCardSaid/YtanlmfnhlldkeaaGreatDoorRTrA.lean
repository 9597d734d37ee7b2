/-
  Contract: quietwingref5.Ask: the document's trail.
-/
import Derived.Test.YtanlmfnhlldkeaaGreatDoorSmlA
import Derived.Test.YtanlmfnhlldkeaaGreatDoorRDsPA
import Derived.Test.YtanlmfnhlldkeaaGreatDoorBelQ
import Derived.Test.YtanlmfnhlldkeaaGreatDoorBaseA
import Derived.Test.YtanlmfnhlldkeaaGreatDoorLoopA
import Derived.Test.YtanlmfnhlldkeaaGreatDoorBelA
import Derived.BigQuiet
namespace Go.Proofs.YtanlmfnhlldkeaaGreatDoor
open Go.RowKit
set_option maxRecDepth 100000
set_option linter.unusedVariables false

/-- The document's trail as a value. -/
abbrev rtV (a1 a2 a3 a4 a5 : Option Addr) (c1 c2 c3 c4 c5 : Nat) (T : TS) : Array Value := #[.slice a1 T.S.Re.length c1, .slice a2 T.S.Ho.length c2, .slice a3 T.S.Re.length c3, .slice a4 T.S.Re.length c4, .slice a5 T.S.Ho.length c5, .string ⟨T.log.toArray⟩, .int .i64 T.many, .int .i64 T.chain]
structure RT (ok : Nat → Prop) (w : World) (v : Value) (U F : List Int) (T : TS) : Prop where
  is : ∃ a1 a2 a3 a4 a5 c1 c2 c3 c4 c5, v = .agg (rtV a1 a2 a3 a4 a5 c1 c2 c3 c4 c5 T) ∧
    IntsIn ok w a1 U ∧ IntsIn ok w a2 F ∧ IntsIn ok w a3 (castL T.S.Re) ∧ IntsIn ok w a4 (castL T.S.Wr) ∧ IntsIn ok w a5 (castL T.S.Ho)
theorem RT.below {ok : Nat → Prop} {w w' : World} {v : Value} {U F : List Int} {T : TS} (h : RT ok w v U F T) (hb : Below w.heap.size w w') : RT ok w' v U F T := by
  obtain ⟨a1, a2, a3, a4, a5, c1, c2, c3, c4, c5, e, i1, i2, i3, i4, i5⟩ := h.is
  exact ⟨a1, a2, a3, a4, a5, c1, c2, c3, c4, c5, e, i1.below hb, i2.below hb, i3.below hb, i4.below hb, i5.below hb⟩
section
variable {w w' : World} {b g B : Nat} {t : TypeId} {vs : Array Value}
theorem BoxN.put8 {y0 y1 y2 y3 y4 y5 y6 y7 : Value} (h : BoxN w b t #[y0, y1, y2, y3, y4, y5, y6, y7]) (x0 x1 x2 x3 x4 x5 x6 x7 : Value) : BoxN ((((((((w.setCell ⟨b, 0, none⟩ x0).setCell ⟨b, 1, none⟩ x1).setCell ⟨b, 2, none⟩ x2).setCell ⟨b, 3, none⟩ x3).setCell ⟨b, 4, none⟩ x4).setCell ⟨b, 5, none⟩ x5).setCell ⟨b, 6, none⟩ x6).setCell ⟨b, 7, none⟩ x7) b t #[x0, x1, x2, x3, x4, x5, x6, x7] := by
  have := (((((((h.set 0 x0).set 1 x1).set 2 x2).set 3 x3).set 4 x4).set 5 x5).set 6 x6).set 7 x7
  simp only [List.setIfInBounds_toArray, List.set_cons_succ, List.set_cons_zero] at this
  exact this
theorem below_put8 (h : Below B w w') (hg : B ≤ g) (x0 x1 x2 x3 x4 x5 x6 x7 : Value) : Below B w ((((((((w'.setCell ⟨g, 0, none⟩ x0).setCell ⟨g, 1, none⟩ x1).setCell ⟨g, 2, none⟩ x2).setCell ⟨g, 3, none⟩ x3).setCell ⟨g, 4, none⟩ x4).setCell ⟨g, 5, none⟩ x5).setCell ⟨g, 6, none⟩ x6).setCell ⟨g, 7, none⟩ x7) :=
  (((((((h.setCell (p := ⟨g, 0, none⟩) hg _).setCell (p := ⟨g, 1, none⟩) hg _).setCell (p := ⟨g, 2, none⟩) hg _).setCell (p := ⟨g, 3, none⟩) hg _).setCell (p := ⟨g, 4, none⟩) hg _).setCell (p := ⟨g, 5, none⟩) hg _).setCell (p := ⟨g, 6, none⟩) hg _).setCell (p := ⟨g, 7, none⟩) hg _
/-- What a walk wants of a box of eight. -/
theorem BoxN.st8 {x0 x1 x2 x3 x4 x5 x6 x7 : Value} (h : BoxN w b t #[x0, x1, x2, x3, x4, x5, x6, x7]) : (w.cell? ⟨b, 0, none⟩ = some x0 ∧ w.cell? ⟨b, 1, none⟩ = some x1 ∧ w.cell? ⟨b, 2, none⟩ = some x2 ∧ w.cell? ⟨b, 3, none⟩ = some x3 ∧ w.cell? ⟨b, 4, none⟩ = some x4 ∧ w.cell? ⟨b, 5, none⟩ = some x5 ∧ w.cell? ⟨b, 6, none⟩ = some x6 ∧ w.cell? ⟨b, 7, none⟩ = some x7) ∧ w.frozen? ⟨b, 0, none⟩ = false ∧ w.frozen? ⟨b, 1, none⟩ = false ∧ w.frozen? ⟨b, 2, none⟩ = false ∧ w.frozen? ⟨b, 3, none⟩ = false ∧ w.frozen? ⟨b, 4, none⟩ = false ∧ w.frozen? ⟨b, 5, none⟩ = false ∧ w.frozen? ⟨b, 6, none⟩ = false ∧ w.frozen? ⟨b, 7, none⟩ = false :=
  ⟨⟨h.cell rfl, h.cell rfl, h.cell rfl, h.cell rfl, h.cell rfl, h.cell rfl, h.cell rfl, h.cell rfl⟩, h.free 0, h.free 1, h.free 2, h.free 3, h.free 4, h.free 5, h.free 6, h.free 7⟩
end
/-- The boxes at the start: the trail, the ask, the result. -/
theorem ask_boxes (w : World) (vs ws zs : Array Value) (t u : TypeId) :
    BoxN (((w.alloc (.cells vs t)).alloc (.cells ws u)).alloc (.cells zs t)) w.heap.size t vs ∧ BoxN (((w.alloc (.cells vs t)).alloc (.cells ws u)).alloc (.cells zs t)) (w.heap.size + 1) u ws ∧ BoxN (((w.alloc (.cells vs t)).alloc (.cells ws u)).alloc (.cells zs t)) (w.heap.size + 1 + 1) t zs ∧
    Below w.heap.size w (((w.alloc (.cells vs t)).alloc (.cells ws u)).alloc (.cells zs t)) ∧ (((w.alloc (.cells vs t)).alloc (.cells ws u)).alloc (.cells zs t)).heap.size = w.heap.size + 3 :=
  ⟨((BoxN.new w _ _).alloc _).alloc _, (BoxN.new' _ _ _ _ (by simp)).alloc _, BoxN.new' _ _ _ _ (by simp), (((Below.refl _ _).alloc (Nat.le_refl _) _).alloc (by simp) _).alloc (by simp; omega) _, by simp⟩
section
variable {ok : Nat → Prop} {w : World} {U F : List Int} {T : TS} {a1 a2 a3 a4 a5 : Option Addr} {c1 c2 c3 c4 c5 : Nat}
set_option maxHeartbeats 8000000 in
/-- No room is left. -/
theorem RTAsk_full (hm : T.many = 100) (k u f t : Int) :
    Calls Tryz.prog 98 #[.agg (rtV a1 a2 a3 a4 a5 c1 c2 c3 c4 c5 T), .agg #[.int .i64 k, .int .i64 u, .int .i64 f, .int .i64 t]] w fun e w' => e = .returned (.tuple #[.agg (rtV a1 a2 a3 a4 a5 c1 c2 c3 c4 c5 T), .int .i64 4]) ∧ Below w.heap.size w w' := by
  obtain ⟨hx, hy, hz, hb, hs⟩ := ask_boxes w (rtV a1 a2 a3 a4 a5 c1 c2 c3 c4 c5 T) #[.int .i64 k, .int .i64 u, .int .i64 f, .int .i64 t] #[.slice none 0 0, .slice none 0 0, .slice none 0 0, .slice none 0 0, .slice none 0 0, .string ⟨#[]⟩, .int .i64 0, .int .i64 0] 101 157
  unfold rtV at *
  obtain ⟨⟨x0, x1, x2, x3, x4, x5, x6, x7⟩, fx⟩ := BoxN.st8 hx
  obtain ⟨⟨z0, z1, z2, z3, z4, z5, z6, z7⟩, f0, f1, f2, f3, f4, f5, f6, f7⟩ := BoxN.st8 hz
  rw [hm] at *
  clear fx
  have HX := Lib.hid hx
  have HZ := Lib.hid hz
  clear hx hy hz
  go_enter Tryz.func98, Tryz.ntmps98
  go_wp2_with fail
  refine bodyPost_ret (results_row_tmp rfl _ _ (w.heap.size + 1 + 1) 101 #[.slice a1 T.S.Re.length c1, .slice a2 T.S.Ho.length c2, .slice a3 T.S.Re.length c3, .slice a4 T.S.Re.length c4, .slice a5 T.S.Ho.length c5, .string ⟨T.log.toArray⟩, .int .i64 100, .int .i64 T.chain] (0, 0) _ rfl (BoxN.new' _ _ _ _ (by simp)) Tryz.underlying101 rfl (by kernel_rfl)) rfl ?_
  exact ⟨rfl, (((Below.refl _ _).alloc (Nat.le_refl _) _).alloc (by simp) _).alloc (by simp; omega) _⟩
theorem RT.rl {v : Value} (h : RT ok w v U F T) : ∃ a1 a2 a3 a4 a5 c1 c2 c3 c4 c5, v = .agg (rtV a1 a2 a3 a4 a5 c1 c2 c3 c4 c5 T) ∧ RL ok w (.agg #[.slice a1 T.S.Re.length c1, .slice a2 T.S.Ho.length c2, .slice a3 T.S.Re.length c3, .slice a4 T.S.Re.length c4, .slice a5 T.S.Ho.length c5]) U F T.S := by
  obtain ⟨a1, a2, a3, a4, a5, c1, c2, c3, c4, c5, e, i1, i2, i3, i4, i5⟩ := h.is
  exact ⟨a1, a2, a3, a4, a5, c1, c2, c3, c4, c5, e, ⟨a1, a2, a3, a4, a5, c1, c2, c3, c4, c5, rfl, i1, i2, i3, i4, i5⟩⟩
theorem RL.rt {T : TS} {S : LS} (h : RL ok w (.agg #[.slice a1 S.Re.length c1, .slice a2 S.Ho.length c2, .slice a3 S.Re.length c3, .slice a4 S.Re.length c4, .slice a5 S.Ho.length c5]) U F S) (hT : T.S = S) : RT ok w (.agg (rtV a1 a2 a3 a4 a5 c1 c2 c3 c4 c5 T)) U F T := by
  obtain ⟨b1, b2, b3, b4, b5, d1, d2, d3, d4, d5, e, i1, i2, i3, i4, i5⟩ := h.is
  injection e with e
  simp only [Array.mk.injEq, List.cons.injEq, Value.slice.injEq, true_and, and_true] at e
  obtain ⟨⟨rfl, rfl⟩, ⟨rfl, rfl⟩, ⟨rfl, rfl⟩, ⟨rfl, rfl⟩, rfl, rfl⟩ := e
  subst hT
  exact ⟨_, _, _, _, _, _, _, _, _, _, rfl, i1, i2, i3, i4, i5⟩
set_option maxHeartbeats 8000000 in
/-- What is out of range is not written. -/
theorem RTAsk_range (hR : RL ok w (.agg #[.slice a1 T.S.Re.length c1, .slice a2 T.S.Ho.length c2, .slice a3 T.S.Re.length c3, .slice a4 T.S.Re.length c4, .slice a5 T.S.Ho.length c5]) U F T.S) (hI : TInv U F T) (hU : ∀ i, i < T.S.Re.length → labOk (gI U (i * 2)) (gI U (i * 2 + 1))) (hF : ∀ i, i < T.S.Ho.length → labOk (gI F (i * 2)) (gI F (i * 2 + 1))) (lU : U.length = T.S.Re.length * 2) (lF : F.length = T.S.Ho.length * 2) (hok : ∀ b, w.heap.size ≤ b → ok b) (hm : T.many ≠ 100) (k u f t : Int) (h1 : (lAsk U F T.S k u f t).2 = 1) :
    Calls Tryz.prog 98 #[.agg (rtV a1 a2 a3 a4 a5 c1 c2 c3 c4 c5 T), .agg #[.int .i64 k, .int .i64 u, .int .i64 f, .int .i64 t]] w fun e w' => e = .returned (.tuple #[.agg (rtV a1 a2 a3 a4 a5 c1 c2 c3 c4 c5 T), .int .i64 1]) ∧ Below w.heap.size w w' := by
  obtain ⟨hx, hy, hz, hb, hs⟩ := ask_boxes w (rtV a1 a2 a3 a4 a5 c1 c2 c3 c4 c5 T) #[.int .i64 k, .int .i64 u, .int .i64 f, .int .i64 t] #[.slice none 0 0, .slice none 0 0, .slice none 0 0, .slice none 0 0, .slice none 0 0, .string ⟨#[]⟩, .int .i64 0, .int .i64 0] 101 157
  have CQ := AskBell_any (hR.below hb) hI.inv hU hF lU lF (fun b hb' => hok b (by omega)) k u f t
  rw [h1] at CQ
  have CQ := Lib.hid CQ
  have hm1 : decide ((T.many : Int) ≥ 100) = false := by have := hI.many; simp; omega
  have HX := Lib.hid hx
  have HZ := Lib.hid hz
  have Hb := Lib.hid hb
  have HY := Lib.hid hy
  clear h1 hx hy hz hb hR hU hF lU lF hI hok
  unfold rtV at *
  go_enter Tryz.func98, Tryz.ntmps98
  go_wp2_with fail
  with_reducible refine CQ.out.mono ?_
  rintro e w2 ⟨⟨v', rfl, hR2⟩, hb2⟩
  obtain ⟨s1, s2, s3, s4, s5, d1, d2, d3, d4, d5, rfl, j1, j2, j3, j4, j5⟩ := hR2.is
  have hX2 := HX.out.all hb2
  have hY2 := HY.out.all hb2
  have hZ2 := HZ.out.all hb2
  have hb02 := Hb.out.trans (hb2.mono Hb.out.size)
  clear CQ hb2 HX HY HZ Hb
  have hX3 := hX2.alloc (.cells #[.slice s1 (lAsk U F T.S k u f t).1.Re.length d1, .slice s2 (lAsk U F T.S k u f t).1.Ho.length d2, .slice s3 (lAsk U F T.S k u f t).1.Re.length d3, .slice s4 (lAsk U F T.S k u f t).1.Re.length d4, .slice s5 (lAsk U F T.S k u f t).1.Ho.length d5] 99)
  have hZ3 := hZ2.alloc (.cells #[.slice s1 (lAsk U F T.S k u f t).1.Re.length d1, .slice s2 (lAsk U F T.S k u f t).1.Ho.length d2, .slice s3 (lAsk U F T.S k u f t).1.Re.length d3, .slice s4 (lAsk U F T.S k u f t).1.Re.length d4, .slice s5 (lAsk U F T.S k u f t).1.Ho.length d5] 99)
  have hb03 := hb02.alloc hb02.size (.cells #[.slice s1 (lAsk U F T.S k u f t).1.Re.length d1, .slice s2 (lAsk U F T.S k u f t).1.Ho.length d2, .slice s3 (lAsk U F T.S k u f t).1.Re.length d3, .slice s4 (lAsk U F T.S k u f t).1.Re.length d4, .slice s5 (lAsk U F T.S k u f t).1.Ho.length d5] 99)
  obtain ⟨⟨x0, x1, x2, x3, x4, x5, x6, x7⟩, fx⟩ := BoxN.st8 hX3
  obtain ⟨⟨z0, z1, z2, z3, z4, z5, z6, z7⟩, f0, f1, f2, f3, f4, f5, f6, f7⟩ := BoxN.st8 hZ3
  have HZ := Lib.hid hZ3
  have Hb3 := Lib.hid hb03
  clear fx hX3 hZ3 hb03 hb02 hX2 hY2 hZ2 hR2 j1 j2 j3 j4 j5
  go_wp2_with fail
  refine bodyPost_ret (results_row_tmp rfl _ _ (w.heap.size + 1 + 1) 101 #[.slice a1 T.S.Re.length c1, .slice a2 T.S.Ho.length c2, .slice a3 T.S.Re.length c3, .slice a4 T.S.Re.length c4, .slice a5 T.S.Ho.length c5, .string ⟨T.log.toArray⟩, .int .i64 T.many, .int .i64 T.chain] (0, 0) _ rfl (HZ.out.put8 _ _ _ _ _ _ _ _) Tryz.underlying101 rfl (by kernel_rfl)) rfl ?_
  exact ⟨rfl, below_put8 Hb3.out (by omega) _ _ _ _ _ _ _ _⟩
/-- Blocks that are none of the three boxes. -/
def ok3 (ok : Nat → Prop) (n : Nat) : Nat → Prop := fun b => ok b ∧ (b < n ∨ n + 3 ≤ b)
theorem IntsIn.to3 {w : World} {A : Option Addr} {l : List Int} (h : IntsIn ok w A l) : IntsIn (ok3 ok w.heap.size) w A l := ⟨h.1, fun b off e hl => ⟨h.2 b off e hl, .inl (h.1.lt e hl)⟩⟩
theorem IntsIn.of3 {w : World} {A : Option Addr} {l : List Int} {n : Nat} (h : IntsIn (ok3 ok n) w A l) : IntsIn ok w A l := ⟨h.1, fun b off e hl => (h.2 b off e hl).1⟩
/-- Five slices of numbers. -/
def Five (ok : Nat → Prop) (w : World) (a1 a2 a3 a4 a5 : Option Addr) (U F : List Int) (S : LS) : Prop := IntsIn ok w a1 U ∧ IntsIn ok w a2 F ∧ IntsIn ok w a3 (castL S.Re) ∧ IntsIn ok w a4 (castL S.Wr) ∧ IntsIn ok w a5 (castL S.Ho)
theorem IntsIn.cells {w w' : World} {A : Option Addr} {l : List Int} {n : Nat} (h : IntsIn (ok3 ok n) w A l) (hw : ∀ b, b < n ∨ n + 3 ≤ b → b < w.heap.size → w'.heap[b]? = w.heap[b]?) : IntsIn (ok3 ok n) w' A l :=
  ⟨fun hne => by
    obtain ⟨b, off, e, hc⟩ := h.1 hne
    have hb := (h.2 b off e hne).2
    have hlt := h.1.lt e hne
    exact ⟨b, off, e, fun j x hj => by rw [← hc j x hj]; simp only [World.cell?]; rw [hw b hb hlt]⟩, h.2⟩
theorem Five.cells {w w' : World} {S : LS} {n : Nat} (h : Five (ok3 ok n) w a1 a2 a3 a4 a5 U F S) (hw : ∀ b, b < n ∨ n + 3 ≤ b → b < w.heap.size → w'.heap[b]? = w.heap[b]?) : Five (ok3 ok n) w' a1 a2 a3 a4 a5 U F S :=
  ⟨h.1.cells hw, h.2.1.cells hw, h.2.2.1.cells hw, h.2.2.2.1.cells hw, h.2.2.2.2.cells hw⟩
theorem Five.set {w : World} {S : LS} {n : Nat} (h : Five (ok3 ok n) w a1 a2 a3 a4 a5 U F S) {p : Addr} (hp : n ≤ p.block ∧ p.block < n + 3) (v : Value) : Five (ok3 ok n) (w.setCell p v) a1 a2 a3 a4 a5 U F S :=
  h.cells fun b hb _ => Below.heap_setCell w p v b (by omega)
theorem Five.below {w w' : World} {S : LS} {n : Nat} (h : Five (ok3 ok n) w a1 a2 a3 a4 a5 U F S) (hb : Below w.heap.size w w') : Five (ok3 ok n) w' a1 a2 a3 a4 a5 U F S := h.cells fun b _ hlt => hb.block b hlt
theorem Five.put8 {w : World} {S : LS} {n g : Nat} (h : Five (ok3 ok n) w a1 a2 a3 a4 a5 U F S) (hg : n ≤ g ∧ g < n + 3) (x0 x1 x2 x3 x4 x5 x6 x7 : Value) : Five (ok3 ok n) ((((((((w.setCell ⟨g, 0, none⟩ x0).setCell ⟨g, 1, none⟩ x1).setCell ⟨g, 2, none⟩ x2).setCell ⟨g, 3, none⟩ x3).setCell ⟨g, 4, none⟩ x4).setCell ⟨g, 5, none⟩ x5).setCell ⟨g, 6, none⟩ x6).setCell ⟨g, 7, none⟩ x7) a1 a2 a3 a4 a5 U F S :=
  (((((((h.set (p := ⟨g, 0, none⟩) hg _).set (p := ⟨g, 1, none⟩) hg _).set (p := ⟨g, 2, none⟩) hg _).set (p := ⟨g, 3, none⟩) hg _).set (p := ⟨g, 4, none⟩) hg _).set (p := ⟨g, 5, none⟩) hg _).set (p := ⟨g, 6, none⟩) hg _).set (p := ⟨g, 7, none⟩) hg _
theorem Five.put6 {w : World} {S : LS} {n g : Nat} (h : Five (ok3 ok n) w a1 a2 a3 a4 a5 U F S) (hg : n ≤ g ∧ g < n + 3) (x0 x1 x2 x3 x4 x7 : Value) : Five (ok3 ok n) ((((((w.setCell ⟨g, 0, none⟩ x0).setCell ⟨g, 1, none⟩ x1).setCell ⟨g, 2, none⟩ x2).setCell ⟨g, 3, none⟩ x3).setCell ⟨g, 4, none⟩ x4).setCell ⟨g, 7, none⟩ x7) a1 a2 a3 a4 a5 U F S :=
  (((((h.set (p := ⟨g, 0, none⟩) hg _).set (p := ⟨g, 1, none⟩) hg _).set (p := ⟨g, 2, none⟩) hg _).set (p := ⟨g, 3, none⟩) hg _).set (p := ⟨g, 4, none⟩) hg _).set (p := ⟨g, 7, none⟩) hg _
theorem BoxN.put6 {w : World} {b : Nat} {t : TypeId} {y0 y1 y2 y3 y4 y5 y6 y7 : Value} (h : BoxN w b t #[y0, y1, y2, y3, y4, y5, y6, y7]) (x0 x1 x2 x3 x4 x7 : Value) : BoxN ((((((w.setCell ⟨b, 0, none⟩ x0).setCell ⟨b, 1, none⟩ x1).setCell ⟨b, 2, none⟩ x2).setCell ⟨b, 3, none⟩ x3).setCell ⟨b, 4, none⟩ x4).setCell ⟨b, 7, none⟩ x7) b t #[x0, x1, x2, x3, x4, y5, y6, x7] := by
  have := (((((h.set 0 x0).set 1 x1).set 2 x2).set 3 x3).set 4 x4).set 7 x7
  simp only [List.setIfInBounds_toArray, List.set_cons_succ, List.set_cons_zero] at this
  exact this
theorem BoxN.far6 {w : World} {b g : Nat} {t : TypeId} {vs : Array Value} (h : BoxN w b t vs) (hne : b ≠ g) (x0 x1 x2 x3 x4 x7 : Value) : BoxN ((((((w.setCell ⟨g, 0, none⟩ x0).setCell ⟨g, 1, none⟩ x1).setCell ⟨g, 2, none⟩ x2).setCell ⟨g, 3, none⟩ x3).setCell ⟨g, 4, none⟩ x4).setCell ⟨g, 7, none⟩ x7) b t vs :=
  (((((h.other (a := ⟨g, 0, none⟩) hne _).other (a := ⟨g, 1, none⟩) hne _).other (a := ⟨g, 2, none⟩) hne _).other (a := ⟨g, 3, none⟩) hne _).other (a := ⟨g, 4, none⟩) hne _).other (a := ⟨g, 7, none⟩) hne _
theorem below_put6 {w w' : World} {B g : Nat} (h : Below B w w') (hg : B ≤ g) (x0 x1 x2 x3 x4 x7 : Value) : Below B w ((((((w'.setCell ⟨g, 0, none⟩ x0).setCell ⟨g, 1, none⟩ x1).setCell ⟨g, 2, none⟩ x2).setCell ⟨g, 3, none⟩ x3).setCell ⟨g, 4, none⟩ x4).setCell ⟨g, 7, none⟩ x7) :=
  (((((h.setCell (p := ⟨g, 0, none⟩) hg _).setCell (p := ⟨g, 1, none⟩) hg _).setCell (p := ⟨g, 2, none⟩) hg _).setCell (p := ⟨g, 3, none⟩) hg _).setCell (p := ⟨g, 4, none⟩) hg _).setCell (p := ⟨g, 7, none⟩) hg _
theorem say_str {e1 e2 e3 e4 e5 : UInt8} : ((⟨#[e1]⟩ : ByteArray) ++ ⟨#[32]⟩ ++ ⟨#[e2]⟩ ++ ⟨#[32]⟩ ++ ⟨#[e3]⟩ ++ ⟨#[32]⟩ ++ ⟨#[e4]⟩ ++ ⟨#[32]⟩ ++ ⟨#[e5]⟩ ++ ⟨#[32]⟩).data.toList = [e1, 32, e2, 32, e3, 32, e4, 32, e5, 32] := by simp
set_option maxHeartbeats 16000000 in
/-- What is in range is written. -/
theorem RTAsk_push (hR : RL ok w (.agg #[.slice a1 T.S.Re.length c1, .slice a2 T.S.Ho.length c2, .slice a3 T.S.Re.length c3, .slice a4 T.S.Re.length c4, .slice a5 T.S.Ho.length c5]) U F T.S) (hI : TInv U F T) (hU : ∀ i, i < T.S.Re.length → labOk (gI U (i * 2)) (gI U (i * 2 + 1))) (hF : ∀ i, i < T.S.Ho.length → labOk (gI F (i * 2)) (gI F (i * 2 + 1))) (lU : U.length = T.S.Re.length * 2) (lF : F.length = T.S.Ho.length * 2) (hok : ∀ b, w.heap.size ≤ b → ok b) (hm : T.many ≠ 100) (kn un fn : Nat) (t : Int) (tn : Nat) (ht : toOf (kn : Int) t = (tn : Int)) (S' : LS) (code : Nat) (hl : lAsk U F T.S kn un fn t = (S', code)) (h1 : code ≠ 1) (b1 : kn < 10) (b2 : un < 10) (b3 : fn < 10) (b4 : tn < 10) (b5 : code < 10) :
    Calls Tryz.prog 98 #[.agg (rtV a1 a2 a3 a4 a5 c1 c2 c3 c4 c5 T), .agg #[.int .i64 kn, .int .i64 un, .int .i64 fn, .int .i64 t]] w fun e w' => (∃ v', e = .returned (.tuple #[v', .int .i64 code]) ∧ RT ok w' v' U F (T.push S' kn un fn tn code)) ∧ Below w.heap.size w w' := by
  obtain ⟨hx, hy, hz, hb, hs⟩ := ask_boxes w (rtV a1 a2 a3 a4 a5 c1 c2 c3 c4 c5 T) #[.int .i64 kn, .int .i64 un, .int .i64 fn, .int .i64 t] #[.slice none 0 0, .slice none 0 0, .slice none 0 0, .slice none 0 0, .slice none 0 0, .string ⟨#[]⟩, .int .i64 0, .int .i64 0] 101 157
  obtain ⟨g1, g2, g3, g4, g5, m1, m2, m3, m4, m5, hg, i1, i2, i3, i4, i5⟩ := hR.is
  have hR3 : RL (ok3 ok w.heap.size) w (.agg #[.slice a1 T.S.Re.length c1, .slice a2 T.S.Ho.length c2, .slice a3 T.S.Re.length c3, .slice a4 T.S.Re.length c4, .slice a5 T.S.Ho.length c5]) U F T.S := ⟨g1, g2, g3, g4, g5, m1, m2, m3, m4, m5, hg, i1.to3, i2.to3, i3.to3, i4.to3, i5.to3⟩
  clear hg i1 i2 i3 i4 i5
  have CQ := AskBell_any (hR3.below hb) hI.inv hU hF lU lF (fun b hb' => ⟨hok b (by omega), .inr (by omega)⟩) kn un fn t
  rw [hl] at CQ
  have CQ := Lib.hid CQ
  have hm1 : decide ((T.many : Int) ≥ 100) = false := by have := hI.many; simp; omega
  have hmany := hI.many
  have hchain := hI.chain
  have hloglen := hI.log
  have Hok := Lib.hid hok
  have HX := Lib.hid hx
  have HY := Lib.hid hy
  have HZ := Lib.hid hz
  have Hb := Lib.hid hb
  clear hx hy hz hb hR hR3 hU hF lU lF hI hok hl
  unfold rtV at *
  go_enter Tryz.func98, Tryz.ntmps98
  go_wp2_with fail
  with_reducible refine CQ.out.mono ?_
  rintro e w2 ⟨⟨v', rfl, hR2⟩, hb2⟩
  obtain ⟨s1, s2, s3, s4, s5, d1, d2, d3, d4, d5, rfl, j1, j2, j3, j4, j5⟩ := hR2.is
  have hX2 := HX.out.all hb2
  have hY2 := HY.out.all hb2
  have hZ2 := HZ.out.all hb2
  have hb02 := Hb.out.trans (hb2.mono Hb.out.size)
  clear CQ hb2 HX HY HZ Hb hR2
  have hba : Below w2.heap.size w2 (w2.alloc (.cells #[.slice s1 S'.Re.length d1, .slice s2 S'.Ho.length d2, .slice s3 S'.Re.length d3, .slice s4 S'.Re.length d4, .slice s5 S'.Ho.length d5] 99)) := (Below.refl _ _).alloc (Nat.le_refl _) _
  have hB3 : BoxN (w2.alloc (.cells #[.slice s1 S'.Re.length d1, .slice s2 S'.Ho.length d2, .slice s3 S'.Re.length d3, .slice s4 S'.Re.length d4, .slice s5 S'.Ho.length d5] 99)) w2.heap.size 99 #[.slice s1 S'.Re.length d1, .slice s2 S'.Ho.length d2, .slice s3 S'.Re.length d3, .slice s4 S'.Re.length d4, .slice s5 S'.Ho.length d5] := BoxN.new _ _ _
  have hX3 := hX2.all hba
  have hY3 := hY2.all hba
  have hZ3 := hZ2.all hba
  have hb03 := hb02.trans (hba.mono hb02.size)
  have HJ := Lib.hid (Five.below (show Five (ok3 ok w.heap.size) w2 s1 s2 s3 s4 s5 U F S' from ⟨j1, j2, j3, j4, j5⟩) hba)
  have y0 := hY3.cell (k := 0) rfl
  have y1 := hY3.cell (k := 1) rfl
  have y2 := hY3.cell (k := 2) rfl
  have y3 := hY3.cell (k := 3) rfl
  have HX3 := Lib.hid hX3
  have HB3 := Lib.hid hB3
  have HZ3 := Lib.hid hZ3
  have Hb3 := Lib.hid hb03
  have hbg : w.heap.size + 3 ≤ w2.heap.size := by have := hb02.size; have := hZ2.lt; omega
  have hs2 := hb02.size
  clear hX3 hB3 hZ3 hb03 j1 j2 j3 j4 j5 hX2 hY2 hZ2 hb02 hba hY3
  have dc1 : ((code : Int) == 1) = false := by simp; omega
  have D1 := fun V => Digits_any V kn (by omega)
  have D2 := fun V => Digits_any V un (by omega)
  have D3 := fun V => Digits_any V fn (by omega)
  have D4 := fun V => Digits_any V tn (by omega)
  have D5 := fun V => Digits_any V code (by omega)
  simp only [itoa_one b1] at D1
  simp only [itoa_one b2] at D2
  simp only [itoa_one b3] at D3
  simp only [itoa_one b4] at D4
  simp only [itoa_one b5] at D5
  have Hsay := Lib.hid (sayT_ten b1 b2 b3 b4 b5)
  replace D1 := Lib.hid D1
  replace D2 := Lib.hid D2
  replace D3 := Lib.hid D3
  replace D4 := Lib.hid D4
  replace D5 := Lib.hid D5
  generalize UInt8.ofNat (48 + kn) = e1 at *
  generalize UInt8.ofNat (48 + un) = e2 at *
  generalize UInt8.ofNat (48 + fn) = e3 at *
  generalize UInt8.ofNat (48 + tn) = e4 at *
  generalize UInt8.ofNat (48 + code) = e5 at *
  by_cases hk3 : kn = 3
  · have dk3 : ((kn : Int) == 3) = true := by simp; omega
    have et : t = (tn : Int) := by rw [← ht]; unfold toOf; rw [if_pos (by omega)]
    subst et
    clear ht hk3
    go_wp2_with fail
    generalize w2.alloc (.cells #[.slice s1 S'.Re.length d1, .slice s2 S'.Ho.length d2, .slice s3 S'.Re.length d3, .slice s4 S'.Re.length d4, .slice s5 S'.Ho.length d5] 99) = w3 at *
    go_quiet (first | (with_reducible exact quiet1 (D1.out _)) | (with_reducible exact quiet1 (D2.out _)) | (with_reducible exact quiet1 (D3.out _)) | (with_reducible exact quiet1 (D4.out _)) | (with_reducible exact quiet1 (D5.out _)))
    obtain ⟨sb, hsb⟩ : ∃ sb, (⟨#[e1]⟩ : ByteArray) ++ ⟨#[32]⟩ ++ ⟨#[e2]⟩ ++ ⟨#[32]⟩ ++ ⟨#[e3]⟩ ++ ⟨#[32]⟩ ++ ⟨#[e4]⟩ ++ ⟨#[32]⟩ ++ ⟨#[e5]⟩ ++ ⟨#[32]⟩ = sb := ⟨_, rfl⟩
    have Hsd := Lib.hid (show sb.data.toList = sayT kn un fn tn code by rw [← hsb, Hsay.out]; exact say_str)
    have hsz : sb.size = 10 := by rw [rt_size, ← hsb, say_str]; rfl
    have CL := fun V => RLink_any (c := T.chain) (s := sb) hchain (by omega) V
    rw [Hsd.out] at CL
    have hlt := linkV_lt T.chain (sayT kn un fn tn code)
    have hll := link_len hlt
    have CD := fun V => Digits_any V (linkV T.chain (sayT kn un fn tn code)) (by omega)
    have Hpush := Lib.hid (show T.push S' kn un fn tn code = { S := S', log := T.log ++ (sayT kn un fn tn code ++ Lib.itoa (linkV T.chain (sayT kn un fn tn code) : Int) ++ [10]), many := T.many + 1, chain := linkV T.chain (sayT kn un fn tn code) } from rfl)
    generalize linkV T.chain (sayT kn un fn tn code) = lk at *
    obtain ⟨ib, hib⟩ : ∃ ib, (⟨(Lib.itoa (lk : Int)).toArray⟩ : ByteArray) = ib := ⟨_, rfl⟩
    have Hid_ := Lib.hid (show ib.data.toList = Lib.itoa (lk : Int) by rw [← hib, rt_of])
    have hisz : ib.size ≤ 4 := by rw [rt_size, Hid_.out]; exact hll
    simp only [hib] at CD
    have CL := Lib.hid CL
    have CD := Lib.hid CD
    rw [hsb]
    have hX4 := HX3.out.drewN nq
    have hB4 := HB3.out.drewN nq
    have hZ4 := HZ3.out.drewN nq
    have hb4 := belowD Hb3.out nq
    have hJ4 := HJ.out.below (belowD (Below.refl _ w3) nq)
    obtain ⟨tb, htb⟩ : ∃ tb, (⟨T.log.toArray⟩ : ByteArray) = tb := ⟨_, rfl⟩
    have Htd := Lib.hid (show tb.data.toList = T.log by rw [← htb, rt_of])
    have htsz : tb.size ≤ 1500 := by rw [rt_size, Htd.out]; omega
    rw [htb] at hX4 ⊢
    clear HX3 HB3 HZ3 Hb3 HJ hsb htb hib D1 D2 D3 D4 D5 y0 y1 y2 y3 Hsay
    generalize w3.drewN nq = w4 at *
    obtain ⟨⟨x0, x1, x2, x3, x4, x5, x6, x7⟩, fx0, fx1, fx2, fx3, fx4, fx5, fx6, fx7⟩ := BoxN.st8 hX4
    have v0 := hB4.cell (k := 0) rfl
    have v1 := hB4.cell (k := 1) rfl
    have v2 := hB4.cell (k := 2) rfl
    have v3 := hB4.cell (k := 3) rfl
    have v4 := hB4.cell (k := 4) rfl
    have HX4 := Lib.hid hX4
    have HZ4 := Lib.hid hZ4
    have Hb4 := Lib.hid hb4
    have HJ4 := Lib.hid hJ4
    clear hX4 hB4 hZ4 hb4 hJ4
    have nBX : w2.heap.size ≠ w.heap.size := by omega
    go_wp2_with fail
    with_reducible refine (CL.out _).mono ?_
    rintro e w5 ⟨rfl, rfl⟩
    go_wp2_with fail
    have hX5 := HX4.out.put6 (.slice s1 S'.Re.length d1) (.slice s2 S'.Ho.length d2) (.slice s3 S'.Re.length d3) (.slice s4 S'.Re.length d4) (.slice s5 S'.Ho.length d5) (.int .i64 lk)
    have hZ5 := HZ4.out.far6 (g := w.heap.size) (by omega) (.slice s1 S'.Re.length d1) (.slice s2 S'.Ho.length d2) (.slice s3 S'.Re.length d3) (.slice s4 S'.Re.length d4) (.slice s5 S'.Ho.length d5) (.int .i64 lk)
    have hb5 := below_put6 Hb4.out (Nat.le_refl _) (.slice s1 S'.Re.length d1) (.slice s2 S'.Ho.length d2) (.slice s3 S'.Re.length d3) (.slice s4 S'.Re.length d4) (.slice s5 S'.Ho.length d5) (.int .i64 lk)
    have hJ5 := HJ4.out.put6 (g := w.heap.size) (by omega) (.slice s1 S'.Re.length d1) (.slice s2 S'.Ho.length d2) (.slice s3 S'.Re.length d3) (.slice s4 S'.Re.length d4) (.slice s5 S'.Ho.length d5) (.int .i64 lk)
    clear x0 x1 x2 x3 x4 x5 x6 x7 fx0 fx1 fx2 fx3 fx4 fx5 fx6 fx7 v0 v1 v2 v3 v4 HX4 HZ4 Hb4 HJ4 CL
    generalize (((((w4.setCell ⟨w.heap.size, 0, none⟩ (.slice s1 S'.Re.length d1)).setCell ⟨w.heap.size, 1, none⟩ (.slice s2 S'.Ho.length d2)).setCell ⟨w.heap.size, 2, none⟩ (.slice s3 S'.Re.length d3)).setCell ⟨w.heap.size, 3, none⟩ (.slice s4 S'.Re.length d4)).setCell ⟨w.heap.size, 4, none⟩ (.slice s5 S'.Ho.length d5)).setCell ⟨w.heap.size, 7, none⟩ (.int .i64 lk) = w5 at *
    obtain ⟨⟨x0, x1, x2, x3, x4, x5, x6, x7⟩, fx0, fx1, fx2, fx3, fx4, fx5, fx6, fx7⟩ := BoxN.st8 hX5
    obtain ⟨⟨z0, z1, z2, z3, z4, z5, z6, z7⟩, fz0, fz1, fz2, fz3, fz4, fz5, fz6, fz7⟩ := BoxN.st8 hZ5
    have CDs := Lib.hid (fun V => (CD.out V).mono fun e w' ⟨he, hw⟩ => (⟨he, hw.symm⟩ : e = _ ∧ w' = V))
    have q1 : ¬ 9223372036854775807 < tb.size + sb.size := by omega
    have q2 : ¬ 9223372036854775807 < tb.size + sb.size + ib.size := by omega
    have q3 : ¬ 9223372036854775807 < tb.size + sb.size + ib.size + 1 := by omega
    replace hsz := Lib.hid hsz
    have hwm : IntKind.i64.wrap ((T.many : Int) + 1) = (T.many : Int) + 1 := (IntKind.wrap_i64 _).trans (by omega)
    have HX5 := Lib.hid hX5
    have HZ5 := Lib.hid hZ5
    have Hb5 := Lib.hid hb5
    have HJ5 := Lib.hid hJ5
    clear hX5 hZ5 hb5 hJ5
    refine wp_still_tailD 9 (by kernel_rfl) (by kernel_rfl) ?_
    simp only [List.take_succ_cons, List.take_zero, List.drop_succ_cons, List.drop_zero]
    repeat (first | still_step | still_call (CDs.out _))
    refine wpStill_nil ?_
    go_wp2_with fail
    have hZ6 := (((HZ5.out.drewN 1).other (a := ⟨w.heap.size, 5, none⟩) (by show w.heap.size + 1 + 1 ≠ w.heap.size; omega) (.string (tb ++ sb ++ ib ++ ⟨#[10]⟩))).other (a := ⟨w.heap.size, 6, none⟩) (by show w.heap.size + 1 + 1 ≠ w.heap.size; omega) (.int .i64 ((T.many : Int) + 1))).put8 (.slice s1 S'.Re.length d1) (.slice s2 S'.Ho.length d2) (.slice s3 S'.Re.length d3) (.slice s4 S'.Re.length d4) (.slice s5 S'.Ho.length d5) (.string (tb ++ sb ++ ib ++ ⟨#[10]⟩)) (.int .i64 ((T.many : Int) + 1)) (.int .i64 lk)
    have hb6 := below_put8 (((belowD Hb5.out 1).setCell (p := ⟨w.heap.size, 5, none⟩) (Nat.le_refl _) (.string (tb ++ sb ++ ib ++ ⟨#[10]⟩))).setCell (p := ⟨w.heap.size, 6, none⟩) (Nat.le_refl _) (.int .i64 ((T.many : Int) + 1))) (show w.heap.size ≤ w.heap.size + 1 + 1 by omega) (.slice s1 S'.Re.length d1) (.slice s2 S'.Ho.length d2) (.slice s3 S'.Re.length d3) (.slice s4 S'.Re.length d4) (.slice s5 S'.Ho.length d5) (.string (tb ++ sb ++ ib ++ ⟨#[10]⟩)) (.int .i64 ((T.many : Int) + 1)) (.int .i64 lk)
    have hJ6 := (((HJ5.out.below (belowD (Below.refl _ w5) 1)).set (p := ⟨w.heap.size, 5, none⟩) (by show w.heap.size ≤ w.heap.size ∧ w.heap.size < w.heap.size + 3; omega) (.string (tb ++ sb ++ ib ++ ⟨#[10]⟩))).set (p := ⟨w.heap.size, 6, none⟩) (by show w.heap.size ≤ w.heap.size ∧ w.heap.size < w.heap.size + 3; omega) (.int .i64 ((T.many : Int) + 1))).put8 (g := w.heap.size + 1 + 1) (by omega) (.slice s1 S'.Re.length d1) (.slice s2 S'.Ho.length d2) (.slice s3 S'.Re.length d3) (.slice s4 S'.Re.length d4) (.slice s5 S'.Ho.length d5) (.string (tb ++ sb ++ ib ++ ⟨#[10]⟩)) (.int .i64 ((T.many : Int) + 1)) (.int .i64 lk)
    have hstr : (tb ++ sb ++ ib ++ ⟨#[10]⟩ : ByteArray) = ⟨(T.log ++ (sayT kn un fn tn code ++ Lib.itoa (lk : Int) ++ [10])).toArray⟩ := by
      apply ByteArray.ext
      apply Array.ext'
      rw [List.toList_toArray, ← Htd.out, ← Hsd.out, ← Hid_.out]
      simp
    refine bodyPost_ret (results_row_tmp rfl _ _ (w.heap.size + 1 + 1) 101 #[.slice s1 S'.Re.length d1, .slice s2 S'.Ho.length d2, .slice s3 S'.Re.length d3, .slice s4 S'.Re.length d4, .slice s5 S'.Ho.length d5, .string (tb ++ sb ++ ib ++ ⟨#[10]⟩), .int .i64 ((T.many : Int) + 1), .int .i64 lk] (0, 0) _ rfl hZ6 Tryz.underlying101 rfl (by kernel_rfl)) rfl ?_
    refine ⟨⟨_, rfl, ?_⟩, hb6⟩
    rw [Hpush.out]
    exact ⟨s1, s2, s3, s4, s5, d1, d2, d3, d4, d5, by rw [hstr]; rfl, hJ6.1.of3, hJ6.2.1.of3, hJ6.2.2.1.of3, hJ6.2.2.2.1.of3, hJ6.2.2.2.2.of3⟩
  · have dk3 : ((kn : Int) == 3) = false := by simp; omega
    have et : tn = 0 := by unfold toOf at ht; rw [if_neg (by omega)] at ht; omega
    subst et
    have D4 := Lib.hid (fun V => show Calls Tryz.prog 36 #[.int .i64 0] V fun e w' => e = .returned (.string ⟨#[e4]⟩) ∧ V = w' from D4.out V)
    clear ht hk3
    go_wp2_with fail
    generalize w2.alloc (.cells #[.slice s1 S'.Re.length d1, .slice s2 S'.Ho.length d2, .slice s3 S'.Re.length d3, .slice s4 S'.Re.length d4, .slice s5 S'.Ho.length d5] 99) = w3 at *
    go_quiet (first | (with_reducible exact quiet1 (D1.out _)) | (with_reducible exact quiet1 (D2.out _)) | (with_reducible exact quiet1 (D3.out _)) | (with_reducible exact quiet1 (D4.out _)) | (with_reducible exact quiet1 (D5.out _)))
    obtain ⟨sb, hsb⟩ : ∃ sb, (⟨#[e1]⟩ : ByteArray) ++ ⟨#[32]⟩ ++ ⟨#[e2]⟩ ++ ⟨#[32]⟩ ++ ⟨#[e3]⟩ ++ ⟨#[32]⟩ ++ ⟨#[e4]⟩ ++ ⟨#[32]⟩ ++ ⟨#[e5]⟩ ++ ⟨#[32]⟩ = sb := ⟨_, rfl⟩
    have Hsd := Lib.hid (show sb.data.toList = sayT kn un fn 0 code by rw [← hsb, Hsay.out]; exact say_str)
    have hsz : sb.size = 10 := by rw [rt_size, ← hsb, say_str]; rfl
    have CL := fun V => RLink_any (c := T.chain) (s := sb) hchain (by omega) V
    rw [Hsd.out] at CL
    have hlt := linkV_lt T.chain (sayT kn un fn 0 code)
    have hll := link_len hlt
    have CD := fun V => Digits_any V (linkV T.chain (sayT kn un fn 0 code)) (by omega)
    have Hpush := Lib.hid (show T.push S' kn un fn 0 code = { S := S', log := T.log ++ (sayT kn un fn 0 code ++ Lib.itoa (linkV T.chain (sayT kn un fn 0 code) : Int) ++ [10]), many := T.many + 1, chain := linkV T.chain (sayT kn un fn 0 code) } from rfl)
    generalize linkV T.chain (sayT kn un fn 0 code) = lk at *
    obtain ⟨ib, hib⟩ : ∃ ib, (⟨(Lib.itoa (lk : Int)).toArray⟩ : ByteArray) = ib := ⟨_, rfl⟩
    have Hid_ := Lib.hid (show ib.data.toList = Lib.itoa (lk : Int) by rw [← hib, rt_of])
    have hisz : ib.size ≤ 4 := by rw [rt_size, Hid_.out]; exact hll
    simp only [hib] at CD
    have CL := Lib.hid CL
    have CD := Lib.hid CD
    rw [hsb]
    have hX4 := HX3.out.drewN nq
    have hB4 := HB3.out.drewN nq
    have hZ4 := HZ3.out.drewN nq
    have hb4 := belowD Hb3.out nq
    have hJ4 := HJ.out.below (belowD (Below.refl _ w3) nq)
    obtain ⟨tb, htb⟩ : ∃ tb, (⟨T.log.toArray⟩ : ByteArray) = tb := ⟨_, rfl⟩
    have Htd := Lib.hid (show tb.data.toList = T.log by rw [← htb, rt_of])
    have htsz : tb.size ≤ 1500 := by rw [rt_size, Htd.out]; omega
    rw [htb] at hX4 ⊢
    clear HX3 HB3 HZ3 Hb3 HJ hsb htb hib D1 D2 D3 D4 D5 y0 y1 y2 y3 Hsay
    generalize w3.drewN nq = w4 at *
    obtain ⟨⟨x0, x1, x2, x3, x4, x5, x6, x7⟩, fx0, fx1, fx2, fx3, fx4, fx5, fx6, fx7⟩ := BoxN.st8 hX4
    have v0 := hB4.cell (k := 0) rfl
    have v1 := hB4.cell (k := 1) rfl
    have v2 := hB4.cell (k := 2) rfl
    have v3 := hB4.cell (k := 3) rfl
    have v4 := hB4.cell (k := 4) rfl
    have HX4 := Lib.hid hX4
    have HZ4 := Lib.hid hZ4
    have Hb4 := Lib.hid hb4
    have HJ4 := Lib.hid hJ4
    clear hX4 hB4 hZ4 hb4 hJ4
    have nBX : w2.heap.size ≠ w.heap.size := by omega
    go_wp2_with fail
    with_reducible refine (CL.out _).mono ?_
    rintro e w5 ⟨rfl, rfl⟩
    go_wp2_with fail
    have hX5 := HX4.out.put6 (.slice s1 S'.Re.length d1) (.slice s2 S'.Ho.length d2) (.slice s3 S'.Re.length d3) (.slice s4 S'.Re.length d4) (.slice s5 S'.Ho.length d5) (.int .i64 lk)
    have hZ5 := HZ4.out.far6 (g := w.heap.size) (by omega) (.slice s1 S'.Re.length d1) (.slice s2 S'.Ho.length d2) (.slice s3 S'.Re.length d3) (.slice s4 S'.Re.length d4) (.slice s5 S'.Ho.length d5) (.int .i64 lk)
    have hb5 := below_put6 Hb4.out (Nat.le_refl _) (.slice s1 S'.Re.length d1) (.slice s2 S'.Ho.length d2) (.slice s3 S'.Re.length d3) (.slice s4 S'.Re.length d4) (.slice s5 S'.Ho.length d5) (.int .i64 lk)
    have hJ5 := HJ4.out.put6 (g := w.heap.size) (by omega) (.slice s1 S'.Re.length d1) (.slice s2 S'.Ho.length d2) (.slice s3 S'.Re.length d3) (.slice s4 S'.Re.length d4) (.slice s5 S'.Ho.length d5) (.int .i64 lk)
    clear x0 x1 x2 x3 x4 x5 x6 x7 fx0 fx1 fx2 fx3 fx4 fx5 fx6 fx7 v0 v1 v2 v3 v4 HX4 HZ4 Hb4 HJ4 CL
    generalize (((((w4.setCell ⟨w.heap.size, 0, none⟩ (.slice s1 S'.Re.length d1)).setCell ⟨w.heap.size, 1, none⟩ (.slice s2 S'.Ho.length d2)).setCell ⟨w.heap.size, 2, none⟩ (.slice s3 S'.Re.length d3)).setCell ⟨w.heap.size, 3, none⟩ (.slice s4 S'.Re.length d4)).setCell ⟨w.heap.size, 4, none⟩ (.slice s5 S'.Ho.length d5)).setCell ⟨w.heap.size, 7, none⟩ (.int .i64 lk) = w5 at *
    obtain ⟨⟨x0, x1, x2, x3, x4, x5, x6, x7⟩, fx0, fx1, fx2, fx3, fx4, fx5, fx6, fx7⟩ := BoxN.st8 hX5
    obtain ⟨⟨z0, z1, z2, z3, z4, z5, z6, z7⟩, fz0, fz1, fz2, fz3, fz4, fz5, fz6, fz7⟩ := BoxN.st8 hZ5
    have CDs := Lib.hid (fun V => (CD.out V).mono fun e w' ⟨he, hw⟩ => (⟨he, hw.symm⟩ : e = _ ∧ w' = V))
    have q1 : ¬ 9223372036854775807 < tb.size + sb.size := by omega
    have q2 : ¬ 9223372036854775807 < tb.size + sb.size + ib.size := by omega
    have q3 : ¬ 9223372036854775807 < tb.size + sb.size + ib.size + 1 := by omega
    replace hsz := Lib.hid hsz
    have hwm : IntKind.i64.wrap ((T.many : Int) + 1) = (T.many : Int) + 1 := (IntKind.wrap_i64 _).trans (by omega)
    have HX5 := Lib.hid hX5
    have HZ5 := Lib.hid hZ5
    have Hb5 := Lib.hid hb5
    have HJ5 := Lib.hid hJ5
    clear hX5 hZ5 hb5 hJ5
    refine wp_still_tailD 9 (by kernel_rfl) (by kernel_rfl) ?_
    simp only [List.take_succ_cons, List.take_zero, List.drop_succ_cons, List.drop_zero]
    repeat (first | still_step | still_call (CDs.out _))
    refine wpStill_nil ?_
    go_wp2_with fail
    have hZ6 := (((HZ5.out.drewN 1).other (a := ⟨w.heap.size, 5, none⟩) (by show w.heap.size + 1 + 1 ≠ w.heap.size; omega) (.string (tb ++ sb ++ ib ++ ⟨#[10]⟩))).other (a := ⟨w.heap.size, 6, none⟩) (by show w.heap.size + 1 + 1 ≠ w.heap.size; omega) (.int .i64 ((T.many : Int) + 1))).put8 (.slice s1 S'.Re.length d1) (.slice s2 S'.Ho.length d2) (.slice s3 S'.Re.length d3) (.slice s4 S'.Re.length d4) (.slice s5 S'.Ho.length d5) (.string (tb ++ sb ++ ib ++ ⟨#[10]⟩)) (.int .i64 ((T.many : Int) + 1)) (.int .i64 lk)
    have hb6 := below_put8 (((belowD Hb5.out 1).setCell (p := ⟨w.heap.size, 5, none⟩) (Nat.le_refl _) (.string (tb ++ sb ++ ib ++ ⟨#[10]⟩))).setCell (p := ⟨w.heap.size, 6, none⟩) (Nat.le_refl _) (.int .i64 ((T.many : Int) + 1))) (show w.heap.size ≤ w.heap.size + 1 + 1 by omega) (.slice s1 S'.Re.length d1) (.slice s2 S'.Ho.length d2) (.slice s3 S'.Re.length d3) (.slice s4 S'.Re.length d4) (.slice s5 S'.Ho.length d5) (.string (tb ++ sb ++ ib ++ ⟨#[10]⟩)) (.int .i64 ((T.many : Int) + 1)) (.int .i64 lk)
    have hJ6 := (((HJ5.out.below (belowD (Below.refl _ w5) 1)).set (p := ⟨w.heap.size, 5, none⟩) (by show w.heap.size ≤ w.heap.size ∧ w.heap.size < w.heap.size + 3; omega) (.string (tb ++ sb ++ ib ++ ⟨#[10]⟩))).set (p := ⟨w.heap.size, 6, none⟩) (by show w.heap.size ≤ w.heap.size ∧ w.heap.size < w.heap.size + 3; omega) (.int .i64 ((T.many : Int) + 1))).put8 (g := w.heap.size + 1 + 1) (by omega) (.slice s1 S'.Re.length d1) (.slice s2 S'.Ho.length d2) (.slice s3 S'.Re.length d3) (.slice s4 S'.Re.length d4) (.slice s5 S'.Ho.length d5) (.string (tb ++ sb ++ ib ++ ⟨#[10]⟩)) (.int .i64 ((T.many : Int) + 1)) (.int .i64 lk)
    have hstr : (tb ++ sb ++ ib ++ ⟨#[10]⟩ : ByteArray) = ⟨(T.log ++ (sayT kn un fn 0 code ++ Lib.itoa (lk : Int) ++ [10])).toArray⟩ := by
      apply ByteArray.ext
      apply Array.ext'
      rw [List.toList_toArray, ← Htd.out, ← Hsd.out, ← Hid_.out]
      simp
    refine bodyPost_ret (results_row_tmp rfl _ _ (w.heap.size + 1 + 1) 101 #[.slice s1 S'.Re.length d1, .slice s2 S'.Ho.length d2, .slice s3 S'.Re.length d3, .slice s4 S'.Re.length d4, .slice s5 S'.Ho.length d5, .string (tb ++ sb ++ ib ++ ⟨#[10]⟩), .int .i64 ((T.many : Int) + 1), .int .i64 lk] (0, 0) _ rfl hZ6 Tryz.underlying101 rfl (by kernel_rfl)) rfl ?_
    refine ⟨⟨_, rfl, ?_⟩, hb6⟩
    rw [Hpush.out]
    exact ⟨s1, s2, s3, s4, s5, d1, d2, d3, d4, d5, by rw [hstr]; rfl, hJ6.1.of3, hJ6.2.1.of3, hJ6.2.2.1.of3, hJ6.2.2.2.1.of3, hJ6.2.2.2.2.of3⟩
theorem RTAsk_any {v : Value} (h : RT ok w v U F T) (hI : TInv U F T) (hU : ∀ i, i < T.S.Re.length → labOk (gI U (i * 2)) (gI U (i * 2 + 1))) (hF : ∀ i, i < T.S.Ho.length → labOk (gI F (i * 2)) (gI F (i * 2 + 1))) (lU : U.length = T.S.Re.length * 2) (lF : F.length = T.S.Ho.length * 2) (hok : ∀ b, w.heap.size ≤ b → ok b) (k u f t : Int) :
    Calls Tryz.prog 98 #[v, .agg #[.int .i64 k, .int .i64 u, .int .i64 f, .int .i64 t]] w fun e w' => (∃ v', e = .returned (.tuple #[v', .int .i64 (tAsk U F T k u f t).2]) ∧ RT ok w' v' U F (tAsk U F T k u f t).1) ∧ Below w.heap.size w w' := by
  obtain ⟨a1, a2, a3, a4, a5, c1, c2, c3, c4, c5, rfl, hR⟩ := h.rl
  by_cases hm : T.many = 100
  · rw [show tAsk U F T k u f t = (T, 4) by unfold tAsk; rw [if_pos hm]]
    exact (RTAsk_full hm k u f t).mono fun e w' ⟨he, hb⟩ => ⟨⟨_, he, h.below hb⟩, hb⟩
  · by_cases h1 : (lAsk U F T.S k u f t).2 = 1
    · rw [show tAsk U F T k u f t = (T, 1) by unfold tAsk; rw [if_neg hm, if_pos h1]]
      exact (RTAsk_range hR hI hU hF lU lF hok hm k u f t h1).mono fun e w' ⟨he, hb⟩ => ⟨⟨_, he, h.below hb⟩, hb⟩
    · have hr := TRan.of h1
      have l8 := hI.inv.lm
      have n8 := hI.inv.ln
      have hc := lAsk_code U F T.S k u f t
      rw [show tAsk U F T k u f t = (T.push (lAsk U F T.S k u f t).1 k.toNat u.toNat f.toNat (toOf k t).toNat (lAsk U F T.S k u f t).2, (lAsk U F T.S k u f t).2) by unfold tAsk; rw [if_neg hm, if_neg h1]]
      obtain ⟨⟨r1, r2⟩, ⟨r3, r4⟩, ⟨r5, r6⟩, ⟨r7, r8⟩⟩ := hr
      obtain ⟨kn, rfl⟩ := Int.eq_ofNat_of_zero_le r1
      obtain ⟨un, rfl⟩ := Int.eq_ofNat_of_zero_le r3
      obtain ⟨fn, rfl⟩ := Int.eq_ofNat_of_zero_le r5
      obtain ⟨tn, ht⟩ := Int.eq_ofNat_of_zero_le r7
      rw [ht] at r8 ⊢
      simp only [Int.toNat_natCast]
      exact RTAsk_push hR hI hU hF lU lF hok hm kn un fn t tn ht _ _ rfl h1 (by omega) (by omega) (by omega) (by omega) (by omega)
end

end Go.Proofs.YtanlmfnhlldkeaaGreatDoor
