/-
  Contract: flow.each, for any closure that is told each setting.
-/
import Derived.Test.YthaaekpnemhjoaaDoorPgB
import Derived.Test.YthaaekpnemhjoaaDoorStillD
import Derived.Deep.RegionHeld3
import Derived.Deep.CutRange
import Derived.RangeFuncOwn
import Derived.Shelf.Abstract
namespace Go.Proofs.YthaaekpnemhjoaaDoor
open Go.RowKit Go.Shelf
set_option maxRecDepth 100000
set_option linter.unusedVariables false

/-- What is laid from E on stays as it is. -/
structure KeepsUp (E : Nat) (w w' : World) : Prop where
  size : w.heap.size ≤ w'.heap.size
  block : ∀ b, E ≤ b → b < w.heap.size → w'.heap[b]? = w.heap[b]?
section
variable {E : Nat} {w w' w'' : World}
theorem KeepsUp.refl (E : Nat) (w : World) : KeepsUp E w w := ⟨Nat.le_refl _, fun _ _ _ => rfl⟩
theorem KeepsUp.trans (h : KeepsUp E w w') (k : KeepsUp E w' w'') : KeepsUp E w w'' := ⟨Nat.le_trans h.size k.size, fun b hb hl => (k.block b hb (Nat.lt_of_lt_of_le hl h.size)).trans (h.block b hb hl)⟩
theorem KeepsUp.below (h : Below w.heap.size w w') : KeepsUp E w w' := ⟨h.size, fun b _ hl => h.block b hl⟩
theorem KeepsUp.box (h : KeepsUp E w w') {b : Nat} {t : TypeId} {vs : Array Value} (hb : BoxN w b t vs) (hE : E ≤ b) : BoxN w' b t vs := (h.block b hE hb.lt).trans hb
theorem KeepsUp.mono (h : KeepsUp E w w') {D : Nat} (hD : E ≤ D) : KeepsUp D w w' := ⟨h.size, fun b hb hl => h.block b (Nat.le_trans hD hb) hl⟩
end

/-- A closure that is told settings: what it makes of them is said of the world behind it. -/
structure Sees (w0 : World) (E : Nat) (fn : FuncId) (caps : Array Value) (Inv : List (Nat × Nat) → World → Prop) : Prop where
  enters : Enters Tryd.prog fn
  low : ∀ l V, Inv l V → Below w0.heap.size w0 V
  up : ∀ l V, Inv l V → E ≤ V.heap.size
  keep : ∀ l V V', Inv l V → Below V.heap.size V V' → Inv l V'
  call : ∀ l x f V, Inv l V → x < 6 → f < 64 → Calls Tryd.prog fn (#[.int .i64 (x : Nat), .int .i64 (f : Nat)] ++ caps) V fun e w' => e = .returned (.tuple #[]) ∧ Inv (l ++ [(x, f)]) w' ∧ KeepsUp E V w'

set_option maxHeartbeats 4000000 in
theorem each_any {P : List Int} {n : Nat} {A : Option Addr} {c : Nat} {w0 : World} {E : Nat} {fn : FuncId} {caps : Array Value} {Inv : List (Nat × Nat) → World → Prop} (hS : Sees w0 E fn caps Inv) (hP : NodesAt w0 A P n) {i : Nat} {s : St} (hs : IsSt P i s) (hi : i < n) :
    ∀ (u : Nat) (l : List (Nat × Nat)) (V : World), u < 64 → Inv l V →
    Calls Tryd.prog 29 #[.slice A n c, .int .i64 i, .int .i64 u, .func (.func fn) #[] caps] V fun e w' => e = .returned (.tuple #[]) ∧ Inv (l ++ s.sets u) w' ∧ KeepsUp E V w' := by
  induction hs with
  | @skip i h0 =>
    intro u l V hu hI
    obtain ⟨b, off, rfl, p0, p1, p2, p3, p4⟩ := (hP.below (B := 0) (hS.low l V hI)).cells hi
    rw [h0] at p0
    have hb : Below V.heap.size V (V.alloc (.cells #[.int .i64 5, .int .i64 (nd P i 1), .int .i64 (nd P i 2), .int .i64 (nd P i 3), .int .i64 (nd P i 4)] 66)) := (Below.refl _ _).alloc (Nat.le_refl _) _
    have Hi := Lib.hid (hS.keep _ _ _ hI hb)
    have Hk := Lib.hid (KeepsUp.below (E := E) hb)
    have Hl := Lib.hid (show l ++ St.sets .skip u = l by simp [St.sets])
    clear hI h0 hb
    go_enter Tryd.func29, Tryd.ntmps29
    go_wp2_with fail
    go_end0
    exact ⟨rfl, by rw [Hl.out]; exact Hi.out, Hk.out⟩
  | @set i m a x h0 h1 h6 h2 ha hx =>
    intro u l V hu hI
    obtain ⟨b, off, rfl, p0, p1, p2, p3, p4⟩ := (hP.below (B := 0) (hS.low l V hI)).cells hi
    rw [h0] at p0
    rw [h1] at p1
    rw [h2] at p2
    have hb : Below V.heap.size V (V.alloc (.cells #[.int .i64 6, .int .i64 m, .int .i64 a, .int .i64 (nd P i 3), .int .i64 (nd P i 4)] 66)) := (Below.refl _ _).alloc (Nat.le_refl _) _
    have hx0 := BoxN.new V 66 #[.int .i64 6, .int .i64 m, .int .i64 a, .int .i64 (nd P i 3), .int .i64 (nd P i 4)]
    have hEV := hS.up l V hI
    have hP0 := hP.below (B := 0) (hS.low l V hI)
    have hI0 := hS.keep _ _ _ hI hb
    have hk0 : KeepsUp E V (V.alloc (.cells #[.int .i64 6, .int .i64 m, .int .i64 a, .int .i64 (nd P i 3), .int .i64 (nd P i 4)] 66)) := KeepsUp.below hb
    have hsz : V.heap.size < (V.alloc (.cells #[.int .i64 6, .int .i64 m, .int .i64 a, .int .i64 (nd P i 3), .int .i64 (nd P i 4)] 66)).heap.size := by simp
    have hlx := Ex.names_lt hx.ok
    have Ho := Lib.hid (bits_or_nat u x.names (by omega) (by omega))
    have Hl := Lib.hid (show St.sets (.set m x) u = [(m, u ||| x.names)] from rfl)
    have hr64 : u ||| x.names < 64 := Nat.or_lt_two_pow (n := 6) hu hlx
    have HN := Lib.hid (fun W (hW : Below V.heap.size V W) => names_any (c := c) hx (by omega) W (hP0.below (B := 0) hW))
    generalize u ||| x.names = f at *
    generalize x.names = xn at *
    clear h0 h1 h2 hx hP hlx hP0
    generalize nd P i 3 = q3 at *
    generalize nd P i 4 = q4 at *
    go_enter Tryd.func29, Tryd.ntmps29
    go_wp2_with fail
    generalize (V.alloc (.cells #[.int .i64 6, .int .i64 m, .int .i64 a, .int .i64 q3, .int .i64 q4] 66)) = W at *
    have e1 : W.cell? ⟨V.heap.size, 1, none⟩ = some (.int .i64 (m : Nat)) := hx0.cell rfl
    have e2 : W.cell? ⟨V.heap.size, 2, none⟩ = some (.int .i64 (a : Nat)) := hx0.cell rfl
    have HS := Lib.hid (fun X (hX : Below W.heap.size W X) => hS.call l m f X (hS.keep _ _ _ hI0 hX) h6 hr64)
    have HN1 := Lib.hid (fun X (hX : Below W.heap.size W X) => (HN.out X (hb.trans (hX.mono hb.size))).mono fun r w' ⟨he, hx⟩ => (⟨he, hX.trans (hx.mono hX.size)⟩ : _ ∧ Below W.heap.size W w'))
    have hKeep := Lib.hid (fun X (hX : KeepsUp E W X) => (⟨(hX.box hx0 hEV).cell rfl, (hX.box hx0 hEV).cell rfl⟩ : X.cell? ⟨V.heap.size, 1, none⟩ = some (.int .i64 (m : Nat)) ∧ X.cell? ⟨V.heap.size, 2, none⟩ = some (.int .i64 (a : Nat))))
    have hrc : ∀ (args : Array Value) (X : World), (callFunc fn args).run Tryd.prog X = .ok (.enter fn args) X := fun args X => hS.enters args X
    have hbr := (Below.refl W.heap.size W).drew
    have hkr : KeepsUp E W W.drew := KeepsUp.below hbr
    have HI0 := Lib.hid hI0
    have Hk0 := Lib.hid hk0
    clear HN hI hI0 hb e1 e2 hk0
    go_region_held3 (fun X => X.cell? ⟨V.heap.size, 1, none⟩ = some (.int .i64 (m : Nat)) ∧ X.cell? ⟨V.heap.size, 2, none⟩ = some (.int .i64 (a : Nat)))
      ((refine hKeep.out _ ?_; assumption))
      ((first | (go_at_call 50; with_reducible refine (HN1.out _ (by assumption)).mono ?_; rintro r w1 ⟨rfl, hb1⟩; have hk1 : KeepsUp E W w1 := KeepsUp.below hb1) | (rw [Ho.out]; with_reducible refine (HS.out _ (by assumption)).mono ?_; rintro r w2 ⟨rfl, hI2, hk2⟩; have hk3 : KeepsUp E W w2 := hk1.trans hk2)))
    all_goals go_wp2_with fail
    all_goals go_end0
    all_goals exact ⟨rfl, by rw [Hl.out]; exact hI2, Hk0.out.trans hk3⟩
  | @both i a b x y h0 h2 h3 la lb hx hy iha ihb =>
    intro u l V hu hI
    obtain ⟨bb, off, rfl, p0, p1, p2, p3, p4⟩ := (hP.below (B := 0) (hS.low l V hI)).cells hi
    rw [h0] at p0
    rw [h2] at p2
    rw [h3] at p3
    have hb : Below V.heap.size V (V.alloc (.cells #[.int .i64 7, .int .i64 (nd P i 1), .int .i64 a, .int .i64 b, .int .i64 (nd P i 4)] 66)) := (Below.refl _ _).alloc (Nat.le_refl _) _
    have hx0 := BoxN.new V 66 #[.int .i64 7, .int .i64 (nd P i 1), .int .i64 a, .int .i64 b, .int .i64 (nd P i 4)]
    have hEV := hS.up l V hI
    have hP0 := hP.below (B := 0) (hS.low l V hI)
    have hI0 := hS.keep _ _ _ hI hb
    have hk0 : KeepsUp E V (V.alloc (.cells #[.int .i64 7, .int .i64 (nd P i 1), .int .i64 a, .int .i64 b, .int .i64 (nd P i 4)] 66)) := KeepsUp.below hb
    have hsz : V.heap.size < (V.alloc (.cells #[.int .i64 7, .int .i64 (nd P i 1), .int .i64 a, .int .i64 b, .int .i64 (nd P i 4)] 66)).heap.size := by simp
    have Ha := Lib.hid (iha (by omega) u l)
    have Hb := Lib.hid (ihb (by omega) u (l ++ x.sets u))
    have Hl := Lib.hid (show l ++ St.sets (.both x y) u = (l ++ x.sets u) ++ y.sets u by rw [St.sets, List.append_assoc])
    clear h0 h2 h3 hx hy hP hP0 iha ihb
    generalize nd P i 1 = q1 at *
    generalize nd P i 4 = q4 at *
    go_enter Tryd.func29, Tryd.ntmps29
    go_wp2_with fail
    generalize (V.alloc (.cells #[.int .i64 7, .int .i64 q1, .int .i64 a, .int .i64 b, .int .i64 q4] 66)) = W at *
    clear p0 p1 p2 p3 p4 hI hb
    have e2 : W.cell? ⟨V.heap.size, 2, none⟩ = some (.int .i64 (a : Nat)) := hx0.cell rfl
    go_wp2_with fail
    refine (Ha.out W hu hI0).mono ?_
    rintro r w1 ⟨rfl, hI1, hk1⟩
    have e3 : w1.cell? ⟨V.heap.size, 3, none⟩ = some (.int .i64 (b : Nat)) := (hk1.box hx0 hEV).cell rfl
    clear e2
    go_wp2_with fail
    refine (Hb.out w1 hu hI1).mono ?_
    rintro r w2 ⟨rfl, hI2, hk2⟩
    go_wp2_with fail
    go_end0
    exact ⟨rfl, by rw [Hl.out]; exact hI2, (hk0.trans hk1).trans hk2⟩
  | @ite i a b d x y z h0 h2 h3 h4 la lb ld hx hy hz ihb ihd =>
    intro u l V hu hI
    obtain ⟨bb, off, rfl, p0, p1, p2, p3, p4⟩ := (hP.below (B := 0) (hS.low l V hI)).cells hi
    rw [h0] at p0
    rw [h2] at p2
    rw [h3] at p3
    rw [h4] at p4
    have hb : Below V.heap.size V (V.alloc (.cells #[.int .i64 8, .int .i64 (nd P i 1), .int .i64 a, .int .i64 b, .int .i64 d] 66)) := (Below.refl _ _).alloc (Nat.le_refl _) _
    have hx0 := BoxN.new V 66 #[.int .i64 8, .int .i64 (nd P i 1), .int .i64 a, .int .i64 b, .int .i64 d]
    have hEV := hS.up l V hI
    have hP0 := hP.below (B := 0) (hS.low l V hI)
    have hI0 := hS.keep _ _ _ hI hb
    have hk0 : KeepsUp E V (V.alloc (.cells #[.int .i64 8, .int .i64 (nd P i 1), .int .i64 a, .int .i64 b, .int .i64 d] 66)) := KeepsUp.below hb
    have hsz : V.heap.size < (V.alloc (.cells #[.int .i64 8, .int .i64 (nd P i 1), .int .i64 a, .int .i64 b, .int .i64 d] 66)).heap.size := by simp
    have hlx := Ex.names_lt hx.ok
    have Ho := Lib.hid (bits_or_nat u x.names (by omega) (by omega))
    have hr64 : u ||| x.names < 64 := Nat.or_lt_two_pow (n := 6) hu hlx
    have HN := Lib.hid (fun W (hW : Below V.heap.size V W) => names_any (c := c) hx (by omega) W (hP0.below (B := 0) hW))
    have Hb := Lib.hid (ihb (by omega) (u ||| x.names) l)
    have Hd := Lib.hid (ihd (by omega) (u ||| x.names) (l ++ y.sets (u ||| x.names)))
    have Hl := Lib.hid (show l ++ St.sets (.ite x y z) u = (l ++ y.sets (u ||| x.names)) ++ z.sets (u ||| x.names) by rw [St.sets, List.append_assoc])
    clear h0 h2 h3 h4 hx hy hz hP hP0 ihb ihd hlx
    generalize u ||| x.names = f at *
    generalize x.names = xn at *
    generalize nd P i 1 = q1 at *
    go_enter Tryd.func29, Tryd.ntmps29
    go_wp2_with fail
    generalize (V.alloc (.cells #[.int .i64 8, .int .i64 q1, .int .i64 a, .int .i64 b, .int .i64 d] 66)) = W at *
    clear p0 p1 p2 p3 p4
    have e2 : W.cell? ⟨V.heap.size, 2, none⟩ = some (.int .i64 (a : Nat)) := hx0.cell rfl
    have hkp := Lib.hid (hS.keep l W)
    clear hI
    go_wp2_with fail
    refine (HN.out W hb).mono ?_
    rintro r w1 ⟨rfl, hb1⟩
    have hI1 := hkp.out _ hI0 hb1
    have hk1 : KeepsUp E W w1 := KeepsUp.below hb1
    have e3 : w1.cell? ⟨V.heap.size, 3, none⟩ = some (.int .i64 (b : Nat)) := (hk1.box hx0 hEV).cell rfl
    clear e2 HN hb hb1
    go_wp2_with fail
    rw [Ho.out]
    refine (Hb.out w1 hr64 hI1).mono ?_
    rintro r w2 ⟨rfl, hI2, hk2⟩
    have e4 : w2.cell? ⟨V.heap.size, 4, none⟩ = some (.int .i64 (d : Nat)) := ((hk1.trans hk2).box hx0 hEV).cell rfl
    clear e3
    go_wp2_with fail
    refine (Hd.out w2 hr64 hI2).mono ?_
    rintro r w3 ⟨rfl, hI3, hk3⟩
    go_wp2_with fail
    go_end0
    exact ⟨rfl, by rw [Hl.out]; exact hI3, ((hk0.trans hk1).trans hk2).trans hk3⟩
  | @loop i a b x y h0 h2 h3 la lb hx hy ihb =>
    intro u l V hu hI
    obtain ⟨bb, off, rfl, p0, p1, p2, p3, p4⟩ := (hP.below (B := 0) (hS.low l V hI)).cells hi
    rw [h0] at p0
    rw [h2] at p2
    rw [h3] at p3
    have hb : Below V.heap.size V (V.alloc (.cells #[.int .i64 9, .int .i64 (nd P i 1), .int .i64 a, .int .i64 b, .int .i64 (nd P i 4)] 66)) := (Below.refl _ _).alloc (Nat.le_refl _) _
    have hx0 := BoxN.new V 66 #[.int .i64 9, .int .i64 (nd P i 1), .int .i64 a, .int .i64 b, .int .i64 (nd P i 4)]
    have hEV := hS.up l V hI
    have hP0 := hP.below (B := 0) (hS.low l V hI)
    have hI0 := hS.keep _ _ _ hI hb
    have hk0 : KeepsUp E V (V.alloc (.cells #[.int .i64 9, .int .i64 (nd P i 1), .int .i64 a, .int .i64 b, .int .i64 (nd P i 4)] 66)) := KeepsUp.below hb
    have hsz : V.heap.size < (V.alloc (.cells #[.int .i64 9, .int .i64 (nd P i 1), .int .i64 a, .int .i64 b, .int .i64 (nd P i 4)] 66)).heap.size := by simp
    have hlx := Ex.names_lt hx.ok
    have Ho := Lib.hid (bits_or_nat u x.names (by omega) (by omega))
    have hr64 : u ||| x.names < 64 := Nat.or_lt_two_pow (n := 6) hu hlx
    have HN := Lib.hid (fun W (hW : Below V.heap.size V W) => names_any (c := c) hx (by omega) W (hP0.below (B := 0) hW))
    have Hb := Lib.hid (ihb (by omega) (u ||| x.names) l)
    have Hl := Lib.hid (show l ++ St.sets (.loop x y) u = l ++ y.sets (u ||| x.names) from rfl)
    clear h0 h2 h3 hx hy hP hP0 ihb hlx
    generalize u ||| x.names = f at *
    generalize x.names = xn at *
    generalize nd P i 1 = q1 at *
    generalize nd P i 4 = q4 at *
    go_enter Tryd.func29, Tryd.ntmps29
    go_wp2_with fail
    generalize (V.alloc (.cells #[.int .i64 9, .int .i64 q1, .int .i64 a, .int .i64 b, .int .i64 q4] 66)) = W at *
    clear p0 p1 p2 p3 p4
    have HS := Lib.hid (fun X (hX : Below W.heap.size W X) => Hb.out X hr64 (hS.keep _ _ _ hI0 hX))
    have HN1 := Lib.hid (fun X (hX : Below W.heap.size W X) => (HN.out X (hb.trans (hX.mono hb.size))).mono fun r w' ⟨he, hx⟩ => (⟨he, hX.trans (hx.mono hX.size)⟩ : _ ∧ Below W.heap.size W w'))
    have hKeep := Lib.hid (fun X (hX : KeepsUp E W X) => (⟨(hX.box hx0 hEV).cell rfl, (hX.box hx0 hEV).cell rfl⟩ : X.cell? ⟨V.heap.size, 2, none⟩ = some (.int .i64 (a : Nat)) ∧ X.cell? ⟨V.heap.size, 3, none⟩ = some (.int .i64 (b : Nat))))
    have hbr := (Below.refl W.heap.size W).drew
    have hkr : KeepsUp E W W.drew := KeepsUp.below hbr
    have HI0 := Lib.hid hI0
    have Hk0 := Lib.hid hk0
    clear HN hI hI0 hb hk0 Hb
    go_region_held3 (fun X => X.cell? ⟨V.heap.size, 2, none⟩ = some (.int .i64 (a : Nat)) ∧ X.cell? ⟨V.heap.size, 3, none⟩ = some (.int .i64 (b : Nat)))
      ((refine hKeep.out _ ?_; assumption))
      ((first | (go_at_call 50; with_reducible refine (HN1.out _ (by assumption)).mono ?_; rintro r w1 ⟨rfl, hb1⟩; have hk1 : KeepsUp E W w1 := KeepsUp.below hb1) | (go_at_call 29; rw [Ho.out]; with_reducible refine (HS.out _ (by assumption)).mono ?_; rintro r w2 ⟨rfl, hI2, hk2⟩; have hk3 : KeepsUp E W w2 := hk1.trans hk2)))
    all_goals go_wp2_with fail
    all_goals go_end0
    all_goals exact ⟨rfl, by rw [Hl.out]; exact hI2, Hk0.out.trans hk3⟩
end Go.Proofs.YthaaekpnemhjoaaDoor
