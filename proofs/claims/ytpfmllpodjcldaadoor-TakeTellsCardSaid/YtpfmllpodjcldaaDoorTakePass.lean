/-
  Contract: take.Plan's closure that passes rights on.
-/
import Derived.Test.YtpfmllpodjcldaaDoorTakeW
namespace Go.Proofs.YtpfmllpodjcldaaDoor
open Go.RowKit
set_option maxRecDepth 100000
set_option linter.unusedVariables false
section
variable {B : Nat} {w0 w : World} {S : List GStep} {n : Nat} {L : List (List Int)} {pg gb go n0 c0 : Nat}
set_option maxHeartbeats 8000000 in
theorem PPass_any (h : PlanW B w0 w S n) (hw0 : w0.heap.size ≤ B) (hg : BoxN w0 pg 22 #[.slice (some ⟨gb, go, none⟩) n0 c0]) (hL : RowsIn anyB 1 w0 (some ⟨gb, go, none⟩) L) (hok : GOk L) (hn : L.length = n0) (hS : S.length < 1000) (hn1 : n < 1000) {a b : Nat} (ha : a < n0) (hb : b < n0) (to r : Int) :
    Calls Tryd.prog 45 #[.int .i64 a, .int .i64 b, .int .i64 to, .int .i64 r, .pointer (some ⟨pg, 0, none⟩), .pointer (some ⟨B + 2, 0, none⟩), .pointer (some ⟨B + 3, 0, none⟩)] w fun e w' => e = .returned (.tuple #[]) ∧ PlanW B w0 w' (S ++ passL L a b to r n) (passN L a b n) := by
  obtain ⟨b1, off1, c1, r0, r1'⟩ := row_int2 hok hL hn ha
  obtain ⟨b2, off2, c2, s0, s1'⟩ := row_int2 hok hL hn hb
  have r1 := r1' b hb
  have s1 := s1' a ha
  have l1 := hok.lt (x := a) (y := b) (by omega) (by omega)
  have l2 := hok.lt (x := b) (y := a) (by omega) (by omega)
  have x0 := hg.cell (k := 0) rfl
  have cl : ∀ {V : World} (hV : Below B w0 V) {p : Addr} {v : Value}, w0.cell? p = some v → V.cell? p = some v := fun {V} hV {p v} hc => (hV.cell (p := p) (by have := block_lt hc; omega)).trans hc
  have k0 : ∀ V, Below B w0 V → V.cell? ⟨pg, 0, none⟩ = some (.slice (some ⟨gb, go, none⟩) n0 c0) := fun V hV => cl hV x0
  have k1 : ∀ V, Below B w0 V → V.cell? ⟨gb, go + a, none⟩ = some (.slice (some ⟨b1, off1, none⟩) n0 c1) := fun V hV => cl hV r0
  have k2 : ∀ V, Below B w0 V → V.cell? ⟨b1, off1 + b, none⟩ = some (.int .i64 (gN L a b : Nat)) := fun V hV => cl hV r1
  have k3 : ∀ V, Below B w0 V → V.cell? ⟨gb, go + b, none⟩ = some (.slice (some ⟨b2, off2, none⟩) n0 c2) := fun V hV => cl hV s0
  have k4 : ∀ V, Below B w0 V → V.cell? ⟨b2, off2 + a, none⟩ = some (.int .i64 (gN L b a : Nat)) := fun V hV => cl hV s1
  have y0 := k0 w h.below
  have y1 := k1 w h.below
  have y2 := k2 w h.below
  have y3 := k3 w h.below
  have y4 := k4 w h.below
  have z2 := h.step.cell (k := 0) rfl
  have z3 := h.made.cell (k := 0) rfl
  have q1 : bits .and .i64 ((gN L a b : Nat) : Int) 1 = ((gN L a b &&& 1 : Nat) : Int) := bits_and_nat _ 1 (by omega) (by decide)
  have q2 : bits .and .i64 ((gN L b a : Nat) : Int) 2 = ((gN L b a &&& 2 : Nat) : Int) := bits_and_nat _ 2 (by omega) (by decide)
  have q3 : bits .and .i64 ((gN L b a : Nat) : Int) 1 = ((gN L b a &&& 1 : Nat) : Int) := bits_and_nat _ 1 (by omega) (by decide)
  have K3 := Lib.hid k3
  have K4 := Lib.hid k4
  have K0 := Lib.hid k0
  have H := Lib.hid h
  clear cl r0 r1' s0 s1' r1 s1 hg hL x0 k0 k1 k2 k3 k4 h hok l1 l2
  by_cases h1 : gN L a b &&& 1 = 0
  · have t1 : (((gN L a b &&& 1 : Nat) : Int) != 0) = false := by rw [h1]; rfl
    by_cases h2 : gN L b a &&& 2 = 0
    · have t2 : (((gN L b a &&& 2 : Nat) : Int) != 0) = false := by rw [h2]; rfl
      have HM := Lib.hid (PMade_any H.out (by omega) (by omega) a)
      by_cases h3 : gN L b a &&& 1 = 0
      · have t3 : (((gN L b a &&& 1 : Nat) : Int) != 0) = false := by rw [h3]; rfl
        have Hp := Lib.hid (show S ++ passL L a b to r n = (((S ++ [⟨2, a, 0, 0, 0⟩]) ++ [⟨1, a, b, n, 2⟩]) ++ [⟨1, b, n, to, r⟩]) ++ [⟨0, a, n, to, r⟩] by unfold passL; rw [if_neg (fun e => e h1), if_neg (fun e => e h2), if_neg (fun e => e h3)]; simp)
        have Hpn := Lib.hid (show passN L a b n = n + 1 by unfold passN; rw [if_neg (fun e => e h1), if_neg (fun e => e h2)])
        clear h1 h2 h3
        generalize gN L a b &&& 1 = u1 at *
        generalize gN L b a &&& 2 = u2 at *
        generalize gN L b a &&& 1 = u3 at *
        generalize gN L a b = v1 at *
        generalize gN L b a = v2 at *
        go_enter Tryd.func45, Tryd.ntmps45
        go_wp2_with fail
        refine HM.out.mono ?_
        rintro e w1 ⟨rfl, p1⟩
        have y0 := K0.out w1 p1.below
        have y3 := K3.out w1 p1.below
        have y4 := K4.out w1 p1.below
        have z2 := p1.step.cell (k := 0) rfl
        have H1 := Lib.hid (PStep_any p1 (by simp; omega) ⟨1, a, b, n, 2⟩)
        clear p1
        go_wp2_with fail
        refine H1.out.mono ?_
        rintro e w2 ⟨rfl, p2⟩
        have z2 := p2.step.cell (k := 0) rfl
        have H2 := Lib.hid (PStep_any p2 (by simp; omega) ⟨1, b, n, to, r⟩)
        clear p2
        go_wp2_with fail
        refine H2.out.mono ?_
        rintro e w3 ⟨rfl, p3⟩
        have z2 := p3.step.cell (k := 0) rfl
        have H3 := Lib.hid (PStep_any p3 (by simp; omega) ⟨0, a, n, to, r⟩)
        clear p3
        go_wp2_with fail
        refine H3.out.mono ?_
        rintro e w4 ⟨rfl, p4⟩
        go_wp2_with fail
        go_end0
        exact ⟨rfl, by rw [Hp.out, Hpn.out]; exact p4⟩
      · have t3 : (((gN L b a &&& 1 : Nat) : Int) != 0) = true := bne_iff_ne.2 (fun e => h3 (Int.ofNat.inj e))
        have Hp := Lib.hid (show S ++ passL L a b to r n = (((S ++ [⟨2, a, 0, 0, 0⟩]) ++ [⟨0, b, a, n, 2⟩]) ++ [⟨1, b, n, to, r⟩]) ++ [⟨0, a, n, to, r⟩] by unfold passL; rw [if_neg (fun e => e h1), if_neg (fun e => e h2), if_pos h3]; simp)
        have Hpn := Lib.hid (show passN L a b n = n + 1 by unfold passN; rw [if_neg (fun e => e h1), if_neg (fun e => e h2)])
        clear h1 h2 h3
        generalize gN L a b &&& 1 = u1 at *
        generalize gN L b a &&& 2 = u2 at *
        generalize gN L b a &&& 1 = u3 at *
        generalize gN L a b = v1 at *
        generalize gN L b a = v2 at *
        go_enter Tryd.func45, Tryd.ntmps45
        go_wp2_with fail
        refine HM.out.mono ?_
        rintro e w1 ⟨rfl, p1⟩
        have y0 := K0.out w1 p1.below
        have y3 := K3.out w1 p1.below
        have y4 := K4.out w1 p1.below
        have z2 := p1.step.cell (k := 0) rfl
        have H1 := Lib.hid (PStep_any p1 (by simp; omega) ⟨0, b, a, n, 2⟩)
        clear p1
        go_wp2_with fail
        refine H1.out.mono ?_
        rintro e w2 ⟨rfl, p2⟩
        have z2 := p2.step.cell (k := 0) rfl
        have H2 := Lib.hid (PStep_any p2 (by simp; omega) ⟨1, b, n, to, r⟩)
        clear p2
        go_wp2_with fail
        refine H2.out.mono ?_
        rintro e w3 ⟨rfl, p3⟩
        have z2 := p3.step.cell (k := 0) rfl
        have H3 := Lib.hid (PStep_any p3 (by simp; omega) ⟨0, a, n, to, r⟩)
        clear p3
        go_wp2_with fail
        refine H3.out.mono ?_
        rintro e w4 ⟨rfl, p4⟩
        go_wp2_with fail
        go_end0
        exact ⟨rfl, by rw [Hp.out, Hpn.out]; exact p4⟩
    · have t2 : (((gN L b a &&& 2 : Nat) : Int) != 0) = true := bne_iff_ne.2 (fun e => h2 (Int.ofNat.inj e))
      have Hp := Lib.hid (show passL L a b to r n = [⟨1, b, a, to, r⟩] by unfold passL; rw [if_neg (fun e => e h1), if_pos h2])
      have Hpn := Lib.hid (show passN L a b n = n by unfold passN; rw [if_neg (fun e => e h1), if_pos h2])
      have H1 := Lib.hid (PStep_any H.out (by omega) ⟨1, b, a, to, r⟩)
      clear h1 h2
      generalize gN L a b &&& 1 = u1 at *
      generalize gN L b a &&& 2 = u2 at *
      generalize gN L b a &&& 1 = u3 at *
      generalize gN L a b = v1 at *
      generalize gN L b a = v2 at *
      go_enter Tryd.func45, Tryd.ntmps45
      go_wp2_with fail
      refine H1.out.mono ?_
      rintro e w2 ⟨rfl, p2⟩
      go_wp2_with fail
      go_end0
      exact ⟨rfl, by rw [Hp.out, Hpn.out]; exact p2⟩
  · have t1 : (((gN L a b &&& 1 : Nat) : Int) != 0) = true := bne_iff_ne.2 (fun e => h1 (Int.ofNat.inj e))
    have Hp := Lib.hid (show passL L a b to r n = [⟨0, a, b, to, r⟩] by unfold passL; rw [if_pos h1])
    have Hpn := Lib.hid (show passN L a b n = n by unfold passN; rw [if_pos h1])
    have H1 := Lib.hid (PStep_any H.out (by omega) ⟨0, a, b, to, r⟩)
    clear h1
    generalize gN L a b &&& 1 = u1 at *
    generalize gN L b a &&& 2 = u2 at *
    generalize gN L b a &&& 1 = u3 at *
    generalize gN L a b = v1 at *
    generalize gN L b a = v2 at *
    go_enter Tryd.func45, Tryd.ntmps45
    go_wp2_with fail
    refine H1.out.mono ?_
    rintro e w2 ⟨rfl, p2⟩
    go_wp2_with fail
    go_end0
    exact ⟨rfl, by rw [Hp.out, Hpn.out]; exact p2⟩
end
end Go.Proofs.YtpfmllpodjcldaaDoor
