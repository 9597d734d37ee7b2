/-
  Contracts: quietwingref2.find, Ahead. (Printed by tools/rfind.py.)
-/
import Derived.Test.YtdgncngkalgknaaDoorRsB
import Derived.Test.YtdgncngkalgknaaDoorSetsN
namespace Go.Proofs.YtdgncngkalgknaaDoor
open Go.RowKit Go.Maps
set_option maxRecDepth 100000
set_option linter.unusedVariables false
theorem diff_sub {u k : Nat} (h : u.testBit k = true) : diff u (2 ^ k) + 2 ^ k = u := by
  have h1 := and_add_or (diff u (2 ^ k)) (2 ^ k)
  have h2 : diff u (2 ^ k) &&& 2 ^ k = 0 := Nat.eq_of_testBit_eq fun j => by
    rw [Nat.testBit_and, diff_bit, tb_pow, Nat.zero_testBit]
    by_cases e : k = j <;> simp [e]
  have h3 : diff u (2 ^ k) ||| 2 ^ k = u := Nat.eq_of_testBit_eq fun j => by
    rw [Nat.testBit_or, diff_bit, tb_pow]
    by_cases e : k = j
    · subst e; simp [h]
    · simp [e]
  omega
section
variable {P : List Int} {A0 : Option Addr} {n0 c0 B tb ct : Nat} {w0 : World} {i : Nat}
set_option maxHeartbeats 4000000 in
theorem rfind_skip (hN : NodesAt w0 A0 P n0) (hB : B = w0.heap.size) (hi : i < n0) (h0 : nd P i 0 = 5) : RFindOk P A0 n0 c0 B tb ct w0 i .skip := by
  intro w T u h hw hu
  have hnode := hN.below (B := 0) (hB ▸ hw)
  obtain ⟨ba, offa, rfl, p0, p1, p2, p3, p4⟩ := hnode.cells hi
  rw [h0] at p0
  have hin := hN.small
  have htb := h.row.lt
  have hlow := h.low
  have hbw : B ≤ w.heap.size := by omega
  generalize nd P i 1 = x1 at *
  generalize nd P i 2 = x2 at *
  generalize nd P i 3 = x3 at *
  generalize nd P i 4 = x4 at *
  have hb1 := (Below.refl w.heap.size w).alloc (Nat.le_refl _) (.cells #[.int .i64 5, .int .i64 x1, .int .i64 x2, .int .i64 x3, .int .i64 x4] 51)
  have h1' := h.below hb1
  have hx1 := BoxN.new w 51 #[.int .i64 5, .int .i64 x1, .int .i64 x2, .int .i64 x3, .int .i64 x4]
  have Hn1 := Lib.hid (show ¬ w.heap.size = tb by omega)
  have HQ1 := Lib.hid (QKeeps.of_below (S := fun b => b = tb) hb1)
  have hw1 := hw.trans (hb1.mono hbw)
  have HW1 := Lib.hid hw1
  have H1 := Lib.hid h1'
  have Hx1 := Lib.hid hx1
  have HBl := Lib.hid hlow
  have HSz := Lib.hid (show B ≤ (w.alloc (.cells #[.int .i64 5, .int .i64 x1, .int .i64 x2, .int .i64 x3, .int .i64 x4] 51)).heap.size by simp; omega)
  have y10 := hx1.cell (k := 0) rfl
  have y11 := hx1.cell (k := 1) rfl
  have y12 := hx1.cell (k := 2) rfl
  have y13 := hx1.cell (k := 3) rfl
  have y14 := hx1.cell (k := 4) rfl
  clear h hw hN hB hb1 h1' hx1 hw1 hnode htb hlow hbw
  go_enter Tryd.func51, Tryd.ntmps51
  go_wp2_with fail
  go_ret2
  exact ⟨rfl, T, H1.out, HQ1.out⟩
set_option maxHeartbeats 4000000 in
theorem rfind_both {a b : Nat} {x y : St} (hN : NodesAt w0 A0 P n0) (hB : B = w0.heap.size) (hi : i < n0) (h0 : nd P i 0 = 7) (ha : nd P i 2 = a) (hb : nd P i 3 = b) (hy : y.ok) (iha : RAheadOk P A0 n0 c0 B tb ct w0 a x) (ihb : RAheadOk P A0 n0 c0 B tb ct w0 b y) : RFindOk P A0 n0 c0 B tb ct w0 i (.both x y) := by
  intro w T u h hw hu
  have hneed : (St.both x y).need u = ((x.need (y.need u).1).1, (x.need (y.need u).1).2 || (y.need u).2) := rfl
  rw [hneed]
  have hu2 : (y.need u).1 < 64 := need_lt hy hu
  have hnode := hN.below (B := 0) (hB ▸ hw)
  obtain ⟨ba, offa, rfl, p0, p1, p2, p3, p4⟩ := hnode.cells hi
  rw [h0] at p0
  rw [ha] at p2
  rw [hb] at p3
  have hin := hN.small
  have htb := h.row.lt
  have hlow := h.low
  have hbw : B ≤ w.heap.size := by omega
  generalize nd P i 1 = x1 at *
  generalize nd P i 4 = x4 at *
  have hb1 := (Below.refl w.heap.size w).alloc (Nat.le_refl _) (.cells #[.int .i64 7, .int .i64 x1, .int .i64 (a : Nat), .int .i64 (b : Nat), .int .i64 x4] 51)
  have h1' := h.below hb1
  have hx1 := BoxN.new w 51 #[.int .i64 7, .int .i64 x1, .int .i64 (a : Nat), .int .i64 (b : Nat), .int .i64 x4]
  have Hn1 := Lib.hid (show ¬ w.heap.size = tb by omega)
  have HQ1 := Lib.hid (QKeeps.of_below (S := fun b => b = tb) hb1)
  have hw1 := hw.trans (hb1.mono hbw)
  have HW1 := Lib.hid hw1
  have H1 := Lib.hid h1'
  have Hx1 := Lib.hid hx1
  have HBl := Lib.hid hlow
  have HSz := Lib.hid (show B ≤ (w.alloc (.cells #[.int .i64 7, .int .i64 x1, .int .i64 (a : Nat), .int .i64 (b : Nat), .int .i64 x4] 51)).heap.size by simp; omega)
  have y10 := hx1.cell (k := 0) rfl
  have y11 := hx1.cell (k := 1) rfl
  have y12 := hx1.cell (k := 2) rfl
  have y13 := hx1.cell (k := 3) rfl
  have y14 := hx1.cell (k := 4) rfl
  have D1 := Lib.hid (ihb _ T u h1' hw1 hu)
  have IH := Lib.hid (fun (W : World) (T2 : List Int) (hc : TabAt P n0 B tb T2 W) (hW : Below B w0 W) => iha W T2 (y.need u).1 hc hW hu2)
  clear h hw hN hB hb1 h1' hx1 hw1 hnode htb hlow hbw iha ihb hneed hu2
  generalize (y.need u).1 = ub at *
  generalize (y.need u).2 = fb at *
  generalize (x.need ub).1 = ua at *
  generalize (x.need ub).2 = fa at *
  go_enter Tryd.func51, Tryd.ntmps51
  go_wp2_with fail
  generalize w.alloc (.cells #[.int .i64 7, .int .i64 x1, .int .i64 (a : Nat), .int .i64 (b : Nat), .int .i64 x4] 51) = w1 at *
  have C2 := Lib.hid (D1.out)
  refine C2.out.mono ?_
  rintro e w2 ⟨rfl, T2, k, kQ⟩
  have hx := kQ.box Hx1.out Hn1.out
  have HW2 := Lib.hid (TabTo.below ⟨T2, k, kQ⟩ HBl.out HW1.out HSz.out)
  have HSz := Lib.hid (Nat.le_trans HSz.out kQ.size)
  have HQ2 := Lib.hid (HQ1.out.trans kQ (fun b hb => .inl hb))
  have H2 := Lib.hid k
  have Hx2 := Lib.hid hx
  have y22 := hx.cell (k := 2) rfl
  clear C2 k kQ hx
  have C3 := Lib.hid (IH.out w2 T2 H2.out HW2.out)
  go_wp2_with fail
  refine C3.out.mono ?_
  rintro e w3 ⟨rfl, T3, k, kQ⟩
  have hx := kQ.box Hx2.out Hn1.out
  have HW3 := Lib.hid (TabTo.below ⟨T3, k, kQ⟩ HBl.out HW2.out HSz.out)
  have HSz := Lib.hid (Nat.le_trans HSz.out kQ.size)
  have HQ3 := Lib.hid (HQ2.out.trans kQ (fun b hb => .inl hb))
  have H3 := Lib.hid k
  have Hx3 := Lib.hid hx
  clear C3 k kQ hx
  cases fa
  · go_wp2_with fail
    go_ret2
    exact ⟨by simp, T3, H3.out, HQ3.out⟩
  · go_wp2_with fail
    go_ret2
    exact ⟨by simp, T3, H3.out, HQ3.out⟩
set_option maxHeartbeats 4000000 in
theorem rfind_loop {a b : Nat} {z : Ex} {y : St} (hN : NodesAt w0 A0 P n0) (hB : B = w0.heap.size) (hi : i < n0) (h0 : nd P i 0 = 9) (ha : nd P i 2 = a) (hb : nd P i 3 = b) (ihb : RAheadOk P A0 n0 c0 B tb ct w0 b y) (har : ∀ x1 x4, RAroundOk P A0 n0 c0 B tb ct w0 x1 x4 a b z y) : RFindOk P A0 n0 c0 B tb ct w0 i (.loop z y) := by
  intro w T u h hw hu
  rw [need_loop]
  have hnode := hN.below (B := 0) (hB ▸ hw)
  obtain ⟨ba, offa, rfl, p0, p1, p2, p3, p4⟩ := hnode.cells hi
  rw [h0] at p0
  rw [ha] at p2
  rw [hb] at p3
  have hin := hN.small
  have htb := h.row.lt
  have hlow := h.low
  have hbw : B ≤ w.heap.size := by omega
  generalize nd P i 1 = x1 at *
  generalize nd P i 4 = x4 at *
  have hb1 := (Below.refl w.heap.size w).alloc (Nat.le_refl _) (.cells #[.int .i64 9, .int .i64 x1, .int .i64 (a : Nat), .int .i64 (b : Nat), .int .i64 x4] 51)
  have h1' := h.below hb1
  have hx1 := BoxN.new w 51 #[.int .i64 9, .int .i64 x1, .int .i64 (a : Nat), .int .i64 (b : Nat), .int .i64 x4]
  have Hn1 := Lib.hid (show ¬ w.heap.size = tb by omega)
  have HQ1 := Lib.hid (QKeeps.of_below (S := fun b => b = tb) hb1)
  have hw1 := hw.trans (hb1.mono hbw)
  have HW1 := Lib.hid hw1
  have H1 := Lib.hid h1'
  have Hx1 := Lib.hid hx1
  have HBl := Lib.hid hlow
  have HSz := Lib.hid (show B ≤ (w.alloc (.cells #[.int .i64 9, .int .i64 x1, .int .i64 (a : Nat), .int .i64 (b : Nat), .int .i64 x4] 51)).heap.size by simp; omega)
  have y10 := hx1.cell (k := 0) rfl
  have y11 := hx1.cell (k := 1) rfl
  have y12 := hx1.cell (k := 2) rfl
  have y13 := hx1.cell (k := 3) rfl
  have y14 := hx1.cell (k := 4) rfl
  have D1 := Lib.hid (ihb _ T u h1' hw1 hu)
  have IH := Lib.hid (fun (W : World) (T2 : List Int) (hc : TabAt P n0 B tb T2 W) (hW : Below B w0 W) => har x1 x4 W T2 u hc hW hu)
  clear h hw hN hB hb1 h1' hx1 hw1 hnode htb hlow hbw har ihb
  generalize (y.need u).1 = ub at *
  generalize (y.need u).2 = fb at *
  generalize rise (St.once z y) 64 u = v at *
  cases fb with
  | false =>
    show Calls _ _ _ w fun e w' => e = .returned (.tuple #[.int .i64 (u : Nat), .bool false]) ∧ TabTo P n0 B tb w w'
    go_enter Tryd.func51, Tryd.ntmps51
    go_wp2_with fail
    generalize w.alloc (.cells #[.int .i64 9, .int .i64 x1, .int .i64 (a : Nat), .int .i64 (b : Nat), .int .i64 x4] 51) = w1 at *
    have C2 := Lib.hid (D1.out)
    refine C2.out.mono ?_
    rintro e w2 ⟨rfl, T2, k, kQ⟩
    have hx := kQ.box Hx1.out Hn1.out
    have HW2 := Lib.hid (TabTo.below ⟨T2, k, kQ⟩ HBl.out HW1.out HSz.out)
    have HSz := Lib.hid (Nat.le_trans HSz.out kQ.size)
    have HQ2 := Lib.hid (HQ1.out.trans kQ (fun b hb => .inl hb))
    have H2 := Lib.hid k
    have Hx2 := Lib.hid hx
    clear C2 k kQ hx
    go_wp2_with fail
    go_ret2
    exact ⟨rfl, T2, H2.out, HQ2.out⟩
  | true =>
    show Calls _ _ _ w fun e w' => e = .returned (.tuple #[.int .i64 (v : Nat), .bool true]) ∧ TabTo P n0 B tb w w'
    go_enter Tryd.func51, Tryd.ntmps51
    go_wp2_with fail
    generalize w.alloc (.cells #[.int .i64 9, .int .i64 x1, .int .i64 (a : Nat), .int .i64 (b : Nat), .int .i64 x4] 51) = w1 at *
    have C2 := Lib.hid (D1.out)
    refine C2.out.mono ?_
    rintro e w2 ⟨rfl, T2, k, kQ⟩
    have hx := kQ.box Hx1.out Hn1.out
    have HW2 := Lib.hid (TabTo.below ⟨T2, k, kQ⟩ HBl.out HW1.out HSz.out)
    have HSz := Lib.hid (Nat.le_trans HSz.out kQ.size)
    have HQ2 := Lib.hid (HQ1.out.trans kQ (fun b hb => .inl hb))
    have H2 := Lib.hid k
    have Hx2 := Lib.hid hx
    have y20 := hx.cell (k := 0) rfl
    have y21 := hx.cell (k := 1) rfl
    have y22 := hx.cell (k := 2) rfl
    have y23 := hx.cell (k := 3) rfl
    have y24 := hx.cell (k := 4) rfl
    clear C2 k kQ hx
    have C3 := Lib.hid (IH.out w2 T2 H2.out HW2.out)
    go_wp2_with fail
    refine C3.out.mono ?_
    rintro e w3 ⟨rfl, T3, k, kQ⟩
    have hx := kQ.box Hx2.out Hn1.out
    have HW3 := Lib.hid (TabTo.below ⟨T3, k, kQ⟩ HBl.out HW2.out HSz.out)
    have HSz := Lib.hid (Nat.le_trans HSz.out kQ.size)
    have HQ3 := Lib.hid (HQ2.out.trans kQ (fun b hb => .inl hb))
    have H3 := Lib.hid k
    have Hx3 := Lib.hid hx
    clear C3 k kQ hx
    go_wp2_with fail
    go_ret2
    exact ⟨rfl, T3, H3.out, HQ3.out⟩
theorem wb_lt {w w' : World} (h : Below w.heap.size w w') {b : Nat} (hb : b < w.heap.size) : b < w'.heap.size := Nat.lt_of_lt_of_le hb h.size
set_option maxHeartbeats 4000000 in
theorem rfind_set {a k : Nat} {e : Ex} (hN : NodesAt w0 A0 P n0) (hB : B = w0.heap.size) (hi : i < n0) (h0 : nd P i 0 = 6) (h1 : nd P i 1 = k) (hk : k < 6) (ha : nd P i 2 = a) (la : a < i) (he : IsEx P a e) : RFindOk P A0 n0 c0 B tb ct w0 i (.set k e) := by
  intro w T u h hw hu
  have hnode := hN.below (B := 0) (hB ▸ hw)
  obtain ⟨ba, offa, rfl, p0, p1, p2, p3, p4⟩ := hnode.cells hi
  rw [h0] at p0
  rw [h1] at p1
  rw [ha] at p2
  have hin := hN.small
  have htb := h.row.lt
  have hlow := h.low
  have hbw : B ≤ w.heap.size := by omega
  generalize nd P i 3 = x3 at *
  generalize nd P i 4 = x4 at *
  have hb1 := (Below.refl w.heap.size w).alloc (Nat.le_refl _) (.cells #[.int .i64 6, .int .i64 (k : Nat), .int .i64 (a : Nat), .int .i64 x3, .int .i64 x4] 51)
  have h1' := h.below hb1
  have hx1 := BoxN.new w 51 #[.int .i64 6, .int .i64 (k : Nat), .int .i64 (a : Nat), .int .i64 x3, .int .i64 x4]
  have Hn1 := Lib.hid (show ¬ w.heap.size = tb by omega)
  have HQ1 := Lib.hid (QKeeps.of_below (S := fun b => b = tb) hb1)
  have hw1 := hw.trans (hb1.mono hbw)
  have HW1 := Lib.hid hw1
  have H1 := Lib.hid h1'
  have Hx1 := Lib.hid hx1
  have HBl := Lib.hid hlow
  have HSz := Lib.hid (show B ≤ (w.alloc (.cells #[.int .i64 6, .int .i64 (k : Nat), .int .i64 (a : Nat), .int .i64 x3, .int .i64 x4] 51)).heap.size by simp; omega)
  have y10 := hx1.cell (k := 0) rfl
  have y11 := hx1.cell (k := 1) rfl
  have y12 := hx1.cell (k := 2) rfl
  have y13 := hx1.cell (k := 3) rfl
  have y14 := hx1.cell (k := 4) rfl
  have CN := Lib.hid (fun (V : World) (hV : Below w.heap.size w V) => RNames_any (c := c0) he (Nat.lt_trans la hi) V (hnode.below (B := 0) hV))
  have hb1n : w.heap.size < (w.alloc (.cells #[.int .i64 6, .int .i64 (k : Nat), .int .i64 (a : Nat), .int .i64 x3, .int .i64 x4] 51)).heap.size := by simp
  cases hb : u.testBit k with
  | false =>
    have hneed : (St.set k e).need u = (u, false) := by simp only [St.need]; rw [hb]; rfl
    rw [hneed]
    have CH := Lib.hid (fun V => Bit_is u k false V (by omega) (by omega) hb)
    clear h hw hN hB hb1 h1' hx1 hw1 hnode htb hlow hbw he hneed hb
    go_enter Tryd.func51, Tryd.ntmps51
    go_wp2_with fail
    refine (CH.out _).mono ?_
    rintro e w' ⟨rfl, rfl⟩
    go_wp2_with fail
    go_ret2
    exact ⟨rfl, T, H1.out, HQ1.out⟩
  | true =>
    have hneed : (St.set k e).need u = (diff u (2 ^ k) ||| e.names, true) := by simp only [St.need]; rw [hb]; rfl
    rw [hneed]
    have CH := Lib.hid (fun V => Bit_is u k true V (by omega) (by omega) hb)
    have CPw := Lib.hid (fun V => Pow2_any k V (by omega))
    have hds := diff_sub hb
    have hd64 : diff u (2 ^ k) < 2 ^ 6 := diff_lt (n := 6) hu
    have hle := names_lt64 he.ok
    have CE1 := Lib.hid (fun V => Either_any (diff u (2 ^ k)) e.names V (by omega) (by omega))
    have CE2 := CE1
    have hsub : (u : Int) - ((2 ^ k : Nat) : Int) = (diff u (2 ^ k) : Int) := by omega
    have hwd : IntKind.i64.wrap ((diff u (2 ^ k) : Nat) : Int) = ((diff u (2 ^ k) : Nat) : Int) := by rw [IntKind.wrap_i64]; omega
    generalize e.names = en at *
    generalize diff u (2 ^ k) = du at *
    generalize 2 ^ k = pk at *
    have HW0 : Below w.heap.size w (w.alloc (.cells #[.int .i64 6, .int .i64 (k : Nat), .int .i64 (a : Nat), .int .i64 x3, .int .i64 x4] 51)) := hb1
    clear h hw hN hB hb1 h1' hx1 hw1 hnode htb hlow hbw he hneed hb hle hd64 hds
    go_enter Tryd.func51, Tryd.ntmps51
    go_wp2_with fail
    refine (CH.out _).mono ?_
    rintro e w' ⟨rfl, rfl⟩
    generalize w.alloc (.cells #[.int .i64 6, .int .i64 (k : Nat), .int .i64 (a : Nat), .int .i64 x3, .int .i64 x4] 51) = w1 at *
    generalize w.heap.size = b1 at *
    have Hlt := Lib.hid hb1n
    clear hb1n
    go_wp2_with fail
    go_region_law (first | (go_simp; go_at_call 22; (with_reducible refine (CPw.out _).mono ?_); rintro e wb ⟨he, hz⟩; subst he; subst hz) | (go_simp; go_at_call 75; (with_reducible refine (CN.out _ (by repeat (first | assumption | refine Below.drew ?_))).mono ?_); rintro e wn ⟨he, hbn⟩; subst he; have z1 := (hbn.cell (p := ⟨b1, 1, none⟩) Hlt.out).trans y11; have z2 := (hbn.cell (p := ⟨b1, 2, none⟩) Hlt.out).trans y12) | (go_simp; go_at_call 74; first | ((with_reducible refine (CE1.out _).mono ?_); rintro e wb ⟨he, hz⟩; subst he; subst hz) | ((with_reducible refine (CE2.out _).mono ?_); rintro e wb ⟨he, hz⟩; subst he; subst hz)))
    all_goals
      have HT := Lib.hid (show TabTo P n0 B tb w _ from ⟨T, (H1.out.keep (w' := w1.drew) rfl).below hbn, (HQ1.out.drewN 1).trans (QKeeps.of_below (S := fun _ => False) hbn) (fun b hb => hb.elim)⟩)
      clear hbn
      go_wp2_with fail
      go_ret2
      exact ⟨rfl, HT.out⟩
set_option maxHeartbeats 8000000 in
theorem rfind_ite {a b c : Nat} {e : Ex} {y z : St} (hN : NodesAt w0 A0 P n0) (hB : B = w0.heap.size) (hi : i < n0) (h0 : nd P i 0 = 8) (ha : nd P i 2 = a) (hb : nd P i 3 = b) (hc : nd P i 4 = c) (la : a < i) (he : IsEx P a e) (hy : y.ok) (hz : z.ok) (ihb : RAheadOk P A0 n0 c0 B tb ct w0 b y) (ihc : RAheadOk P A0 n0 c0 B tb ct w0 c z) : RFindOk P A0 n0 c0 B tb ct w0 i (.ite e y z) := by
  intro w T u h hw hu
  have hneed : (St.ite e y z).need u = if (y.need u).2 || (z.need u).2 then ((y.need u).1 ||| (z.need u).1 ||| e.names, true) else (u, false) := rfl
  rw [hneed]
  have h1s : (y.need u).1 < 2 ^ 6 := need_lt hy hu
  have h2s : (z.need u).1 < 2 ^ 6 := need_lt hz hu
  have hes : e.names < 2 ^ 6 := names_lt64 he.ok
  have hvs : (y.need u).1 ||| (z.need u).1 < 2 ^ 6 := Nat.or_lt_two_pow h1s h2s
  have CE1 := Lib.hid (fun V => Either_any (y.need u).1 (z.need u).1 V (by omega) (by omega))
  have CE2 := Lib.hid (fun V => Either_any ((y.need u).1 ||| (z.need u).1) e.names V (by omega) (by omega))
  have CPw := CE1
  have CN0 := Lib.hid (fun (V : World) (hV : Below B w0 V) => RNames_any (c := c0) he (Nat.lt_trans la hi) V (hN.below (B := 0) (hB ▸ hV)))
  have hnode := hN.below (B := 0) (hB ▸ hw)
  obtain ⟨ba, offa, rfl, p0, p1, p2, p3, p4⟩ := hnode.cells hi
  rw [h0] at p0
  rw [ha] at p2
  rw [hb] at p3
  rw [hc] at p4
  have hin := hN.small
  have htb := h.row.lt
  have hlow := h.low
  have hbw : B ≤ w.heap.size := by omega
  generalize nd P i 1 = x1 at *
  have hb1 := (Below.refl w.heap.size w).alloc (Nat.le_refl _) (.cells #[.int .i64 8, .int .i64 x1, .int .i64 (a : Nat), .int .i64 (b : Nat), .int .i64 (c : Nat)] 51)
  have h1' := h.below hb1
  have hx1 := BoxN.new w 51 #[.int .i64 8, .int .i64 x1, .int .i64 (a : Nat), .int .i64 (b : Nat), .int .i64 (c : Nat)]
  have Hn1 := Lib.hid (show ¬ w.heap.size = tb by omega)
  have HQ1 := Lib.hid (QKeeps.of_below (S := fun b => b = tb) hb1)
  have hw1 := hw.trans (hb1.mono hbw)
  have HW1 := Lib.hid hw1
  have H1 := Lib.hid h1'
  have Hx1 := Lib.hid hx1
  have HBl := Lib.hid hlow
  have HSz := Lib.hid (show B ≤ (w.alloc (.cells #[.int .i64 8, .int .i64 x1, .int .i64 (a : Nat), .int .i64 (b : Nat), .int .i64 (c : Nat)] 51)).heap.size by simp; omega)
  have y10 := hx1.cell (k := 0) rfl
  have y11 := hx1.cell (k := 1) rfl
  have y12 := hx1.cell (k := 2) rfl
  have y13 := hx1.cell (k := 3) rfl
  have y14 := hx1.cell (k := 4) rfl
  have D1 := Lib.hid (ihb _ T u h1' hw1 hu)
  have IH := Lib.hid (fun (W : World) (T2 : List Int) (hc : TabAt P n0 B tb T2 W) (hW : Below B w0 W) => ihc W T2 u hc hW hu)
  clear h hw hN hB hb1 h1' hx1 hw1 hnode htb hlow hbw ihb ihc hneed h1s h2s hes hvs he
  generalize (y.need u).1 = s1 at *
  generalize (y.need u).2 = f1 at *
  generalize (z.need u).1 = s2 at *
  generalize (z.need u).2 = f2 at *
  generalize e.names = en at *
  go_enter Tryd.func51, Tryd.ntmps51
  go_wp2_with fail
  generalize w.alloc (.cells #[.int .i64 8, .int .i64 x1, .int .i64 (a : Nat), .int .i64 (b : Nat), .int .i64 (c : Nat)] 51) = w1 at *
  generalize hb1n : w.heap.size = b1 at *
  have C2 := Lib.hid (D1.out)
  refine C2.out.mono ?_
  rintro e w2 ⟨rfl, T2, k, kQ⟩
  have hx := kQ.box Hx1.out Hn1.out
  have HW2 := Lib.hid (TabTo.below ⟨T2, k, kQ⟩ HBl.out HW1.out HSz.out)
  have HSz := Lib.hid (Nat.le_trans HSz.out kQ.size)
  have HQ2 := Lib.hid (HQ1.out.trans kQ (fun b hb => .inl hb))
  have H2 := Lib.hid k
  have Hx2 := Lib.hid hx
  have y24 := hx.cell (k := 4) rfl
  clear C2 k kQ hx
  have C3 := Lib.hid (IH.out w2 T2 H2.out HW2.out)
  go_wp2_with fail
  refine C3.out.mono ?_
  rintro e w3 ⟨rfl, T3, k, kQ⟩
  have hx := kQ.box Hx2.out Hn1.out
  have HW3 := Lib.hid (TabTo.below ⟨T3, k, kQ⟩ HBl.out HW2.out HSz.out)
  have HSz := Lib.hid (Nat.le_trans HSz.out kQ.size)
  have HQ3 := Lib.hid (HQ2.out.trans kQ (fun b hb => .inl hb))
  have H3 := Lib.hid k
  have Hx3 := Lib.hid hx
  have y30 := hx.cell (k := 0) rfl
  have y31 := hx.cell (k := 1) rfl
  have y32 := hx.cell (k := 2) rfl
  clear C3 k kQ hx
  have CN := Lib.hid (fun (V : World) (hV : Below w3.heap.size w3 V) => CN0.out V (HW3.out.trans (hV.mono HSz.out)))
  have Hlt := Lib.hid Hx3.out.lt
  have hbl := Below.refl w3.heap.size w3
  have HTz := Lib.hid (fun (V : World) (hV : Below w3.heap.size w3 V) => show TabTo P n0 B tb w V from ⟨T3, H3.out.below hV, HQ3.out.trans (QKeeps.of_below (S := fun _ => False) hV) (fun b hb => hb.elim)⟩)
  clear CN0
  cases f1 with
  | false =>
    cases f2 with
    | false =>
      go_wp2_with fail
      go_ret2
      exact ⟨rfl, T3, H3.out, HQ3.out⟩
    | true =>
      go_wp2_with fail
      go_region_law (first | (go_simp; go_at_call 22; (with_reducible refine (CPw.out _).mono ?_); rintro e wb ⟨he, hz⟩; subst he; subst hz) | (go_simp; go_at_call 75; (with_reducible refine (CN.out _ (by repeat (first | assumption | refine Below.drew ?_))).mono ?_); rintro e wn ⟨he, hbn⟩; subst he; have z1 := (hbn.cell (p := ⟨b1, 1, none⟩) Hlt.out).trans y31; have z2 := (hbn.cell (p := ⟨b1, 2, none⟩) Hlt.out).trans y32) | (go_simp; go_at_call 74; first | ((with_reducible refine (CE1.out _).mono ?_); rintro e wb ⟨he, hz⟩; subst he; subst hz) | ((with_reducible refine (CE2.out _).mono ?_); rintro e wb ⟨he, hz⟩; subst he; subst hz)))
      all_goals
        have HT := Lib.hid (HTz.out _ ((belowD hbl 1).trans (hbn.mono (Nat.le_refl _))))
        clear hbn
        go_wp2_with fail
        go_ret2
        exact ⟨by simp, HT.out⟩
  | true =>
    go_wp2_with fail
    go_region_law (first | (go_simp; go_at_call 22; (with_reducible refine (CPw.out _).mono ?_); rintro e wb ⟨he, hz⟩; subst he; subst hz) | (go_simp; go_at_call 75; (with_reducible refine (CN.out _ (by repeat (first | assumption | refine Below.drew ?_))).mono ?_); rintro e wn ⟨he, hbn⟩; subst he; have z1 := (hbn.cell (p := ⟨b1, 1, none⟩) Hlt.out).trans y31; have z2 := (hbn.cell (p := ⟨b1, 2, none⟩) Hlt.out).trans y32) | (go_simp; go_at_call 74; first | ((with_reducible refine (CE1.out _).mono ?_); rintro e wb ⟨he, hz⟩; subst he; subst hz) | ((with_reducible refine (CE2.out _).mono ?_); rintro e wb ⟨he, hz⟩; subst he; subst hz)))
    all_goals
      have HT := Lib.hid (HTz.out _ ((belowD hbl 1).trans (hbn.mono (Nat.le_refl _))))
      clear hbn
      go_wp2_with fail
      go_ret2
      exact ⟨by simp, HT.out⟩
theorem rneed_st (hN : NodesAt w0 A0 P n0) (hB : B = w0.heap.size) (h80 : n0 ≤ 80) {s : St} (h : IsSt P i s) : i < n0 → RAheadOk P A0 n0 c0 B tb ct w0 i s := by
  induction h with
  | skip h0 => exact fun hi => rahead_of hi h80 (.skip h0) (rfind_skip hN hB hi h0)
  | set h0 h1 hn h2 la he => exact fun hi => rahead_of hi h80 (.set h0 h1 hn h2 la he) (rfind_set hN hB hi h0 h1 hn h2 la he)
  | both h0 ha hb la lb hx hy iha ihb => exact fun hi => rahead_of hi h80 (.both h0 ha hb la lb hx hy) (rfind_both hN hB hi h0 ha hb hy.ok (iha (by omega)) (ihb (by omega)))
  | ite h0 ha hb hc la lb lc he hx hy ihb ihc => exact fun hi => rahead_of hi h80 (.ite h0 ha hb hc la lb lc he hx hy) (rfind_ite hN hB hi h0 ha hb hc la he hx.ok hy.ok (ihb (by omega)) (ihc (by omega)))
  | loop h0 ha hb la lb he hx ihb => exact fun hi => rahead_of hi h80 (.loop h0 ha hb la lb he hx) (rfind_loop hN hB hi h0 ha hb (ihb (by omega)) (fun x1 x4 => raround_of hN hB hx.ok (by omega) he (ihb (by omega))))
end
end Go.Proofs.YtdgncngkalgknaaDoor
