/-
  Contracts: quietwingref2.placed, whole. (Printed by tools/placedgen.py.)
-/
import Derived.Test.YtdgncngkalgknaaDoorRsD
namespace Go.Proofs.YtdgncngkalgknaaDoor
open Go.RowKit Go.Maps
set_option maxRecDepth 100000
set_option linter.unusedVariables false
set_option maxHeartbeats 1000000 in
theorem RParts_op {K N A B C : Int} (h24 : 2 ≤ K ∧ K ≤ 4) (w : World) :
    Calls Tryd.prog 48 #[.agg #[.int .i64 K, .int .i64 N, .int .i64 A, .int .i64 B, .int .i64 C]] w fun e w' => ∃ g, e = .returned (.slice (some ⟨g, 0, none⟩) 2 2) ∧ RowB w' g [A, B] ∧ w.heap.size ≤ g ∧ Below w.heap.size w w' := by
  have hb0 : Below w.heap.size w (w.alloc (.cells #[.int .i64 K, .int .i64 N, .int .i64 A, .int .i64 B, .int .i64 C] 51)) := (Below.refl _ _).alloc (Nat.le_refl _) _
  have H2 := Lib.hid (hb0.alloc hb0.size (.cells #[.int .i64 A, .int .i64 B] 3))
  have hr := BoxN.new (w.alloc (.cells #[.int .i64 K, .int .i64 N, .int .i64 A, .int .i64 B, .int .i64 C] 51)) 3 #[.int .i64 A, .int .i64 B]
  simp only [World.size_alloc] at hr
  have HR := Lib.hid hr
  have d8 : (K == 8) = false := by simp; omega
  have d6 : (K == 6) = false := by simp; omega
  have W := Lib.hid (fun V => RIn_is K 2 4 true V (decide_eq_true h24))
  clear hb0 h24 hr
  go_enter Tryd.func48, Tryd.ntmps48
  go_wp2_with (go_at_call 47; with_reducible refine (W.out _).mono ?_; rintro e w' ⟨rfl, rfl⟩)
  go_ret
  exact ⟨w.heap.size + 1, by simp, HR.out, by omega, H2.out⟩
set_option maxHeartbeats 1000000 in
theorem RParts_set {N A B C : Int} (w : World) :
    Calls Tryd.prog 48 #[.agg #[.int .i64 6, .int .i64 N, .int .i64 A, .int .i64 B, .int .i64 C]] w fun e w' => ∃ g, e = .returned (.slice (some ⟨g, 0, none⟩) 1 1) ∧ RowB w' g [A] ∧ w.heap.size ≤ g ∧ Below w.heap.size w w' := by
  have hb0 : Below w.heap.size w (w.alloc (.cells #[.int .i64 6, .int .i64 N, .int .i64 A, .int .i64 B, .int .i64 C] 51)) := (Below.refl _ _).alloc (Nat.le_refl _) _
  have H2 := Lib.hid (hb0.alloc hb0.size (.cells #[.int .i64 A] 3))
  have hr := BoxN.new (w.alloc (.cells #[.int .i64 6, .int .i64 N, .int .i64 A, .int .i64 B, .int .i64 C] 51)) 3 #[.int .i64 A]
  simp only [World.size_alloc] at hr
  have HR := Lib.hid hr
  clear hb0 hr
  go_enter Tryd.func48, Tryd.ntmps48
  go_wp2_with fail
  go_ret
  exact ⟨w.heap.size + 1, by simp, HR.out, by omega, H2.out⟩
theorem OutTo.cast {B : Nat} {S : Nat → Prop} {v : Value} {n m : Nat} {o : List Int} {w w' : World} (h : OutTo B S v n o w w') (e : n = m) : OutTo B S v m o w w' := e ▸ h
section
variable {P : List Int} {A0 : Option Addr} {n0 c0 B : Nat} {w0 : World} {i : Nat}
set_option maxHeartbeats 8000000 in
theorem placed_set {a : Nat} {x1 x3 x4 : Int} {x : RE} (hN : NodesAt w0 A0 P n0) (hB : B = w0.heap.size) (hi : i < n0) (h0 : nd P i 0 = 6) (h1 : nd P i 1 = x1) (ha : nd P i 2 = a) (hb : nd P i 3 = x3) (h4 : nd P i 4 = x4)
    (iha : RPlacedOk P A0 n0 c0 B w0 a x.cnt x.lay) : RPlacedOk P A0 n0 c0 B w0 i (RS.set x1 x3 x4 x).cnt (RS.set x1 x3 x4 x).lay := by
  intro w S v n o h hw hcn
  have hp1 := x.pos
  rw [RS.lay]
  simp only [RS.cnt] at hcn ⊢
  obtain ⟨ba, offa, rfl, p0, p1, p2, p3, p4⟩ := (hN.below (B := 0) (hB ▸ hw)).cells hi
  rw [h0] at p0
  rw [h1] at p1
  rw [ha] at p2
  rw [hb] at p3
  rw [h4] at p4
  have hin := hN.small
  have hBw : B ≤ w.heap.size := hB ▸ hw.size
  have hb1 := (Below.refl w.heap.size w).alloc (Nat.le_refl _) (.cells #[.int .i64 6, .int .i64 x1, .int .i64 (a : Nat), .int .i64 x3, .int .i64 x4] 51)
  have H0 := Lib.hid h
  have Hx1 := Lib.hid (BoxN.new w 51 #[.int .i64 6, .int .i64 x1, .int .i64 (a : Nat), .int .i64 x3, .int .i64 x4])
  have HQ1 := Lib.hid (QKeeps.of_below (S := S) hb1)
  have HW1 := Lib.hid (hw.trans (hb1.mono hBw))
  have CP := Lib.hid (fun W => RParts_set (N := x1) (A := (a : Nat)) (B := x3) (C := x4) W)
  have H1 := Lib.hid (h.below hb1)
  have HIA := Lib.hid iha
  obtain ⟨Av, cv, rfl⟩ := h.own.form
  have y0 := Hx1.out.cell (k := 0) rfl
  have y1 := Hx1.out.cell (k := 1) rfl
  have y2 := Hx1.out.cell (k := 2) rfl
  have y3 := Hx1.out.cell (k := 3) rfl
  have y4 := Hx1.out.cell (k := 4) rfl
  have Hlo := Lib.hid (show ∀ q, S q → q < w.heap.size from h.lt)
  have HBw := Lib.hid hBw
  clear h hw hN hB hb1 h0 h1 h4 hBw ha hb iha
  go_enter Tryd.func72, Tryd.ntmps72
  go_wp2_with fail
  generalize w.alloc (.cells #[.int .i64 6, .int .i64 x1, .int .i64 (a : Nat), .int .i64 x3, .int .i64 x4] 51) = w1 at *
  have hs1 := HQ1.out.size
  have hb1l : w.heap.size < w1.heap.size := Hx1.out.lt
  generalize hb1n : w.heap.size = b1 at *
  refine (CP.out w1).mono ?_
  rintro e w2 ⟨g, rfl, hrow, hgl, hb2⟩
  have HQ2 := Lib.hid (HQ1.out.trans (QKeeps.of_below (S := S) hb2) (fun b hb => .inl hb))
  have HW2 := Lib.hid (HW1.out.trans (hb2.mono (Nat.le_trans HBw.out hs1)))
  have H2 := Lib.hid (H1.out.below hb2)
  have Hx2 := Lib.hid (Hx1.out.all hb2)
  have HR2 := Lib.hid hrow
  have HS2 := Lib.hid (fun b (hb : S b) => (Or.inl hb : S b ∨ w.heap.size ≤ b))
  have Hn2 := Lib.hid (show ¬ S b1 from fun e => by have := Hlo.out b1 e; omega)
  have Hg2 := Lib.hid (show ¬ S g from fun e => by have := Hlo.out g e; omega)
  have hne : g ≠ b1 := by omega
  clear hrow hb2 CP Hlo hgl
  go_wp2_with fail
  go_loopw [0, 9] (fun s j wr => ∃ Sr : Nat → Prop, QKeeps S w wr ∧ Hid (∀ b, Sr b → S b ∨ w.heap.size ≤ b) ∧ Hid (Below B w0 wr) ∧ RowB wr g [(a : Int)] ∧ ¬ Sr b1 ∧ ¬ Sr g ∧ ((j = .int .i64 0 ∧ ∃ Ar cr, s = .slice Ar n cr ∧ OutAt B Sr s n o wr ∧ BoxN wr b1 51 #[.int .i64 6, .int .i64 x1, .int .i64 (a : Nat), .int .i64 x3, .int .i64 x4]) ∨ (j = .int .i64 1 ∧ ∃ Ar cr, s = .slice Ar (n + x.cnt) cr ∧ OutAt B Sr s (n + x.cnt) (o ++ x.lay n) wr ∧ BoxN wr b1 51 #[.int .i64 6, .int .i64 x1, .int .i64 ((n + x.cnt - 1 : Nat) : Int), .int .i64 x3, .int .i64 x4]))) (fun _ j _ => 1 - (intOf j).toNat)
  case atStart => exact ⟨S, HQ2.out, HS2, HW2, HR2.out, Hn2.out, Hg2.out, .inl ⟨rfl, Av, cv, rfl, H2.out, Hx2.out⟩⟩
  case round =>
    obtain ⟨Sr, hQ, HS, HW, hrow, hnb, hng, hst⟩ := hrel
    have HQ := Lib.hid hQ
    clear hQ HQ2 HS2 HW2 HR2 Hn2 Hg2 H2 Hx2
    rcases hst with ⟨rfl, Ar, cr, rfl, hout, hx⟩ | ⟨rfl, Ar, cr, rfl, hout, hx⟩
    · have r0 := hrow.at_ (k := 0) (x := ((a : Nat) : Int)) rfl
      have C1 := Lib.hid (HIA.out wr Sr _ _ _ hout HW.out (by omega))
      have Hrow := Lib.hid hrow
      have Hx := Lib.hid hx
      have Hnb := Lib.hid hnb
      have Hng := Lib.hid hng
      have Ho := Lib.hid hout
      clear hrow hx hnb hng hout
      go_wp2_with fail
      refine C1.out.mono ?_
      rintro e w3 ⟨v3, rfl, S3, k3, kS3, kQ3⟩
      obtain ⟨A3, c3, rfl⟩ := k3.own.form
      obtain ⟨hx3, hnb3⟩ := kQ3.nbox Hx.out Hnb.out kS3
      obtain ⟨hr3, hng3⟩ := kQ3.nbox Hrow.out Hng.out kS3
      have hw3 := kQ3.to_below Ho.out.low HW.out (by have := HQ.out.size; have := HBw.out; omega)
      have fz := hx3.free 2
      have sz := hx3.cell (k := 2) rfl
      generalize hia : ((n + x.cnt - 1 : Nat) : Int) = ia at *
      have hx4 := hx3.set 2 (.int .i64 ia)
      have k4 := k3.keep (w' := w3.setCell ⟨b1, 2, none⟩ (.int .i64 ia)) (by simp) (fun b hb => Below.heap_setCell _ _ _ _ (fun e => hnb3 ((show b = b1 from e) ▸ hb)))
      have hr4 := hr3.other (a := ⟨b1, 2, none⟩) hne (.int .i64 ia)
      have hQ4 := QKeeps.box_set (b := b1) (HQ.out.trans kQ3 HS.out) (Nat.le_of_eq hb1n) 2 (.int .i64 ia)
      have HS4 := Lib.hid (fun b (hb : S3 b) => (kS3 b hb).elim (HS.out b) (fun e => (Or.inr (Nat.le_trans HQ.out.size e) : S b ∨ w.heap.size ≤ b)))
      have HW4 := Lib.hid (hw3.setCell (p := ⟨b1, 2, none⟩) (by show B ≤ b1; exact HBw.out) (.int .i64 ia))
      have K4 := Lib.hid k4
      have HX4 := Lib.hid hx4
      have HR4 := Lib.hid hr4
      have HQ4 := Lib.hid hQ4
      have Hnb3 := Lib.hid hnb3
      have Hng3 := Lib.hid hng3
      have hcast : (((n + x.cnt : Nat) : Int) : Int) = ia + 1 := by omega
      have hcast2 : ((n + x.cnt : Nat) : Int) - 1 = ia := by omega
      clear hx3 hnb3 hr3 hng3 hw3 hx4 k4 hr4 hQ4 k3 kS3 kQ3 C1
      generalize hcn2 : (n + x.cnt) = cn2 at *
      go_wp2_with fail
      subst hcn2
      refine ⟨⟨S3, HQ4.out, HS4, HW4, HR4.out, Hnb3.out, Hng3.out, .inr ⟨rfl, A3, c3, rfl, K4.out, by rw [hia]; exact HX4.out⟩⟩, by simp [intOf]⟩
    · have Ho := Lib.hid hout
      have hbo := hout.low
      generalize hia : ((n + x.cnt - 1 : Nat) : Int) = ia at *
      have q0 := hx.cell (k := 0) rfl
      have q1 := hx.cell (k := 1) rfl
      have q2 := hx.cell (k := 2) rfl
      have q3 := hx.cell (k := 3) rfl
      have q4 := hx.cell (k := 4) rfl
      have hbA : Below wr.heap.size wr (wr.alloc (.cells #[.int .i64 6, .int .i64 x1, .int .i64 ia, .int .i64 x3, .int .i64 x4] 51)) := (Below.refl _ _).alloc (Nat.le_refl _) _
      have hoA := Lib.hid ((hout.below hbA).own)
      have hgA := Lib.hid (BoxN.new wr 51 #[.int .i64 6, .int .i64 x1, .int .i64 ia, .int .i64 x3, .int .i64 x4])
      have hwl : B ≤ wr.heap.size := by have := HQ.out.size; have := HBw.out; omega
      have hlow : Hid (B ≤ (wr.alloc (.cells #[.int .i64 6, .int .i64 x1, .int .i64 ia, .int .i64 x3, .int .i64 x4] 51)).heap.size) := Lib.hid (by have := hbA.size; omega)
      have hn40 : Hid ((n + x.cnt) < 2 ^ 40) := Lib.hid (by omega)
      have hQA := Lib.hid (QKeeps.of_below (S := Sr) hbA)
      have Hwl := Lib.hid hwl
      generalize hcn2 : (n + x.cnt) = cn2 at *
      clear hbA hrow hnb hng hx hout hwl hbo
      go_wp2_with (at_builtin; refine wpList_push_nodeB rfl _ _ rfl rfl hoA.out wr.heap.size 6 x1 ia x3 x4 rfl hgA.out hn40.out hlow.out ?_; intro B' c' w3 ho3 hbk3 hgr3)
      have k7 := OutTo.trans HQ.out HS.out (out_end hQA.out Ho.out Hwl.out ho3 hbk3 hgr3)
      subst hcn2
      rw [← hia, List.append_assoc] at k7
      have HT := Lib.hid k7
      clear k7 ho3 hbk3 hgr3
      go_wp2_with fail
      go_ret
      exact ⟨_, rfl, HT.out.cast (by omega)⟩
set_option maxHeartbeats 8000000 in
theorem placed_op {a b : Nat} {k x1 x4 : Int} {x y : RE} (hN : NodesAt w0 A0 P n0) (hB : B = w0.heap.size) (hi : i < n0) (hk2 : 2 ≤ k) (hk4 : k ≤ 4) (h0 : nd P i 0 = k) (h1 : nd P i 1 = x1) (ha : nd P i 2 = a) (hb : nd P i 3 = b) (h4 : nd P i 4 = x4)
    (iha : RPlacedOk P A0 n0 c0 B w0 a x.cnt x.lay) (ihb : RPlacedOk P A0 n0 c0 B w0 b y.cnt y.lay) : RPlacedOk P A0 n0 c0 B w0 i (RE.op k x1 x4 x y).cnt (RE.op k x1 x4 x y).lay := by
  intro w S v n o h hw hcn
  have hp1 := x.pos
  have hp2 := y.pos
  rw [RE.lay]
  simp only [RE.cnt] at hcn ⊢
  obtain ⟨ba, offa, rfl, p0, p1, p2, p3, p4⟩ := (hN.below (B := 0) (hB ▸ hw)).cells hi
  rw [h0] at p0
  rw [h1] at p1
  rw [ha] at p2
  rw [hb] at p3
  rw [h4] at p4
  have hin := hN.small
  have hBw : B ≤ w.heap.size := hB ▸ hw.size
  have hb1 := (Below.refl w.heap.size w).alloc (Nat.le_refl _) (.cells #[.int .i64 k, .int .i64 x1, .int .i64 (a : Nat), .int .i64 (b : Nat), .int .i64 x4] 51)
  have H0 := Lib.hid h
  have Hx1 := Lib.hid (BoxN.new w 51 #[.int .i64 k, .int .i64 x1, .int .i64 (a : Nat), .int .i64 (b : Nat), .int .i64 x4])
  have HQ1 := Lib.hid (QKeeps.of_below (S := S) hb1)
  have HW1 := Lib.hid (hw.trans (hb1.mono hBw))
  have CP := Lib.hid (fun W => RParts_op (K := k) (N := x1) (A := (a : Nat)) (B := (b : Nat)) (C := x4) ⟨hk2, hk4⟩ W)
  have H1 := Lib.hid (h.below hb1)
  have HIA := Lib.hid iha
  have HIB := Lib.hid ihb
  obtain ⟨Av, cv, rfl⟩ := h.own.form
  have y0 := Hx1.out.cell (k := 0) rfl
  have y1 := Hx1.out.cell (k := 1) rfl
  have y2 := Hx1.out.cell (k := 2) rfl
  have y3 := Hx1.out.cell (k := 3) rfl
  have y4 := Hx1.out.cell (k := 4) rfl
  have Hlo := Lib.hid (show ∀ q, S q → q < w.heap.size from h.lt)
  have HBw := Lib.hid hBw
  clear h hw hN hB hb1 h0 h1 h4 hBw ha hb iha ihb
  go_enter Tryd.func72, Tryd.ntmps72
  go_wp2_with fail
  generalize w.alloc (.cells #[.int .i64 k, .int .i64 x1, .int .i64 (a : Nat), .int .i64 (b : Nat), .int .i64 x4] 51) = w1 at *
  have hs1 := HQ1.out.size
  have hb1l : w.heap.size < w1.heap.size := Hx1.out.lt
  generalize hb1n : w.heap.size = b1 at *
  refine (CP.out w1).mono ?_
  rintro e w2 ⟨g, rfl, hrow, hgl, hb2⟩
  have HQ2 := Lib.hid (HQ1.out.trans (QKeeps.of_below (S := S) hb2) (fun b hb => .inl hb))
  have HW2 := Lib.hid (HW1.out.trans (hb2.mono (Nat.le_trans HBw.out hs1)))
  have H2 := Lib.hid (H1.out.below hb2)
  have Hx2 := Lib.hid (Hx1.out.all hb2)
  have HR2 := Lib.hid hrow
  have HS2 := Lib.hid (fun b (hb : S b) => (Or.inl hb : S b ∨ w.heap.size ≤ b))
  have Hn2 := Lib.hid (show ¬ S b1 from fun e => by have := Hlo.out b1 e; omega)
  have Hg2 := Lib.hid (show ¬ S g from fun e => by have := Hlo.out g e; omega)
  have hne : g ≠ b1 := by omega
  clear hrow hb2 CP Hlo hgl
  go_wp2_with fail
  go_loopw [0, 9] (fun s j wr => ∃ Sr : Nat → Prop, QKeeps S w wr ∧ Hid (∀ b, Sr b → S b ∨ w.heap.size ≤ b) ∧ Hid (Below B w0 wr) ∧ RowB wr g [(a : Int), (b : Int)] ∧ ¬ Sr b1 ∧ ¬ Sr g ∧ ((j = .int .i64 0 ∧ ∃ Ar cr, s = .slice Ar n cr ∧ OutAt B Sr s n o wr ∧ BoxN wr b1 51 #[.int .i64 k, .int .i64 x1, .int .i64 (a : Nat), .int .i64 (b : Nat), .int .i64 x4]) ∨ (j = .int .i64 1 ∧ ∃ Ar cr, s = .slice Ar (n + x.cnt) cr ∧ OutAt B Sr s (n + x.cnt) (o ++ x.lay n) wr ∧ BoxN wr b1 51 #[.int .i64 k, .int .i64 x1, .int .i64 ((n + x.cnt - 1 : Nat) : Int), .int .i64 (b : Nat), .int .i64 x4]) ∨ (j = .int .i64 2 ∧ ∃ Ar cr, s = .slice Ar (n + x.cnt + y.cnt) cr ∧ OutAt B Sr s (n + x.cnt + y.cnt) ((o ++ x.lay n) ++ y.lay (n + x.cnt)) wr ∧ BoxN wr b1 51 #[.int .i64 k, .int .i64 x1, .int .i64 ((n + x.cnt - 1 : Nat) : Int), .int .i64 ((n + x.cnt + y.cnt - 1 : Nat) : Int), .int .i64 x4]))) (fun _ j _ => 2 - (intOf j).toNat)
  case atStart => exact ⟨S, HQ2.out, HS2, HW2, HR2.out, Hn2.out, Hg2.out, .inl ⟨rfl, Av, cv, rfl, H2.out, Hx2.out⟩⟩
  case round =>
    obtain ⟨Sr, hQ, HS, HW, hrow, hnb, hng, hst⟩ := hrel
    have HQ := Lib.hid hQ
    clear hQ HQ2 HS2 HW2 HR2 Hn2 Hg2 H2 Hx2
    rcases hst with ⟨rfl, Ar, cr, rfl, hout, hx⟩ | ⟨rfl, Ar, cr, rfl, hout, hx⟩ | ⟨rfl, Ar, cr, rfl, hout, hx⟩
    · have r0 := hrow.at_ (k := 0) (x := ((a : Nat) : Int)) rfl
      have C1 := Lib.hid (HIA.out wr Sr _ _ _ hout HW.out (by omega))
      have Hrow := Lib.hid hrow
      have Hx := Lib.hid hx
      have Hnb := Lib.hid hnb
      have Hng := Lib.hid hng
      have Ho := Lib.hid hout
      clear hrow hx hnb hng hout
      go_wp2_with fail
      refine C1.out.mono ?_
      rintro e w3 ⟨v3, rfl, S3, k3, kS3, kQ3⟩
      obtain ⟨A3, c3, rfl⟩ := k3.own.form
      obtain ⟨hx3, hnb3⟩ := kQ3.nbox Hx.out Hnb.out kS3
      obtain ⟨hr3, hng3⟩ := kQ3.nbox Hrow.out Hng.out kS3
      have hw3 := kQ3.to_below Ho.out.low HW.out (by have := HQ.out.size; have := HBw.out; omega)
      have fz := hx3.free 2
      have sz := hx3.cell (k := 2) rfl
      generalize hia : ((n + x.cnt - 1 : Nat) : Int) = ia at *
      have hx4 := hx3.set 2 (.int .i64 ia)
      have k4 := k3.keep (w' := w3.setCell ⟨b1, 2, none⟩ (.int .i64 ia)) (by simp) (fun b hb => Below.heap_setCell _ _ _ _ (fun e => hnb3 ((show b = b1 from e) ▸ hb)))
      have hr4 := hr3.other (a := ⟨b1, 2, none⟩) hne (.int .i64 ia)
      have hQ4 := QKeeps.box_set (b := b1) (HQ.out.trans kQ3 HS.out) (Nat.le_of_eq hb1n) 2 (.int .i64 ia)
      have HS4 := Lib.hid (fun b (hb : S3 b) => (kS3 b hb).elim (HS.out b) (fun e => (Or.inr (Nat.le_trans HQ.out.size e) : S b ∨ w.heap.size ≤ b)))
      have HW4 := Lib.hid (hw3.setCell (p := ⟨b1, 2, none⟩) (by show B ≤ b1; exact HBw.out) (.int .i64 ia))
      have K4 := Lib.hid k4
      have HX4 := Lib.hid hx4
      have HR4 := Lib.hid hr4
      have HQ4 := Lib.hid hQ4
      have Hnb3 := Lib.hid hnb3
      have Hng3 := Lib.hid hng3
      have hcast : (((n + x.cnt : Nat) : Int) : Int) = ia + 1 := by omega
      have hcast2 : ((n + x.cnt : Nat) : Int) - 1 = ia := by omega
      clear hx3 hnb3 hr3 hng3 hw3 hx4 k4 hr4 hQ4 k3 kS3 kQ3 C1
      generalize hcn2 : (n + x.cnt) = cn2 at *
      go_wp2_with fail
      subst hcn2
      refine ⟨⟨S3, HQ4.out, HS4, HW4, HR4.out, Hnb3.out, Hng3.out, .inr (.inl ⟨rfl, A3, c3, rfl, K4.out, by rw [hia]; exact HX4.out⟩)⟩, by simp [intOf]⟩
    · have r0 := hrow.at_ (k := 1) (x := ((b : Nat) : Int)) rfl
      have C1 := Lib.hid (HIB.out wr Sr _ _ _ hout HW.out (by omega))
      have Hrow := Lib.hid hrow
      have Hx := Lib.hid hx
      have Hnb := Lib.hid hnb
      have Hng := Lib.hid hng
      have Ho := Lib.hid hout
      clear hrow hx hnb hng hout
      go_wp2_with fail
      refine C1.out.mono ?_
      rintro e w3 ⟨v3, rfl, S3, k3, kS3, kQ3⟩
      obtain ⟨A3, c3, rfl⟩ := k3.own.form
      obtain ⟨hx3, hnb3⟩ := kQ3.nbox Hx.out Hnb.out kS3
      obtain ⟨hr3, hng3⟩ := kQ3.nbox Hrow.out Hng.out kS3
      have hw3 := kQ3.to_below Ho.out.low HW.out (by have := HQ.out.size; have := HBw.out; omega)
      have fz := hx3.free 3
      have sz := hx3.cell (k := 3) rfl
      generalize hib : ((n + x.cnt + y.cnt - 1 : Nat) : Int) = ib at *
      have hx4 := hx3.set 3 (.int .i64 ib)
      have k4 := k3.keep (w' := w3.setCell ⟨b1, 3, none⟩ (.int .i64 ib)) (by simp) (fun b hb => Below.heap_setCell _ _ _ _ (fun e => hnb3 ((show b = b1 from e) ▸ hb)))
      have hr4 := hr3.other (a := ⟨b1, 3, none⟩) hne (.int .i64 ib)
      have hQ4 := QKeeps.box_set (b := b1) (HQ.out.trans kQ3 HS.out) (Nat.le_of_eq hb1n) 3 (.int .i64 ib)
      have HS4 := Lib.hid (fun b (hb : S3 b) => (kS3 b hb).elim (HS.out b) (fun e => (Or.inr (Nat.le_trans HQ.out.size e) : S b ∨ w.heap.size ≤ b)))
      have HW4 := Lib.hid (hw3.setCell (p := ⟨b1, 3, none⟩) (by show B ≤ b1; exact HBw.out) (.int .i64 ib))
      have K4 := Lib.hid k4
      have HX4 := Lib.hid hx4
      have HR4 := Lib.hid hr4
      have HQ4 := Lib.hid hQ4
      have Hnb3 := Lib.hid hnb3
      have Hng3 := Lib.hid hng3
      have hcast : (((n + x.cnt + y.cnt : Nat) : Int) : Int) = ib + 1 := by omega
      have hcast2 : ((n + x.cnt + y.cnt : Nat) : Int) - 1 = ib := by omega
      clear hx3 hnb3 hr3 hng3 hw3 hx4 k4 hr4 hQ4 k3 kS3 kQ3 C1
      generalize hcn2 : (n + x.cnt + y.cnt) = cn2 at *
      go_wp2_with fail
      subst hcn2
      refine ⟨⟨S3, HQ4.out, HS4, HW4, HR4.out, Hnb3.out, Hng3.out, .inr (.inr ⟨rfl, A3, c3, rfl, K4.out, by rw [hib]; exact HX4.out⟩)⟩, by simp [intOf]⟩
    · have Ho := Lib.hid hout
      have hbo := hout.low
      generalize hia : ((n + x.cnt - 1 : Nat) : Int) = ia at *
      generalize hib : ((n + x.cnt + y.cnt - 1 : Nat) : Int) = ib at *
      have q0 := hx.cell (k := 0) rfl
      have q1 := hx.cell (k := 1) rfl
      have q2 := hx.cell (k := 2) rfl
      have q3 := hx.cell (k := 3) rfl
      have q4 := hx.cell (k := 4) rfl
      have hbA : Below wr.heap.size wr (wr.alloc (.cells #[.int .i64 k, .int .i64 x1, .int .i64 ia, .int .i64 ib, .int .i64 x4] 51)) := (Below.refl _ _).alloc (Nat.le_refl _) _
      have hoA := Lib.hid ((hout.below hbA).own)
      have hgA := Lib.hid (BoxN.new wr 51 #[.int .i64 k, .int .i64 x1, .int .i64 ia, .int .i64 ib, .int .i64 x4])
      have hwl : B ≤ wr.heap.size := by have := HQ.out.size; have := HBw.out; omega
      have hlow : Hid (B ≤ (wr.alloc (.cells #[.int .i64 k, .int .i64 x1, .int .i64 ia, .int .i64 ib, .int .i64 x4] 51)).heap.size) := Lib.hid (by have := hbA.size; omega)
      have hn40 : Hid ((n + x.cnt + y.cnt) < 2 ^ 40) := Lib.hid (by omega)
      have hQA := Lib.hid (QKeeps.of_below (S := Sr) hbA)
      have Hwl := Lib.hid hwl
      generalize hcn2 : (n + x.cnt + y.cnt) = cn2 at *
      clear hbA hrow hnb hng hx hout hwl hbo
      go_wp2_with (at_builtin; refine wpList_push_nodeB rfl _ _ rfl rfl hoA.out wr.heap.size k x1 ia ib x4 rfl hgA.out hn40.out hlow.out ?_; intro B' c' w3 ho3 hbk3 hgr3)
      have k7 := OutTo.trans HQ.out HS.out (out_end hQA.out Ho.out Hwl.out ho3 hbk3 hgr3)
      subst hcn2
      rw [← hia, ← hib, List.append_assoc, List.append_assoc, ← List.append_assoc (x.lay n)] at k7
      have HT := Lib.hid k7
      clear k7 ho3 hbk3 hgr3
      go_wp2_with fail
      go_ret
      exact ⟨_, rfl, HT.out.cast (by omega)⟩
theorem placed_re (hN : NodesAt w0 A0 P n0) (hB : B = w0.heap.size) {x : RE} (h : IsRE P i x) : i < n0 → RPlacedOk P A0 n0 c0 B w0 i x.cnt x.lay := by
  induction h with
  | leaf h0 h1 h2 h3 h4 hk => exact fun hi => placed_leaf hN hB hi h0 h1 h2 h3 h4 (hk.elim (fun e => .inl e.1) (fun e => .inr e.1))
  | op k2 k4 h0 h1 ha hb hd la lb _ _ iha ihb => exact fun hi => placed_op hN hB hi k2 k4 h0 h1 ha hb hd (iha (by omega)) (ihb (by omega))
end
end Go.Proofs.YtdgncngkalgknaaDoor
