/-
  Contracts: quietwingref2.Around, find, Ahead.
-/
import Derived.Test.YtdgncngkalgknaaDoorRsA
import Derived.Test.YtdgncngkalgknaaDoorLeafW
import Derived.Test.YtdgncngkalgknaaDoorEither
namespace Go.Proofs.YtdgncngkalgknaaDoor
open Go.RowKit Go.Maps
set_option maxRecDepth 100000
set_option linter.unusedVariables false
def fitsQ (e : Ex) (y : St) (u t : Nat) : Bool := within u t && (within e.names t && within (y.need t).1 t)
theorem around_meet {e : Ex} {y : St} (he : e.ok) (hy : y.ok) {u : Nat} (hu : u < 64) : meetTo (fitsQ e y u) 64 = rise (St.once e y) 64 u := by
  obtain ⟨g1, g2, g3, g4, g5⟩ := loop_fix he hy hu
  refine meet_is g1 ?_ ?_
  · unfold fitsQ
    rw [(within_iff _ _).2 g2, (within_iff _ _).2 g3, (within_iff _ _).2 g4]
    rfl
  · intro t ht h
    unfold fitsQ at h
    rw [Bool.and_eq_true, Bool.and_eq_true] at h
    exact g5 t ht ((within_iff _ _).1 h.1) ((within_iff _ _).1 h.2.1) ((within_iff _ _).1 h.2.2)
theorem meetTo_lt (q : Nat → Bool) : ∀ t, meetTo q t < 64
  | 0 => by rw [meetTo]; decide
  | t + 1 => by
    have := meetTo_lt q t
    rw [meetTo]
    split
    · exact Nat.lt_of_le_of_lt Nat.and_le_left this
    · exact this
def RAroundOk (P : List Int) (A0 : Option Addr) (n0 c0 B tb ct : Nat) (w0 : World) (x1 x4 : Int) (a b : Nat) (ex : Ex) (y : St) : Prop := ∀ (w : World) (T : List Int) (u : Nat), TabAt P n0 B tb T w → Below B w0 w → u < 64 →
  Calls Tryd.prog 73 #[.slice A0 n0 c0, .slice (some ⟨tb, 0, none⟩) (64 * n0) ct, .agg #[.int .i64 9, .int .i64 x1, .int .i64 (a : Nat), .int .i64 (b : Nat), .int .i64 x4], .int .i64 u] w fun e w' => e = .returned (.int .i64 (rise (St.once ex y) 64 u : Nat)) ∧ TabTo P n0 B tb w w'
section
variable {P : List Int} {A0 : Option Addr} {n0 c0 B tb ct : Nat} {w0 : World} {i : Nat}
set_option maxHeartbeats 4000000 in
theorem raround_of {a b : Nat} {x1 x4 : Int} {ex : Ex} {y : St} (hN : NodesAt w0 A0 P n0) (hB : B = w0.heap.size) (hy : y.ok) (la : a < n0) (he : IsEx P a ex) (ihb : RAheadOk P A0 n0 c0 B tb ct w0 b y) : RAroundOk P A0 n0 c0 B tb ct w0 x1 x4 a b ex y := by
  intro w T u h hw hu
  rw [← around_meet he.ok hy hu]
  have hb1 := (Below.refl w.heap.size w).alloc (Nat.le_refl _) (.cells #[.int .i64 9, .int .i64 x1, .int .i64 (a : Nat), .int .i64 (b : Nat), .int .i64 x4] 51)
  have h1 := h.below hb1
  have hx1 := BoxN.new w 51 #[.int .i64 9, .int .i64 x1, .int .i64 (a : Nat), .int .i64 (b : Nat), .int .i64 x4]
  have htb := h.row.lt
  have hlow := h.low
  have hbw : B ≤ w.heap.size := by omega
  have Hn1 := Lib.hid (show ¬ w.heap.size = tb by omega)
  have HQ1 := Lib.hid (QKeeps.of_below (S := fun b => b = tb) hb1)
  have HW1 := Lib.hid (hw.trans (hb1.mono hbw))
  have CN0 := Lib.hid (fun (V : World) (hV : Below B w0 V) => RNames_any (c := c0) he la V (hN.below (B := 0) (hB ▸ hV)))
  have IH := Lib.hid ihb
  have hes : ex.names < 2 ^ 6 := names_lt64 he.ok
  have Hlt := Lib.hid (fun k => meetTo_lt (fitsQ ex y u) k)
  have Hy := Lib.hid hy
  have HBlow := Lib.hid hlow
  clear h hb1 hw hN hB ihb he hy htb hlow
  go_enter Tryd.func73, Tryd.ntmps73
  go_wp2_with fail
  have hsz1 : B ≤ (w.alloc (.cells #[.int .i64 9, .int .i64 x1, .int .i64 (a : Nat), .int .i64 (b : Nat), .int .i64 x4] 51)).heap.size := by simp; omega
  generalize w.alloc (.cells #[.int .i64 9, .int .i64 x1, .int .i64 (a : Nat), .int .i64 (b : Nat), .int .i64 x4] 51) = w1 at *
  generalize hb1n : w.heap.size = b1 at *
  go_loopw [9, 10] (fun o s wr => ∃ (k : Nat) (Tr : List Int), k ≤ 64 ∧ s = .int .i64 k ∧ o = .int .i64 (meetTo (fitsQ ex y u) k : Nat) ∧ TabAt P n0 B tb Tr wr ∧ QKeeps (fun b => b = tb) w1 wr ∧ BoxN wr b1 51 #[.int .i64 9, .int .i64 x1, .int .i64 (a : Nat), .int .i64 (b : Nat), .int .i64 x4]) (fun _ s _ => 64 - (intOf s).toNat)
  case atStart => exact ⟨0, T, by omega, rfl, rfl, h1, QKeeps.refl _ _, hx1⟩
  case round =>
    obtain ⟨k, Tr, hk, rfl, rfl, hT, hQ, hx⟩ := hrel
    by_cases hlt : k < 64
    · have y3 := hx.cell (k := 3) rfl
      have hwr := TabTo.below ⟨Tr, hT, hQ⟩ HBlow.out HW1.out hsz1
      have C1 := Lib.hid (IH.out wr Tr k hT hwr hlt)
      have hks : (k : Int) < 64 := by omega
      have HQ := Lib.hid hQ
      have HT := Lib.hid hT
      have Hx := Lib.hid hx
      have Hwr := Lib.hid hwr
      have hml := Hlt.out k
      have hsl : (y.need k).1 < 2 ^ 6 := need_lt Hy.out hlt
      have Hstep : Hid (meetTo (fitsQ ex y u) (k + 1) = if fitsQ ex y u k then meetTo (fitsQ ex y u) k &&& k else meetTo (fitsQ ex y u) k) := Lib.hid rfl
      have Hq : Hid (fitsQ ex y u k = (within u k && (within ex.names k && within (y.need k).1 k))) := Lib.hid rfl
      have CB := Lib.hid (fun V => RBoth_any (meetTo (fitsQ ex y u) k) k V (by omega) (by omega))
      generalize meetTo (fitsQ ex y u) k = o at *
      generalize ho2 : meetTo (fitsQ ex y u) (k + 1) = o2 at *
      have Ho2 := Lib.hid ho2
      clear ho2
      generalize fitsQ ex y u k = qk at *
      generalize (y.need k).1 = m at *
      generalize (y.need k).2 = fm at *
      generalize ex.names = en at *
      have CW1 := Lib.hid (fun bb hb V => Within_is u k bb V (by omega) (by omega) hb)
      have CW2 := Lib.hid (fun bb hb V => Within_is en k bb V (by omega) (by omega) hb)
      have CW3 := Lib.hid (fun bb hb V => Within_is m k bb V (by omega) (by omega) hb)
      clear hT hQ hx hwr
      go_wp2_with fail
      refine C1.out.mono ?_
      rintro e w2 ⟨rfl, T2, k2, kQ2⟩
      have hx2 := kQ2.box Hx.out Hn1.out
      have y2 := hx2.cell (k := 2) rfl
      have K2 := Lib.hid k2
      have HQ2 := Lib.hid (HQ.out.trans kQ2 (fun b hb => .inl hb))
      have Hx2 := Lib.hid hx2
      have CN := Lib.hid (CN0.out w2 (TabTo.below ⟨T2, k2, kQ2⟩ HBlow.out Hwr.out (Nat.le_trans hsz1 HQ.out.size)))
      clear k2 kQ2 hx2 C1
      cases h1 : within u k with
      | false =>
        have C2 := Lib.hid (CW1.out false h1)
        have Ho : o2 = o := by rw [Hstep.out, Hq.out, h1]; rfl
        clear CW1 CW2 CW3 Hstep Hq h1
        go_wp2_with fail
        refine (C2.out _).mono ?_
        rintro e w3 ⟨rfl, rfl⟩
        go_wp2_with fail
        refine ⟨⟨k + 1, T2, ?ya, ?yb, ?yc, K2.out, HQ2.out, Hx2.out⟩, ?yd⟩
        case ya => omega
        case yb => go_num
        case yc => rw [Ho2.out, Ho]
        case yd => simp [intOf]; omega
      | true =>
        have C2 := Lib.hid (CW1.out true h1)
        cases h2 : within en k with
        | false =>
          have C3 := Lib.hid (CW2.out false h2)
          have Ho : o2 = o := by rw [Hstep.out, Hq.out, h1, h2]; rfl
          clear CW1 CW2 CW3 Hstep Hq h1 h2
          go_wp2_with fail
          refine (C2.out _).mono ?_
          rintro e w3 ⟨rfl, rfl⟩
          go_wp2_with fail
          refine CN.out.mono ?_
          rintro e w3 ⟨rfl, hb3⟩
          have K3 := Lib.hid (K2.out.below hb3)
          have HQ3 := Lib.hid (HQ2.out.trans (QKeeps.of_below (S := fun _ => False) hb3) (fun b hb => hb.elim))
          have Hx3 := Lib.hid (Hx2.out.all hb3)
          clear hb3
          go_wp2_with fail
          refine (C3.out _).mono ?_
          rintro e w4 ⟨rfl, rfl⟩
          go_wp2_with fail
          refine ⟨⟨k + 1, T2, ?ya, ?yb, ?yc, K3.out, HQ3.out, Hx3.out⟩, ?yd⟩
          case ya => omega
          case yb => go_num
          case yc => rw [Ho2.out, Ho]
          case yd => simp [intOf]; omega
        | true =>
          have C3 := Lib.hid (CW2.out true h2)
          cases h3 : within m k with
          | false =>
            have C4 := Lib.hid (CW3.out false h3)
            have Ho : o2 = o := by rw [Hstep.out, Hq.out, h1, h2, h3]; rfl
            clear CW1 CW2 CW3 Hstep Hq h1 h2 h3
            go_wp2_with fail
            refine (C2.out _).mono ?_
            rintro e w3 ⟨rfl, rfl⟩
            go_wp2_with fail
            refine CN.out.mono ?_
            rintro e w3 ⟨rfl, hb3⟩
            have K3 := Lib.hid (K2.out.below hb3)
            have HQ3 := Lib.hid (HQ2.out.trans (QKeeps.of_below (S := fun _ => False) hb3) (fun b hb => hb.elim))
            have Hx3 := Lib.hid (Hx2.out.all hb3)
            clear hb3
            go_wp2_with fail
            refine (C3.out _).mono ?_
            rintro e w4 ⟨rfl, rfl⟩
            go_wp2_with fail
            refine (C4.out _).mono ?_
            rintro e w4 ⟨rfl, rfl⟩
            go_wp2_with fail
            refine ⟨⟨k + 1, T2, ?ya, ?yb, ?yc, K3.out, HQ3.out, Hx3.out⟩, ?yd⟩
            case ya => omega
            case yb => go_num
            case yc => rw [Ho2.out, Ho]
            case yd => simp [intOf]; omega
          | true =>
            have C4 := Lib.hid (CW3.out true h3)
            have Ho : o2 = o &&& k := by rw [Hstep.out, Hq.out, h1, h2, h3]; rfl
            clear CW1 CW2 CW3 Hstep Hq h1 h2 h3
            go_wp2_with fail
            refine (C2.out _).mono ?_
            rintro e w3 ⟨rfl, rfl⟩
            go_wp2_with fail
            refine CN.out.mono ?_
            rintro e w3 ⟨rfl, hb3⟩
            have K3 := Lib.hid (K2.out.below hb3)
            have HQ3 := Lib.hid (HQ2.out.trans (QKeeps.of_below (S := fun _ => False) hb3) (fun b hb => hb.elim))
            have Hx3 := Lib.hid (Hx2.out.all hb3)
            clear hb3
            go_wp2_with fail
            refine (C3.out _).mono ?_
            rintro e w4 ⟨rfl, rfl⟩
            go_wp2_with fail
            refine (C4.out _).mono ?_
            rintro e w4 ⟨rfl, rfl⟩
            go_wp2_with fail
            refine (CB.out _).mono ?_
            rintro e w4 ⟨rfl, rfl⟩
            go_wp2_with fail
            refine ⟨⟨k + 1, T2, ?ya, ?yb, ?yc, K3.out, HQ3.out, Hx3.out⟩, ?yd⟩
            case ya => omega
            case yb => go_num
            case yc => rw [Ho2.out, Ho]
            case yd => simp [intOf]; omega
    · obtain rfl : k = 64 := by omega
      have HT := Lib.hid (show TabTo P n0 B tb w wr from ⟨Tr, hT, HQ1.out.trans hQ (fun b hb => .inl hb)⟩)
      clear hT hQ hx
      go_wp2_with fail
      go_ret
      exact ⟨rfl, HT.out⟩
end
end Go.Proofs.YtdgncngkalgknaaDoor
