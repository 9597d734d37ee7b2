/-
  Contract: the document's Names.
-/
import Derived.Test.YtdgncngkalgknaaDoorPrA
import Derived.Test.YtdgncngkalgknaaDoorPgB
import Derived.Test.YtdgncngkalgknaaDoorEither
import Derived.Test.YtdgncngkalgknaaDoorStillD
namespace Go.Proofs.YtdgncngkalgknaaDoor
open Go.RowKit
set_option maxRecDepth 100000
set_option linter.unusedVariables false

set_option maxHeartbeats 2000000 in
theorem RNames_any {P : List Int} {n : Nat} {A : Option Addr} {c : Nat} {i : Nat} {e : Ex} (he : IsEx P i e) (hi : i < n) : ∀ (w : World), NodesAt w A P n →
    Calls Tryd.prog 75 #[.slice A n c, .int .i64 i] w fun r w' => r = .returned (.int .i64 (e.names : Nat)) ∧ Below w.heap.size w w' := by
  induction he with
  | @num i m h0 h1 h2 =>
    intro w h
    obtain ⟨b, off, rfl, p0, p1, p2, p3, p4⟩ := h.cells hi
    rw [h0] at p0
    rw [h1] at p1
    have HP := Lib.hid (RParts_any 0 m (nd P i 2) (nd P i 3) (nd P i 4) w)
    rw [show partsL 0 (nd P i 2) (nd P i 3) (nd P i 4) = [] from rfl] at HP
    clear h h0 h1 h2
    go_enter Tryd.func75, Tryd.ntmps75
    go_wp2_with fail
    with_reducible refine HP.out.mono ?_
    rintro r w1 ⟨X, cx, rfl, -, hb, -⟩
    go_wp2_with fail
    go_loopw [5, 7] (fun s j wr => s = .int .i64 0 ∧ j = .int .i64 0 ∧ wr = w1) (fun s j _ => 0)
    case atStart => exact ⟨rfl, rfl, rfl⟩
    case round =>
      obtain ⟨rfl, rfl, rfl⟩ := hrel
      go_wp2_with fail
      go_ret
      exact ⟨rfl, hb⟩
  | @var i m h0 h1 h2 =>
    intro w h
    obtain ⟨b, off, rfl, p0, p1, p2, p3, p4⟩ := h.cells hi
    rw [h0] at p0
    rw [h1] at p1
    have H := Lib.hid (fun V => Pow2_any m V (by omega))
    clear h
    go_enter Tryd.func75, Tryd.ntmps75
    go_wp2_with (go_at_call 22; with_reducible refine (H.out _).mono ?_; rintro r w' ⟨rfl, rfl⟩)
    go_ret
    exact ⟨rfl, Below.refl _ _⟩
  | @op i k a b x y hk2 hk4 h0 h2 h3 ha hb hx hy iha ihb =>
    intro w h
    obtain ⟨bb, off, rfl, p0, p1, p2, p3, p4⟩ := h.cells hi
    rw [h0] at p0
    rw [h2] at p2
    rw [h3] at p3
    have HP := Lib.hid (RParts_any k (nd P i 1) a b (nd P i 4) w)
    have hpl : partsL (k : Int) a b (nd P i 4) = [(a : Int), (b : Int)] := parts_two (by omega)
    rw [hpl] at HP
    have dk : ((k : Int) == 1) = false := by simp; omega
    have lx := Ex.names_lt hx.ok
    have ly := Ex.names_lt hy.ok
    have Ho := Lib.hid (fun V => Either_any x.names y.names V (by omega) (by omega))
    have Ho0 := Lib.hid (show ∀ V, Calls Tryd.prog 74 #[.int .i64 0, .int .i64 x.names] V fun e w' => e = .returned (.int .i64 (x.names : Nat)) ∧ V = w' from fun V => (Either_any 0 x.names V (by omega) (by omega)).mono fun e w' h => by rw [Nat.zero_or] at h; exact h)
    have Hx := Lib.hid (fun w1 (hb : Below w.heap.size w w1) V (hV : Below w1.heap.size w1 V) => (iha (by omega) V ((h.below (B := 0) hb).below (B := 0) hV)).mono fun r w' ⟨he, hx⟩ => (⟨he, hV.trans (hx.mono hV.size)⟩ : _ ∧ Below w1.heap.size w1 w'))
    have Hy := Lib.hid (fun w1 (hb : Below w.heap.size w w1) V (hV : Below w1.heap.size w1 V) => (ihb (by omega) V ((h.below (B := 0) hb).below (B := 0) hV)).mono fun r w' ⟨he, hx⟩ => (⟨he, hV.trans (hx.mono hV.size)⟩ : _ ∧ Below w1.heap.size w1 w'))
    clear h iha ihb hx hy h0 h2 h3 ha hb
    generalize hxn : x.names = xn at *
    generalize hyn : y.names = yn at *
    have Hr := Lib.hid (show (Ex.op k x y).names = xn ||| yn by rw [Ex.names, hxn, hyn])
    generalize (Ex.op k x y).names = rn at *
    clear hxn hyn hpl
    go_enter Tryd.func75, Tryd.ntmps75
    go_wp2_with (go_at_call 48; with_reducible refine HP.out.mono ?_; rintro r w1 ⟨X, cx, rfl, hX, hb, -⟩)
    have Hx1 := Lib.hid (Hx.out w1 hb)
    have Hy1 := Lib.hid (Hy.out w1 hb)
    clear Hx Hy
    obtain ⟨bx, ox, rfl, hc⟩ := hX (by simp)
    have q0 : w1.cell? ⟨bx, ox, none⟩ = some (.int .i64 (a : Nat)) := hc 0 _ rfl
    have q1 : w1.cell? ⟨bx, ox + 1, none⟩ = some (.int .i64 (b : Nat)) := hc 1 _ rfl
    have hbx := block_lt q0
    have hs1 := hb.size
    clear hc hX HP
    go_loopw [5, 7] (fun s j wr => ∃ k : Nat, k ≤ 2 ∧ j = .int .i64 k ∧ s = .int .i64 ((if k = 0 then 0 else if k = 1 then xn else xn ||| yn : Nat) : Nat) ∧ Below w1.heap.size w1 wr) (fun s j _ => 2 - (intOf j).toNat)
    case atStart => exact ⟨0, by omega, rfl, rfl, Below.refl _ _⟩
    case round =>
      obtain ⟨k, hk, rfl, rfl, hbr⟩ := hrel
      have hbw := hb.trans (hbr.mono hs1)
      have r0 := (hbr.cell (p := ⟨bx, ox, none⟩) hbx).trans q0
      have r1 := (hbr.cell (p := ⟨bx, ox + 1, none⟩) hbx).trans q1
      have hc3 : k = 0 ∨ k = 1 ∨ k = 2 := by omega
      rcases hc3 with rfl | rfl | rfl
      · go_wp2_with (first | (go_at_call 75; with_reducible refine (Hx1.out _ (by assumption)).mono ?_; rintro r w2 ⟨rfl, hb2⟩) | (go_at_call 74; with_reducible refine (Ho0.out _).mono ?_; rintro r w' ⟨rfl, rfl⟩))
        refine ⟨⟨1, by omega, rfl, ?ya, ?yb⟩, ?yc⟩
        case ya => simp
        case yb => exact hb2
        case yc => simp [intOf]
      · go_wp2_with (first | (go_at_call 75; with_reducible refine (Hy1.out _ (by assumption)).mono ?_; rintro r w2 ⟨rfl, hb2⟩) | (go_at_call 74; with_reducible refine (Ho.out _).mono ?_; rintro r w' ⟨rfl, rfl⟩))
        refine ⟨⟨2, by omega, rfl, ?ya, ?yb⟩, ?yc⟩
        case ya => simp
        case yb => exact hb2
        case yc => simp [intOf]
      · go_wp2_with fail
        go_ret
        exact ⟨by rw [Hr.out]; rfl, hbw⟩

end Go.Proofs.YtdgncngkalgknaaDoor
