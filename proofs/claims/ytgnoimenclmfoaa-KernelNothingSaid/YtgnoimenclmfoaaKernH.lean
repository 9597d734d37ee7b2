/-
  Contracts: what the laws of kernels ask: pair, the closed fact, reach.
-/
import Derived.Test.YtgnoimenclmfoaaKernR
import Derived.Test.YtgnoimenclmfoaaKernN
import Derived.Test.YtgnoimenclmfoaaKernG
import Derived.Test.YtgnoimenclmfoaaInts
import Derived.Test.YtgnoimenclmfoaaSetW
namespace Go.Proofs.Ytgnoimenclmfoaa
open Go.RowKit
set_option maxRecDepth 100000
set_option linter.unusedVariables false

theorem intsIn_new (w : World) (l : List Int) (t : TypeId) : IntsIn anyB (w.alloc (.cells (l.map (Value.int .i64)).toArray t)) (some ⟨w.heap.size, 0, none⟩) l := fun _ =>
  ⟨w.heap.size, 0, rfl, trivial, fun j x hj => by rw [Nat.zero_add, cell_of_row _ w.heap.size j _ _ _ (heap_alloc_new w _)]; simp [hj]⟩
theorem ints_keep {ok : Nat → Prop} {w w' : World} {A : Option Addr} {l : List Int} (h : IntsIn ok w A l) (hb : Below w.heap.size w w') : IntsIn ok w' A l := h.keep fun b h1 _ => hb.block b h1

def pL : List (List Int) := [[0, 0, 7, 2, 0, 0], [3, 1, 0, 5, 1, 0]]
def pP : List Int := [0, 1]
def pT : List Int := [0, 1]
theorem box_ints {w : World} {b : Nat} {t : TypeId} {l : List Int} (h : BoxN w b t (l.map (Value.int .i64)).toArray) : IntsIn anyB w (some ⟨b, 0, none⟩) l := fun _ => ⟨b, 0, rfl, trivial, fun j x hj => by rw [Nat.zero_add]; exact h.cell (by simp [hj])⟩
set_option maxHeartbeats 2000000 in
theorem pair_any (w : World) : Calls Try.prog 13 #[] w fun e w' => (∃ A1 A2 A3, e = .returned (.agg #[.slice A1 2 2, .slice A2 1 1, .slice A3 2 2]) ∧ RowsIn anyB 3 w' A1 pL ∧ IntsIn anyB w' A2 pP ∧ IntsIn anyB w' A3 pT) ∧ Below w.heap.size w w' := by
  go_enter Try.func13, Try.ntmps13
  go_wp2_with fail
  refine bodyPost_ret (results_row1 rfl _ _ w.heap.size 26 #[.slice (some ⟨w.heap.size + 1 + 1 + 1, 0, none⟩) 2 2, .slice (some ⟨w.heap.size + 1 + 1 + 1 + 1, 0, none⟩) 1 1, .slice (some ⟨w.heap.size + 1 + 1 + 1 + 1 + 1, 0, none⟩) 2 2] (0, 0) _ rfl ?hR Try.underlying26 rfl (by kernel_rfl)) rfl ?_
  case hR =>
    show BoxN _ w.heap.size 26 _
    repeat (first | exact box_new' _ _ _ _ (by first | rfl | (simp; done)) | refine BoxN.alloc ?_ _)
  have b1 : ∀ V, BoxN V (w.heap.size + 1) 54 ([0, 0, 7, 2, 0, 0].map (Value.int .i64)).toArray → IntsIn anyB V (some ⟨w.heap.size + 1, 0, none⟩) [0, 0, 7, 2, 0, 0] := fun V h => box_ints h
  have b2 : ∀ V, BoxN V (w.heap.size + 1 + 1) 54 ([3, 1, 0, 5, 1, 0].map (Value.int .i64)).toArray → IntsIn anyB V (some ⟨w.heap.size + 1 + 1, 0, none⟩) [3, 1, 0, 5, 1, 0] := fun V h => box_ints h
  have b3 : ∀ V, BoxN V (w.heap.size + 1 + 1 + 1) 27 #[.slice (some ⟨w.heap.size + 1, 0, none⟩) 2 2, .slice (some ⟨w.heap.size + 1 + 1, 0, none⟩) 2 2] → IntsIn anyB V (some ⟨w.heap.size + 1, 0, none⟩) [0, 0, 7, 2, 0, 0] → IntsIn anyB V (some ⟨w.heap.size + 1 + 1, 0, none⟩) [3, 1, 0, 5, 1, 0] → RowsIn anyB 3 V (some ⟨w.heap.size + 1 + 1 + 1, 0, none⟩) pL := fun V h i1 i2 _ => by
    refine ⟨_, 0, rfl, trivial, fun i l hi => ?_⟩
    rw [Nat.zero_add]
    match i, hi with
    | 0, hi => simp [pL] at hi; subst hi; exact ⟨_, 2, 2, h.cell (k := 0) rfl, rfl, by unfold maxLen; omega, i1⟩
    | 1, hi => simp [pL] at hi; subst hi; exact ⟨_, 2, 2, h.cell (k := 1) rfl, rfl, by unfold maxLen; omega, i2⟩
    | i + 2, hi => simp [pL] at hi
  refine ⟨⟨_, _, _, rfl, b3 _ ?_ (b1 _ ?_) (b2 _ ?_), box_ints (t := 42) ?_, box_ints (t := 3) ?_⟩, ?_⟩
  · repeat (first | exact box_new' _ _ _ _ (by first | rfl | (simp; done)) | refine BoxN.alloc ?_ _)
  · repeat (first | exact box_new' _ _ _ _ (by first | rfl | (simp; done)) | refine BoxN.alloc ?_ _)
  · repeat (first | exact box_new' _ _ _ _ (by first | rfl | (simp; done)) | refine BoxN.alloc ?_ _)
  · repeat (first | exact box_new' _ _ _ _ (by first | rfl | (simp; done)) | refine BoxN.alloc ?_ _)
  · repeat (first | exact box_new' _ _ _ _ (by first | rfl | (simp; done)) | refine BoxN.alloc ?_ _)
  · repeat (first | exact Below.refl _ _ | refine Below.alloc ?_ (by first | exact Nat.le_refl _ | (simp; done) | (simp; omega)) _)
theorem pair_code : sysCode pL pP 1 pT = 0 := by decide
theorem pair_shown : ((kturns (sysOps pL) (turnsFrom pT 0 9) kNew).parts 1).shown = [7] := by decide
set_option maxHeartbeats 2000000 in
theorem kernelFact_true (w : World) : Calls Try.prog 5 #[] w fun e w' => e = .returned (.bool true) ∧ Below w.heap.size w w' := by
  have HP := Lib.hid (pair_any w)
  go_enter Try.func5, Try.ntmps5
  go_wp2_with fail
  refine HP.out.mono ?_
  rintro e w1 ⟨⟨A1, A2, A3, rfl, iL, iP, iT⟩, hb1⟩
  clear HP
  have HN := Lib.hid (New_ok (cp := 2) (co := 1) (ct := 2) iL iP rfl iT rfl rfl (by unfold maxLen; decide) (by unfold maxLen; decide) (by unfold maxLen; decide) pair_code)
  go_wp2_with fail
  refine HN.out.mono ?_
  rintro e w2 ⟨⟨p, rfl, gp, gh, K, hK⟩, hb2⟩
  clear HN
  have HR := Lib.hid (show Calls Try.prog 8 #[.pointer (some ⟨p, 0, none⟩), .int .i64 (9 : Int)] w2 _ from Run_ok hK (sysOk pair_code) kNew_inv (by omega) 9 (by omega) (by omega))
  have hlo := hb1.size
  have Hlow := Lib.hid hK.low
  have Hb2 := Lib.hid (hb1.trans (hb2.mono hlo))
  have hs2 := hb2.size
  clear hb1 hb2 iL iP iT
  go_wp2_with fail
  refine HR.out.mono ?_
  rintro e w3 ⟨rfl, r3, k3, t3⟩
  have HT := Lib.hid (Tick_any k3)
  have HS := Lib.hid (show Calls Try.prog 12 #[.pointer (some ⟨p, 0, none⟩), .int .i64 (1 : Int)] w3 _ from Shown_any k3 (i := 1) (by decide) (by decide) (by rw [pair_shown]; decide))
  rw [pair_shown] at HS
  have Hb3 := Lib.hid (Hb2.out.trans (t3.to_below (fun b hb => Hlow.out b (by omega)) (by omega)))
  have hs3 := t3.size
  clear k3 t3 HR hK
  go_wp2_with (first | (go_at_call 14; with_reducible refine HT.out.mono ?_; rintro e w' ⟨rfl, rfl⟩) | (go_at_call 12; with_reducible refine HS.out.mono ?_; rintro e w4 ⟨⟨A4, c4, rfl, o4⟩, hb4⟩) | (go_at_call 11; refine (Ints_any [7] [7] A4 _ c4 1 _ (o4.at_.below ((Below.refl _ _).alloc (Nat.le_refl _) _)) (box_ints (t := 3) (BoxN.new _ _ _)).at_ (by decide)).mono ?_; rintro e w5 ⟨rfl, n5, rfl⟩))
  go_ret
  have h34 := Hb3.out.trans (hb4.mono (by have := hs3; omega))
  exact ⟨rfl, belowD (h34.alloc (by have := hb4.size; omega) _) _⟩

set_option maxHeartbeats 2000000 in
theorem reach_any {w : World} {Ap Ao At : Option Addr} {L : List (List Int)} {P T : List Int} {q n m cp co ct part : Nat} (hP : IntsIn anyB w Ao P) (hl : P.length = q * 2) (hs : SysOk L P q T) (hp : part < L.length) :
    Calls Try.prog 10 #[.agg #[.slice Ap n cp, .slice Ao q co, .slice At m ct], .int .i64 part] w fun e w' => e = .returned (.int .i64 (portRounds P q part 6 : Nat)) ∧ Below w.heap.size w w' := by
  have hL5 := hs.parts.2
  have hq6 := hs.few
  have hport := Lib.hid hs.port
  have hto : ∀ i, i < q → portTo P i < 5 := fun i hi => by have := (hs.port i hi).2.1; unfold portTo; omega
  have hlt := Lib.hid (fun k => portRounds_lt (P := P) (q := q) (part := part) (n := 5) (by omega) hto k)
  have hrl := Lib.hid (fun s k (h : s < 2 ^ 5) (hk : k ≤ q) => portRound_lt (P := P) (s := s) (n := 5) h (k := k) (fun i hi => hto i (by omega)))
  have hbx := BoxN.new w 26 #[.slice Ap n cp, .slice Ao q co, .slice At m ct]
  have hba := (Below.refl w.heap.size w).alloc (Nat.le_refl _) (.cells #[.slice Ap n cp, .slice Ao q co, .slice At m ct] 26)
  have P2 := Lib.hid (fun V => Pow2_any part V (by omega))
  have p0 := Lib.hid (show portRounds P q part 0 = 2 ^ part from rfl)
  clear hs hto
  rw [← p0.out] at P2
  go_enter Try.func10, Try.ntmps10
  go_wp2_with (with_reducible refine (P2.out _).mono ?_; rintro e w' ⟨rfl, rfl⟩)
  go_loopw [5, 6] (fun a i wr => ∃ k : Nat, k ≤ 6 ∧ i = .int .i64 k ∧ a = .int .i64 (portRounds P q part k : Nat) ∧ Below w.heap.size w wr ∧ BoxN wr w.heap.size 26 #[.slice Ap n cp, .slice Ao q co, .slice At m ct]) (fun _ i _ => 6 - (intOf i).toNat)
  case atStart => exact ⟨0, by omega, rfl, rfl, hba, hbx⟩
  case round =>
    clear hba hbx
    obtain ⟨k, hk, rfl, rfl, hbr, hbx⟩ := hrel
    have hz := Lib.hid (hlt.out k)
    have hsucc := Lib.hid (show portRounds P q part (k + 1) = portRound P (portRounds P q part k) q from rfl)
    by_cases hk6 : k < 6
    · have d6 : decide ((k : Int) < 6) = true := decide_eq_true (by omega)
      generalize portRounds P q part k = sk at *
      go_wp2_with fail
      go_loopw [5, 7] (fun a i wi => ∃ j : Nat, j ≤ q ∧ i = .int .i64 j ∧ a = .int .i64 (portRound P sk j : Nat) ∧ Below w.heap.size w wi ∧ BoxN wi w.heap.size 26 #[.slice Ap n cp, .slice Ao q co, .slice At m ct]) (fun _ i _ => q - (intOf i).toNat)
      case atStart => exact ⟨0, Nat.zero_le _, rfl, rfl, hbr, hbx⟩
      case round =>
        clear hbr hbx
        obtain ⟨wi, rfl⟩ : ∃ wi : World, wi = wr := ⟨_, rfl⟩
        obtain ⟨j, hj, rfl, rfl, hbi, hbx⟩ := hrel
        have x1 := hbx.cell (k := 1) rfl
        by_cases hjq : j < q
        · obtain ⟨b, off, rfl, c0, c1⟩ := port_cells (hP.below hbi) hl hjq
          obtain ⟨hf, ht, -⟩ := hport.out j hjq
          have hsj := Lib.hid (hrl.out sk j hz.out (by omega))
          have hst := Lib.hid (portRound_succ P sk j)
          obtain ⟨xf, hxf⟩ := Int.eq_ofNat_of_zero_le hf.1
          obtain ⟨xt, hxt⟩ := Int.eq_ofNat_of_zero_le ht.1
          have e1 : portFrom P j = xf := by unfold portFrom; rw [hxf, Int.toNat_natCast]
          have e2 : portTo P j = xt := by unfold portTo; rw [hxt, Int.toNat_natCast]
          rw [hxf] at c0
          rw [hxt] at c1
          have hps : portStep P (portRound P sk j) j = if (portRound P sk j).testBit xf then portRound P sk j ||| 2 ^ xt else portRound P sk j := by unfold portStep; rw [e1, e2]
          have Hps := Lib.hid (hst.out.trans hps)
          have hxf5 : xf < 5 := by omega
          have hxt5 : xt < 5 := by omega
          have hbb := block_lt c0
          clear hf ht hxf hxt e1 e2 hps hst
          generalize portRound P sk j = sj at *
          have BT := Lib.hid (fun (b : Bool) (hb : sj.testBit xf = b) (V : World) => Bit_is sj xf b V (by have := hsj.out; omega) (by omega) hb)
          have WT := Lib.hid (fun (V : World) => With_any sj xt V (by have := hsj.out; omega) (by omega))
          cases hb : sj.testBit xf with
          | false =>
            have Hn := Hps.out
            rw [hb, if_neg (by decide)] at Hn
            have Hn := Lib.hid Hn
            have B1 := Lib.hid (BT.out false hb)
            clear hb Hps BT WT
            go_wp2_with (with_reducible refine (B1.out _).mono ?_; rintro e w' ⟨rfl, rfl⟩)
            refine ⟨⟨j + 1, ?ya, ?yb, ?yc, hbi, hbx⟩, ?yd⟩
            case ya => omega
            case yb => go_num
            case yc => rw [Hn.out]
            case yd => simp [intOf]; omega
          | true =>
            have Hn := Hps.out
            rw [hb, if_pos rfl] at Hn
            have Hn := Lib.hid Hn
            have B1 := Lib.hid (BT.out true hb)
            clear hb Hps BT
            go_wp2_with (first | (with_reducible refine (B1.out _).mono ?_; rintro e w' ⟨rfl, rfl⟩) | (with_reducible refine (WT.out _).mono ?_; rintro e w' ⟨rfl, rfl⟩))
            refine ⟨⟨j + 1, ?ya, ?yb, ?yc, hbi, hbx⟩, ?yd⟩
            case ya => omega
            case yb => go_num
            case yc => rw [Hn.out]
            case yd => simp [intOf]; omega
        · obtain rfl : j = q := by omega
          go_wp2_with fail
          refine ⟨⟨k + 1, ?ya, ?yb, ?yc, hbi, hbx⟩, ?yd⟩
          case ya => omega
          case yb => go_num
          case yc => rw [hsucc.out]
          case yd => simp [intOf]; omega
    · obtain rfl : k = 6 := by omega
      go_wp2_with fail
      go_ret
      exact ⟨rfl, hbr⟩
end Go.Proofs.Ytgnoimenclmfoaa
