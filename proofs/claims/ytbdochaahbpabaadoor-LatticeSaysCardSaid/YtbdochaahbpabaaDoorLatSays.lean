/-
  The walk of quietwinglaw1.LatticeSays.
-/
import Derived.Test.YtbdochaahbpabaaDoorRef3
import Derived.Test.YtbdochaahbpabaaDoorAs
import Derived.Test.YtbdochaahbpabaaDoorFrame
namespace Go.Proofs.YtbdochaahbpabaaDoor
open Go.RowKit
set_option maxRecDepth 100000
set_option linter.unusedVariables false

theorem below_drewN {B : Nat} {a w : World} (h : Below B a w) (n : Nat) : Below B a (w.drewN n) := ⟨h.os, h.tape, h.output, h.size, h.block⟩
def ok2V (r : List Nat) (i j : Nat) : Bool := decide ((boundV (castL r) false i j).2 = 0) && decide ((boundV (castL r) true i j).2 = 0)
theorem boundV_code {r : List Nat} (m : Bool) (h1 : r.length ≤ 12) (h2 : Bd r.length r) (ho : orderB (closed r) = true) {a b : Nat} (ha : a < r.length) (hb : b < r.length) :
    (boundV (castL r) m a b).2 = 0 ∨ (boundV (castL r) m a b = (0, 5)) := by
  rw [boundV_in m h1 h2 ho ha hb]; split
  · exact .inl rfl
  · exact .inr rfl
theorem isLat_iff {r : List Nat} (h1 : r.length ≤ 12) (h2 : Bd r.length r) (ho : orderB (closed r) = true) :
    isLat (closed r) = true ↔ 0 < r.length ∧ ∀ i j, i < r.length → j < r.length → ok2V r i j = true := by
  constructor
  · intro hl
    refine ⟨?_, fun i j hi hj => ?_⟩
    · unfold isLat at hl
      rw [Bool.and_eq_true, length_closed, decide_eq_true_eq] at hl
      exact hl.1
    · obtain ⟨x, hx⟩ := lat_ex h1 h2 ho hl false hi hj
      obtain ⟨y, hy⟩ := lat_ex h1 h2 ho hl true hi hj
      unfold ok2V
      rw [hx.val h1 h2 ho hi hj, hy.val h1 h2 ho hi hj]
      rfl
  · rintro ⟨hp, hall⟩
    unfold isLat
    rw [Bool.and_eq_true, length_closed, decide_eq_true_eq]
    refine ⟨hp, List.all_eq_true.2 fun a ha => List.all_eq_true.2 fun b hb => ?_⟩
    rw [List.mem_range] at ha hb
    have hbn : b < r.length := by omega
    have h := hall a b ha hbn
    unfold ok2V at h
    rw [Bool.and_eq_true, decide_eq_true_eq, decide_eq_true_eq, boundV_in false h1 h2 ho ha hbn, boundV_in true h1 h2 ho ha hbn] at h
    unfold both
    rw [Bool.and_eq_true, decide_eq_true_eq, decide_eq_true_eq]
    constructor
    · apply Classical.byContradiction; intro hn; rw [if_neg hn] at h; exact absurd h.1 (by decide)
    · apply Classical.byContradiction; intro hn; rw [if_neg hn] at h; exact absurd h.2 (by decide)

theorem boundV_out {r : List Nat} {m : Bool} (h1 : r.length ≤ 12) (h2 : Bd r.length r) (ho : orderB (closed r) = true) {a b : Int} (hout : ¬ ((0 ≤ a ∧ a < r.length) ∧ 0 ≤ b ∧ b < r.length)) : boundV (castL r) m a b = (0, 1) := by
  unfold boundV
  rw [length_castL, toNat_castL, latCode_cast h1 h2, ho]
  rw [if_neg (by simp), if_neg hout]

set_option maxHeartbeats 8000000 in
theorem LatticeSays_in (r : List Nat) (h1 : r.length ≤ 12) (h2 : Bd r.length r) (ho : orderB (closed r) = true) (A : Option Addr) (c : Nat) (a b : Nat) (w : World) (h : IntsAt w A (castL r)) (hT : Tab w) (hE : ErrT w) (ha : a < r.length) (hb : b < r.length) :
    Calls Tryd.prog 14 #[.slice A r.length c, .int .i64 a, .int .i64 b] w fun e w' => e = .returned (.bool true) ∧ Below w.heap.size w w' := by
  have CR := Lib.hid (fun (V : World) (hV : Below w.heap.size w V) => over hV ((RRel_any (castL r) A c V (h.below hV) (by rw [length_castL]; omega)).mono fun e w' ⟨he, q, hq⟩ => (⟨he, hq ▸ below_drewN (Below.refl _ _) q⟩ : e = _ ∧ Below V.heap.size V w')))
  rw [relCode_cast h1 h2, length_castL] at CR
  have CO := Lib.hid (fun (V : World) (hV : Below w.heap.size w V) => over hV (ROrder_any r h1 h2 A c V (h.below hV)))
  rw [ho] at CO
  have CB := Lib.hid (fun (m : Bool) (i j : Nat) (hi : i < r.length) (hj : j < r.length) (V : World) (hV : Below w.heap.size w V) => over hV (RBound_any r h1 h2 ho A c i j m V (h.below hV) hi hj))
  have CI := Lib.hid (fun (V : World) (hV : Below w.heap.size w V) => over hV (Is_ok r h1 h2 ho A c V (h.below hV) (hT.next hV)))
  have E0 := Lib.hid (fun (V : World) (hV : Below w.heap.size w V) => over hV (Error_is 0 0 true V (hE.next hV) (by decide)))
  have EN := E0
  rw [errVal_zero] at EN
  have E1 := Lib.hid (fun (V : World) (hV : Below w.heap.size w V) => over hV (Error_is 1 1 true V (hE.next hV) (by decide)))
  have E5 := Lib.hid (fun (V : World) (hV : Below w.heap.size w V) => over hV (Error_is 5 5 true V (hE.next hV) (by decide)))
  have CJ := Lib.hid (fun (V : World) (hV : Below w.heap.size w V) => over hV (Join_any (castL r) (by rw [length_castL]; omega) A c a b V (h.below hV) (hT.next hV)))
  have CM := Lib.hid (fun (V : World) (hV : Below w.heap.size w V) => over hV (Meet_any (castL r) (by rw [length_castL]; omega) A c a b V (h.below hV) (hT.next hV)))
  rw [length_castL] at CJ CM
  have Hlat := Lib.hid (isLat_iff h1 h2 ho)
  have CBa := CB.out false a b ha hb
  have CBb := CB.out true a b ha hb
  have hk1 := boundV_code false h1 h2 ho ha hb
  have hk2 := boundV_code true h1 h2 ho ha hb
  generalize hj : boundV (castL r) false a b = J at *
  generalize hm : boundV (castL r) true a b = M at *
  clear hj hm
  obtain ⟨x1, k1⟩ := J
  obtain ⟨x2, k2⟩ := M
  have hk1 : (k1 = 0 ∧ decide (k1 = 0) = true) ∨ (k1 = 5 ∧ decide (k1 = 0) = false) := by
    rcases hk1 with h | h
    · obtain rfl : k1 = 0 := h
      exact .inl ⟨rfl, rfl⟩
    · injection h with _ h; subst h; exact .inr ⟨rfl, rfl⟩
  have hk2 : (k2 = 0 ∧ decide (k2 = 0) = true) ∨ (k2 = 5 ∧ decide (k2 = 0) = false) := by
    rcases hk2 with h | h
    · obtain rfl : k2 = 0 := h
      exact .inl ⟨rfl, rfl⟩
    · injection h with _ h; subst h; exact .inr ⟨rfl, rfl⟩
  generalize decide (k1 = 0) = u1 at *
  generalize decide (k2 = 0) = u2 at *
  have g1 : decide ((a : Int) < 0) = false := by simp
  have g2 : decide ((b : Int) < 0) = false := by simp
  have g3 : decide ((a : Int) ≥ (r.length : Int)) = false := by simp; omega
  have g4 : decide ((b : Int) ≥ (r.length : Int)) = false := by simp; omega
  have CBa := Lib.hid CBa
  have CBb := Lib.hid CBb
  have Hok2 := Lib.hid (fun (i j : Nat) (hi : i < r.length) (hj : j < r.length) => show ok2V r i j = (decide ((boundV (castL r) false i j).2 = 0) && decide ((boundV (castL r) true i j).2 = 0)) from rfl)
  have Hlatt := Lib.hid (fun (hp : 0 < r.length) (hh : ∀ x y, x < r.length → y < r.length → ok2V r x y = true) => Hlat.out.2 ⟨hp, hh⟩)
  have Hlatf := Lib.hid (fun (x y : Nat) (hx : x < r.length) (hy : y < r.length) (hh : ok2V r x y = false) => show isLat (closed r) = false from Bool.eq_false_iff.2 fun e => by
    have := (Hlat.out.1 e).2 x y hx hy
    rw [hh] at this; cases this)
  have Hlat0 := Lib.hid (fun (hp : ¬ 0 < r.length) => show isLat (closed r) = false from Bool.eq_false_iff.2 fun e => hp (Hlat.out.1 e).1)
  have hbl : Below w.heap.size w w := Below.refl _ _
  clear h hT hE ho h2 Hlat
  generalize isLat (closed r) = lat at *
  generalize ok2V r = ok2 at *
  have hpos : 0 < r.length := by omega
  have gp : decide ((r.length : Int) > 0) = true := by simp; omega
  generalize hn : r.length = n at *
  have Hn := Lib.hid hn
  clear hn
  go_enter Tryd.func14, Tryd.ntmps14
  go_wp2_with (first
    | (go_at_call 43; with_reducible refine (CR.out _ (by assumption)).mono ?_; rintro e w' ⟨rfl, hbk⟩)
    | (go_at_call 44; with_reducible refine (CO.out _ (by assumption)).mono ?_; rintro e w' ⟨rfl, hbk⟩))
  go_loopw [8, 9] (fun g i wr => ∃ (k : Nat) (gb : Bool), k ≤ n ∧ i = .int .i64 k ∧ g = .bool gb ∧ Hid (gb = true → 0 < n ∧ ∀ x y, x < k → y < n → ok2 x y = true) ∧ Hid (gb = false → lat = false) ∧ Below w.heap.size w wr) (fun _ i _ => n - (intOf i).toNat)
  case atStart => exact ⟨0, true, Nat.zero_le _, rfl, rfl, fun _ => ⟨hpos, fun x y h => by omega⟩, (fun h => by cases h), by assumption⟩
  case round =>
    obtain ⟨k, gb, hk, rfl, rfl, hgt, hgf, hbw⟩ := hrel
    cases gb with
    | false =>
      have hlat := hgf.out rfl
      clear hgt hgf
      have CI' := CI
      rw [hlat] at CI'
      have hbl0 := hbw
      clear hlat
      rcases hk1 with ⟨rfl, rfl⟩ | ⟨rfl, rfl⟩ <;> rcases hk2 with ⟨rfl, rfl⟩ | ⟨rfl, rfl⟩
      all_goals
        go_wp2_with (first
          | (go_at_call 31; with_reducible refine (CI'.out _ (by assumption)).mono ?_; rintro e w' ⟨rfl, hbk⟩)
          | (go_at_call 34; with_reducible refine (EN.out _ (by assumption)).mono ?_; rintro e w' ⟨rfl, hbk⟩)
          | (go_at_call 34; with_reducible refine (E0.out _ (by assumption)).mono ?_; rintro e w' ⟨rfl, hbk⟩)
          | (go_at_call 45; with_reducible refine (CBa.out _ (by assumption)).mono ?_; rintro e w' ⟨rfl, hbk⟩)
          | (go_at_call 45; with_reducible refine (CBb.out _ (by assumption)).mono ?_; rintro e w' ⟨rfl, hbk⟩)
          | (go_at_call 29; with_reducible refine (CJ.out _ (by assumption)).mono ?_; rintro e w' ⟨rfl, hbk⟩)
          | (go_at_call 30; with_reducible refine (CM.out _ (by assumption)).mono ?_; rintro e w' ⟨rfl, hbk⟩)
          | (go_at_call 34; with_reducible refine (E5.out _ (by assumption)).mono ?_; rintro e w' ⟨rfl, hbk⟩))
        all_goals (go_ret; exact ⟨rfl, by assumption⟩)
    | true =>
      obtain ⟨hpos, hg2⟩ := hgt.out rfl
      have Hg2 := Lib.hid hg2
      clear hgt hgf hg2
      by_cases hlt : k < n
      · go_wp2_with fail
        go_loopw [8, 10] (fun g i wr => ∃ (k2 : Nat) (gb : Bool), k2 ≤ n ∧ i = .int .i64 k2 ∧ g = .bool gb ∧ Hid (gb = true → ∀ y, y < k2 → ok2 k y = true) ∧ Hid (gb = false → lat = false) ∧ Below w.heap.size w wr) (fun _ i _ => n - (intOf i).toNat)
        case atStart => exact ⟨0, true, Nat.zero_le _, rfl, rfl, fun _ y h => by omega, (fun h => by cases h), hbw⟩
        case round =>
          clear hbw
          obtain ⟨j, gb, hj, rfl, rfl, hrt, hrf, hbw⟩ := hrel
          cases gb with
          | false =>
            have Hf := Lib.hid (hrf.out rfl)
            clear hrt hrf
            go_wp2_with fail
            all_goals exact ⟨⟨k + 1, false, by omega, by go_num, rfl, (fun h => by cases h), (fun _ => Hf.out), hbw⟩, by simp [intOf]; omega⟩
          | true =>
            have Hrt := Lib.hid (hrt.out rfl)
            clear hrt hrf
            by_cases hltj : j < n
            · have B1 := CB.out false k j hlt hltj
              have B2 := CB.out true k j hlt hltj
              have Hok := Lib.hid (Hok2.out k j hlt hltj)
              generalize (boundV (castL r) false k j).1 = z1 at *
              generalize (boundV (castL r) true k j).1 = z2 at *
              generalize decide ((boundV (castL r) false k j).2 = 0) = u1 at *
              generalize decide ((boundV (castL r) true k j).2 = 0) = u2 at *
              have D1 := Lib.hid B1
              have D2 := Lib.hid B2
              have Hno := Lib.hid (fun (hh : ok2 k j = false) => Hlatf.out k j hlt hltj hh)
              clear B1 B2
              cases u1 <;> cases u2
              ·
                go_wp2_with (first
                  | (go_at_call 45; with_reducible refine (D1.out _ (by assumption)).mono ?_; rintro e w' ⟨rfl, hbk⟩)
                  | (go_at_call 45; with_reducible refine (D2.out _ (by assumption)).mono ?_; rintro e w' ⟨rfl, hbk⟩))
                refine ⟨⟨j + 1, false, ?pa0, ?pb0, rfl, ?pc0, ?pe0, by assumption⟩, ?pd0⟩
                case pa0 => omega
                case pb0 => go_num
                case pc0 => intro h; cases h
                case pe0 => intro _; exact Hno.out (by rw [Hok.out]; rfl)
                case pd0 => simp [intOf]; omega
              ·
                go_wp2_with (first
                  | (go_at_call 45; with_reducible refine (D1.out _ (by assumption)).mono ?_; rintro e w' ⟨rfl, hbk⟩)
                  | (go_at_call 45; with_reducible refine (D2.out _ (by assumption)).mono ?_; rintro e w' ⟨rfl, hbk⟩))
                refine ⟨⟨j + 1, false, ?pa1, ?pb1, rfl, ?pc1, ?pe1, by assumption⟩, ?pd1⟩
                case pa1 => omega
                case pb1 => go_num
                case pc1 => intro h; cases h
                case pe1 => intro _; exact Hno.out (by rw [Hok.out]; rfl)
                case pd1 => simp [intOf]; omega
              ·
                go_wp2_with (first
                  | (go_at_call 45; with_reducible refine (D1.out _ (by assumption)).mono ?_; rintro e w' ⟨rfl, hbk⟩)
                  | (go_at_call 45; with_reducible refine (D2.out _ (by assumption)).mono ?_; rintro e w' ⟨rfl, hbk⟩))
                refine ⟨⟨j + 1, false, ?pa2, ?pb2, rfl, ?pc2, ?pe2, by assumption⟩, ?pd2⟩
                case pa2 => omega
                case pb2 => go_num
                case pc2 => intro h; cases h
                case pe2 => intro _; exact Hno.out (by rw [Hok.out]; rfl)
                case pd2 => simp [intOf]; omega
              ·
                go_wp2_with (first
                  | (go_at_call 45; with_reducible refine (D1.out _ (by assumption)).mono ?_; rintro e w' ⟨rfl, hbk⟩)
                  | (go_at_call 45; with_reducible refine (D2.out _ (by assumption)).mono ?_; rintro e w' ⟨rfl, hbk⟩))
                refine ⟨⟨j + 1, true, ?pa3, ?pb3, rfl, ?pc3, ?pe3, by assumption⟩, ?pd3⟩
                case pa3 => omega
                case pb3 => go_num
                case pc3 =>
                  intro _ y hy
                  rcases Nat.lt_or_ge y j with h | h
                  · exact Hrt.out y h
                  · obtain rfl : y = j := by omega
                    rw [Hok.out]; rfl
                case pe3 => intro h; cases h
                case pd3 => simp [intOf]; omega
            · obtain rfl : j = n := by omega
              have Hn := Lib.hid (show ∀ x y, x < k + 1 → y < j → ok2 x y = true from fun x y hx hy => by
                rcases Nat.lt_or_ge x k with h | h
                · exact Hg2.out x y h hy
                · obtain rfl : x = k := by omega
                  exact Hrt.out y hy)
              go_wp2_with fail
              refine ⟨⟨k + 1, true, ?za, ?zb, rfl, (fun _ => ⟨hpos, Hn.out⟩), ?zc, hbw⟩, ?zd⟩
              case za => omega
              case zb => go_num
              case zc => intro h; cases h
              case zd => simp [intOf]; omega
      · obtain rfl : k = n := by omega
        have hlat := Hlatt.out hpos (fun x y hx hy => Hg2.out x y hx hy)
        have CI' := CI
        rw [hlat] at CI'
        have hbl0 := hbw
        clear hlat
        rcases hk1 with ⟨rfl, rfl⟩ | ⟨rfl, rfl⟩ <;> rcases hk2 with ⟨rfl, rfl⟩ | ⟨rfl, rfl⟩
        all_goals
          go_wp2_with (first
            | (go_at_call 31; with_reducible refine (CI'.out _ (by assumption)).mono ?_; rintro e w' ⟨rfl, hbk⟩)
            | (go_at_call 34; with_reducible refine (EN.out _ (by assumption)).mono ?_; rintro e w' ⟨rfl, hbk⟩)
            | (go_at_call 34; with_reducible refine (E0.out _ (by assumption)).mono ?_; rintro e w' ⟨rfl, hbk⟩)
            | (go_at_call 45; with_reducible refine (CBa.out _ (by assumption)).mono ?_; rintro e w' ⟨rfl, hbk⟩)
            | (go_at_call 45; with_reducible refine (CBb.out _ (by assumption)).mono ?_; rintro e w' ⟨rfl, hbk⟩)
            | (go_at_call 29; with_reducible refine (CJ.out _ (by assumption)).mono ?_; rintro e w' ⟨rfl, hbk⟩)
            | (go_at_call 30; with_reducible refine (CM.out _ (by assumption)).mono ?_; rintro e w' ⟨rfl, hbk⟩)
            | (go_at_call 34; with_reducible refine (E5.out _ (by assumption)).mono ?_; rintro e w' ⟨rfl, hbk⟩))
          all_goals (go_ret; exact ⟨rfl, by assumption⟩)


set_option maxHeartbeats 8000000 in
theorem LatticeSays_out (r : List Nat) (h1 : r.length ≤ 12) (h2 : Bd r.length r) (ho : orderB (closed r) = true) (A : Option Addr) (c : Nat) (a b : Int) (w : World) (h : IntsAt w A (castL r)) (hT : Tab w) (hE : ErrT w) (hout : ¬ ((0 ≤ a ∧ a < r.length) ∧ 0 ≤ b ∧ b < r.length)) :
    Calls Tryd.prog 14 #[.slice A r.length c, .int .i64 a, .int .i64 b] w fun e w' => e = .returned (.bool true) ∧ Below w.heap.size w w' := by
  have CR := Lib.hid (fun (V : World) (hV : Below w.heap.size w V) => over hV ((RRel_any (castL r) A c V (h.below hV) (by rw [length_castL]; omega)).mono fun e w' ⟨he, q, hq⟩ => (⟨he, hq ▸ below_drewN (Below.refl _ _) q⟩ : e = _ ∧ Below V.heap.size V w')))
  rw [relCode_cast h1 h2, length_castL] at CR
  have CO := Lib.hid (fun (V : World) (hV : Below w.heap.size w V) => over hV (ROrder_any r h1 h2 A c V (h.below hV)))
  rw [ho] at CO
  have CB := Lib.hid (fun (m : Bool) (i j : Nat) (hi : i < r.length) (hj : j < r.length) (V : World) (hV : Below w.heap.size w V) => over hV (RBound_any r h1 h2 ho A c i j m V (h.below hV) hi hj))
  have CI := Lib.hid (fun (V : World) (hV : Below w.heap.size w V) => over hV (Is_ok r h1 h2 ho A c V (h.below hV) (hT.next hV)))
  have E0 := Lib.hid (fun (V : World) (hV : Below w.heap.size w V) => over hV (Error_is 0 0 true V (hE.next hV) (by decide)))
  have EN := E0
  rw [errVal_zero] at EN
  have E1 := Lib.hid (fun (V : World) (hV : Below w.heap.size w V) => over hV (Error_is 1 1 true V (hE.next hV) (by decide)))
  have E5 := Lib.hid (fun (V : World) (hV : Below w.heap.size w V) => over hV (Error_is 5 5 true V (hE.next hV) (by decide)))
  have CJ := Lib.hid (fun (V : World) (hV : Below w.heap.size w V) => over hV (Join_any (castL r) (by rw [length_castL]; omega) A c a b V (h.below hV) (hT.next hV)))
  have CM := Lib.hid (fun (V : World) (hV : Below w.heap.size w V) => over hV (Meet_any (castL r) (by rw [length_castL]; omega) A c a b V (h.below hV) (hT.next hV)))
  rw [length_castL] at CJ CM
  have Hlat := Lib.hid (isLat_iff h1 h2 ho)
  have hjo := boundV_out (m := false) h1 h2 ho hout
  have hmo := boundV_out (m := true) h1 h2 ho hout
  rw [hjo] at CJ
  rw [hmo] at CM
  have Hout := Lib.hid hout
  clear hjo hmo hout
  have Hok2 := Lib.hid (fun (i j : Nat) (hi : i < r.length) (hj : j < r.length) => show ok2V r i j = (decide ((boundV (castL r) false i j).2 = 0) && decide ((boundV (castL r) true i j).2 = 0)) from rfl)
  have Hlatt := Lib.hid (fun (hp : 0 < r.length) (hh : ∀ x y, x < r.length → y < r.length → ok2V r x y = true) => Hlat.out.2 ⟨hp, hh⟩)
  have Hlatf := Lib.hid (fun (x y : Nat) (hx : x < r.length) (hy : y < r.length) (hh : ok2V r x y = false) => show isLat (closed r) = false from Bool.eq_false_iff.2 fun e => by
    have := (Hlat.out.1 e).2 x y hx hy
    rw [hh] at this; cases this)
  have Hlat0 := Lib.hid (fun (hp : ¬ 0 < r.length) => show isLat (closed r) = false from Bool.eq_false_iff.2 fun e => hp (Hlat.out.1 e).1)
  have hbl : Below w.heap.size w w := Below.refl _ _
  clear h hT hE ho h2 Hlat
  generalize isLat (closed r) = lat at *
  generalize ok2V r = ok2 at *
  by_cases hpos : 0 < r.length
  · have gp : decide ((r.length : Int) > 0) = true := by simp; omega
    generalize hn : r.length = n at *
    have Hn := Lib.hid hn
    clear hn
    go_enter Tryd.func14, Tryd.ntmps14
    go_wp2_with (first
      | (go_at_call 43; with_reducible refine (CR.out _ (by assumption)).mono ?_; rintro e w' ⟨rfl, hbk⟩)
      | (go_at_call 44; with_reducible refine (CO.out _ (by assumption)).mono ?_; rintro e w' ⟨rfl, hbk⟩))
    go_loopw [8, 9] (fun g i wr => ∃ (k : Nat) (gb : Bool), k ≤ n ∧ i = .int .i64 k ∧ g = .bool gb ∧ Hid (gb = true → 0 < n ∧ ∀ x y, x < k → y < n → ok2 x y = true) ∧ Hid (gb = false → lat = false) ∧ Below w.heap.size w wr) (fun _ i _ => n - (intOf i).toNat)
    case atStart => exact ⟨0, true, Nat.zero_le _, rfl, rfl, fun _ => ⟨hpos, fun x y h => by omega⟩, (fun h => by cases h), by assumption⟩
    case round =>
      obtain ⟨k, gb, hk, rfl, rfl, hgt, hgf, hbw⟩ := hrel
      cases gb with
      | false =>
        have hlat := hgf.out rfl
        clear hgt hgf
        have CI' := CI
        rw [hlat] at CI'
        have hbl0 := hbw
        clear hlat
        go_wp2_with (first
          | (go_at_call 31; with_reducible refine (CI'.out _ (by assumption)).mono ?_; rintro e w' ⟨rfl, hbk⟩)
          | (go_at_call 34; with_reducible refine (EN.out _ (by assumption)).mono ?_; rintro e w' ⟨rfl, hbk⟩)
          | (go_at_call 34; with_reducible refine (E0.out _ (by assumption)).mono ?_; rintro e w' ⟨rfl, hbk⟩)
          | (go_at_call 29; with_reducible refine (CJ.out _ (by assumption)).mono ?_; rintro e w' ⟨rfl, hbk⟩)
          | (go_at_call 30; with_reducible refine (CM.out _ (by assumption)).mono ?_; rintro e w' ⟨rfl, hbk⟩)
          | (go_at_call 34; with_reducible refine (E1.out _ (by assumption)).mono ?_; rintro e w' ⟨rfl, hbk⟩))
        all_goals first
          | (go_ret; exact ⟨rfl, by assumption⟩)
          | (exfalso; have := Hout.out; omega)
      | true =>
        obtain ⟨hpos, hg2⟩ := hgt.out rfl
        have Hg2 := Lib.hid hg2
        clear hgt hgf hg2
        by_cases hlt : k < n
        · go_wp2_with fail
          go_loopw [8, 10] (fun g i wr => ∃ (k2 : Nat) (gb : Bool), k2 ≤ n ∧ i = .int .i64 k2 ∧ g = .bool gb ∧ Hid (gb = true → ∀ y, y < k2 → ok2 k y = true) ∧ Hid (gb = false → lat = false) ∧ Below w.heap.size w wr) (fun _ i _ => n - (intOf i).toNat)
          case atStart => exact ⟨0, true, Nat.zero_le _, rfl, rfl, fun _ y h => by omega, (fun h => by cases h), hbw⟩
          case round =>
            clear hbw
            obtain ⟨j, gb, hj, rfl, rfl, hrt, hrf, hbw⟩ := hrel
            cases gb with
            | false =>
              have Hf := Lib.hid (hrf.out rfl)
              clear hrt hrf
              go_wp2_with fail
              all_goals exact ⟨⟨k + 1, false, by omega, by go_num, rfl, (fun h => by cases h), (fun _ => Hf.out), hbw⟩, by simp [intOf]; omega⟩
            | true =>
              have Hrt := Lib.hid (hrt.out rfl)
              clear hrt hrf
              by_cases hltj : j < n
              · have B1 := CB.out false k j hlt hltj
                have B2 := CB.out true k j hlt hltj
                have Hok := Lib.hid (Hok2.out k j hlt hltj)
                generalize (boundV (castL r) false k j).1 = z1 at *
                generalize (boundV (castL r) true k j).1 = z2 at *
                generalize decide ((boundV (castL r) false k j).2 = 0) = u1 at *
                generalize decide ((boundV (castL r) true k j).2 = 0) = u2 at *
                have D1 := Lib.hid B1
                have D2 := Lib.hid B2
                have Hno := Lib.hid (fun (hh : ok2 k j = false) => Hlatf.out k j hlt hltj hh)
                clear B1 B2
                cases u1 <;> cases u2
                ·
                  go_wp2_with (first
                    | (go_at_call 45; with_reducible refine (D1.out _ (by assumption)).mono ?_; rintro e w' ⟨rfl, hbk⟩)
                    | (go_at_call 45; with_reducible refine (D2.out _ (by assumption)).mono ?_; rintro e w' ⟨rfl, hbk⟩))
                  refine ⟨⟨j + 1, false, ?pa0, ?pb0, rfl, ?pc0, ?pe0, by assumption⟩, ?pd0⟩
                  case pa0 => omega
                  case pb0 => go_num
                  case pc0 => intro h; cases h
                  case pe0 => intro _; exact Hno.out (by rw [Hok.out]; rfl)
                  case pd0 => simp [intOf]; omega
                ·
                  go_wp2_with (first
                    | (go_at_call 45; with_reducible refine (D1.out _ (by assumption)).mono ?_; rintro e w' ⟨rfl, hbk⟩)
                    | (go_at_call 45; with_reducible refine (D2.out _ (by assumption)).mono ?_; rintro e w' ⟨rfl, hbk⟩))
                  refine ⟨⟨j + 1, false, ?pa1, ?pb1, rfl, ?pc1, ?pe1, by assumption⟩, ?pd1⟩
                  case pa1 => omega
                  case pb1 => go_num
                  case pc1 => intro h; cases h
                  case pe1 => intro _; exact Hno.out (by rw [Hok.out]; rfl)
                  case pd1 => simp [intOf]; omega
                ·
                  go_wp2_with (first
                    | (go_at_call 45; with_reducible refine (D1.out _ (by assumption)).mono ?_; rintro e w' ⟨rfl, hbk⟩)
                    | (go_at_call 45; with_reducible refine (D2.out _ (by assumption)).mono ?_; rintro e w' ⟨rfl, hbk⟩))
                  refine ⟨⟨j + 1, false, ?pa2, ?pb2, rfl, ?pc2, ?pe2, by assumption⟩, ?pd2⟩
                  case pa2 => omega
                  case pb2 => go_num
                  case pc2 => intro h; cases h
                  case pe2 => intro _; exact Hno.out (by rw [Hok.out]; rfl)
                  case pd2 => simp [intOf]; omega
                ·
                  go_wp2_with (first
                    | (go_at_call 45; with_reducible refine (D1.out _ (by assumption)).mono ?_; rintro e w' ⟨rfl, hbk⟩)
                    | (go_at_call 45; with_reducible refine (D2.out _ (by assumption)).mono ?_; rintro e w' ⟨rfl, hbk⟩))
                  refine ⟨⟨j + 1, true, ?pa3, ?pb3, rfl, ?pc3, ?pe3, by assumption⟩, ?pd3⟩
                  case pa3 => omega
                  case pb3 => go_num
                  case pc3 =>
                    intro _ y hy
                    rcases Nat.lt_or_ge y j with h | h
                    · exact Hrt.out y h
                    · obtain rfl : y = j := by omega
                      rw [Hok.out]; rfl
                  case pe3 => intro h; cases h
                  case pd3 => simp [intOf]; omega
              · obtain rfl : j = n := by omega
                have Hn := Lib.hid (show ∀ x y, x < k + 1 → y < j → ok2 x y = true from fun x y hx hy => by
                  rcases Nat.lt_or_ge x k with h | h
                  · exact Hg2.out x y h hy
                  · obtain rfl : x = k := by omega
                    exact Hrt.out y hy)
                go_wp2_with fail
                refine ⟨⟨k + 1, true, ?za, ?zb, rfl, (fun _ => ⟨hpos, Hn.out⟩), ?zc, hbw⟩, ?zd⟩
                case za => omega
                case zb => go_num
                case zc => intro h; cases h
                case zd => simp [intOf]; omega
        · obtain rfl : k = n := by omega
          have hlat := Hlatt.out hpos (fun x y hx hy => Hg2.out x y hx hy)
          have CI' := CI
          rw [hlat] at CI'
          have hbl0 := hbw
          clear hlat
          go_wp2_with (first
            | (go_at_call 31; with_reducible refine (CI'.out _ (by assumption)).mono ?_; rintro e w' ⟨rfl, hbk⟩)
            | (go_at_call 34; with_reducible refine (EN.out _ (by assumption)).mono ?_; rintro e w' ⟨rfl, hbk⟩)
            | (go_at_call 34; with_reducible refine (E0.out _ (by assumption)).mono ?_; rintro e w' ⟨rfl, hbk⟩)
            | (go_at_call 29; with_reducible refine (CJ.out _ (by assumption)).mono ?_; rintro e w' ⟨rfl, hbk⟩)
            | (go_at_call 30; with_reducible refine (CM.out _ (by assumption)).mono ?_; rintro e w' ⟨rfl, hbk⟩)
            | (go_at_call 34; with_reducible refine (E1.out _ (by assumption)).mono ?_; rintro e w' ⟨rfl, hbk⟩))
          all_goals first
            | (go_ret; exact ⟨rfl, by assumption⟩)
            | (exfalso; have := Hout.out; omega)
  · have gp : decide ((r.length : Int) > 0) = false := by rw [decide_eq_false_iff_not]; omega
    have hz := Lib.hid (Hlat0.out hpos)
    generalize hn : r.length = n at *
    have Hn := Lib.hid hn
    clear hn
    go_enter Tryd.func14, Tryd.ntmps14
    go_wp2_with (first
      | (go_at_call 43; with_reducible refine (CR.out _ (by assumption)).mono ?_; rintro e w' ⟨rfl, hbk⟩)
      | (go_at_call 44; with_reducible refine (CO.out _ (by assumption)).mono ?_; rintro e w' ⟨rfl, hbk⟩))
    go_loopw [8, 9] (fun g i wr => ∃ (k : Nat) (gb : Bool), k ≤ n ∧ i = .int .i64 k ∧ g = .bool gb ∧ Hid (gb = true → 0 < n ∧ ∀ x y, x < k → y < n → ok2 x y = true) ∧ Hid (gb = false → lat = false) ∧ Below w.heap.size w wr) (fun _ i _ => n - (intOf i).toNat)
    case atStart => exact ⟨0, false, Nat.zero_le _, rfl, rfl, (fun h => by cases h), (fun _ => hz.out), by assumption⟩
    case round =>
      obtain ⟨k, gb, hk, rfl, rfl, hgt, hgf, hbw⟩ := hrel
      cases gb with
      | false =>
        have hlat := hgf.out rfl
        clear hgt hgf
        have CI' := CI
        rw [hlat] at CI'
        have hbl0 := hbw
        clear hlat
        go_wp2_with (first
          | (go_at_call 31; with_reducible refine (CI'.out _ (by assumption)).mono ?_; rintro e w' ⟨rfl, hbk⟩)
          | (go_at_call 34; with_reducible refine (EN.out _ (by assumption)).mono ?_; rintro e w' ⟨rfl, hbk⟩)
          | (go_at_call 34; with_reducible refine (E0.out _ (by assumption)).mono ?_; rintro e w' ⟨rfl, hbk⟩)
          | (go_at_call 29; with_reducible refine (CJ.out _ (by assumption)).mono ?_; rintro e w' ⟨rfl, hbk⟩)
          | (go_at_call 30; with_reducible refine (CM.out _ (by assumption)).mono ?_; rintro e w' ⟨rfl, hbk⟩)
          | (go_at_call 34; with_reducible refine (E1.out _ (by assumption)).mono ?_; rintro e w' ⟨rfl, hbk⟩))
        all_goals first
          | (go_ret; exact ⟨rfl, by assumption⟩)
          | (exfalso; have := Hout.out; omega)
      | true =>
        obtain ⟨hpos, hg2⟩ := hgt.out rfl
        have Hg2 := Lib.hid hg2
        clear hgt hgf hg2
        by_cases hlt : k < n
        · go_wp2_with fail
          go_loopw [8, 10] (fun g i wr => ∃ (k2 : Nat) (gb : Bool), k2 ≤ n ∧ i = .int .i64 k2 ∧ g = .bool gb ∧ Hid (gb = true → ∀ y, y < k2 → ok2 k y = true) ∧ Hid (gb = false → lat = false) ∧ Below w.heap.size w wr) (fun _ i _ => n - (intOf i).toNat)
          case atStart => exact ⟨0, true, Nat.zero_le _, rfl, rfl, fun _ y h => by omega, (fun h => by cases h), hbw⟩
          case round =>
            clear hbw
            obtain ⟨j, gb, hj, rfl, rfl, hrt, hrf, hbw⟩ := hrel
            cases gb with
            | false =>
              have Hf := Lib.hid (hrf.out rfl)
              clear hrt hrf
              go_wp2_with fail
              all_goals exact ⟨⟨k + 1, false, by omega, by go_num, rfl, (fun h => by cases h), (fun _ => Hf.out), hbw⟩, by simp [intOf]; omega⟩
            | true =>
              have Hrt := Lib.hid (hrt.out rfl)
              clear hrt hrf
              by_cases hltj : j < n
              · have B1 := CB.out false k j hlt hltj
                have B2 := CB.out true k j hlt hltj
                have Hok := Lib.hid (Hok2.out k j hlt hltj)
                generalize (boundV (castL r) false k j).1 = z1 at *
                generalize (boundV (castL r) true k j).1 = z2 at *
                generalize decide ((boundV (castL r) false k j).2 = 0) = u1 at *
                generalize decide ((boundV (castL r) true k j).2 = 0) = u2 at *
                have D1 := Lib.hid B1
                have D2 := Lib.hid B2
                have Hno := Lib.hid (fun (hh : ok2 k j = false) => Hlatf.out k j hlt hltj hh)
                clear B1 B2
                cases u1 <;> cases u2
                ·
                  go_wp2_with (first
                    | (go_at_call 45; with_reducible refine (D1.out _ (by assumption)).mono ?_; rintro e w' ⟨rfl, hbk⟩)
                    | (go_at_call 45; with_reducible refine (D2.out _ (by assumption)).mono ?_; rintro e w' ⟨rfl, hbk⟩))
                  refine ⟨⟨j + 1, false, ?pa0, ?pb0, rfl, ?pc0, ?pe0, by assumption⟩, ?pd0⟩
                  case pa0 => omega
                  case pb0 => go_num
                  case pc0 => intro h; cases h
                  case pe0 => intro _; exact Hno.out (by rw [Hok.out]; rfl)
                  case pd0 => simp [intOf]; omega
                ·
                  go_wp2_with (first
                    | (go_at_call 45; with_reducible refine (D1.out _ (by assumption)).mono ?_; rintro e w' ⟨rfl, hbk⟩)
                    | (go_at_call 45; with_reducible refine (D2.out _ (by assumption)).mono ?_; rintro e w' ⟨rfl, hbk⟩))
                  refine ⟨⟨j + 1, false, ?pa1, ?pb1, rfl, ?pc1, ?pe1, by assumption⟩, ?pd1⟩
                  case pa1 => omega
                  case pb1 => go_num
                  case pc1 => intro h; cases h
                  case pe1 => intro _; exact Hno.out (by rw [Hok.out]; rfl)
                  case pd1 => simp [intOf]; omega
                ·
                  go_wp2_with (first
                    | (go_at_call 45; with_reducible refine (D1.out _ (by assumption)).mono ?_; rintro e w' ⟨rfl, hbk⟩)
                    | (go_at_call 45; with_reducible refine (D2.out _ (by assumption)).mono ?_; rintro e w' ⟨rfl, hbk⟩))
                  refine ⟨⟨j + 1, false, ?pa2, ?pb2, rfl, ?pc2, ?pe2, by assumption⟩, ?pd2⟩
                  case pa2 => omega
                  case pb2 => go_num
                  case pc2 => intro h; cases h
                  case pe2 => intro _; exact Hno.out (by rw [Hok.out]; rfl)
                  case pd2 => simp [intOf]; omega
                ·
                  go_wp2_with (first
                    | (go_at_call 45; with_reducible refine (D1.out _ (by assumption)).mono ?_; rintro e w' ⟨rfl, hbk⟩)
                    | (go_at_call 45; with_reducible refine (D2.out _ (by assumption)).mono ?_; rintro e w' ⟨rfl, hbk⟩))
                  refine ⟨⟨j + 1, true, ?pa3, ?pb3, rfl, ?pc3, ?pe3, by assumption⟩, ?pd3⟩
                  case pa3 => omega
                  case pb3 => go_num
                  case pc3 =>
                    intro _ y hy
                    rcases Nat.lt_or_ge y j with h | h
                    · exact Hrt.out y h
                    · obtain rfl : y = j := by omega
                      rw [Hok.out]; rfl
                  case pe3 => intro h; cases h
                  case pd3 => simp [intOf]; omega
              · obtain rfl : j = n := by omega
                have Hn := Lib.hid (show ∀ x y, x < k + 1 → y < j → ok2 x y = true from fun x y hx hy => by
                  rcases Nat.lt_or_ge x k with h | h
                  · exact Hg2.out x y h hy
                  · obtain rfl : x = k := by omega
                    exact Hrt.out y hy)
                go_wp2_with fail
                refine ⟨⟨k + 1, true, ?za, ?zb, rfl, (fun _ => ⟨hpos, Hn.out⟩), ?zc, hbw⟩, ?zd⟩
                case za => omega
                case zb => go_num
                case zc => intro h; cases h
                case zd => simp [intOf]; omega
        · obtain rfl : k = n := by omega
          have hlat := Hlatt.out hpos (fun x y hx hy => Hg2.out x y hx hy)
          have CI' := CI
          rw [hlat] at CI'
          have hbl0 := hbw
          clear hlat
          go_wp2_with (first
            | (go_at_call 31; with_reducible refine (CI'.out _ (by assumption)).mono ?_; rintro e w' ⟨rfl, hbk⟩)
            | (go_at_call 34; with_reducible refine (EN.out _ (by assumption)).mono ?_; rintro e w' ⟨rfl, hbk⟩)
            | (go_at_call 34; with_reducible refine (E0.out _ (by assumption)).mono ?_; rintro e w' ⟨rfl, hbk⟩)
            | (go_at_call 29; with_reducible refine (CJ.out _ (by assumption)).mono ?_; rintro e w' ⟨rfl, hbk⟩)
            | (go_at_call 30; with_reducible refine (CM.out _ (by assumption)).mono ?_; rintro e w' ⟨rfl, hbk⟩)
            | (go_at_call 34; with_reducible refine (E1.out _ (by assumption)).mono ?_; rintro e w' ⟨rfl, hbk⟩))
          all_goals first
            | (go_ret; exact ⟨rfl, by assumption⟩)
            | (exfalso; have := Hout.out; omega)


theorem boundV_bad {l : List Int} {m : Bool} {a b : Int} (h : latCode l ≠ 0) : boundV l m a b = (0, latCode l) := by unfold boundV; rw [if_pos h]
set_option maxHeartbeats 4000000 in
theorem LatticeSays_bad (l : List Int) (hl : l.length < 2 ^ 47) (hne : latCode l ≠ 0) (A : Option Addr) (c : Nat) (a b : Int) (w : World) (h : IntsAt w A l) (hT : Tab w) (hE : ErrT w) :
    Calls Tryd.prog 14 #[.slice A l.length c, .int .i64 a, .int .i64 b] w fun e w' => e = .returned (.bool true) ∧ Below w.heap.size w w' := by
  have cr := fun (V : World) (hV : Below w.heap.size w V) => over hV ((RRel_any l A c V (h.below hV) (by omega)).mono fun e w' ⟨he, q, hq⟩ => (⟨he, hq ▸ below_drewN (Below.refl _ _) q⟩ : e = _ ∧ Below V.heap.size V w'))
  have ci := fun (V : World) (hV : Below w.heap.size w V) => over hV (Is_err l A c V (h.below hV) (by omega) (hT.next hV) hne)
  have ek := fun (V : World) (hV : Below w.heap.size w V) => over hV (Error_is (latCode l) (latCode l) true V (hE.next hV) (by simp))
  have cj := fun (V : World) (hV : Below w.heap.size w V) => over hV (Join_any l (by omega) A c a b V (h.below hV) (hT.next hV))
  have cm := fun (V : World) (hV : Below w.heap.size w V) => over hV (Meet_any l (by omega) A c a b V (h.below hV) (hT.next hV))
  rw [boundV_bad hne] at cj cm
  rw [errVal_pos hne] at ek cj cm
  have hbl : Below w.heap.size w w := Below.refl _ _
  by_cases hr : relCode l = 0
  · obtain ⟨r, rfl, h1, h2⟩ := relCode_ok hr
    have ho : orderB (closed r) = false := by
      rw [latCode_cast h1 h2] at hne
      cases e : orderB (closed r) with
      | false => rfl
      | true => rw [e] at hne; simp at hne
    have co := fun (V : World) (hV : Below w.heap.size w V) => over hV (ROrder_any r h1 h2 A c V (h.below hV))
    rw [ho, ← length_castL r] at co
    rw [latCode_cast h1 h2, ho] at ek cj cm ci
    rw [hr] at cr
    have CR := Lib.hid cr
    have CO := Lib.hid co
    have CI := Lib.hid ci
    have EK := Lib.hid ek
    have CJ := Lib.hid cj
    have CM := Lib.hid cm
    clear h hT hE hne hr ho h2 cr co ci ek cj cm hl
    simp only [Bool.false_eq_true, if_false] at CI EK CJ CM
    rw [show ((6 : Nat) : Int) = 6 from rfl] at CI EK CJ CM
    generalize (castL r).length = n at *
    go_enter Tryd.func14, Tryd.ntmps14
    go_wp2_with (first
      | (go_at_call 43; with_reducible refine (CR.out _ (by assumption)).mono ?_; rintro e w' ⟨rfl, hbk⟩)
      | (go_at_call 44; with_reducible refine (CO.out _ (by assumption)).mono ?_; rintro e w' ⟨rfl, hbk⟩))
    go_loopw [8, 9] (fun g i wr => g = .bool false ∧ i = .int .i64 0 ∧ Below w.heap.size w wr) (fun _ i _ => 0)
    case atStart => exact ⟨rfl, rfl, by assumption⟩
    case round =>
      obtain ⟨rfl, rfl, hbw⟩ := hrel
      go_wp2_with (first
        | (go_at_call 31; with_reducible refine (CI.out _ (by assumption)).mono ?_; rintro e w' ⟨rfl, hbk⟩)
        | (go_at_call 34; with_reducible refine (EK.out _ (by assumption)).mono ?_; rintro e w' ⟨rfl, hbk⟩)
        | (go_at_call 29; with_reducible refine (CJ.out _ (by assumption)).mono ?_; rintro e w' ⟨rfl, hbk⟩)
        | (go_at_call 30; with_reducible refine (CM.out _ (by assumption)).mono ?_; rintro e w' ⟨rfl, hbk⟩))
      all_goals (go_ret; exact ⟨rfl, by assumption⟩)
  · have hlc : latCode l = relCode l := by unfold latCode; rw [if_pos hr]
    have g0 : ((relCode l : Int) == 0) = false := by simp; omega
    rw [hlc] at ek cj cm ci
    have CR := Lib.hid cr
    have CI := Lib.hid ci
    have EK := Lib.hid ek
    have CJ := Lib.hid cj
    have CM := Lib.hid cm
    clear h hT hE hne hr cr ci ek cj cm hl hlc
    generalize relCode l = k at *
    generalize l.length = n at *
    go_enter Tryd.func14, Tryd.ntmps14
    go_wp2_with (first
      | (go_at_call 43; with_reducible refine (CR.out _ (by assumption)).mono ?_; rintro e w' ⟨rfl, hbk⟩))
    go_loopw [8, 9] (fun g i wr => g = .bool false ∧ i = .int .i64 0 ∧ Below w.heap.size w wr) (fun _ i _ => 0)
    case atStart => exact ⟨rfl, rfl, by assumption⟩
    case round =>
      obtain ⟨rfl, rfl, hbw⟩ := hrel
      go_wp2_with (first
        | (go_at_call 31; with_reducible refine (CI.out _ (by assumption)).mono ?_; rintro e w' ⟨rfl, hbk⟩)
        | (go_at_call 34; with_reducible refine (EK.out _ (by assumption)).mono ?_; rintro e w' ⟨rfl, hbk⟩)
        | (go_at_call 29; with_reducible refine (CJ.out _ (by assumption)).mono ?_; rintro e w' ⟨rfl, hbk⟩)
        | (go_at_call 30; with_reducible refine (CM.out _ (by assumption)).mono ?_; rintro e w' ⟨rfl, hbk⟩))
      all_goals (go_ret; exact ⟨rfl, by assumption⟩)

theorem LatticeSays_walk (l : List Int) (A : Option Addr) (c : Nat) {W : World} (h : IntsAt W A l) (hl : l.length < 2 ^ 47) (hI : ∀ x ∈ l, I64 x) (a : Int) (ha : I64 a) (b : Int) (hb : I64 b) (w : World) (hw : w = W) (hT : Tab W) (hE : ErrT W) :
    Calls Tryd.prog 14 #[.slice A l.length c, .int .i64 a, .int .i64 b] w fun e w' => e = .returned (.bool true) ∧ Below w.heap.size w w' := by
  subst hw
  by_cases hc : latCode l = 0
  · obtain ⟨r, rfl, h1, h2, ho⟩ := latCode_ok hc
    rw [length_castL]
    by_cases hr : (0 ≤ a ∧ a < r.length) ∧ 0 ≤ b ∧ b < r.length
    · obtain ⟨an, rfl⟩ := Int.eq_ofNat_of_zero_le hr.1.1
      obtain ⟨bn, rfl⟩ := Int.eq_ofNat_of_zero_le hr.2.1
      exact LatticeSays_in r h1 h2 ho A c an bn w h hT hE (by omega) (by omega)
    · exact LatticeSays_out r h1 h2 ho A c a b w h hT hE hr
  · exact LatticeSays_bad l hl hc A c a b w h hT hE

end Go.Proofs.YtbdochaahbpabaaDoor
