/-
  Contract: the reader's value, where the text is right: the walk.
-/
import Derived.Test.YtdgncngkalgknaaDoorRdB
namespace Go.Proofs.YtdgncngkalgknaaDoor
open Go.RowKit
set_option maxRecDepth 100000
set_option linter.unusedVariables false

set_option maxHeartbeats 8000000 in
theorem value_good {r : Nat} {s : ByteArray} (hs : s.size ≤ 300) {w0 : World} (hP : Pow10 r w0) : ∀ (f : Nat) (w : World) (p n : Nat) (v : Value) (o : List Int) (i : Nat) (l' : List UInt8) (o' : List Int), RdAt w r s p n v o → Below r w0 w → p ≤ s.size → o.length ≤ 400 → pValue f (s.data.toList.drop p) o = .good i l' o' →
    Calls Tryd.prog 85 #[.pointer (some ⟨r, 0, none⟩)] w (RdGood r s i l' o' w) := by
  intro f
  induction f with
  | zero => intro w p n v o i l' o' _ _ _ _ h; cases h
  | succ f ih =>
    intro w p n v o i l' o' hR hb0 hp ho h
    cases hd : s.data.toList.drop p with
    | nil => rw [hd] at h; cases h
    | cons c l =>
      obtain ⟨hlt, hpk, hdl⟩ := drop_cons hd
      rw [hd, pValue] at h
      have CN := next_any hR hs (by omega)
      rw [hpk] at CN
      have CN := Lib.hid CN
      cases hop : opOf c with
      | some k =>
        rw [hop] at h
        dsimp only at h
        cases hv1 : pValue f l o with
        | bad e => rw [hv1] at h; cases h
        | good a l1 o1 =>
          rw [hv1] at h
          dsimp only [PR.andThen] at h
          cases hv2 : pValue f l1 o1 with
          | bad e => rw [hv2] at h; cases h
          | good b l2 o2 =>
            rw [hv2] at h
            obtain ⟨hk, hix⟩ := idx_some hop
            obtain ⟨j, rfl⟩ : ∃ j, k = j + 2 := ⟨k - 2, by omega⟩
            rw [show j + 2 - 2 = j by omega] at hix
            have CI := Lib.hid (fun V => show Calls Tryd.prog 105 #[.string ⟨#[43, 60, 61]⟩, .int .u8 (c.toNat : Int)] V (fun e w' => e = .returned (.int .i64 (j : Int)) ∧ V = w') from (Tryd.strings_IndexByte ⟨#[43, 60, 61]⟩ (c.toNat : Int) V).mono fun e w' ⟨he, hw⟩ => ⟨by rw [he, byte_back]; exact congrArg (fun x => Ending.returned (.int .i64 x)) hix, hw.symm⟩)
            have H := Lib.hid h
            have Hv1 := Lib.hid hv1
            have Hv2 := Lib.hid hv2
            have Hd := Lib.hid hdl
            have hj2 : j ≤ 2 := by omega
            clear h hv1 hv2 hop hix hd hpk hdl hk
            generalize (c.toNat : Int) = x at *
            go_enter Tryd.func85, Tryd.ntmps85
            go_wp2_with (first | (go_at_call 84; with_reducible refine CN.out.mono ?_; rintro e w1 ⟨rfl, h1, hb1⟩) | (go_at_call 105; with_reducible refine (CI.out _).mono ?_; rintro e w' ⟨rfl, rfl⟩))
            refine (ih w1 (p + 1) n v o a l1 o1 h1 (hb0.trans hb1) (by omega) ho (by rw [Hd.out]; exact Hv1.out)).mono ?_
            rintro e w2 ⟨rfl, p2, hp2, hd2, ho2, ⟨n2, v2, h2⟩, hb2⟩
            have Hd2 := Lib.hid hd2
            clear hd2
            go_wp2_with fail
            refine (ih w2 p2 n2 v2 o1 b l2 o2 h2 ((hb0.trans hb1).trans hb2) hp2 ho2 (by rw [Hd2.out]; exact Hv2.out)).mono ?_
            rintro e w3 ⟨rfl, p3, hp3, hd3, ho3, ⟨n3, v3, h3⟩, hb3⟩
            obtain ⟨hm, rfl, rfl, rfl, hlen⟩ := mk5_good H.out h3.own.1 ho3
            have CNd := Lib.hid (node_good h3 hm ((j + 2 : Nat) : Int) 0 a b 0)
            have hj : (2 : Int) + (j : Int) = ((j + 2 : Nat) : Int) := by omega
            have Hd3 := Lib.hid hd3
            have Hlen := Lib.hid hlen
            clear hd3 ih hlen
            rw [← hj] at CNd
            clear hj
            go_wp2_with fail
            refine CNd.out.mono ?_
            rintro e w4 ⟨rfl, hr4, hb4⟩
            go_wp2_with fail
            go_ret
            exact ⟨rfl, p3, hp3, Hd3.out, Hlen.out, by first | exact hr4 | (rw [show ((j + 2 : Nat) : Int) = 2 + (j : Int) by omega]; exact hr4), ((hb1.trans hb2).trans hb3).trans hb4⟩
      | none =>
        rw [hop] at h
        dsimp only at h
        have CI := Lib.hid (fun V => show Calls Tryd.prog 105 #[.string ⟨#[43, 60, 61]⟩, .int .u8 (c.toNat : Int)] V (fun e w' => e = .returned (.int .i64 (-1)) ∧ V = w') from (Tryd.strings_IndexByte ⟨#[43, 60, 61]⟩ (c.toNat : Int) V).mono fun e w' ⟨he, hw⟩ => ⟨by rw [he, byte_back]; exact congrArg (fun x => Ending.returned (.int .i64 x)) (idx_none hop), hw.symm⟩)
        by_cases hc : c = 35
        · subst hc
          rw [if_pos rfl] at h
          cases hn : numOf (l.takeWhile isDig) with
          | none => rw [hn] at h; cases h
          | some k =>
            rw [hn] at h
            dsimp only at h
            obtain ⟨hat, hk, hit⟩ := numOf_some hn
            rw [← hdl] at h hat hit
            obtain ⟨p1, hp1⟩ : ∃ p1, p + 1 = p1 := ⟨_, rfl⟩
            rw [hp1] at h hat hit CN
            have hp1s : p1 ≤ s.size := by omega
            have H := Lib.hid h
            have Hat := Lib.hid hat
            have Hit := Lib.hid hit
            have d35 : (((35 : UInt8).toNat : Int) != 35) = false := by decide
            clear h hn hop hd hpk hdl ih hat hit hp1 hlt
            generalize ((35 : UInt8).toNat : Int) = x at *
            go_enter Tryd.func85, Tryd.ntmps85
            go_wp2_with (first | (go_at_call 84; with_reducible refine CN.out.mono ?_; rintro e w1 ⟨rfl, h1, hb1⟩; have x1 := h1.at_) | (go_at_call 105; with_reducible refine (CI.out _).mono ?_; rintro e w' ⟨rfl, rfl⟩))
            clear x1
            go_loopg [] (s.size + 1) (fun m wr => ∃ (q n1 : Nat) (v1 : Value), s.size - q < m ∧ p1 ≤ q ∧ q ≤ s.size ∧ RdAt wr r s q n1 v1 o ∧ Below r w wr ∧ Hid (∀ j, p1 ≤ j → j < q → 48 ≤ peekV s j ∧ peekV s j ≤ 57))
            case atStart => exact ⟨p1, _, _, by omega, Nat.le_refl _, hp1s, h1, hb1, Lib.hid (fun j h1 h2 => by omega)⟩
            case round =>
              clear h1 hb1
              obtain ⟨q, n1, v1, hqm, hpq, hqs, h1, hb1, hdg⟩ := hrel
              have CP := Lib.hid (peek_any h1 hs (by omega))
              obtain ⟨hx0, hx1⟩ := peekV_byte s q
              by_cases hq : 48 ≤ peekV s q ∧ peekV s q ≤ 57
              · have CW := Lib.hid (fun V => within_is (peekV s q) 48 57 true (decide_eq_true hq) V)
                have hqs2 : q < s.size := by
                  rcases Nat.lt_or_ge q s.size with h2 | h2
                  · exact h2
                  · rw [peekV_end h2] at hq; omega
                have Hdg := Lib.hid (show ∀ j, p1 ≤ j → j < q + 1 → 48 ≤ peekV s j ∧ peekV s j ≤ 57 from fun j h1 h2 => by
                  rcases Nat.lt_or_ge j q with h3 | h3
                  · exact hdg.out j h1 h3
                  · obtain rfl : j = q := by omega
                    exact hq)
                clear hdg hq
                generalize peekV s q = y at *
                go_wp2_with (first | (go_at_call 104; with_reducible refine CP.out.mono ?_; rintro e w2 ⟨rfl, h2, hb2⟩; have x1 := h2.at_; have f1 := h2.box.free 1) | (go_at_call 57; with_reducible refine (CW.out _).mono ?_; rintro e w' ⟨rfl, rfl⟩))
                go_roundg (s.size - q)
                case measure => omega
                case rel => exact ⟨q + 1, _, _, by omega, by omega, by omega, h2.move (q + 1), (hb1.trans (hb2.mono (Nat.le_of_lt h1.lt))).setCell (Nat.le_refl r) _, Hdg⟩
              · have CW := Lib.hid (fun V => within_is (peekV s q) 48 57 false (decide_eq_false hq) V)
                obtain ⟨he1, he2⟩ := digits_end hpq hdg.out hq
                have H2 := H.out
                have Hat2 := Hat.out
                have Hit2 := Hit.out
                rw [he2] at H2
                rw [he1] at Hat2 Hit2
                have HH := Lib.hid H2
                have CA := Lib.hid (fun V => Atoi_at Hat2 (Nat.le_trans (extract_size s hqs) hs) V)
                have CT := Lib.hid (fun V (hV : Below r w0 V) => Itoa_at hP hV hk Hit2)
                have hq0 : (0 : Int) ≤ (p1 : Int) := by omega
                have hq1 : (p1 : Int) ≤ (q : Int) := by omega
                have hq2 : (q : Int) ≤ (s.size : Int) := by omega
                have dk : decide ((k : Int) > 999999) = false := by simp; omega
                have dk2 : decide (999999 < k) = false := by simp; omega
                clear hdg hq H Hat Hit H2 Hat2 Hit2 he1 he2
                generalize peekV s q = y at *
                go_wp2_with (first | (go_at_call 104; with_reducible refine CP.out.mono ?_; rintro e w2 ⟨rfl, h2, hb2⟩; have x0 := h2.text; have x1 := h2.at_) | (go_at_call 57; with_reducible refine (CW.out _).mono ?_; rintro e w' ⟨rfl, rfl⟩))
                go_quiet (fail)
                have h3 := h2.drewN nq
                have hb3 := hb1.trans ((belowD hb2 nq).mono (Nat.le_of_lt h1.lt))
                clear h2 hb2 x0 x1 CP CW
                generalize s.extract p1 q = dg at *
                generalize w2.drewN nq = w3 at *
                go_wp2_with fail
                with_reducible refine (CA.out _).mono ?_
                rintro e w4 ⟨rfl, hb4⟩
                have h4 := h3.below hb4
                have hb4' := hb3.trans (hb4.mono (Nat.le_of_lt h3.lt))
                have CT4 := Lib.hid (CT.out w4 (hb0.trans hb4'))
                clear CA CT
                go_wp2_with (go_at_call 79; with_reducible refine CT4.out.mono ?_; rintro e w5 ⟨rfl, hb5⟩)
                have h5 := h4.below hb5
                have hb5' := hb4'.trans (hb5.mono (Nat.le_of_lt h4.lt))
                obtain ⟨hm, rfl, rfl, rfl, hlen⟩ := mk5_good HH.out h5.own.1 ho
                have Hlen := Lib.hid hlen
                clear hlen CT4
                refine (node_good h5 hm 0 k 0 0 0).mono ?_
                rintro e w6 ⟨rfl, hr6, hb6⟩
                go_wp2_with fail
                go_ret
                exact ⟨rfl, q, hqs, rfl, Hlen.out, hr6, hb5'.trans hb6⟩
        · rw [if_neg hc] at h
          cases hn : nameOf c with
          | none => rw [hn] at h; cases h
          | some k =>
            rw [hn] at h
            dsimp only at h
            have d35 : ((c.toNat : Int) != 35) = true := by
              have : c.toNat ≠ 35 := fun e => hc (UInt8.toNat_inj.1 e)
              simp
              omega
            have CM := Lib.hid (fun V => name_good hn r V)
            have H := Lib.hid h
            have Hd := Lib.hid hdl
            clear h hn hop hd hpk hdl hc ih
            generalize (c.toNat : Int) = x at *
            go_enter Tryd.func85, Tryd.ntmps85
            go_wp2_with (first | (go_at_call 84; with_reducible refine CN.out.mono ?_; rintro e w1 ⟨rfl, h1, hb1⟩) | (go_at_call 105; with_reducible refine (CI.out _).mono ?_; rintro e w' ⟨rfl, rfl⟩) | (go_at_call 87; with_reducible refine (CM.out _).mono ?_; rintro e w' ⟨rfl, rfl⟩))
            obtain ⟨hm, rfl, rfl, rfl, hlen⟩ := mk5_good H.out h1.own.1 ho
            have Hlen := Lib.hid hlen
            clear hlen
            refine (node_good h1 hm 1 k 0 0 0).mono ?_
            rintro e w4 ⟨rfl, hr4, hb4⟩
            go_wp2_with fail
            go_ret
            exact ⟨rfl, p + 1, by omega, Hd.out, Hlen.out, hr4, hb1.trans hb4⟩
end Go.Proofs.YtdgncngkalgknaaDoor
