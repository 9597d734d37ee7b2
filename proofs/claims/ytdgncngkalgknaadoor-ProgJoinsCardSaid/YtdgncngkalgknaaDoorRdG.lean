/-
  Contract: the reader's value, where the text is wrong.
-/
import Derived.Test.YtdgncngkalgknaaDoorRdF
import Derived.Lib.SmallJoins
namespace Go.Proofs.YtdgncngkalgknaaDoor
open Go.RowKit
set_option maxRecDepth 100000
set_option linter.unusedVariables false

/-- The errors of strconv lie in their variables. -/
def NumErrs (w : World) : Prop := (∃ te pe, w.cell? ⟨5, 0, none⟩ = some (.iface te pe)) ∧ ∃ te pe, w.cell? ⟨6, 0, none⟩ = some (.iface te pe)
theorem mem_takeWhile {c : UInt8} {l : List UInt8} (h : c ∈ l.takeWhile isDig) : isDig c = true := by
  induction l with
  | nil => cases h
  | cons x l ih =>
    rw [List.takeWhile_cons] at h
    split at h
    · rcases List.mem_cons.1 h with rfl | h
      · assumption
      · exact ih h
    · cases h
theorem atoiAll_pos {d : List UInt8} (hd : ∀ c ∈ d, isDig c = true) {v : Int} (h : Lib.atoiAll d = .ok v) : 0 ≤ v := by
  unfold Lib.atoiAll at h
  cases d with
  | nil => cases h
  | cons c r =>
    have hc := of_decide_eq_true (hd c (List.mem_cons_self ..))
    dsimp only at h
    rw [if_neg (by omega)] at h
    split at h
    · cases h
    · cases h
    · split at h
      · cases h
      · rw [if_neg (by omega)] at h
        injection h with h
        rw [if_neg (by omega)] at h
        omega
theorem Atoi_bad {d : ByteArray} (hn : numOf d.data.toList = none) (hd : ∀ c ∈ d.data.toList, isDig c = true) (hs : d.size ≤ 300) (w : World) (hN : NumErrs w) :
    Calls Tryd.prog 106 #[.string d] w fun e w' => ((∃ x te pe, e = .returned (.tuple #[.int .i64 x, .iface te pe])) ∨ ∃ k : Nat, k ≤ 9223372036854775807 ∧ (999999 < k ∨ Lib.itoa (k : Int) ≠ d.data.toList) ∧ e = .returned (.tuple #[.int .i64 k, .nilIface])) ∧ Below w.heap.size w w' := by
  obtain ⟨⟨t1, p1, c1⟩, t2, p2, c2⟩ := hN
  cases ha : Lib.atoiAll d.data.toList with
  | ok v =>
    have h0 := atoiAll_pos hd ha
    obtain ⟨k, rfl⟩ := Int.eq_ofNat_of_zero_le h0
    have hb := Lib.atoiAll_bounds ha
    refine (Tryd.strconv_Atoi_ok d (by omega) (k : Int) ha w).mono ?_
    have hbad : 999999 < k ∨ Lib.itoa (k : Int) ≠ d.data.toList := by
      rcases Nat.lt_or_ge 999999 k with h | h
      · exact .inl h
      · refine .inr fun e => ?_
        unfold numOf at hn
        rw [ha] at hn
        dsimp only at hn
        rw [if_pos ⟨h0, by omega, e⟩] at hn
        cases hn
    rintro e w' ⟨he, hw | ⟨t, hw⟩⟩
    · subst hw; exact ⟨.inr ⟨k, by omega, hbad, he⟩, Below.refl _ _⟩
    · subst hw; exact ⟨.inr ⟨k, by omega, hbad, he⟩, Lib.bytesWorld_below _ _ _⟩
  | range =>
    refine (Tryd.strconv_Atoi_range d (by omega) ha _ w c2 (.inr ⟨_, _, rfl⟩)).mono ?_
    rintro e w' ⟨N, he, _, _, hb⟩
    exact ⟨.inl ⟨_, _, _, he⟩, hb⟩
  | _ =>
    refine (Tryd.strconv_Atoi_syntax d (by omega) ha _ w c1 (.inr ⟨_, _, rfl⟩)).mono ?_
    rintro e w' ⟨N, he, _, _, hb⟩
    exact ⟨.inl ⟨_, _, _, he⟩, hb⟩

set_option maxHeartbeats 16000000 in
theorem value_bad {r : Nat} {s : ByteArray} (hs : s.size ≤ 300) {w0 : World} (hP : Pow10 r w0) (hN : ∀ V, Below r w0 V → NumErrs V) : ∀ (f : Nat) (w : World) (p n : Nat) (v : Value) (o : List Int) (e : Nat), RdAt w r s p n v o → Below r w0 w → p ≤ s.size → o.length ≤ 400 → s.size - p < f → pValue f (s.data.toList.drop p) o = .bad e →
    Calls Tryd.prog 85 #[.pointer (some ⟨r, 0, none⟩)] w (RdBad r e w) := by
  intro f
  induction f with
  | zero => intro w p n v o e _ _ _ _ hf; omega
  | succ f ih =>
    intro w p n v o e hR hb0 hp ho hf h
    cases hd : s.data.toList.drop p with
    | nil =>
      rw [hd, pValue] at h
      injection h with h
      subst h
      have hps : s.size ≤ p := by have := drop_len hd hp; simp at this; omega
      have CN := next_any hR hs (by omega)
      rw [peekV_end hps] at CN
      have CN := Lib.hid CN
      have CI := Lib.hid (fun V => show Calls Tryd.prog 105 #[.string ⟨#[43, 60, 61]⟩, .int .u8 0] V (fun e w' => e = .returned (.int .i64 (-1)) ∧ V = w') from (Tryd.strings_IndexByte ⟨#[43, 60, 61]⟩ 0 V).mono fun e w' ⟨he, hw⟩ => ⟨he, hw.symm⟩)
      have CM := Lib.hid (fun V => name_bad (x := 0) (by omega) (by omega) (by omega) r V)
      clear hd hR ih
      go_enter Tryd.func85, Tryd.ntmps85
      go_wp2_with (first | (go_at_call 84; with_reducible refine CN.out.mono ?_; rintro e w1 ⟨rfl, h1, hb1⟩) | (go_at_call 105; with_reducible refine (CI.out _).mono ?_; rintro e w' ⟨rfl, rfl⟩))
      refine (CM.out _).mono ?_
      rintro e w2 ⟨rfl, hb2⟩
      exact ⟨rfl, rfl, hb1.trans hb2⟩
    | cons c l =>
      obtain ⟨hlt, hpk, hdl⟩ := drop_cons hd
      rw [hd, pValue] at h
      have CN := next_any hR hs (by omega)
      rw [hpk] at CN
      have CN := Lib.hid CN
      cases hop : opOf c with
      | some k =>
        rw [hop] at h
        dsimp only at h
        cases hv1 : pValue f l o with
        | bad e1 =>
          rw [hv1] at h
          dsimp only [PR.andThen] at h
          injection h with h
          subst h
          obtain ⟨hk, hix⟩ := idx_some hop
          obtain ⟨j, rfl⟩ : ∃ j, k = j + 2 := ⟨k - 2, by omega⟩
          rw [show j + 2 - 2 = j by omega] at hix
          have CI := Lib.hid (fun V => show Calls Tryd.prog 105 #[.string ⟨#[43, 60, 61]⟩, .int .u8 (c.toNat : Int)] V (fun e w' => e = .returned (.int .i64 (j : Int)) ∧ V = w') from (Tryd.strings_IndexByte ⟨#[43, 60, 61]⟩ (c.toNat : Int) V).mono fun e w' ⟨he, hw⟩ => ⟨by rw [he, byte_back]; exact congrArg (fun x => Ending.returned (.int .i64 x)) hix, hw.symm⟩)
          have Hd := Lib.hid hdl
          have hj2 : j ≤ 2 := by omega
          have Hv1 := Lib.hid hv1
          clear hv1 hop hix hd hpk hdl hk
          generalize (c.toNat : Int) = x at *
          go_enter Tryd.func85, Tryd.ntmps85
          go_wp2_with (first | (go_at_call 84; with_reducible refine CN.out.mono ?_; rintro e w1 ⟨rfl, h1, hb1⟩) | (go_at_call 105; with_reducible refine (CI.out _).mono ?_; rintro e w' ⟨rfl, rfl⟩))
          refine (ih w1 (p + 1) n v o e1 h1 (hb0.trans hb1) (by omega) ho (by omega) (by rw [Hd.out]; exact Hv1.out)).mono ?_
          rintro e w2 ⟨rfl, hb2⟩
          exact ⟨rfl, rfl, hb1.trans hb2⟩
        | good a l1 o1 =>
          rw [hv1] at h
          dsimp only [PR.andThen] at h
          have hsh := pValue_short hv1
          cases hv2 : pValue f l1 o1 with
          | bad e2 =>
            rw [hv2] at h
            dsimp only [PR.andThen] at h
            injection h with h
            subst h
            obtain ⟨hk, hix⟩ := idx_some hop
            obtain ⟨j, rfl⟩ : ∃ j, k = j + 2 := ⟨k - 2, by omega⟩
            rw [show j + 2 - 2 = j by omega] at hix
            have CI := Lib.hid (fun V => show Calls Tryd.prog 105 #[.string ⟨#[43, 60, 61]⟩, .int .u8 (c.toNat : Int)] V (fun e w' => e = .returned (.int .i64 (j : Int)) ∧ V = w') from (Tryd.strings_IndexByte ⟨#[43, 60, 61]⟩ (c.toNat : Int) V).mono fun e w' ⟨he, hw⟩ => ⟨by rw [he, byte_back]; exact congrArg (fun x => Ending.returned (.int .i64 x)) hix, hw.symm⟩)
            have Hd := Lib.hid hdl
            have hj2 : j ≤ 2 := by omega
            have Hv1 := Lib.hid hv1
            have Hv2 := Lib.hid hv2
            have hll := drop_len hdl (by omega)
            clear hv1 hv2 hop hix hd hpk hdl hk
            generalize (c.toNat : Int) = x at *
            go_enter Tryd.func85, Tryd.ntmps85
            go_wp2_with (first | (go_at_call 84; with_reducible refine CN.out.mono ?_; rintro e w1 ⟨rfl, h1, hb1⟩) | (go_at_call 105; with_reducible refine (CI.out _).mono ?_; rintro e w' ⟨rfl, rfl⟩))
            refine (value_good hs hP f w1 (p + 1) n v o a l1 o1 h1 (hb0.trans hb1) (by omega) ho (by rw [Hd.out]; exact Hv1.out)).mono ?_
            rintro e w2 ⟨rfl, p2, hp2, hd2, ho2, ⟨n2, v2, h2⟩, hb2⟩
            have hl2 := drop_len hd2 hp2
            have Hd2 := Lib.hid hd2
            clear hd2
            go_wp2_with fail
            refine (ih w2 p2 n2 v2 o1 e2 h2 ((hb0.trans hb1).trans hb2) hp2 ho2 (by omega) (by rw [Hd2.out]; exact Hv2.out)).mono ?_
            rintro e w3 ⟨rfl, hb3⟩
            exact ⟨rfl, rfl, (hb1.trans hb2).trans hb3⟩
          | good b l2 o2 =>
            rw [hv2] at h
            obtain ⟨hk, hix⟩ := idx_some hop
            obtain ⟨j, rfl⟩ : ∃ j, k = j + 2 := ⟨k - 2, by omega⟩
            rw [show j + 2 - 2 = j by omega] at hix
            have CI := Lib.hid (fun V => show Calls Tryd.prog 105 #[.string ⟨#[43, 60, 61]⟩, .int .u8 (c.toNat : Int)] V (fun e w' => e = .returned (.int .i64 (j : Int)) ∧ V = w') from (Tryd.strings_IndexByte ⟨#[43, 60, 61]⟩ (c.toNat : Int) V).mono fun e w' ⟨he, hw⟩ => ⟨by rw [he, byte_back]; exact congrArg (fun x => Ending.returned (.int .i64 x)) hix, hw.symm⟩)
            have Hd := Lib.hid hdl
            have hj2 : j ≤ 2 := by omega
            have H := Lib.hid h
            have Hv1 := Lib.hid hv1
            have Hv2 := Lib.hid hv2
            clear h hv1 hv2 hop hix hd hpk hdl hk
            generalize (c.toNat : Int) = x at *
            go_enter Tryd.func85, Tryd.ntmps85
            go_wp2_with (first | (go_at_call 84; with_reducible refine CN.out.mono ?_; rintro e w1 ⟨rfl, h1, hb1⟩) | (go_at_call 105; with_reducible refine (CI.out _).mono ?_; rintro e w' ⟨rfl, rfl⟩))
            refine (value_good hs hP f w1 (p + 1) n v o a l1 o1 h1 (hb0.trans hb1) (by omega) ho (by rw [Hd.out]; exact Hv1.out)).mono ?_
            rintro e w2 ⟨rfl, p2, hp2, hd2, ho2, ⟨n2, v2, h2⟩, hb2⟩
            have Hd2 := Lib.hid hd2
            clear hd2
            go_wp2_with fail
            refine (value_good hs hP f w2 p2 n2 v2 o1 b l2 o2 h2 ((hb0.trans hb1).trans hb2) hp2 ho2 (by rw [Hd2.out]; exact Hv2.out)).mono ?_
            rintro e w3 ⟨rfl, p3, hp3, hd3, ho3, ⟨n3, v3, h3⟩, hb3⟩
            obtain ⟨hm, rfl⟩ := mk5_bad H.out h3.own.1
            have CNd := Lib.hid (node_bad (by rw [← hm]; exact h3) (2 + (j : Int)) 0 a b 0)
            clear hd3 ih
            go_wp2_with fail
            refine CNd.out.mono ?_
            rintro e w4 ⟨rfl, hb4⟩
            exact ⟨rfl, rfl, ((hb1.trans hb2).trans hb3).trans hb4⟩
      | none =>
        rw [hop] at h
        dsimp only at h
        have CI := Lib.hid (fun V => show Calls Tryd.prog 105 #[.string ⟨#[43, 60, 61]⟩, .int .u8 (c.toNat : Int)] V (fun e w' => e = .returned (.int .i64 (-1)) ∧ V = w') from (Tryd.strings_IndexByte ⟨#[43, 60, 61]⟩ (c.toNat : Int) V).mono fun e w' ⟨he, hw⟩ => ⟨by rw [he, byte_back]; exact congrArg (fun x => Ending.returned (.int .i64 x)) (idx_none hop), hw.symm⟩)
        by_cases hc : c = 35
        · subst hc
          rw [if_pos rfl] at h
          cases hn : numOf (l.takeWhile isDig) with
          | none =>
            rw [hn] at h
            dsimp only at h
            injection h with h
            subst h
            rw [← hdl] at hn
            obtain ⟨p1, hp1⟩ : ∃ p1, p + 1 = p1 := ⟨_, rfl⟩
            rw [hp1] at hn CN
            have hp1s : p1 ≤ s.size := by omega
            have Hn := Lib.hid hn
            have d35 : (((35 : UInt8).toNat : Int) != 35) = false := by decide
            clear hn hop hd hpk hdl ih hp1 hlt
            generalize ((35 : UInt8).toNat : Int) = x at *
            go_enter Tryd.func85, Tryd.ntmps85
            go_wp2_with (first | (go_at_call 84; with_reducible refine CN.out.mono ?_; rintro e w1 ⟨rfl, h1, hb1⟩; have x1 := h1.at_) | (go_at_call 105; with_reducible refine (CI.out _).mono ?_; rintro e w' ⟨rfl, rfl⟩))
            clear x1
            go_loopg [] (s.size + 1) (fun m wr => ∃ (q n1 : Nat) (v1 : Value), s.size - q < m ∧ p1 ≤ q ∧ q ≤ s.size ∧ RdAt wr r s q n1 v1 o ∧ Below r w wr ∧ Hid (∀ j, p1 ≤ j → j < q → 48 ≤ peekV s j ∧ peekV s j ≤ 57))
            case atStart => exact ⟨p1, _, _, by omega, Nat.le_refl _, hp1s, h1, hb1, Lib.hid (fun j h1 h2 => by omega)⟩
            case round =>
              clear h1 hb1
              obtain ⟨q, n1, v1, hqm, hpq, hqs, h1, hb1, hdg⟩ := hrel
              have CP := Lib.hid (peek_any h1 hs (by omega))
              obtain ⟨hx0, hx1⟩ := peekV_byte s q
              by_cases hq : 48 ≤ peekV s q ∧ peekV s q ≤ 57
              · have CW := Lib.hid (fun V => within_is (peekV s q) 48 57 true (decide_eq_true hq) V)
                have hqs2 : q < s.size := by
                  rcases Nat.lt_or_ge q s.size with h2 | h2
                  · exact h2
                  · rw [peekV_end h2] at hq; omega
                have Hdg := Lib.hid (show ∀ j, p1 ≤ j → j < q + 1 → 48 ≤ peekV s j ∧ peekV s j ≤ 57 from fun j h1 h2 => by
                  rcases Nat.lt_or_ge j q with h3 | h3
                  · exact hdg.out j h1 h3
                  · obtain rfl : j = q := by omega
                    exact hq)
                clear hdg hq
                generalize peekV s q = y at *
                go_wp2_with (first | (go_at_call 104; with_reducible refine CP.out.mono ?_; rintro e w2 ⟨rfl, h2, hb2⟩; have x1 := h2.at_; have f1 := h2.box.free 1) | (go_at_call 57; with_reducible refine (CW.out _).mono ?_; rintro e w' ⟨rfl, rfl⟩))
                go_roundg (s.size - q)
                case measure => omega
                case rel => exact ⟨q + 1, _, _, by omega, by omega, by omega, h2.move (q + 1), (hb1.trans (hb2.mono (Nat.le_of_lt h1.lt))).setCell (Nat.le_refl r) _, Hdg⟩
              · have CW := Lib.hid (fun V => within_is (peekV s q) 48 57 false (decide_eq_false hq) V)
                obtain ⟨he1, he2⟩ := digits_end hpq hdg.out hq
                have Hn2 := Hn.out
                rw [he1] at Hn2
                have hdig : ∀ c ∈ (s.extract p1 q).data.toList, isDig c = true := fun c hc => by
                  rw [← he1] at hc
                  exact mem_takeWhile hc
                have CA := Lib.hid (fun V (hV : NumErrs V) => Atoi_bad Hn2 hdig (Nat.le_trans (extract_size s hqs) hs) V hV)
                have hq0 : (0 : Int) ≤ (p1 : Int) := by omega
                have hq1 : (p1 : Int) ≤ (q : Int) := by omega
                have hq2 : (q : Int) ≤ (s.size : Int) := by omega
                clear hdg hq Hn Hn2 he1 he2 hdig
                generalize peekV s q = y at *
                go_wp2_with (first | (go_at_call 104; with_reducible refine CP.out.mono ?_; rintro e w2 ⟨rfl, h2, hb2⟩; have x0 := h2.text; have x1 := h2.at_) | (go_at_call 57; with_reducible refine (CW.out _).mono ?_; rintro e w' ⟨rfl, rfl⟩))
                go_quiet (fail)
                have h3 := h2.drewN nq
                have hb3 := hb1.trans ((belowD hb2 nq).mono (Nat.le_of_lt h1.lt))
                clear h2 hb2 x0 x1 CP CW
                generalize s.extract p1 q = dg at *
                generalize w2.drewN nq = w3 at *
                go_wp2_with fail
                with_reducible refine (CA.out _ (hN _ (hb0.trans hb3))).mono ?_
                rintro e w4 ⟨hA, hb4⟩
                have h4 := h3.below hb4
                have hb4' := hb3.trans (hb4.mono (Nat.le_of_lt h3.lt))
                rcases hA with ⟨x, te, pe, rfl⟩ | ⟨k, hk, hbad, rfl⟩
                · go_wp2_with fail
                  refine (fail_any _ 2 _).mono ?_
                  rintro e w5 ⟨rfl, rfl⟩
                  exact ⟨rfl, rfl, hb4'⟩
                · by_cases hk9 : 999999 < k
                  · have dk : decide ((k : Int) > 999999) = true := by simp; omega
                    have dk2 : decide (999999 < k) = true := by simp; omega
                    clear hbad
                    go_wp2_with fail
                    refine (fail_any _ 2 _).mono ?_
                    rintro e w5 ⟨rfl, rfl⟩
                    exact ⟨rfl, rfl, hb4'⟩
                  · have dk : decide ((k : Int) > 999999) = false := by simp; omega
                    have dk2 : decide (999999 < k) = false := by simp; omega
                    have hne : Lib.itoa (k : Int) ≠ dg.data.toList := by
                      rcases hbad with hb | hb
                      · omega
                      · exact hb
                    have CT := Lib.hid ((Itoa_any (k : Int) (by omega) w4 (hP _ (hb0.trans hb4'))))
                    have hsn : (⟨(Lib.itoa (k : Int)).toArray⟩ : ByteArray) ≠ dg := fun e => hne (by rw [← e])
                    generalize (⟨(Lib.itoa (k : Int)).toArray⟩ : ByteArray) = t at *
                    have dt : (t.toList == dg.toList) = false := by
                      rw [beq_eq_false_iff_ne]
                      intro e
                      rw [Lib.toList_data, Lib.toList_data] at e
                      exact hsn (by cases t; cases dg; simpa using e)
                    have dt4 : decide (t = dg) = false := by simpa using hsn
                    clear hbad hne hsn hk9
                    go_wp2_with (go_at_call 79; with_reducible refine CT.out.mono ?_; rintro e w5 ⟨rfl, hb5⟩)
                    refine (fail_any _ 2 _).mono ?_
                    rintro e w6 ⟨rfl, rfl⟩
                    exact ⟨rfl, rfl, hb4'.trans (hb5.mono (Nat.le_of_lt h4.lt))⟩
          | some k =>
            rw [hn] at h
            dsimp only at h
            obtain ⟨hat, hk, hit⟩ := numOf_some hn
            rw [← hdl] at h hat hit
            obtain ⟨p1, hp1⟩ : ∃ p1, p + 1 = p1 := ⟨_, rfl⟩
            rw [hp1] at h hat hit CN
            have hp1s : p1 ≤ s.size := by omega
            have H := Lib.hid h
            have Hat := Lib.hid hat
            have Hit := Lib.hid hit
            have d35 : (((35 : UInt8).toNat : Int) != 35) = false := by decide
            clear h hn hop hd hpk hdl ih hat hit hp1 hlt
            generalize ((35 : UInt8).toNat : Int) = x at *
            go_enter Tryd.func85, Tryd.ntmps85
            go_wp2_with (first | (go_at_call 84; with_reducible refine CN.out.mono ?_; rintro e w1 ⟨rfl, h1, hb1⟩; have x1 := h1.at_) | (go_at_call 105; with_reducible refine (CI.out _).mono ?_; rintro e w' ⟨rfl, rfl⟩))
            clear x1
            go_loopg [] (s.size + 1) (fun m wr => ∃ (q n1 : Nat) (v1 : Value), s.size - q < m ∧ p1 ≤ q ∧ q ≤ s.size ∧ RdAt wr r s q n1 v1 o ∧ Below r w wr ∧ Hid (∀ j, p1 ≤ j → j < q → 48 ≤ peekV s j ∧ peekV s j ≤ 57))
            case atStart => exact ⟨p1, _, _, by omega, Nat.le_refl _, hp1s, h1, hb1, Lib.hid (fun j h1 h2 => by omega)⟩
            case round =>
              clear h1 hb1
              obtain ⟨q, n1, v1, hqm, hpq, hqs, h1, hb1, hdg⟩ := hrel
              have CP := Lib.hid (peek_any h1 hs (by omega))
              obtain ⟨hx0, hx1⟩ := peekV_byte s q
              by_cases hq : 48 ≤ peekV s q ∧ peekV s q ≤ 57
              · have CW := Lib.hid (fun V => within_is (peekV s q) 48 57 true (decide_eq_true hq) V)
                have hqs2 : q < s.size := by
                  rcases Nat.lt_or_ge q s.size with h2 | h2
                  · exact h2
                  · rw [peekV_end h2] at hq; omega
                have Hdg := Lib.hid (show ∀ j, p1 ≤ j → j < q + 1 → 48 ≤ peekV s j ∧ peekV s j ≤ 57 from fun j h1 h2 => by
                  rcases Nat.lt_or_ge j q with h3 | h3
                  · exact hdg.out j h1 h3
                  · obtain rfl : j = q := by omega
                    exact hq)
                clear hdg hq
                generalize peekV s q = y at *
                go_wp2_with (first | (go_at_call 104; with_reducible refine CP.out.mono ?_; rintro e w2 ⟨rfl, h2, hb2⟩; have x1 := h2.at_; have f1 := h2.box.free 1) | (go_at_call 57; with_reducible refine (CW.out _).mono ?_; rintro e w' ⟨rfl, rfl⟩))
                go_roundg (s.size - q)
                case measure => omega
                case rel => exact ⟨q + 1, _, _, by omega, by omega, by omega, h2.move (q + 1), (hb1.trans (hb2.mono (Nat.le_of_lt h1.lt))).setCell (Nat.le_refl r) _, Hdg⟩
              · have CW := Lib.hid (fun V => within_is (peekV s q) 48 57 false (decide_eq_false hq) V)
                obtain ⟨he1, he2⟩ := digits_end hpq hdg.out hq
                have H2 := H.out
                have Hat2 := Hat.out
                have Hit2 := Hit.out
                rw [he2] at H2
                rw [he1] at Hat2 Hit2
                have HH := Lib.hid H2
                have CA := Lib.hid (fun V => Atoi_at Hat2 (Nat.le_trans (extract_size s hqs) hs) V)
                have CT := Lib.hid (fun V (hV : Below r w0 V) => Itoa_at hP hV hk Hit2)
                have hq0 : (0 : Int) ≤ (p1 : Int) := by omega
                have hq1 : (p1 : Int) ≤ (q : Int) := by omega
                have hq2 : (q : Int) ≤ (s.size : Int) := by omega
                have dk : decide ((k : Int) > 999999) = false := by simp; omega
                have dk2 : decide (999999 < k) = false := by simp; omega
                clear hdg hq H Hat Hit H2 Hat2 Hit2 he1 he2
                generalize peekV s q = y at *
                go_wp2_with (first | (go_at_call 104; with_reducible refine CP.out.mono ?_; rintro e w2 ⟨rfl, h2, hb2⟩; have x0 := h2.text; have x1 := h2.at_) | (go_at_call 57; with_reducible refine (CW.out _).mono ?_; rintro e w' ⟨rfl, rfl⟩))
                go_quiet (fail)
                have h3 := h2.drewN nq
                have hb3 := hb1.trans ((belowD hb2 nq).mono (Nat.le_of_lt h1.lt))
                clear h2 hb2 x0 x1 CP CW
                generalize s.extract p1 q = dg at *
                generalize w2.drewN nq = w3 at *
                go_wp2_with fail
                with_reducible refine (CA.out _).mono ?_
                rintro e w4 ⟨rfl, hb4⟩
                have h4 := h3.below hb4
                have hb4' := hb3.trans (hb4.mono (Nat.le_of_lt h3.lt))
                have CT4 := Lib.hid (CT.out w4 (hb0.trans hb4'))
                clear CA CT
                go_wp2_with (go_at_call 79; with_reducible refine CT4.out.mono ?_; rintro e w5 ⟨rfl, hb5⟩)
                have h5 := h4.below hb5
                have hb5' := hb4'.trans (hb5.mono (Nat.le_of_lt h4.lt))
                obtain ⟨hm, rfl⟩ := mk5_bad HH.out h5.own.1
                clear CT4
                refine (node_bad (by rw [← hm]; exact h5) 0 k 0 0 0).mono ?_
                rintro e w6 ⟨rfl, hb6⟩
                exact ⟨rfl, rfl, hb5'.trans hb6⟩
        · rw [if_neg hc] at h
          have d35 : ((c.toNat : Int) != 35) = true := by
            have : c.toNat ≠ 35 := fun e => hc (UInt8.toNat_inj.1 e)
            simp
            omega
          have hcb : (c.toNat : Int) ≤ 255 := by have := c.toNat_lt; omega
          have hc0 : (0 : Int) ≤ (c.toNat : Int) := by omega
          cases hn : nameOf c with
          | none =>
            rw [hn] at h
            dsimp only at h
            injection h with h
            subst h
            have hnn : ¬ (97 ≤ (c.toNat : Int) ∧ (c.toNat : Int) ≤ 102) := by
              unfold nameOf at hn
              split at hn
              · cases hn
              · omega
            have CM := Lib.hid (fun V => name_bad hnn hc0 hcb r V)
            clear hn hop hd hpk hdl hc ih hnn
            generalize (c.toNat : Int) = x at *
            go_enter Tryd.func85, Tryd.ntmps85
            go_wp2_with (first | (go_at_call 84; with_reducible refine CN.out.mono ?_; rintro e w1 ⟨rfl, h1, hb1⟩) | (go_at_call 105; with_reducible refine (CI.out _).mono ?_; rintro e w' ⟨rfl, rfl⟩))
            refine (CM.out _).mono ?_
            rintro e w2 ⟨rfl, hb2⟩
            exact ⟨rfl, rfl, hb1.trans hb2⟩
          | some k =>
            rw [hn] at h
            dsimp only at h
            have CM := Lib.hid (fun V => name_good hn r V)
            have H := Lib.hid h
            clear h hn hop hd hpk hdl hc ih
            generalize (c.toNat : Int) = x at *
            go_enter Tryd.func85, Tryd.ntmps85
            go_wp2_with (first | (go_at_call 84; with_reducible refine CN.out.mono ?_; rintro e w1 ⟨rfl, h1, hb1⟩) | (go_at_call 105; with_reducible refine (CI.out _).mono ?_; rintro e w' ⟨rfl, rfl⟩) | (go_at_call 87; with_reducible refine (CM.out _).mono ?_; rintro e w' ⟨rfl, rfl⟩))
            obtain ⟨hm, rfl⟩ := mk5_bad H.out h1.own.1
            refine (node_bad (by rw [← hm]; exact h1) 1 k 0 0 0).mono ?_
            rintro e w4 ⟨rfl, hb4⟩
            exact ⟨rfl, rfl, hb1.trans hb4⟩
end Go.Proofs.YtdgncngkalgknaaDoor
