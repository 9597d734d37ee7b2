/-
  The walk of TakeTells.
-/
import Derived.Test.YtpfmllpodjcldaaDoorTellM1
import Derived.Test.YtpfmllpodjcldaaDoorTellM2
import Derived.Test.YtpfmllpodjcldaaDoorAs
namespace Go.Proofs.YtpfmllpodjcldaaDoor
open Go.RowKit
set_option maxRecDepth 100000
set_option linter.unusedVariables false

theorem way_end {L : List (List Int)} {who x : Nat} {p : List Nat} (hw : who < L.length) (h : WayTo (gE L) who p x) : x < L.length := by
  have := way_lt hw (fun x y h => h.2.1) h (p.getD (p.length - 1) 0) (getD_mem (by have := h.pos; omega))
  rwa [h.last] at this

set_option maxHeartbeats 16000000 in
theorem TakeTells_walk (L : List (List Int)) (A : Option Addr) (c : Nat) {W : World} (hL : RowsIn anyB 1 W A L) (nL : L.length ≤ maxLen) (right : Int) (br : I64 right) (who : Int) (bw : I64 who) (over : Int) (bo : I64 over) (w : World) (hw : w = W) (hE : ErrT W) :
    Calls Tryd.prog 4 #[.slice A L.length c, .int .i64 right, .int .i64 who, .int .i64 over] w fun e w' => e = .returned (.bool true) ∧ Below W.heap.size W w' := by
  subst hw
  have nL2 : L.length ≤ 9223372036854775807 := by unfold maxLen at nL; omega
  have HA := Asked_any (c := c) hL rfl nL ⟨br, bw, bo⟩
  have HEr := Lib.hid (fun V (hV : Below w.heap.size w V) k => Error_is k k true V (hE.next hV) (by simp))
  have HEz := Lib.hid (show ∀ V, Below w.heap.size w V → Calls Tryd.prog 7 #[.nilIface, .int .i64 0] V (fun e w' => e = .returned (.bool true) ∧ Below V.heap.size V w') from fun V hV => Error_is 0 0 true V (hE.next hV) (by decide))
  have HE4 := Lib.hid (show ∀ V, Below w.heap.size w V → Calls Tryd.prog 7 #[.iface 59 (.int .i64 4), .int .i64 4] V (fun e w' => e = .returned (.bool true) ∧ Below V.heap.size V w') from fun V hV => Error_is 4 4 true V (hE.next hV) (by decide))
  have HE5 := Lib.hid (show ∀ V, Below w.heap.size w V → Calls Tryd.prog 7 #[.iface 59 (.int .i64 5), .int .i64 5] V (fun e w' => e = .returned (.bool true) ∧ Below V.heap.size V w') from fun V hV => Error_is 5 5 true V (hE.next hV) (by decide))
  have HS0 := Lib.hid (show ∀ V, Calls Tryd.prog 18 #[.slice none 0 0, .slice none 0 0] V (fun e w' => e = .returned (.bool true) ∧ Below V.heap.size V w') from fun V => Steps_any (m := 0) (S := []) IntsAt.nil IntsAt.nil (by simp) (by decide))
  by_cases hz : askCode L right who over = 0
  · obtain ⟨wn, on, kb, hok, rfl, rfl, rfl, hk, hwn, hon, hne⟩ := askCode_zero hz
    rw [hz] at HA
    have HA := Lib.hid (show Calls Tryd.prog 13 #[.slice A L.length c, .int .i64 (2 ^ kb : Nat), .int .i64 wn, .int .i64 on] w (fun e w' => e = .returned (.int .i64 0) ∧ w = w') from HA)
    have HCh := Lib.hid (RChain_ok (c := c) hL rfl hok hk hwn hon)
    have HC := Lib.hid (fun V (hV : Below w.heap.size w V) => Can_ok (c := c) (hL.below hV) rfl hok hk hwn hon hne)
    have HP := Lib.hid (fun V (hV : Below w.heap.size w V) => Plan_ok (c := c) (hL.below hV) rfl hok hk hwn hon hne)
    have Hend := Lib.hid (fun (p : List Nat) (x : Nat) (h : WayTo (gE L) wn p x) => way_end hwn h)
    have Hok := Lib.hid hok
    have Hwn := Lib.hid hwn
    have Hon := Lib.hid hon
    have Hne := Lib.hid hne
    have HL := Lib.hid hL
    have hfew := hok.few
    obtain ⟨nn, hnn⟩ : ∃ nn, L.length = nn := ⟨_, rfl⟩
    have Hnn := Lib.hid hnn
    obtain ⟨r, hr⟩ : ∃ r, 2 ^ kb = r := ⟨_, rfl⟩
    rw [hr] at HC HP HA HCh br ⊢
    have Hr := Lib.hid hr
    rw [hnn] at HC HP nL nL2 HA HCh hfew hwn hon ⊢
    clear hL hE hz hok hr hnn hne
    go_enter Tryd.func4, Tryd.ntmps4
    go_wp2_with (go_at_call 13; with_reducible refine HA.out.mono ?_; rintro e w' ⟨rfl, rfl⟩)
    refine HCh.out.mono ?_
    rintro e w1 ⟨⟨A1, m, c1, p, rfl, hm, i1, hbest⟩, hb1⟩
    clear HA HCh
    rcases hbest with ⟨rfl, hno⟩ | ⟨x, h1, h2, h3⟩
    · have hm0 : m = 0 := hm
      subst hm0
      have Hno := Lib.hid (show ∀ p' x', WayTo (gE L) wn p' x' → ¬ gGood L kb on x' from fun p' x' h => hno p' x' (by have := Hend.out _ _ h; have := Hnn.out; omega) h)
      clear hno i1 hm
      go_wp2_with fail
      refine (HC.out w1 hb1).mono ?_
      rintro e w2 ⟨⟨b, rfl, hbt⟩, hb2⟩
      have hw2 := hb1.trans (hb2.mono hb1.size)
      obtain rfl : b = false := by
        cases b with
        | false => rfl
        | true => obtain ⟨p', x', h1, h2⟩ := hbt.1 rfl; exact absurd h2 (Hno.out p' x' h1)
      clear hbt HC
      have HEz2 := Lib.hid (HEz.out w2 hw2)
      go_wp2_with (go_at_call 7; with_reducible refine HEz2.out.mono ?_; rintro e w3 ⟨rfl, hb3⟩)
      have hw3 := hw2.trans (hb3.mono hw2.size)
      refine (HP.out w3 hw3).mono ?_
      rintro e w4 ⟨hp, hb4⟩
      have hw4 := hw3.trans (hb4.mono hw3.size)
      rcases hp with ⟨p, x, h1, h2, _⟩ | ⟨rfl, _⟩
      · exact absurd h2 (Hno.out p x h1)
      have HE6 := Lib.hid (HE5.out w4 hw4)
      clear HP HE5 HE4 HEz HEr HEz2
      go_wp2_with (first | (go_at_call 7; with_reducible refine HE6.out.mono ?_; rintro e w5 ⟨rfl, hb5⟩) | (go_at_call 18; with_reducible refine (HS0.out _).mono ?_; rintro e w6 ⟨rfl, hb6⟩))
      go_ret
      have hw5 := hw4.trans (hb5.mono hw4.size)
      exact ⟨rfl, hw5.trans (hb6.mono hw5.size)⟩
    · have Hm := Lib.hid hm
      have hpos := h1.pos
      have hleast : ∀ p' x', WayTo (gE L) wn p' x' → gGood L kb on x' → SLe p p' := fun p' x' h hg => h3 p' x' (by have := Hend.out _ _ h; have := Hnn.out; omega) h hg
      have hnd := least_nodup h1 h2 hleast
      have hall := way_lt Hwn.out (fun x y h => h.2.1) h1
      have hmn : m ≤ nn := by rw [hm, ← Hnn.out]; exact nodup_le hnd hall
      have HRP := Lib.hid (show ∀ V, Below w1.heap.size w1 V → Calls Tryd.prog 16 #[.slice A nn c, .int .i64 r, .slice A1 m c1, .int .i64 on] V (fun e w' => RPlanPost (planFrom L on (r : Nat) p (m - 1) ([], nn)) e w' ∧ Below V.heap.size V w') from fun V hV => RPlan_ok ((HL.out.below hb1).below (hV.mono (Nat.le_refl _))) Hnn.out Hok.out (i1.below hV) Hm.out.symm (fun i hi => by have := hall _ (getD_mem (l := p) (i := i) (by omega)); have := Hnn.out; omega) hon (by rw [h1.head]; exact Hne.out) (by omega) (by omega))
      have Hw := Lib.hid h1
      have Hg := Lib.hid h2
      have Hleast := Lib.hid hleast
      have hm0 : 0 < m := by omega
      have dm0 : ((m : Int) == 0) = false := beq_eq_false_iff_ne.2 (by omega)
      clear hm i1 h1 h2 h3 hleast hnd hall
      go_wp2_with fail
      refine (HC.out w1 hb1).mono ?_
      rintro e w2 ⟨⟨b, rfl, hbt⟩, hb2⟩
      have hw2 := hb1.trans (hb2.mono hb1.size)
      obtain rfl : b = true := hbt.2 ⟨p, x, Hw.out, Hg.out⟩
      clear hbt HC
      have HEz2 := Lib.hid (HEz.out w2 hw2)
      go_wp2_with (go_at_call 7; with_reducible refine HEz2.out.mono ?_; rintro e w3 ⟨rfl, hb3⟩)
      have hw3 := hw2.trans (hb3.mono hw2.size)
      refine (HRP.out w3 (hb2.trans (hb3.mono hb2.size))).mono ?_
      rintro e w4 ⟨hrp, hb4⟩
      have hw4 := hw3.trans (hb4.mono hw3.size)
      have HP4 := Lib.hid (show Calls Tryd.prog 17 #[.slice A nn c, .int .i64 r, .int .i64 wn, .int .i64 on] w4 (fun e w' => (((20 < (planFrom L on (r : Nat) p (m - 1) ([], nn)).2 ∨ 60 < (planFrom L on (r : Nat) p (m - 1) ([], nn)).1.length) ∧ e = .returned (.tuple #[.slice none 0 0, .iface 59 (.int .i64 4)])) ∨
          (¬ (20 < (planFrom L on (r : Nat) p (m - 1) ([], nn)).2 ∨ 60 < (planFrom L on (r : Nat) p (m - 1) ([], nn)).1.length) ∧ ∃ A c, e = .returned (.tuple #[.slice A (planFrom L on (r : Nat) p (m - 1) ([], nn)).1.length c, .nilIface]) ∧ IntsAt w' A (flatS (planFrom L on (r : Nat) p (m - 1) ([], nn)).1))) ∧ Below w4.heap.size w4 w') from (HP.out w4 hw4).mono fun e w' h => by
        refine ⟨?_, h.2⟩
        rcases h.1 with ⟨p', x', h1, h2, h3, hres⟩ | ⟨_, hno⟩
        · obtain rfl : p' = p := (h3 p x Hw.out Hg.out).antisymm (Hleast.out p' x' h1 h2)
          rw [Hr.out, Hnn.out, ← Hm.out] at hres
          exact hres
        · exact absurd Hg.out (hno p x Hw.out))
      clear HP HRP
      generalize planFrom L on (r : Nat) p (m - 1) ([], nn) = fin at *
      obtain ⟨S, v⟩ := fin
      unfold RPlanPost at hrp
      simp only at hrp HP4
      rcases hrp with ⟨hlim, rfl⟩ | ⟨hlim, Ap, cp, rfl, ip⟩
      · go_wp2_with fail
        refine HP4.out.mono ?_
        rintro e w5 ⟨⟨_, rfl⟩ | ⟨hn, _⟩, hb5⟩
        · have hw5 := hw4.trans (hb5.mono hw4.size)
          have HE6 := Lib.hid (HE4.out w5 hw5)
          clear HP4 HE5 HE4 HEz HEr HEz2 hlim
          go_wp2_with (first | (go_at_call 7; with_reducible refine HE6.out.mono ?_; rintro e w6 ⟨rfl, hb6⟩) | (go_at_call 18; with_reducible refine (HS0.out _).mono ?_; rintro e w7 ⟨rfl, hb7⟩))
          go_ret
          have hw6 := hw5.trans (hb6.mono hw5.size)
          exact ⟨rfl, hw6.trans (hb7.mono hw6.size)⟩
        · exact absurd hlim hn
      · have hS60 : S.length ≤ 60 := by omega
        go_wp2_with fail
        refine HP4.out.mono ?_
        rintro e w5 ⟨⟨hn, _⟩ | ⟨_, Aq, cq, rfl, iq⟩, hb5⟩
        · exact absurd hn hlim
        · have hw5 := hw4.trans (hb5.mono hw4.size)
          have HE6 := Lib.hid (HEz.out w5 hw5)
          have ip5 := ip.below hb5
          have HSt := Lib.hid (fun V (hV : Below w5.heap.size w5 V) => Steps_any (c := cq) (d := cp) (m := S.length) (iq.below hV) (ip5.below hV) (by rw [length_flatS]; exact Nat.le_refl _) (by omega))
          clear HP4 HE5 HE4 HEz HEr HEz2 hlim ip iq ip5
          go_wp2_with (first | (go_at_call 7; with_reducible refine HE6.out.mono ?_; rintro e w6 ⟨rfl, hb6⟩) | (go_at_call 18; with_reducible refine (HSt.out _ hb6).mono ?_; rintro e w7 ⟨rfl, hb7⟩))
          go_ret
          have hw6 := hw5.trans (hb6.mono hw5.size)
          exact ⟨rfl, hw6.trans (hb7.mono hw6.size)⟩
  · have HC := Lib.hid (fun V (hV : Below w.heap.size w V) => Can_bad (c := c) (hL.below hV) rfl nL ⟨br, bw, bo⟩ hz)
    have HP := Lib.hid (fun V (hV : Below w.heap.size w V) => Plan_bad (c := c) (hL.below hV) rfl nL ⟨br, bw, bo⟩ hz)
    have HA := Lib.hid HA
    have HE6 := Lib.hid (fun V (hV : Below w.heap.size w V) => by have := HEr.out V hV (askCode L right who over); rw [errVal_pos hz] at this; exact this)
    have d0 : (((askCode L right who over : Nat) : Int) == 0) = false := beq_eq_false_iff_ne.2 (by omega)
    clear hL hz hE
    generalize askCode L right who over = code at *
    go_enter Tryd.func4, Tryd.ntmps4
    go_wp2_with (go_at_call 13; with_reducible refine HA.out.mono ?_; rintro e w' ⟨rfl, rfl⟩)
    refine (HC.out w (Below.refl _ _)).mono ?_
    rintro e w2 ⟨rfl, hw2⟩
    have HE7 := Lib.hid (HE6.out w2 hw2)
    go_wp2_with (go_at_call 7; with_reducible refine HE7.out.mono ?_; rintro e w3 ⟨rfl, hb3⟩)
    have hw3 := hw2.trans (hb3.mono hw2.size)
    refine (HP.out w3 hw3).mono ?_
    rintro e w4 ⟨rfl, hb4⟩
    have hw4 := hw3.trans (hb4.mono hw3.size)
    have HE8 := Lib.hid (HE6.out w4 hw4)
    clear HE7
    go_wp2_with (first | (go_at_call 7; with_reducible refine HE8.out.mono ?_; rintro e w5 ⟨rfl, hb5⟩) | (go_at_call 18; with_reducible refine (HS0.out _).mono ?_; rintro e w6 ⟨rfl, hb6⟩))
    go_ret
    have hw5 := hw4.trans (hb5.mono hw4.size)
    exact ⟨rfl, hw5.trans (hb6.mono hw5.size)⟩
end Go.Proofs.YtpfmllpodjcldaaDoor
