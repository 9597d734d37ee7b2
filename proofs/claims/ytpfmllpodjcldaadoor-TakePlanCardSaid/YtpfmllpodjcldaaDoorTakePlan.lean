/-
  The walk of TakePlan.
-/
import Derived.Test.YtpfmllpodjcldaaDoorTakePlanM
import Derived.Test.YtpfmllpodjcldaaDoorTakeFact
import Derived.Test.YtpfmllpodjcldaaDoorAs
namespace Go.Proofs.YtpfmllpodjcldaaDoor
open Go.RowKit
set_option maxRecDepth 100000
set_option linter.unusedVariables false

theorem pow_few {kb : Nat} (h : kb < 3) : 1 ≤ 2 ^ kb ∧ 2 ^ kb ≤ 7 := by
  have : kb = 0 ∨ kb = 1 ∨ kb = 2 := by omega
  rcases this with rfl | rfl | rfl <;> decide
theorem bit_pow_sub {kb x : Nat} (h : x.testBit kb = true) : Sub (2 ^ kb) x := fun i hi => by
  rw [Nat.testBit_two_pow] at hi
  have : kb = i := by simpa using hi
  subst this; exact h
/-- Of a plan: it can be done, and the first one has the right. -/
theorem plan_law {L : List (List Int)} (hL : GOk L) {kb who over : Nat} (hk : kb < 3) (hw : who < L.length) (ho : over < L.length) (hne : who ≠ over) {p : List Nat} {x : Nat} (h1 : WayTo (gE L) who p x) (h2 : gGood L kb over x) (h3 : ∀ p' x', WayTo (gE L) who p' x' → gGood L kb over x' → SLe p p')
    (hf : (planFrom L over (2 ^ kb : Nat) p (p.length - 1) ([], L.length)).2 ≤ 20) : PInv L over (2 ^ kb) who (planFrom L over (2 ^ kb : Nat) p (p.length - 1) ([], L.length)) := by
  have hnd := least_nodup h1 h2 h3
  have hlt := way_lt hw (fun x y h => h.2.1) h1
  have hp := h1.pos
  have h0 : PInv L over (2 ^ kb) (p.getD (p.length - 1) 0) ([], L.length) := ⟨trivial, Grew.refl hL, rfl, by rw [h1.last]; exact bit_pow_sub h2⟩
  have := planFrom_ok (way := p) hL ho (pow_few hk) (fun i hi => hlt _ (getD_mem hi)) (fun i hi => h1.step i hi) (fun i j hi hj e => nodup_getD hnd hi hj e) (by rw [h1.head]; exact hne) (p.length - 1) ([], L.length) (by omega) h0 hf
  rw [h1.head] at this
  exact this

set_option maxHeartbeats 16000000 in
theorem TakePlan_walk (L : List (List Int)) (A : Option Addr) (c : Nat) {W : World} (hL : RowsIn anyB 1 W A L) (nL : L.length ≤ maxLen) (right : Int) (br : I64 right) (who : Int) (bw : I64 who) (over : Int) (bo : I64 over) (w : World) (hw : w = W) (hE : ErrT W) :
    Calls Tryd.prog 6 #[.slice A L.length c, .int .i64 right, .int .i64 who, .int .i64 over] w fun e w' => e = .returned (.bool true) ∧ Below W.heap.size W w' := by
  subst hw
  have nL2 : L.length ≤ 9223372036854775807 := by unfold maxLen at nL; omega
  by_cases hz : askCode L right who over = 0
  · obtain ⟨wn, on, kb, hok, rfl, rfl, rfl, hk, hwn, hon, hne⟩ := askCode_zero hz
    have HC := Lib.hid (fun V (hV : Below w.heap.size w V) => Can_ok (c := c) (hL.below hV) rfl hok hk hwn hon hne)
    have HP := Lib.hid (fun V (hV : Below w.heap.size w V) => Plan_ok (c := c) (hL.below hV) rfl hok hk hwn hon hne)
    have HPlay := Lib.hid (fun V (hV : Below w.heap.size w V) (S : List GStep) As cs (hS : IntsAt V As (flatS S)) (hlen : S.length ≤ 60) => Play_any (c := c) (cs := cs) (m := S.length) (hL.below hV) rfl nL hS (by rw [length_flatS]; omega) (by omega))
    have Hok := Lib.hid hok
    have Hwn := Lib.hid hwn
    have Hon := Lib.hid hon
    have Hne := Lib.hid hne
    have Hk := Lib.hid hk
    have Hlaw := Lib.hid (fun p x h1 h2 h3 hf => plan_law hok hk hwn hon hne (p := p) (x := x) h1 h2 h3 hf)
    have HE4 := Lib.hid (show ∀ V, Below w.heap.size w V → Calls Tryd.prog 7 #[.iface 59 (.int .i64 4), .int .i64 4] V (fun e w' => e = .returned (.bool true) ∧ Below V.heap.size V w') from fun V hV => Error_is 4 4 true V (hE.next hV) (by decide))
    have Hp2 := Lib.hid (show 2 ^ kb < 2 ^ 62 from Nat.pow_lt_pow_right (by decide) (by omega))
    have Hkb := Lib.hid (fun x b (h : x.testBit kb = b) => within_pow (x := x) (kb := kb) h)
    have Hbit := Lib.hid (show (2 ^ kb).testBit kb = true by rw [Nat.testBit_two_pow]; simp)
    obtain ⟨nn, hnn⟩ : ∃ nn, L.length = nn := ⟨_, rfl⟩
    have Hnn := Lib.hid hnn
    obtain ⟨r, hr⟩ : ∃ r, 2 ^ kb = r := ⟨_, rfl⟩
    rw [hr] at HC HP Hp2 Hkb Hbit br ⊢
    have Hr := Lib.hid hr
    rw [hnn] at HC HP HPlay nL nL2 ⊢
    clear hL hE hz hok hr hnn
    go_enter Tryd.func6, Tryd.ntmps6
    go_wp2_with fail
    refine (takeFact_true w).mono ?_
    rintro e w1 ⟨rfl, hb1⟩
    go_wp2_with fail
    refine (HC.out w1 hb1).mono ?_
    rintro e w2 ⟨⟨b, rfl, hbt⟩, hb2⟩
    have hw2 := hb1.trans (hb2.mono hb1.size)
    go_wp2_with fail
    refine (HP.out w2 hw2).mono ?_
    rintro e w3 ⟨hp, hb3⟩
    have hw3 := hw2.trans (hb3.mono hw2.size)
    clear HC HP hb1 hb2 hb3
    rcases hp with ⟨p, x, h1, h2, h3, hres⟩ | ⟨rfl, hno⟩
    · obtain rfl : b = true := hbt.2 ⟨p, x, h1, h2⟩
      rw [Hr.out, Hnn.out] at hres
      rcases hres with ⟨_, rfl⟩ | ⟨hf, A2, c2, rfl, iS⟩
      · have HE5 := Lib.hid (HE4.out w3 hw3)
        clear hbt Hlaw HPlay HE4 h1 h2 h3
        go_wp2_with (go_at_call 7; with_reducible refine HE5.out.mono ?_; rintro e w4 ⟨rfl, hb4⟩)
        go_ret
        exact ⟨rfl, hw3.trans (hb4.mono hw3.size)⟩
      · have hlaw := Hlaw.out p x h1 h2 h3
        rw [Hr.out, Hnn.out] at hlaw
        have hlaw := hlaw (by omega)
        have hlen : (planFrom L on r p (p.length - 1) ([], nn)).1.length ≤ 60 := by omega
        clear hbt Hlaw hf h1 h2 h3
        generalize planFrom L on r p (p.length - 1) ([], nn) = fin at *
        obtain ⟨S, v⟩ := fin
        simp only at hlen iS
        have hokS : okS L S := hlaw.ok
        have hgr : Grew L (runS L S) := hlaw.grew
        have hsub : Sub r (gN (runS L S) wn on) := hlaw.has
        have HPl := Lib.hid (HPlay.out w3 hw3 S A2 c2 iS hlen)
        clear HPlay iS hlaw
        go_wp2_with fail
        refine HPl.out.mono ?_
        rintro e w4 ⟨hp, hb4⟩
        have hw4 := hw3.trans (hb4.mono hw3.size)
        obtain ⟨hc0, hplay⟩ := play_ok hokS
        rcases hp with ⟨a, _⟩ | ⟨_, a, _⟩ | ⟨_, _, i, a, _, d, _⟩ | ⟨_, _, _, A3, n3, c3, hn3, rfl, hg⟩
        · exact absurd (gCode_ok Hok.out) a
        · omega
        · exact absurd (hc0 i a) d
        rw [hplay] at hn3 hg
        obtain ⟨b0, gs, cc, rfl, _, hcell⟩ := grid_all hg hgr.ok hn3.symm (by have := hgr.len; have := Hnn.out; have := Hwn.out; omega)
        have hll := hgr.len
        have hl3 : nn ≤ n3 := by have := Hnn.out; omega
        have hw3' : wn < n3 := by have := Hwn.out; have := Hnn.out; omega
        have ho3' : on < n3 := by have := Hon.out; have := Hnn.out; omega
        have e0 := (hcell wn hw3').1
        have e1 := ((hcell wn hw3').2.2.1 on ho3').1
        have hx8 := hgr.ok.lt (x := wn) (y := on) (by omega) (by omega)
        have hn20 : n3 ≤ 20 := by rw [hn3]; exact hgr.ok.few
        have HW := Lib.hid (fun V => Within_is r (gN (runS L S) wn on) true V Hp2.out (by omega) (Hkb.out _ _ (hsub kb Hbit.out)))
        clear hcell hg hc0 hplay hn3 hll hgr hokS hsub HPl
        generalize gN (runS L S) wn on = y at *
        go_wp2_with (go_at_call 29; with_reducible refine (HW.out _).mono ?_; rintro e w' ⟨rfl, rfl⟩)
        go_ret
        exact ⟨rfl, hw4⟩
    · obtain rfl : b = false := by
        cases b with
        | false => rfl
        | true =>
          obtain ⟨p, x, h1, h2⟩ := hbt.1 rfl
          exact absurd h2 (hno p x h1)
      clear hbt hno
      go_wp2_with fail
      go_ret
      exact ⟨rfl, hw3⟩
  · have HC := Lib.hid (fun V (hV : Below w.heap.size w V) => Can_bad (c := c) (hL.below hV) rfl nL ⟨br, bw, bo⟩ hz)
    have HP := Lib.hid (fun V (hV : Below w.heap.size w V) => Plan_bad (c := c) (hL.below hV) rfl nL ⟨br, bw, bo⟩ hz)
    clear hL hz hE
    generalize askCode L right who over = code at *
    go_enter Tryd.func6, Tryd.ntmps6
    go_wp2_with fail
    refine (takeFact_true w).mono ?_
    rintro e w1 ⟨rfl, hb1⟩
    go_wp2_with fail
    refine (HC.out w1 hb1).mono ?_
    rintro e w2 ⟨rfl, hb2⟩
    have hw2 := hb1.trans (hb2.mono hb1.size)
    go_wp2_with fail
    refine (HP.out w2 hw2).mono ?_
    rintro e w3 ⟨rfl, hb3⟩
    have hw3 := hw2.trans (hb3.mono hw2.size)
    go_wp2_with fail
    go_ret
    exact ⟨rfl, hw3⟩
end Go.Proofs.YtpfmllpodjcldaaDoor
