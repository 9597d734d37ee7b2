/-
  The walks of TakeSound and TakeStays.
-/
import Derived.Test.YtpfmllpodjcldaaTakeL
import Derived.Test.YtpfmllpodjcldaaLeafW
namespace Go.Proofs.Ytpfmllpodjcldaa
open Go.RowKit
set_option maxRecDepth 100000
set_option linter.unusedVariables false

abbrev threeW (w : World) (x00 x01 x02 x10 x11 x12 x20 x21 x22 : Int) : World :=
  (((w.alloc (.cells #[.int .i64 x00, .int .i64 x01, .int .i64 x02] 3)).alloc (.cells #[.int .i64 x10, .int .i64 x11, .int .i64 x12] 3)).alloc (.cells #[.int .i64 x20, .int .i64 x21, .int .i64 x22] 3)).alloc
    (.cells #[.slice (some ⟨w.heap.size, 0, none⟩) 3 3, .slice (some ⟨w.heap.size + 1, 0, none⟩) 3 3, .slice (some ⟨w.heap.size + 1 + 1, 0, none⟩) 3 3] 31)
theorem box_at (w : World) (t : TypeId) (vs : Array Value) (p : Nat) (hp : p = w.heap.size) : BoxN (w.alloc (.cells vs t)) p t vs := by subst hp; exact BoxN.new w t vs
theorem three_laid (w : World) (x00 x01 x02 x10 x11 x12 x20 x21 x22 : Int) : RowsIn anyB 1 (threeW w x00 x01 x02 x10 x11 x12 x20 x21 x22) (some ⟨w.heap.size + 1 + 1 + 1, 0, none⟩) [[x00, x01, x02], [x10, x11, x12], [x20, x21, x22]] :=
  rows_three ((((BoxN.new w _ _).alloc _).alloc _).alloc _) (((box_at _ _ _ (w.heap.size + 1) (by simp)).alloc _).alloc _) ((box_at _ _ _ (w.heap.size + 1 + 1) (by simp)).alloc _) (box_at _ _ _ (w.heap.size + 1 + 1 + 1) (by simp))
theorem three_below (w : World) (x00 x01 x02 x10 x11 x12 x20 x21 x22 : Int) : Below w.heap.size w (threeW w x00 x01 x02 x10 x11 x12 x20 x21 x22) :=
  ((((Below.refl _ w).alloc (Nat.le_refl _) _).alloc (by simp) _).alloc (by simp; omega) _).alloc (by simp; omega) _
set_option maxHeartbeats 4000000 in
theorem takeFact_true (w : World) : Calls Try.prog 5 #[] w fun e w' => e = .returned (.bool true) ∧ Below w.heap.size w w' := by
  have H1 := Lib.hid (Can_ok (c := 3) (n := 3) (three_laid w 0 1 0 0 0 4 0 0 0) rfl factYes_ok (kb := 2) (who := 0) (over := 2) (by decide) (by decide) (by decide) (by decide))
  have H2 := Lib.hid (fun V => Can_ok (c := 3) (n := 3) (three_laid V 0 0 0 0 0 4 0 0 0) rfl factNo_ok (kb := 2) (who := 0) (over := 2) (by decide) (by decide) (by decide) (by decide))
  have hb1 := three_below w 0 1 0 0 0 4 0 0 0
  go_enter Try.func5, Try.ntmps5
  go_wp2_with fail
  refine H1.out.mono ?_
  rintro e w2 ⟨⟨b, rfl, hbt⟩, hb2⟩
  obtain rfl : b = true := hbt.2 factYes_can
  have hw2 := hb1.trans (hb2.mono hb1.size)
  have hb3 := three_below w2 0 0 0 0 0 4 0 0 0
  clear hb1 hb2 hbt H1
  go_wp2_with fail
  refine (H2.out w2).mono ?_
  rintro e w3 ⟨⟨b, rfl, hbt⟩, hb4⟩
  obtain rfl : b = false := by
    cases b with
    | false => rfl
    | true => exact absurd (hbt.1 rfl) factNo_cannot
  have hw3 := hw2.trans ((hb3.trans (hb4.mono hb3.size)).mono hw2.size)
  clear hb3 hb4 hw2 hbt H2
  go_wp2_with fail
  go_ret
  exact ⟨rfl, hw3⟩

theorem PlayPost.form {w : World} {L : List (List Int)} {S : List Int} {m : Nat} {e : Ending} {w' : World} (h : PlayPost w L S m e w') : (∃ a i k, e = .returned (.tuple #[a, i, .iface 36 k])) ∨
    (gCode L = 0 ∧ m ≤ 60 ∧ (∀ j, j < m → playCode L S j = 0) ∧ ∃ A' n' c', n' = (playG L S m).length ∧ e = .returned (.tuple #[.slice A' n' c', .int .i64 0, .nilIface]) ∧ GridAt w.heap.size w' (.slice A' n' c') (playG L S m)) := by
  rcases h with ⟨_, h⟩ | ⟨_, _, h⟩ | ⟨_, _, i, _, _, _, h⟩ | h
  · exact .inl ⟨_, _, _, h⟩
  · exact .inl ⟨_, _, _, h⟩
  · exact .inl ⟨_, _, _, h⟩
  · exact .inr h
theorem within_pow {x kb : Nat} {b : Bool} (h : x.testBit kb = b) : within (2 ^ kb) x = b := by
  subst h
  rw [Bool.eq_iff_iff, within_iff]
  constructor
  · intro h; exact h kb (by rw [Nat.testBit_two_pow]; simp)
  · intro h i hi
    rw [Nat.testBit_two_pow] at hi
    have : kb = i := by simpa using hi
    subst this; exact h

set_option maxHeartbeats 8000000 in
theorem TakeSound_walk (L : List (List Int)) (A : Option Addr) (c : Nat) {W : World} (hL : RowsIn anyB 1 W A L) (nL : L.length ≤ maxLen) (m : Nat) (S : List Int) (As : Option Addr) (cs : Nat) (hS5 : S.length = m * 5) (hS : IntsAt W As S) (hs : m * 5 < 2 ^ 47) (bS : ∀ x ∈ S, I64 x)
    (right : Int) (br : I64 right) (who : Int) (bw : I64 who) (over : Int) (bo : I64 over) (w : World) (hw : w = W) :
    Calls Try.prog 3 #[.slice A L.length c, .slice As m cs, .int .i64 right, .int .i64 who, .int .i64 over] w fun e w' => e = .returned (.bool true) ∧ Below W.heap.size W w' := by
  subst hw
  have nL2 : L.length ≤ 9223372036854775807 := by unfold maxLen at nL; omega
  have HP := Lib.hid (fun V (hV : Below w.heap.size w V) => Play_any (c := c) (cs := cs) (hL.below hV) rfl nL (hS.below hV) (Nat.le_of_eq hS5.symm) hs)
  by_cases hz : askCode L right who over = 0
  · obtain ⟨wn, on, kb, hok, rfl, rfl, rfl, hk, hwn, hon, hne⟩ := askCode_zero hz
    have HC := Lib.hid (fun V (hV : Below w.heap.size w V) => Can_ok (c := c) (hL.below hV) rfl hok hk hwn hon hne)
    have Hok := Lib.hid hok
    clear hL hS hz
    have Hlen := Lib.hid (show L.length ≤ 20 from hok.few)
    have Hcan := Lib.hid (gCan_iff (L := L) (kb := kb) (who := wn) (over := on) hwn)
    have Hwn := Lib.hid hwn
    have Hon := Lib.hid hon
    have Hp2 := Lib.hid (show 2 ^ kb < 2 ^ 62 from Nat.pow_lt_pow_right (by decide) (by omega))
    have Hkb := Lib.hid (fun x b (h : x.testBit kb = b) => within_pow (x := x) (kb := kb) h)
    generalize 2 ^ kb = r at *
    generalize hnn : L.length = n at *
    go_enter Try.func3, Try.ntmps3
    go_wp2_with fail
    refine (takeFact_true w).mono ?_
    rintro e w1 ⟨rfl, hb1⟩
    go_wp2_with fail
    refine (HC.out w1 hb1).mono ?_
    rintro e w2 ⟨⟨b, rfl, hbt⟩, hb2⟩
    have hw2 := hb1.trans (hb2.mono hb1.size)
    go_wp2_with fail
    refine (HP.out w2 hw2).mono ?_
    rintro e w3 ⟨hp, hb3⟩
    have hw3 := hw2.trans (hb3.mono hw2.size)
    clear HC HP hb1 hb2 hb3
    rcases hp.form with ⟨a, i, k, rfl⟩ | ⟨h0, h60, hall, A', n', c', hn', rfl, hg⟩
    · go_wp2_with fail
      go_ret
      exact ⟨rfl, hw3⟩
    · obtain ⟨h1, h2⟩ := play_law Hok.out hall
      have hle : L.length ≤ (playG L S m).length := h2.can.1
      have hsnd := fun h => h2.sound (k := kb) (who := wn) (over := on) (by show wn < L.length; rw [hnn]; exact Hwn.out) (by show on < L.length; rw [hnn]; exact Hon.out) h
      obtain ⟨b0, gs, cc, rfl, _, hcell⟩ := grid_all hg h1 hn'.symm (by have := Hwn.out; omega)
      have c0 := (hcell wn (by have := Hwn.out; omega)).1
      have c1 := ((hcell wn (by have := Hwn.out; omega)).2.2.1 on (by have := Hon.out; omega)).1
      have hx8 := h1.lt (x := wn) (y := on) (by have := Hwn.out; omega) (by have := Hon.out; omega)
      have hwn' : wn < n' := by have := Hwn.out; omega
      have hon' : on < n' := by have := Hon.out; omega
      have hnn' : n ≤ n' := by omega
      have hn20 : n' ≤ 20 := by rw [hn']; exact h1.few
      clear hcell hg hall hp h2 hle hn' h1
      cases b with
      | true =>
        clear hsnd hbt
        generalize gN (playG L S m) wn on = x at *
        go_wp2_with fail
        go_ret
        exact ⟨rfl, hw3⟩
      | false =>
        have hb : (gN (playG L S m) wn on).testBit kb = false := by
          cases h : (gN (playG L S m) wn on).testBit kb with
          | false => rfl
          | true => exact absurd (hbt.2 (Hcan.out.2 (by rw [← hnn]; exact hsnd h))) (by simp)
        have HW := Lib.hid (fun V => Within_is r (gN (playG L S m) wn on) false V Hp2.out (by omega) (Hkb.out _ _ hb))
        clear hsnd hb hbt
        generalize gN (playG L S m) wn on = x at *
        go_wp2_with (go_at_call 8; with_reducible refine (HW.out _).mono ?_; rintro e w' ⟨rfl, rfl⟩)
        go_ret
        exact ⟨rfl, hw3⟩
  · have HC := Lib.hid (fun V (hV : Below w.heap.size w V) => Can_bad (c := c) (hL.below hV) rfl nL ⟨br, bw, bo⟩ hz)
    clear hL hS hz
    generalize askCode L right who over = code at *
    go_enter Try.func3, Try.ntmps3
    go_wp2_with fail
    refine (takeFact_true w).mono ?_
    rintro e w1 ⟨rfl, hb1⟩
    go_wp2_with fail
    refine (HC.out w1 hb1).mono ?_
    rintro e w2 ⟨rfl, hb2⟩
    have hw2 := hb1.trans (hb2.mono hb1.size)
    go_wp2_with fail
    refine (HP.out w2 hw2).mono ?_
    rintro e w3 ⟨hp, hb3⟩
    have hw3 := hw2.trans (hb3.mono hw2.size)
    rcases hp.form with ⟨a, i, k, rfl⟩ | ⟨h0, h60, hall, A', n', c', hn', rfl, hg⟩
    · go_wp2_with fail
      go_ret
      exact ⟨rfl, hw3⟩
    · go_wp2_with fail
      go_ret
      exact ⟨rfl, hw3⟩
end Go.Proofs.Ytpfmllpodjcldaa
