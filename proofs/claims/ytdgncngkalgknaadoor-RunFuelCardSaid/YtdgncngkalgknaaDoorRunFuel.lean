/-
  The walk of RunFuel.
-/
import Derived.Test.YtdgncngkalgknaaDoorRunFact
import Derived.Test.YtdgncngkalgknaaDoorRunL
import Derived.Test.YtdgncngkalgknaaDoorAs
import Derived.Test.YtdgncngkalgknaaDoorFrame
namespace Go.Proofs.YtdgncngkalgknaaDoor
open Go.RowKit
set_option maxRecDepth 100000
set_option linter.unusedVariables false

theorem runCode_fuel {P : List Int} {n : Nat} {L : List Int} {fuel : Int} (h : runCode P n L fuel = 0) {m : Nat} (hm : m ≤ 5000) : runCode P n L m = 0 := by
  unfold runCode at h ⊢
  split at h
  · rename_i h1
    rw [if_pos h1]
    split at h
    · rename_i h2
      rw [if_pos h2]
      split at h
      · rename_i h3
        rw [if_pos h3, if_pos (by omega)]
      · cases h
    · cases h
  · rename_i h1; exact absurd h h1
section
variable {P : List Int} {n : Nat} {A : Option Addr} {c : Nat} {w : World} {L : List Int} {Al : Option Addr} {cl : Nat} {fuel more : Int} {s : St}
set_option maxHeartbeats 1000000 in
theorem RunFuel_err (h : NodesAt w A P n) (hL : IntsAt w Al L) (hP : Pow10 w.heap.size w) {k : Nat} (hC : ∀ V, Below w.heap.size w V → Calls Tryd.prog 14 #[.slice A n c, .slice Al L.length cl, .int .i64 fuel] V fun e w' => RunErr w e w' k) :
    Calls Tryd.prog 10 #[.slice A n c, .slice Al L.length cl, .int .i64 fuel, .int .i64 more] w fun e w' => e = .returned (.bool true) ∧ Below w.heap.size w w' := by
  have C0 := Lib.hid (runFact_any hP)
  have C1 := Lib.hid hC
  clear hC h hL hP
  generalize L.length = m at *
  go_enter Tryd.func10, Tryd.ntmps10
  go_wp2_with fail
  refine C0.out.mono ?_
  rintro e w1 ⟨rfl, hb1⟩
  go_wp2_with fail
  refine (C1.out _ hb1).mono ?_
  rintro e w2 ⟨rfl, hb2⟩
  go_wp2_with fail
  go_ret
  exact ⟨rfl, hb2⟩
set_option maxHeartbeats 4000000 in
theorem RunFuel_end {v v' : List Nat} {l l' : Nat} (h : NodesAt w A P n) (hL : IntsAt w Al (castL v)) (hP : Pow10 w.heap.size w) (hE : ErrT w) (hk : runCode P n (castL v) (l : Int) = 0) (hv : Vars v) (hs : IsSt P (n - 1) s) (hr : s.run v l = some (v', l')) (hm : I64 more) :
    Calls Tryd.prog 10 #[.slice A n c, .slice Al 6 cl, .int .i64 l, .int .i64 more] w fun e w' => e = .returned (.bool true) ∧ Below w.heap.size w w' := by
  obtain ⟨-, -, l2, hl2, hl5⟩ := runCode_ok hk
  have hl5 : l ≤ 5000 := by omega
  have hll := St.left _ _ _ _ hr
  have hbu := St.burns hr
  obtain ⟨b, hb⟩ : ∃ b, l - l' = b := ⟨_, rfl⟩
  rw [hb] at hbu
  have hbl : b ≤ l := by omega
  have C0 := Lib.hid (runFact_any hP)
  have CR := fun (m : Nat) (hm : m ≤ 5000) (V : World) (hV : Below w.heap.size w V) => (Run_ok (c := c) (cl := cl) (h.below (B := 0) hV) (hL.below hV) (runCode_fuel hk hm) hv hs).mono fun e w' (⟨he, hb⟩ : RunPost V m (s.run v m) e w') => (⟨he, hb, hV.trans (hb.mono hV.size)⟩ : _ ∧ Below V.heap.size V w' ∧ Below w.heap.size w w')
  have E1 : s.run v l = some (v', l') := hr
  have E2 : s.run v b = some (v', 0) := by rw [hbu b, burnt, if_pos (Nat.le_refl _), Nat.sub_self]
  have C1 := CR l hl5
  rw [E1] at C1
  dsimp only at C1
  rw [hb] at C1
  have C2 := CR b (by omega)
  rw [E2] at C2
  dsimp only at C2
  rw [Nat.sub_zero] at C2
  have h6 : (castL v').length = 6 := by rw [length_castL, (St.run_vars hs.ok hr hv).1]
  have CI := Lib.hid (fun V B B2 c3 c4 (h1 : IntsAt V B (castL v')) (h2 : IntsAt V B2 (castL v')) => by
      have := Ints_any (castL v') (castL v') B B2 c3 c4 V h1 h2 (by rw [h6]; decide)
      rw [h6] at this
      simpa using this)
  have CE := Lib.hid (fun V (hV : Below w.heap.size w V) => ((Error_is 4 4 true V (hE.next hV) (by simp) : Calls Tryd.prog 23 #[.iface 61 (.int .i64 4), .int .i64 4] V _)).mono fun e w' ⟨he, hb⟩ => (⟨he, hb, hV.trans (hb.mono hV.size)⟩ : _ ∧ Below V.heap.size V w' ∧ Below w.heap.size w w'))
  have C1 := Lib.hid C1
  have C2 := Lib.hid C2
  have d0 : decide ((b : Int) < 0) = false := by simp
  have d1 : decide ((b : Int) > (l : Int)) = false := by simp; omega
  have d1' : decide (l < b) = false := by simp; omega
  have HCR := Lib.hid CR
  have Hbu := Lib.hid hbu
  have Hm := Lib.hid hm
  clear CR hbu E1 E2 hr hk h hL hP hE hb hs hv h6 hll hl2 hm
  go_enter Tryd.func10, Tryd.ntmps10
  go_wp2_with fail
  refine C0.out.mono ?_
  rintro e w1 ⟨rfl, hb1⟩
  go_wp2_with fail
  refine (C1.out _ hb1).mono ?_
  rintro e w2 ⟨⟨B1, c1, rfl, hi1⟩, -, hb2⟩
  go_wp2_with fail
  refine (C2.out _ hb2).mono ?_
  rintro e w3 ⟨⟨B2, c2, rfl, hi2⟩, hb23, hb3⟩
  go_wp2_with fail
  refine (CI.out _ _ _ _ _ (hi1.below hb23) hi2).mono ?_
  rintro e w4 ⟨rfl, q, rfl⟩
  have hi3 := (hi1.below hb23).below (belowD (Below.refl w3.heap.size w3) q)
  have hb4 := belowD hb3 q
  clear hi1 hi2 hb23 hb2 hb3 C0 C1 C2
  generalize w3.drewN q = w5 at *
  by_cases hb0 : b = 0
  · have d2 : decide ((b : Int) > 0) = false := by simp; omega
    have d2' : decide (0 < b) = false := by simp; omega
    clear hb0
    by_cases hm0 : more < 0
    · have m0 : decide (more < 0) = true := by simp; omega
      go_wp2_with fail
      go_ret
      exact ⟨rfl, hb4⟩
    · obtain ⟨m, rfl⟩ := Int.eq_ofNat_of_zero_le (by omega : 0 ≤ more)
      have m0 : decide ((m : Int) < 0) = false := by simp
      by_cases hm1 : 5000 < l + m
      · have m1 : decide ((m : Int) > 5000 - (l : Int)) = true := by simp; omega
        go_wp2_with fail
        go_ret
        exact ⟨rfl, hb4⟩
      · have m1 : decide ((m : Int) > 5000 - (l : Int)) = false := by simp; omega
        have E3 : s.run v (l + m) = some (v', l + m - b) := by rw [Hbu.out (l + m), burnt, if_pos (by omega)]
        have C3 := HCR.out (l + m) (by omega) w5 hb4
        rw [E3] at C3
        dsimp only at C3
        rw [show l + m - (l + m - b) = b by omega] at C3
        have C3 := Lib.hid (show Calls Tryd.prog 14 #[.slice A n c, .slice Al 6 cl, .int .i64 ((l : Int) + (m : Int))] w5 (fun e w' => ((∃ B c', e = .returned (.tuple #[.slice B 6 c', .int .i64 (b : Nat), .nilIface]) ∧ IntsAt w' B (castL v')) ∧ Below w5.heap.size w5 w' ∧ Below w.heap.size w w')) from C3)
        have hlm : (l : Int) + (m : Int) ≤ 5000 := by omega
        clear E3 hm0 hm1
        go_wp2_with fail
        refine C3.out.mono ?_
        rintro e w8 ⟨⟨B8, c8, rfl, hi8⟩, hb78, hb8⟩
        go_wp2_with fail
        refine (CI.out _ _ _ _ _ hi8 (hi3.below hb78)).mono ?_
        rintro e w9 ⟨rfl, q9, rfl⟩
        go_wp2_with fail
        go_ret
        exact ⟨rfl, belowD hb8 _⟩
  · have d2 : decide ((b : Int) > 0) = true := by simp; omega
    have d2' : decide (0 < b) = true := by simp; omega
    have E4 : s.run v (b - 1) = none := by rw [Hbu.out (b - 1), burnt, if_neg (by omega)]
    have C4 := HCR.out (b - 1) (by omega) w5 hb4
    rw [E4] at C4
    dsimp only at C4
    rw [show ((b - 1 : Nat) : Int) = (b : Int) - 1 by omega] at C4
    have C4 := Lib.hid C4
    have hb1 : (1 : Int) ≤ (b : Int) := by omega
    have hb5k : (b : Int) ≤ 5000 := by omega
    clear E4 hb0
    go_wp2_with fail
    refine C4.out.mono ?_
    rintro e w6 ⟨rfl, hb56, hb6⟩
    have hi6 := hi3.below hb56
    clear C4
    go_wp2_with fail
    refine (CE.out _ hb6).mono ?_
    rintro e w7 ⟨rfl, hb67, hb7⟩
    have hi7 := hi6.below hb67
    clear hi6 hi3 hb56 hb67 hb6 hb4 d2 d2'
    by_cases hm0 : more < 0
    · have m0 : decide (more < 0) = true := by simp; omega
      go_wp2_with fail
      go_ret
      exact ⟨rfl, hb7⟩
    · obtain ⟨m, rfl⟩ := Int.eq_ofNat_of_zero_le (by omega : 0 ≤ more)
      have m0 : decide ((m : Int) < 0) = false := by simp
      by_cases hm1 : 5000 < l + m
      · have m1 : decide ((m : Int) > 5000 - (l : Int)) = true := by simp; omega
        go_wp2_with fail
        go_ret
        exact ⟨rfl, hb7⟩
      · have m1 : decide ((m : Int) > 5000 - (l : Int)) = false := by simp; omega
        have E3 : s.run v (l + m) = some (v', l + m - b) := by rw [Hbu.out (l + m), burnt, if_pos (by omega)]
        have C3 := HCR.out (l + m) (by omega) w7 hb7
        rw [E3] at C3
        dsimp only at C3
        rw [show l + m - (l + m - b) = b by omega] at C3
        have C3 := Lib.hid (show Calls Tryd.prog 14 #[.slice A n c, .slice Al 6 cl, .int .i64 ((l : Int) + (m : Int))] w7 (fun e w' => ((∃ B c', e = .returned (.tuple #[.slice B 6 c', .int .i64 (b : Nat), .nilIface]) ∧ IntsAt w' B (castL v')) ∧ Below w7.heap.size w7 w' ∧ Below w.heap.size w w')) from C3)
        have hlm : (l : Int) + (m : Int) ≤ 5000 := by omega
        clear E3 hm0 hm1
        go_wp2_with fail
        refine C3.out.mono ?_
        rintro e w8 ⟨⟨B8, c8, rfl, hi8⟩, hb78, hb8⟩
        go_wp2_with fail
        refine (CI.out _ _ _ _ _ hi8 (hi7.below hb78)).mono ?_
        rintro e w9 ⟨rfl, q9, rfl⟩
        go_wp2_with fail
        go_ret
        exact ⟨rfl, belowD hb8 _⟩
end
theorem RunFuel_walk (n : Nat) (P : List Int) (A : Option Addr) (c : Nat) {W : World} (hn : P.length = n * 5) (h : IntsAt W A P) (s0 : n * 5 < 2 ^ 47) (b0 : ∀ x ∈ P, I64 x) (L : List Int) (Al : Option Addr) (cl : Nat) (hL : IntsAt W Al L) (s1 : L.length < 2 ^ 47) (b1 : ∀ x ∈ L, I64 x)
    (fuel : Int) (hf : I64 fuel) (more : Int) (hm : I64 more) (w : World) (hw : w = W) (hP : Pow10 W.heap.size W) (hE : ErrT W) :
    Calls Tryd.prog 10 #[.slice A n c, .slice Al L.length cl, .int .i64 fuel, .int .i64 more] w fun e w' => e = .returned (.bool true) ∧ Below W.heap.size W w' := by
  subst hw
  have hA : NodesAt w A P n := ⟨h, hn, by omega⟩
  obtain ⟨s, hs⟩ := some_tree P n
  obtain ⟨k, hk⟩ : ∃ k, runCode P n L fuel = k := ⟨_, rfl⟩
  by_cases hne : k = 0
  · subst hne
    obtain ⟨hc, ⟨v, rfl, hv⟩, l, rfl, hl⟩ := runCode_ok hk
    have h6 : (castL v).length = 6 := by rw [length_castL, hv.1]
    cases hr : s.run v l with
    | none =>
      refine RunFuel_err hA hL hP (k := 4) fun V hV => ?_
      rw [h6]
      have := Run_ok (c := c) (cl := cl) (hA.below (B := 0) hV) (hL.below hV) hk hv (hs hc)
      rw [hr] at this
      exact this.mono fun e w' ⟨he, hb⟩ => ⟨he, hV.trans (hb.mono hV.size)⟩
    | some q =>
      rw [h6]
      exact RunFuel_end hA hL hP hE hk hv (hs hc) hr hm
  · exact RunFuel_err hA hL hP fun V hV => (Run_bad (c := c) (cl := cl) (hA.below (B := 0) hV) (hL.below hV) hk hne).mono fun e w' ⟨he, hb⟩ => ⟨he, hV.trans (hb.mono hV.size)⟩
end Go.Proofs.YtdgncngkalgknaaDoor
