/-
  The walk of ProgJoins.
-/
import Derived.Test.YtdgncngkalgknaaDoorRunFact
import Derived.Test.YtdgncngkalgknaaDoorTxM
import Derived.Test.YtdgncngkalgknaaDoorAs
import Derived.Test.YtdgncngkalgknaaDoorInts
import Derived.Test.YtdgncngkalgknaaDoorFrame
import Derived.Deep.QuietTactic
namespace Go.Proofs.YtdgncngkalgknaaDoor
open Go.RowKit
set_option maxRecDepth 100000
set_option linter.unusedVariables false

section
theorem sameInts (l : List Int) (h6 : l.length = 6) (V : World) (B B2 : Option Addr) (c3 c4 : Nat) (h1 : IntsAt V B l) (h2 : IntsAt V B2 l) : Calls Tryd.prog 15 #[.slice B 6 c3, .slice B2 6 c4] V fun e w' => e = .returned (.bool true) ∧ Below V.heap.size V w' := by
  have := Ints_any l l B B2 c3 c4 V h1 h2 (by rw [h6]; decide)
  rw [h6] at this
  exact this.mono fun e w' ⟨he, q, hw⟩ => ⟨by rw [he]; simp, by rw [hw]; exact belowD (Below.refl _ _) _⟩
variable {w : World} {s t : ByteArray}
theorem Pow10.at {V : World} (hP : Pow10 w.heap.size w) (hV : Below w.heap.size w V) : Pow10 V.heap.size V := hP.next hV hV.size (Nat.le_refl _)
theorem Read_wrong {k : Nat} (hP : Pow10 w.heap.size w) (hN : ∀ V, Below w.heap.size w V → NumErrs V) (h : readP s = .bad k) (V : World) (hV : Below w.heap.size w V) :
    Calls Tryd.prog 13 #[.string s] V fun e w' => e = .returned (.tuple #[.slice none 0 0, .iface 61 (.int .i64 k)]) ∧ Below w.heap.size w w' := by
  refine (Read_any (s := s) (hP.at hV) fun U hU => hN U (hV.trans (hU.mono hV.size))).mono fun e w' g => ?_
  unfold ReadSaid at g
  rw [h] at g
  exact ⟨g.1, hV.trans (g.2.mono hV.size)⟩
theorem Read_right {i : Nat} {l : List UInt8} {o : List Int} (hP : Pow10 w.heap.size w) (hN : ∀ V, Below w.heap.size w V → NumErrs V) (h : readP s = .good i l o) (V : World) (hV : Below w.heap.size w V) :
    Calls Tryd.prog 13 #[.string s] V fun e w' => (∃ A c, e = .returned (.tuple #[.slice A (i + 1) c, .nilIface]) ∧ NodesAt w' A o (i + 1)) ∧ Below V.heap.size V w' ∧ Below w.heap.size w w' := by
  refine (Read_any (s := s) (hP.at hV) fun U hU => hN U (hV.trans (hU.mono hV.size))).mono fun e w' g => ?_
  unfold ReadSaid at g
  rw [h] at g
  obtain ⟨⟨A, n, c, he, hl, _, hi⟩, hb⟩ := g
  obtain ⟨-, hl2, hi80, -⟩ := readP_good h
  obtain rfl : n = i + 1 := by omega
  exact ⟨⟨A, c, he, hi, hl2, by omega⟩, hb, hV.trans (hb.mono hV.size)⟩
theorem Read_some (hP : Pow10 w.heap.size w) (hN : ∀ V, Below w.heap.size w V → NumErrs V) (V : World) (hV : Below w.heap.size w V) :
    Calls Tryd.prog 13 #[.string s] V fun e w' => (∃ x y, e = .returned (.tuple #[x, y])) ∧ Below w.heap.size w w' := by
  cases h : readP s with
  | bad k => exact (Read_wrong hP hN h V hV).mono fun e w' ⟨he, hb⟩ => ⟨⟨_, _, he⟩, hb⟩
  | good i l o => exact (Read_right hP hN h V hV).mono fun e w' ⟨⟨A, c, he, _⟩, _, hb⟩ => ⟨⟨_, _, he⟩, hb⟩
theorem runCode_of {P : List Int} {n : Nat} {v : List Nat} {l : Nat} (hc : progCode P n = 0) (hv : Vars v) (hl : l ≤ 5000) : runCode P n (castL v) l = 0 := by
  unfold runCode
  rw [if_pos hc, if_pos (by rw [length_castL, hv.1]), if_pos, if_pos (by omega)]
  rw [List.all_eq_true]
  intro x hx
  unfold castL at hx
  rw [List.mem_map] at hx
  obtain ⟨y, hy, rfl⟩ := hx
  obtain ⟨j, hj⟩ := List.getElem?_of_mem hy
  have := hv.2 j
  rw [List.getD_eq_getElem?_getD, hj] at this
  unfold valOk
  simp at this ⊢
  omega
variable {L : List Int} {Al : Option Addr} {cl : Nat}
set_option maxHeartbeats 4000000 in
theorem PJ_bad1 {k : Nat} (hs : s.size + t.size ≤ 9223372036854775807) (hP : Pow10 w.heap.size w) (hN : ∀ V, Below w.heap.size w V → NumErrs V) (h : readP s = .bad k) :
    Calls Tryd.prog 9 #[.string s, .string t, .slice Al L.length cl] w fun e w' => e = .returned (.bool true) ∧ Below w.heap.size w w' := by
  have C0 := Lib.hid (progFact_any hP)
  have C1 := Lib.hid (Read_wrong hP hN h)
  have C2 := Lib.hid (fun V hV => Read_some (s := t) hP hN V hV)
  have C3 := Lib.hid (fun V hV => Read_some (s := s ++ t) hP hN V hV)
  have hsz : ¬ (9223372036854775807 < s.size + t.size) := by omega
  clear hP hN h hs
  generalize L.length = m at *
  go_enter Tryd.func9, Tryd.ntmps9
  go_wp2_with fail
  refine C0.out.mono ?_
  rintro e w1 ⟨rfl, hb1⟩
  go_wp2_with fail
  refine (C1.out _ hb1).mono ?_
  rintro e w2 ⟨rfl, hb2⟩
  go_wp2_with fail
  refine (C2.out _ hb2).mono ?_
  rintro e w3 ⟨⟨x, y, rfl⟩, hb3⟩
  go_wp2_with fail
  refine (C3.out _ hb3).mono ?_
  rintro e w4 ⟨⟨x4, y4, rfl⟩, hb4⟩
  go_wp2_with fail
  go_ret
  exact ⟨rfl, hb4⟩
set_option maxHeartbeats 4000000 in
theorem PJ_bad2 {k i : Nat} {l : List UInt8} {o : List Int} (hs : s.size + t.size ≤ 9223372036854775807) (hP : Pow10 w.heap.size w) (hN : ∀ V, Below w.heap.size w V → NumErrs V) (h : readP s = .good i l o) (g : readP t = .bad k) :
    Calls Tryd.prog 9 #[.string s, .string t, .slice Al L.length cl] w fun e w' => e = .returned (.bool true) ∧ Below w.heap.size w w' := by
  have C0 := Lib.hid (progFact_any hP)
  have C1 := Lib.hid (Read_right hP hN h)
  have C2 := Lib.hid (Read_wrong hP hN g)
  have C3 := Lib.hid (fun V hV => Read_some (s := s ++ t) hP hN V hV)
  have hsz : ¬ (9223372036854775807 < s.size + t.size) := by omega
  clear hP hN h hs g
  generalize L.length = m at *
  go_enter Tryd.func9, Tryd.ntmps9
  go_wp2_with fail
  refine C0.out.mono ?_
  rintro e w1 ⟨rfl, hb1⟩
  go_wp2_with fail
  refine (C1.out _ hb1).mono ?_
  rintro e w2 ⟨⟨A, c, rfl, hA⟩, -, hb2⟩
  go_wp2_with fail
  refine (C2.out _ hb2).mono ?_
  rintro e w3 ⟨rfl, hb3⟩
  go_wp2_with fail
  refine (C3.out _ hb3).mono ?_
  rintro e w4 ⟨⟨x4, y4, rfl⟩, hb4⟩
  go_wp2_with fail
  go_ret
  exact ⟨rfl, hb4⟩
set_option maxHeartbeats 4000000 in
theorem PJ_full {i j : Nat} {l l2 : List UInt8} {o o2 : List Int} (hs : s.size + t.size ≤ 9223372036854775807) (hP : Pow10 w.heap.size w) (hE : ErrT w) (hN : ∀ V, Below w.heap.size w V → NumErrs V) (h : readP s = .good i l o) (g : readP t = .good j l2 o2) (hj : readP (s ++ t) = .bad 4) :
    Calls Tryd.prog 9 #[.string s, .string t, .slice Al L.length cl] w fun e w' => e = .returned (.bool true) ∧ Below w.heap.size w w' := by
  have C0 := Lib.hid (progFact_any hP)
  have C1 := Lib.hid (Read_right hP hN h)
  have C2 := Lib.hid (Read_right hP hN g)
  have C3 := Lib.hid (Read_wrong hP hN hj)
  have CE := Lib.hid (fun V (hV : Below w.heap.size w V) => ((Error_is 4 4 true V (hE.next hV) (by simp) : Calls Tryd.prog 23 #[.iface 61 (.int .i64 4), .int .i64 4] V _)).mono fun e w' ⟨he, hb⟩ => (⟨he, hV.trans (hb.mono hV.size)⟩ : e = Ending.returned (.bool true) ∧ Below w.heap.size w w'))
  have hsz : ¬ (9223372036854775807 < s.size + t.size) := by omega
  clear hP hN h hs g hj hE
  generalize L.length = m at *
  go_enter Tryd.func9, Tryd.ntmps9
  go_wp2_with fail
  refine C0.out.mono ?_
  rintro e w1 ⟨rfl, hb1⟩
  go_wp2_with fail
  refine (C1.out _ hb1).mono ?_
  rintro e w2 ⟨⟨A, c, rfl, hA⟩, -, hb2⟩
  go_wp2_with fail
  refine (C2.out _ hb2).mono ?_
  rintro e w3 ⟨⟨A2, c2, rfl, hA2⟩, -, hb3⟩
  go_wp2_with fail
  refine (C3.out _ hb3).mono ?_
  rintro e w4 ⟨rfl, hb4⟩
  go_wp2_with fail
  refine (CE.out _ hb4).mono ?_
  rintro e w5 ⟨rfl, hb5⟩
  go_wp2_with fail
  go_ret
  exact ⟨rfl, hb5⟩
set_option maxHeartbeats 8000000 in
theorem PJ_runs {i j k : Nat} {l l2 l3 : List UInt8} {o o2 o3 : List Int} {x y : St} (hs : s.size + t.size ≤ 9223372036854775807) (hL : IntsAt w Al L) (hP : Pow10 w.heap.size w) (hN : ∀ V, Below w.heap.size w V → NumErrs V)
    (h : readP s = .good i l o) (g : readP t = .good j l2 o2) (hj : readP (s ++ t) = .good k l3 o3) (hx : IsSt o i x) (hy : IsSt o2 j y) (hz : IsSt o3 k (St.both x y).norm) :
    Calls Tryd.prog 9 #[.string s, .string t, .slice Al L.length cl] w fun e w' => e = .returned (.bool true) ∧ Below w.heap.size w w' := by
  have C0 := Lib.hid (progFact_any hP)
  have C1 := Lib.hid (Read_right hP hN h)
  have C2 := Lib.hid (Read_right hP hN g)
  have C3 := Lib.hid (Read_right hP hN hj)
  have hsz : ¬ (9223372036854775807 < s.size + t.size) := by omega
  obtain ⟨-, -, -, hc1, -⟩ := readP_good h
  obtain ⟨-, -, -, hc2, -⟩ := readP_good g
  obtain ⟨-, -, -, hc3, -⟩ := readP_good hj
  have Hc := Lib.hid (And.intro hc1 (And.intro hc2 hc3))
  have HX := Lib.hid (And.intro hx (And.intro hy hz))
  have HL := Lib.hid hL
  clear hP hN h hs g hj hx hy hz hc1 hc2 hc3 hL
  go_enter Tryd.func9, Tryd.ntmps9
  go_wp2_with fail
  refine C0.out.mono ?_
  rintro e w1 ⟨rfl, hb1⟩
  go_wp2_with fail
  refine (C1.out _ hb1).mono ?_
  rintro e w2 ⟨⟨A, c, rfl, hA⟩, -, hb2⟩
  have HA := Lib.hid hA
  go_wp2_with fail
  refine (C2.out _ hb2).mono ?_
  rintro e w3 ⟨⟨A2, c2, rfl, hA2⟩, hd3, hb3⟩
  have HA := Lib.hid (HA.out.below (B := 0) hd3)
  have HA2 := Lib.hid hA2
  go_wp2_with fail
  refine (C3.out _ hb3).mono ?_
  rintro e w4 ⟨⟨A3, c3, rfl, hA3⟩, hd4, hb4⟩
  have HA := Lib.hid (HA.out.below (B := 0) hd4)
  have HA2 := Lib.hid (HA2.out.below (B := 0) hd4)
  have HA3 := Lib.hid hA3
  have HB := Lib.hid hb4
  have HL4 := Lib.hid (HL.out.below hb4)
  clear C0 C1 C2 C3 hA hA2 hA3 hb1 hb2 hb3 hd3 hd4 hb4 HL
  rcases Run_cases (c := c) (cl := cl) (fuel := 200) (s := x) HA.out HL4.out (fun _ => HX.out.1) with ⟨q, hq, hR⟩ | ⟨v, l1, x', l1', ⟨hLv, h6, hl200, hv, -, hr, hv'⟩, hR⟩
  · have CR := Lib.hid (hR _ (Below.refl _ _))
    clear hR
    generalize L.length = m at *
    go_wp2_with fail
    refine CR.out.mono ?_
    rintro e w5 ⟨rfl, hb5⟩
    have HB5 := Lib.hid (HB.out.trans (hb5.mono HB.out.size))
    clear hb5
    go_wp2_with fail
    go_ret
    exact ⟨rfl, HB5.out⟩
  · have CR := Lib.hid (hR _ (Below.refl _ _))
    have HR := Lib.hid (And.intro hr (And.intro hl200 (And.intro hv hv')))
    have HLv := Lib.hid hLv
    have H6 := Lib.hid h6
    clear hR hr hl200 hv hv' hLv
    rw [h6] at CR
    rw [h6]
    clear h6
    generalize hbn : l1 - l1' = b1 at *
    have Hbn := Lib.hid hbn
    clear hbn
    go_wp2_with fail
    refine CR.out.mono ?_
    rintro e w5 ⟨⟨B, cB, rfl, hiB⟩, -, hb5⟩
    have HA2 := Lib.hid (HA2.out.below (B := 0) hb5)
    have HA3 := Lib.hid (HA3.out.below (B := 0) hb5)
    have HL5 := Lib.hid (HL4.out.below hb5)
    have HB5 := Lib.hid (HB.out.trans (hb5.mono HB.out.size))
    have HiB := Lib.hid hiB
    have hb0 : (castL x').length = 6 := by rw [length_castL, HR.out.2.2.2.1]
    clear hb5 hiB CR
    rcases Run_cases (c := c2) (cl := cB) (fuel := 200) (s := y) HA2.out HiB.out (fun _ => HX.out.2.1) with ⟨q, hq, hR2⟩ | ⟨v2, l2', z, l2'', ⟨hLv2, -, hl200b, hv2, -, hr2, hvz⟩, hR2⟩
    · have CR2 := Lib.hid (hR2 _ (Below.refl _ _))
      rw [hb0] at CR2
      have C4 := Run_some (c := c3) (cl := cl) (fuel := 400) (s := (St.both x y).norm) HA3.out HL5.out (fun _ => HX.out.2.2)
      rw [H6.out] at C4
      have C4 := Lib.hid C4
      clear hR2 hb0
      go_wp2_with fail
      refine CR2.out.mono ?_
      rintro e w6 ⟨rfl, hb6⟩
      go_wp2_with fail
      refine (C4.out _ hb6).mono ?_
      rintro e w7 ⟨⟨z1, z2, z3, rfl⟩, hb7⟩
      have HB7 := Lib.hid (HB5.out.trans (hb7.mono HB5.out.size))
      clear hb6 hb7
      go_wp2_with fail
      go_ret
      exact ⟨rfl, HB7.out⟩
    · have CR2 := Lib.hid (hR2 _ (Below.refl _ _))
      rw [hb0] at CR2
      obtain ⟨hr, hl200, hv, hv'⟩ := HR.out
      obtain rfl : x' = v2 := castL_inj hLv2
      obtain rfl : l1 = 200 := by omega
      obtain rfl : l2' = 200 := by omega
      have e1 := St.left _ _ _ _ hr
      have e2 := St.left _ _ _ _ hr2
      have hb1 := Hbn.out
      have hrun := join_run hr hr2 400 (by omega)
      have C4 := fun (V : World) (hV : Below w5.heap.size w5 V) => (Run_ok (c := c3) (cl := cl) (l := 400) (s := (St.both x y).norm) (HA3.out.below (B := 0) hV) ((HLv.out ▸ HL5.out : IntsAt w5 Al (castL v)).below hV) (runCode_of Hc.out.2.2 hv (by decide)) hv HX.out.2.2)
      rw [hrun] at C4
      have C4 := Lib.hid (fun V hV => show Calls Tryd.prog 14 #[.slice A3 (k + 1) c3, .slice Al 6 cl, .int .i64 400] V (fun e w' => (∃ B c', e = .returned (.tuple #[.slice B 6 c', .int .i64 ((400 - (400 - (200 - l1' + (200 - l2''))) : Nat) : Int), .nilIface]) ∧ IntsAt w' B (castL z)) ∧ Below V.heap.size V w') from C4 V hV)
      have hsum : ((400 - (400 - (200 - l1' + (200 - l2''))) : Nat) : Int) = ((200 - l1' : Nat) : Int) + ((200 - l2'' : Nat) : Int) := by omega
      have hb2 : 200 - l2'' ≤ 200 := by omega
      generalize 400 - (400 - (200 - l1' + (200 - l2''))) = b3 at *
      generalize 200 - l2'' = b2 at *
      have hz6 : (castL z).length = 6 := by rw [length_castL, hvz.1]
      have CI := Lib.hid (fun V B1 B2 cc1 cc2 (h1 : IntsAt V B1 (castL z)) (h2 : IntsAt V B2 (castL z)) => sameInts (castL z) hz6 V B1 B2 cc1 cc2 h1 h2)
      rw [hb1] at hsum
      have hlt : b1 ≤ 200 := by omega
      have dk : decide ((b3 : Int) = (b1 : Int) + (b2 : Int)) = true := by simpa using hsum
      have dk' : b3 = b1 + b2 := by omega
      subst dk'
      clear hR2 hb0 hrun hr hr2 e1 e2 hsum hz6 hvz hb1 Hbn hLv2 HR hl200 hl200b hv hv' hv2
      go_wp2_with fail
      refine CR2.out.mono ?_
      rintro e w6 ⟨⟨B6, c6, rfl, hi6⟩, -, hb6⟩
      have Hi6 := Lib.hid hi6
      clear hi6
      go_wp2_with fail
      refine (C4.out _ hb6).mono ?_
      rintro e w7 ⟨⟨B7, c7, rfl, hi7⟩, hb7⟩
      have hb57 := hb6.trans (hb7.mono hb6.size)
      have HB7 := Lib.hid (HB5.out.trans (hb57.mono HB5.out.size))
      have C5 := Lib.hid (CI.out w7 B7 B6 c7 c6 hi7 (Hi6.out.below hb7))
      clear hb6 hb7 hi7 hb57
      go_wp2_with fail
      refine C5.out.mono ?_
      rintro e w8 ⟨rfl, hb8⟩
      have HB8 := Lib.hid (HB7.out.trans (hb8.mono HB7.out.size))
      clear hb8
      go_wp2_with fail
      go_ret
      exact ⟨rfl, HB8.out⟩
end
theorem ProgJoins_walk (s : ByteArray) (hs : s.size < 2 ^ 47) (t : ByteArray) (ht : t.size < 2 ^ 47) (L : List Int) (Al : Option Addr) (cl : Nat) {W : World} (hL : IntsAt W Al L) (s1 : L.length < 2 ^ 47) (b1 : ∀ x ∈ L, I64 x)
    (w : World) (hw : w = W) (hP : Pow10 W.heap.size W) (hE : ErrT W) (hN : ∀ V, Below W.heap.size W V → NumErrs V) :
    Calls Tryd.prog 9 #[.string s, .string t, .slice Al L.length cl] w fun e w' => e = .returned (.bool true) ∧ Below W.heap.size W w' := by
  subst hw
  have hst : s.size + t.size ≤ 9223372036854775807 := by omega
  cases h : readP s with
  | bad k => exact PJ_bad1 hst hP hN h
  | good i l o =>
    cases g : readP t with
    | bad k => exact PJ_bad2 hst hP hN h g
    | good j l2 o2 =>
      obtain ⟨x, y, hx, hy, hj | ⟨k, o3, hj, hz⟩⟩ := readP_join h g
      · exact PJ_full hst hP hE hN h g hj
      · exact PJ_runs hst hL hP hN h g hj hx hy hz
end Go.Proofs.YtdgncngkalgknaaDoor
