/-
  The walk of ProgBack.
-/
import Derived.Test.YtdgncngkalgknaaDoorAgainW
import Derived.BigQuiet
namespace Go.Proofs.YtdgncngkalgknaaDoor
open Go.RowKit
set_option maxRecDepth 100000
set_option linter.unusedVariables false
theorem runCode_both {P P2 : List Int} {n n2 : Nat} {L : List Int} {fuel : Int} (h : progCode P n = 0) (h2 : progCode P2 n2 = 0) : runCode P n L fuel = runCode P2 n2 L fuel := by
  unfold runCode
  rw [if_pos h, if_pos h2]
theorem quietN {P : Program} {f : FuncId} {args : Array Value} {w : World} {v : Value} {n : Nat} (h : Calls P f args (w.drewN n) fun e w' => e = .returned v ∧ ∃ m, w' = (w.drewN n).drewN m) : Calls P f args (w.drewN n) fun e w'' => e = .returned v ∧ ∃ m, w'' = w.drewN m :=
  h.mono fun _ _ ⟨he, m, hm⟩ => ⟨he, n + m, by rw [hm, World.drewN_drewN]⟩
theorem sameIntsQ (l : List Int) (h6 : l.length = 6) (V : World) (B B2 : Option Addr) (c3 c4 : Nat) (h1 : IntsAt V B l) (h2 : IntsAt V B2 l) : Calls Tryd.prog 15 #[.slice B 6 c3, .slice B2 6 c4] V fun e w' => e = .returned (.bool true) ∧ ∃ n, w' = V.drewN n := by
  have := Ints_any l l B B2 c3 c4 V h1 h2 (by rw [h6]; decide)
  rw [h6] at this
  exact this.mono fun e w' ⟨he, hw⟩ => ⟨by rw [he]; simp, hw⟩
section
variable {P P2 : List Int} {n n2 c c2 : Nat} {A A2 : Option Addr} {w : World} {L : List Int} {Al : Option Addr} {cl : Nat} {fuel : Int} {s t : St}
/-- Two programs that do the same. -/
theorem Run_twice (h : NodesAt w A P n) (h2 : NodesAt w A2 P2 n2) (hL : IntsAt w Al L) (hc : progCode P n = 0) (hc2 : progCode P2 n2 = 0) (hs : IsSt P (n - 1) s) (hs2 : IsSt P2 (n2 - 1) t) (hr : ∀ v l, t.run v l = s.run v l) :
    (∃ k : Nat, (∀ V, Below w.heap.size w V → Calls Tryd.prog 14 #[.slice A n c, .slice Al L.length cl, .int .i64 fuel] V fun e w' => RunErr w e w' k) ∧ (∀ V, Below w.heap.size w V → Calls Tryd.prog 14 #[.slice A2 n2 c2, .slice Al L.length cl, .int .i64 fuel] V fun e w' => RunErr w e w' k)) ∨
    (∃ (v : List Nat) (b : Nat), v.length = 6 ∧ L.length = 6 ∧ (∀ V, Below w.heap.size w V → Calls Tryd.prog 14 #[.slice A n c, .slice Al L.length cl, .int .i64 fuel] V fun e w' => RunEnd w V e w' b v) ∧ (∀ V, Below w.heap.size w V → Calls Tryd.prog 14 #[.slice A2 n2 c2, .slice Al L.length cl, .int .i64 fuel] V fun e w' => RunEnd w V e w' b v)) := by
  obtain ⟨k, hk⟩ : ∃ k, runCode P n L fuel = k := ⟨_, rfl⟩
  have hk2 := hk
  rw [runCode_both hc hc2] at hk2
  by_cases hne : k = 0
  · subst hne
    obtain ⟨-, ⟨v, rfl, hv⟩, l, rfl, hl⟩ := runCode_ok hk
    have h6 : (castL v).length = 6 := by rw [length_castL, hv.1]
    have hR := fun V (hV : Below w.heap.size w V) => Run_ok (c := c) (cl := cl) (h.below (B := 0) hV) (hL.below hV) hk hv hs
    have hR2 := fun V (hV : Below w.heap.size w V) => Run_ok (c := c2) (cl := cl) (h2.below (B := 0) hV) (hL.below hV) hk2 hv hs2
    rw [hr] at hR2
    cases hr : s.run v l with
    | none =>
      rw [hr] at hR hR2
      rw [h6]
      exact .inl ⟨4, fun V hV => (hR V hV).mono fun e w' ⟨he, hb⟩ => ⟨he, hV.trans (hb.mono hV.size)⟩, fun V hV => (hR2 V hV).mono fun e w' ⟨he, hb⟩ => ⟨he, hV.trans (hb.mono hV.size)⟩⟩
    | some q =>
      obtain ⟨v', l'⟩ := q
      rw [hr] at hR hR2
      rw [h6]
      exact .inr ⟨v', l - l', (St.run_vars hs.ok hr hv).1, rfl, fun V hV => (hR V hV).mono fun e w' ⟨he, hb⟩ => ⟨he, hb, hV.trans (hb.mono hV.size)⟩, fun V hV => (hR2 V hV).mono fun e w' ⟨he, hb⟩ => ⟨he, hb, hV.trans (hb.mono hV.size)⟩⟩
  · exact .inl ⟨k, fun V hV => (Run_bad (c := c) (cl := cl) (h.below (B := 0) hV) (hL.below hV) hk hne).mono fun e w' ⟨he, hb⟩ => ⟨he, hV.trans (hb.mono hV.size)⟩, fun V hV => (Run_bad (c := c2) (cl := cl) (h2.below (B := 0) hV) (hL.below hV) hk2 hne).mono fun e w' ⟨he, hb⟩ => ⟨he, hV.trans (hb.mono hV.size)⟩⟩
set_option maxHeartbeats 4000000 in
theorem PB_err {k : Nat} (hP : Pow10 w.heap.size w) (hW : ∀ V, Below w.heap.size w V → Calls Tryd.prog 27 #[.slice A n c] V fun e w' => e = .returned (.tuple #[.string .empty, .iface 61 (.int .i64 k)]) ∧ Below w.heap.size w w') :
    Calls Tryd.prog 12 #[.slice A n c, .slice Al L.length cl] w fun e w' => e = .returned (.bool true) ∧ Below w.heap.size w w' := by
  have C0 := Lib.hid (progFact_any hP)
  have C1 := Lib.hid hW
  clear hP hW
  generalize L.length = m at *
  go_enter Tryd.func12, Tryd.ntmps12
  go_wp2_with fail
  refine C0.out.mono ?_
  rintro e w1 ⟨rfl, hb1⟩
  go_wp2_with fail
  refine (C1.out _ hb1).mono ?_
  rintro e w2 ⟨rfl, hb2⟩
  go_wp2_with fail
  go_ret
  exact ⟨rfl, hb2⟩
variable {T : ByteArray}
set_option maxHeartbeats 4000000 in
theorem PB_full (hP : Pow10 w.heap.size w) (hE : ErrT w) (hN : ∀ V, Below w.heap.size w V → NumErrs V) (hW : ∀ V, Below w.heap.size w V → Calls Tryd.prog 27 #[.slice A n c] V fun e w' => e = .returned (.tuple #[.string T, .nilIface]) ∧ Below w.heap.size w w') (h : readP T = .bad 4) :
    Calls Tryd.prog 12 #[.slice A n c, .slice Al L.length cl] w fun e w' => e = .returned (.bool true) ∧ Below w.heap.size w w' := by
  have C0 := Lib.hid (progFact_any hP)
  have C1 := Lib.hid hW
  have C2 := Lib.hid (Read_wrong hP hN h)
  have CE := Lib.hid (fun V (hV : Below w.heap.size w V) => ((Error_is 4 4 true V (hE.next hV) (by simp) : Calls Tryd.prog 23 #[.iface 61 (.int .i64 4), .int .i64 4] V _)).mono fun e w' ⟨he, hb⟩ => (⟨he, hV.trans (hb.mono hV.size)⟩ : e = Ending.returned (.bool true) ∧ Below w.heap.size w w'))
  clear hP hW hE hN h
  generalize L.length = m at *
  go_enter Tryd.func12, Tryd.ntmps12
  go_wp2_with fail
  refine C0.out.mono ?_
  rintro e w1 ⟨rfl, hb1⟩
  go_wp2_with fail
  refine (C1.out _ hb1).mono ?_
  rintro e w2 ⟨rfl, hb2⟩
  go_wp2_with fail
  refine (C2.out _ hb2).mono ?_
  rintro e w3 ⟨rfl, hb3⟩
  go_wp2_with fail
  refine (CE.out _ hb3).mono ?_
  rintro e w4 ⟨rfl, hb4⟩
  go_wp2_with fail
  go_ret
  exact ⟨rfl, hb4⟩
set_option maxHeartbeats 8000000 in
theorem PB_runs {i m : Nat} {l : List UInt8} {o : List Int} (hP : Pow10 w.heap.size w) (hN : ∀ V, Below w.heap.size w V → NumErrs V) (h : NodesAt w A P (m + 1)) (hc : progCode P (m + 1) = 0) (hs : IsSt P m s) (hL : IntsAt w Al L) (hT : T.data.toList = s.text) (h300 : T.size ≤ 300)
    (hr : readP T = .good i l o) (ho : IsSt o i s.norm) :
    Calls Tryd.prog 12 #[.slice A (m + 1) c, .slice Al L.length cl] w fun e w' => e = .returned (.bool true) ∧ Below w.heap.size w w' := by
  obtain ⟨-, -, -, hc2, -⟩ := readP_good hr
  have C0 := Lib.hid (progFact_any hP)
  have C1 := fun (V : World) (hV : Below w.heap.size w V) => Write_good (c := c) (hP.at hV) (h.below (B := 0) hV) hc hs
  rw [wrT_short hT h300] at C1
  have C1 := Lib.hid C1
  have C2 := Lib.hid (Read_right hP hN hr)
  have HW := fun (V : World) (A : Option Addr) (c : Nat) (hV : Below w.heap.size w V) (hA : NodesAt V A o (i + 1)) => Write_good (c := c) (hP.at hV) hA hc2 ho
  rw [text_norm, wrT_short hT h300] at HW
  have HW := Lib.hid HW
  have HC := fun (V : World) (A : Option Addr) (c : Nat) (hA : NodesAt V A o (i + 1)) => PCheck_any (c := c) hA
  rw [hc2, errVal_zero] at HC
  have HC := Lib.hid HC
  have HR := Lib.hid (fun (V : World) (A2 : Option Addr) (c2 : Nat) (hV : Below w.heap.size w V) (hA : NodesAt V A2 o (i + 1)) => Run_twice (n := m + 1) (n2 := i + 1) (c := c) (c2 := c2) (cl := cl) (fuel := 300) (s := s) (t := s.norm) (h.below (B := 0) hV) hA (hL.below hV) hc hc2 hs ho (fun v l => run_norm s v l))
  clear hP hN h hc hs hL hT h300 hr ho hc2
  generalize hm1 : m + 1 = m1 at *
  generalize hi1 : i + 1 = i1 at *
  clear hm1 hi1
  go_enter Tryd.func12, Tryd.ntmps12
  go_wp2_with fail
  refine C0.out.mono ?_
  rintro e w1 ⟨rfl, hb1⟩
  go_wp2_with fail
  refine (C1.out _ hb1).mono ?_
  rintro e w2 ⟨rfl, hb2⟩
  have hb2 := hb1.trans (hb2.mono hb1.size)
  go_wp2_with fail
  refine (C2.out _ hb2).mono ?_
  rintro e w3 ⟨⟨A2, c2, rfl, hA⟩, -, hb3⟩
  have HA := Lib.hid hA
  have HB3 := Lib.hid hb3
  clear C0 C1 C2 hA hb1 hb2 hb3
  have C3 := Lib.hid (HW.out w3 A2 c2 HB3.out HA.out)
  go_wp2_with fail
  refine C3.out.mono ?_
  rintro e w4 ⟨rfl, hb4⟩
  have HA := Lib.hid (HA.out.below (B := 0) hb4)
  have HB4 := Lib.hid (HB3.out.trans (hb4.mono HB3.out.size))
  clear C3 hb4 HB3 HW
  have C4 := Lib.hid (HC.out w4 A2 c2 HA.out)
  go_wp2_with fail
  refine C4.out.mono ?_
  rintro e w5 ⟨rfl, hb5⟩
  have HA := Lib.hid (HA.out.below (B := 0) hb5)
  have HB5 := Lib.hid (HB4.out.trans (hb5.mono HB4.out.size))
  clear C4 hb5 HB4 HC
  rcases HR.out w5 A2 c2 HB5.out HA.out with ⟨k, R1, R2⟩ | ⟨v, b, hv, h6, R1, R2⟩
  · have C5 := Lib.hid (R1 _ (Below.refl _ _))
    have C6 := Lib.hid R2
    have CI := Lib.hid (fun (V : World) => ((Ints_any [] [] none none 0 0 V IntsAt.nil IntsAt.nil (by decide)).mono fun e w' ⟨he, hw⟩ => (⟨by rw [he]; simp, hw⟩ : e = Ending.returned (.bool true) ∧ ∃ n, w' = V.drewN n) : Calls Tryd.prog 15 #[.slice none 0 0, .slice none 0 0] V _))
    clear R1 R2 HR
    generalize L.length = q at *
    go_wp2_with fail
    refine C5.out.mono ?_
    rintro e w6 ⟨rfl, hb6⟩
    go_wp2_with fail
    refine (C6.out _ hb6).mono ?_
    rintro e w7 ⟨rfl, hb7⟩
    have HB7 := Lib.hid (HB5.out.trans (hb7.mono HB5.out.size))
    clear hb6 hb7
    go_wp2_with fail
    go_quiet (with_reducible exact quietN (CI.out _))
    go_wp2_with fail
    go_ret
    exact ⟨rfl, belowD HB7.out _⟩
  · have C5 := R1 _ (Below.refl _ _)
    have C6 := R2
    rw [h6] at C5 C6 ⊢
    have C5 := Lib.hid C5
    have C6 := Lib.hid C6
    have CI := Lib.hid (fun V B1 B2 cc1 cc2 (h1 : IntsAt V B1 (castL v)) (h2 : IntsAt V B2 (castL v)) => sameIntsQ (castL v) (by rw [length_castL, hv]) V B1 B2 cc1 cc2 h1 h2)
    clear R1 R2 HR h6
    go_wp2_with fail
    refine C5.out.mono ?_
    rintro e w6 ⟨⟨B6, c6, rfl, hi6⟩, -, hb6⟩
    have Hi6 := Lib.hid hi6
    clear hi6
    go_wp2_with fail
    refine (C6.out _ hb6).mono ?_
    rintro e w7 ⟨⟨B7, c7, rfl, hi7⟩, hd7, hb7⟩
    have HB7 := Lib.hid (HB5.out.trans (hb7.mono HB5.out.size))
    have C7 := Lib.hid (fun n => CI.out (w7.drewN n) B6 B7 c6 c7 ((Hi6.out.below hd7).below (belowD (Below.refl _ _) n)) (hi7.below (belowD (Below.refl _ _) n)))
    clear hb6 hb7 hi7 hd7
    go_wp2_with fail
    go_quiet (with_reducible exact quietN (C7.out _))
    go_wp2_with fail
    go_ret
    exact ⟨rfl, belowD HB7.out _⟩
end
theorem ProgBack_walk (n : Nat) (P : List Int) (A : Option Addr) (c : Nat) {W : World} (hn : P.length = n * 5) (h : IntsAt W A P) (s0 : n * 5 < 2 ^ 47) (b0 : ∀ x ∈ P, I64 x) (L : List Int) (Al : Option Addr) (cl : Nat) (hL : IntsAt W Al L) (s1 : L.length < 2 ^ 47) (b1 : ∀ x ∈ L, I64 x)
    (w : World) (hw : w = W) (hP : Pow10 W.heap.size W) (hE : ErrT W) (hN : ∀ V, Below W.heap.size W V → NumErrs V) :
    Calls Tryd.prog 12 #[.slice A n c, .slice Al L.length cl] w fun e w' => e = .returned (.bool true) ∧ Below W.heap.size W w' := by
  subst hw
  have hA : NodesAt w A P n := ⟨h, hn, by omega⟩
  obtain ⟨k, hk⟩ : ∃ k, progCode P n = k := ⟨_, rfl⟩
  by_cases hne : k = 0
  · subst hne
    obtain ⟨⟨hn1, -⟩, -, s, hs⟩ := progCode_tree hk
    obtain ⟨m, rfl⟩ : ∃ m, n = m + 1 := ⟨n - 1, by omega⟩
    have hs : IsSt P m s := hs
    by_cases hl : s.text.length ≤ 300
    · have hT : (⟨s.text.toArray⟩ : ByteArray).data.toList = s.text := by simp
      have h300 : (⟨s.text.toArray⟩ : ByteArray).size ≤ 300 := by simpa [ByteArray.size] using hl
      rcases readP_text (s := ⟨s.text.toArray⟩) hs.ok hT with hr | ⟨i, o, hr, ho⟩
      · refine PB_full hP hE hN (fun V hV => ?_) hr
        have := Write_good (c := c) (hP.at hV) (hA.below (B := 0) hV) hk hs
        rw [wrT_short hT h300] at this
        exact this.mono fun e w' ⟨he, hb⟩ => ⟨he, hV.trans (hb.mono hV.size)⟩
      · exact PB_runs hP hN hA hk hs hL hT h300 hr ho
    · refine PB_err (k := 4) hP (fun V hV => ?_)
      have := Write_good (c := c) (hP.at hV) (hA.below (B := 0) hV) hk hs
      unfold wrT at this
      rw [if_neg hl] at this
      exact this.mono fun e w' ⟨he, hb⟩ => ⟨he, hV.trans (hb.mono hV.size)⟩
  · exact PB_err hP (fun V hV => (Write_bad (c := c) (hA.below (B := 0) hV) hk hne).mono fun e w' ⟨he, hb⟩ => ⟨he, hV.trans (hb.mono hV.size)⟩)
end Go.Proofs.YtdgncngkalgknaaDoor
