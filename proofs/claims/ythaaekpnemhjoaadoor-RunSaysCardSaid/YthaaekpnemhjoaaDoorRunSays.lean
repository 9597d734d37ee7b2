/-
  The walk of RunSays.
-/
import Derived.Test.YthaaekpnemhjoaaDoorPrE
import Derived.Test.YthaaekpnemhjoaaDoorAs
import Derived.Test.YthaaekpnemhjoaaDoorInts
import Derived.Test.YthaaekpnemhjoaaDoorFrame
namespace Go.Proofs.YthaaekpnemhjoaaDoor
open Go.RowKit
set_option maxRecDepth 100000
set_option linter.unusedVariables false

section
variable {P : List Int} {n : Nat} {A : Option Addr} {c : Nat} {w : World} {L : List Int} {Al : Option Addr} {cl : Nat} {fuel : Int}
theorem nilInts (V : World) : Calls Tryd.prog 13 #[.slice none 0 0, .slice none 0 0] V fun e w' => e = .returned (.bool true) ∧ ∃ q, w' = V.drewN q := by
  have := Ints_any [] [] none none 0 0 V IntsAt.nil IntsAt.nil (by decide)
  simpa using this
set_option maxHeartbeats 2000000 in
theorem RunSays_bad (h : NodesAt w A P n) (hL : IntsAt w Al L) (hE : ErrT w) {k : Nat} (hk : runCode P n L fuel = k) (hne : k ≠ 0) :
    Calls Tryd.prog 6 #[.slice A n c, .slice Al L.length cl, .int .i64 fuel] w fun e w' => e = .returned (.bool true) ∧ Below w.heap.size w w' := by
  have C1 := RRunning_any (c := c) (cl := cl) (fuel := fuel) h hL
  have C2 := fun V (hV : Below w.heap.size w V) => (RunCheck_any (c := c) (cl := cl) fuel (h.below (B := 0) hV) (hL.below hV)).mono fun e w' ⟨he, hb⟩ => (⟨he, hV.trans (hb.mono hV.size)⟩ : _ ∧ Below w.heap.size w w')
  rw [hk] at C1 C2
  rw [errVal_pos hne] at C2
  have C1 := Lib.hid C1
  have C2 := Lib.hid C2
  have CE := fun V (hV : Below w.heap.size w V) => (Error_is k k true V (hE.next hV) (by simp)).mono fun e w' ⟨he, hb⟩ => (⟨he, hV.trans (hb.mono hV.size)⟩ : _ ∧ Below w.heap.size w w')
  rw [errVal_pos hne] at CE
  have CE := Lib.hid CE
  have C3 := Lib.hid (fun V (hV : Below w.heap.size w V) => (Run_bad (c := c) (cl := cl) (h.below (B := 0) hV) (hL.below hV) hk hne).mono fun e w' ⟨he, hb⟩ => (⟨he, hV.trans (hb.mono hV.size)⟩ : _ ∧ Below w.heap.size w w'))
  have C4 := Lib.hid nilInts
  have dk : ((k : Int) == 0) = false := by simp; omega
  clear hk hne h hL hE
  generalize L.length = m at *
  go_enter Tryd.func6, Tryd.ntmps6
  go_wp2_with fail
  refine C1.out.mono ?_
  rintro e w1 ⟨rfl, hb1⟩
  go_wp2_with fail
  refine (C2.out _ hb1).mono ?_
  rintro e w2 ⟨rfl, hb2⟩
  go_wp2_with fail
  refine (CE.out _ hb2).mono ?_
  rintro e w3 ⟨rfl, hb3⟩
  go_wp2_with fail
  refine (C3.out _ hb3).mono ?_
  rintro e w4 ⟨rfl, hb4⟩
  go_wp2_with fail
  refine (CE.out _ hb4).mono ?_
  rintro e w5 ⟨rfl, hb5⟩
  go_wp2_with fail
  refine (C4.out _).mono ?_
  rintro e w6 ⟨rfl, q, rfl⟩
  go_wp2_with fail
  go_ret
  exact ⟨rfl, belowD hb5 _⟩
set_option maxHeartbeats 2000000 in
theorem RunSays_ok {v : List Nat} {l : Nat} {s : St} (h : NodesAt w A P n) (hL : IntsAt w Al (castL v)) (hE : ErrT w) (hk : runCode P n (castL v) l = 0) (hv : Vars v) (hs : IsSt P (n - 1) s) :
    Calls Tryd.prog 6 #[.slice A n c, .slice Al 6 cl, .int .i64 l] w fun e w' => e = .returned (.bool true) ∧ Below w.heap.size w w' := by
  obtain ⟨hc, -, l2, hl2, hl5⟩ := runCode_ok hk
  have hl5 : l ≤ 5000 := by omega
  obtain ⟨⟨hn1, hn80⟩, -, -⟩ := progCode_tree hc
  have h6 : (castL v).length = 6 := by rw [length_castL, hv.1]
  have C1 := RRunning_any (c := c) (cl := cl) (fuel := (l : Int)) h hL
  have C2 := fun V (hV : Below w.heap.size w V) => (RunCheck_any (c := c) (cl := cl) (l : Int) (h.below (B := 0) hV) (hL.below hV)).mono fun e w' ⟨he, hb⟩ => (⟨he, hV.trans (hb.mono hV.size)⟩ : _ ∧ Below w.heap.size w w')
  rw [hk, h6] at C1 C2
  rw [errVal_zero] at C2
  have C1 := Lib.hid C1
  have C2 := Lib.hid C2
  have CE0 := Lib.hid (fun V (hV : Below w.heap.size w V) => ((Error_is 0 0 true V (hE.next hV) (by simp) : Calls Tryd.prog 17 #[.nilIface, .int .i64 0] V _)).mono fun e w' ⟨he, hb⟩ => (⟨he, hb, hV.trans (hb.mono hV.size)⟩ : _ ∧ Below V.heap.size V w' ∧ Below w.heap.size w w'))
  have CE4 := Lib.hid (fun V (hV : Below w.heap.size w V) => ((Error_is 4 4 true V (hE.next hV) (by simp) : Calls Tryd.prog 17 #[.iface 62 (.int .i64 4), .int .i64 4] V _)).mono fun e w' ⟨he, hb⟩ => (⟨he, hV.trans (hb.mono hV.size)⟩ : _ ∧ Below w.heap.size w w'))
  have CR := fun V (hV : Below w.heap.size w V) => (RRun_any (c := c) (cl := cl) (h.below (B := 0) hV) (hL.below hV) hv hl5 hs hn1 hn80).mono fun e w' ⟨he, hb⟩ => (⟨he, hV.trans (hb.mono hV.size)⟩ : _ ∧ Below w.heap.size w w')
  have C3 := fun V (hV : Below w.heap.size w V) => (Run_ok (c := c) (cl := cl) (h.below (B := 0) hV) (hL.below hV) hk hv hs).mono fun e w' ⟨he, hb⟩ => (⟨he, hb, hV.trans (hb.mono hV.size)⟩ : _ ∧ Below V.heap.size V w' ∧ Below w.heap.size w w')
  have C4 := Lib.hid nilInts
  cases hr : s.run v l with
  | none =>
    rw [hr] at C3 CR
    have C3 := Lib.hid C3
    have CR := Lib.hid CR
    clear hk h hL hE hv hs hr hc hl2 h6
    go_enter Tryd.func6, Tryd.ntmps6
    go_wp2_with fail
    refine C1.out.mono ?_
    rintro e w1 ⟨rfl, hb1⟩
    go_wp2_with fail
    refine (C2.out _ hb1).mono ?_
    rintro e w2 ⟨rfl, hb2⟩
    go_wp2_with fail
    refine (CE0.out _ hb2).mono ?_
    rintro e w3 ⟨rfl, -, hb3⟩
    go_wp2_with fail
    refine (CR.out _ hb3).mono ?_
    rintro e w4 ⟨rfl, hb4⟩
    go_wp2_with fail
    refine (C3.out _ hb4).mono ?_
    rintro e w5 ⟨rfl, -, hb5⟩
    go_wp2_with fail
    refine (CE4.out _ hb5).mono ?_
    rintro e w6 ⟨rfl, hb6⟩
    go_wp2_with fail
    refine (C4.out _).mono ?_
    rintro e w7 ⟨rfl, q, rfl⟩
    go_wp2_with fail
    go_ret
    exact ⟨rfl, belowD hb6 _⟩
  | some r =>
    obtain ⟨v', l'⟩ := r
    rw [hr] at C3 CR
    have C3 := Lib.hid C3
    have CR := Lib.hid CR
    have h6' : (castL v').length = 6 := by rw [length_castL, (St.run_vars hs.ok hr hv).1]
    have C5 := Lib.hid (fun V B B2 c3 c4 (h1 : IntsAt V B (castL v')) (h2 : IntsAt V B2 (castL v')) => by
      have := Ints_any (castL v') (castL v') B2 B c4 c3 V h2 h1 (by rw [h6']; decide)
      rw [h6'] at this
      simpa using this)
    clear hk h hL hE hv hs hr hc hl2 h6 h6'
    go_enter Tryd.func6, Tryd.ntmps6
    go_wp2_with fail
    refine C1.out.mono ?_
    rintro e w1 ⟨rfl, hb1⟩
    go_wp2_with fail
    refine (C2.out _ hb1).mono ?_
    rintro e w2 ⟨rfl, hb2⟩
    go_wp2_with fail
    refine (CE0.out _ hb2).mono ?_
    rintro e w3 ⟨rfl, -, hb3⟩
    go_wp2_with fail
    refine (CR.out _ hb3).mono ?_
    rintro e w4 ⟨⟨B1, c1, rfl, hi1⟩, hb4⟩
    go_wp2_with fail
    refine (C3.out _ hb4).mono ?_
    rintro e w5 ⟨⟨B2, c2, rfl, hi2⟩, hb45, hb5⟩
    go_wp2_with fail
    refine (CE0.out _ hb5).mono ?_
    rintro e w6 ⟨rfl, hb56, hb6⟩
    go_wp2_with fail
    refine (C5.out _ _ _ _ _ ((hi1.below hb45).below hb56) (hi2.below hb56)).mono ?_
    rintro e w7 ⟨rfl, q, rfl⟩
    go_wp2_with fail
    go_ret
    exact ⟨ret_bool (by simp), belowD hb6 _⟩
end

theorem RunSays_walk (n : Nat) (P : List Int) (A : Option Addr) (c : Nat) {W : World} (hn : P.length = n * 5) (hP : IntsAt W A P) (sP : n * 5 < 2 ^ 47) (bP : ∀ x ∈ P, I64 x) (L : List Int) (Al : Option Addr) (cl : Nat) (hL : IntsAt W Al L) (sL : L.length < 2 ^ 47) (bL : ∀ x ∈ L, I64 x) (fuel : Int) (bf : I64 fuel) (w : World) (hw : w = W) (hE : ErrT W) :
    Calls Tryd.prog 6 #[.slice A n c, .slice Al L.length cl, .int .i64 fuel] w fun e w' => e = .returned (.bool true) ∧ Below W.heap.size W w' := by
  subst hw
  have h : NodesAt w A P n := ⟨hP, hn, by omega⟩
  obtain ⟨k, hk⟩ : ∃ k, runCode P n L fuel = k := ⟨_, rfl⟩
  by_cases hne : k = 0
  · subst hne
    obtain ⟨hc, ⟨v, rfl, hv⟩, l, rfl, hl⟩ := runCode_ok hk
    obtain ⟨-, -, s, hs⟩ := progCode_tree hc
    have h6 : (castL v).length = 6 := by rw [length_castL, hv.1]
    rw [h6]
    exact RunSays_ok h hL hE hk hv hs
  · exact RunSays_bad h hL hE hk hne
end Go.Proofs.YthaaekpnemhjoaaDoor
