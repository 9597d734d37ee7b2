/-
  The walk of SliceTwice.
-/
import Derived.Test.YtdgncngkalgknaaDoorSliceW
namespace Go.Proofs.YtdgncngkalgknaaDoor
open Go.RowKit
set_option maxRecDepth 100000
set_option linter.unusedVariables false
/-- A right program's raw tree. -/
theorem raw_of {P : List Int} {n : Nat} (h : progCode P n = 0) : ∃ m s, n = m + 1 ∧ IsRS P m s ∧ s.cnt ≤ m + 1 ∧ m + 1 ≤ 80 := by
  obtain ⟨⟨hn1, hn80⟩, -, t, ht⟩ := progCode_tree h
  obtain ⟨m, rfl⟩ : ∃ m, n = m + 1 := ⟨n - 1, by omega⟩
  obtain ⟨s, hs, -⟩ := raw_st (show IsSt P m t from ht)
  exact ⟨m, s, rfl, hs, by rw [← RS.cnt_st]; exact root_cnt h hs.is, hn80⟩
/-- What is left of it, as a program. -/
theorem left_of {P : List Int} {m u : Nat} {s : RS} (hs : IsRS P m s) (hcn : s.cnt ≤ m + 1) (h80 : m + 1 ≤ 80) : ∃ j, ((s.cut u).getD .skip).cnt = j + 1 ∧ j ≤ m ∧ progCode (((s.cut u).getD .skip).lay 0) (j + 1) = 0 ∧ IsRS (((s.cut u).getD .skip).lay 0) j ((s.cut u).getD .skip) := by
  have h1 := RS.cut0_cnt s u
  have h2 := ((s.cut u).getD .skip).pos
  have hok : ((s.cut u).getD .skip).ok := ok_getD fun x e => RS.cut_ok hs.ok e
  obtain ⟨j, hj⟩ : ∃ j, ((s.cut u).getD .skip).cnt = j + 1 := ⟨((s.cut u).getD .skip).cnt - 1, by omega⟩
  obtain ⟨h3, h4⟩ := RS.code hok (by omega)
  rw [hj] at h3 h4
  exact ⟨j, hj, by omega, h3, h4⟩
section
variable {P : List Int} {n c : Nat} {A : Option Addr} {w : World}
set_option maxHeartbeats 4000000 in
theorem ST_bad {k : Int} {q : Nat} (hP : Pow10 w.heap.size w) (hN : ∀ V, Below w.heap.size w V → NumErrs V) (h : NodesAt w A P n) (hq : sliceCode P n k = q) (h0 : q ≠ 0) :
    Calls Tryd.prog 7 #[.slice A n c, .int .i64 k] w fun e w' => e = .returned (.bool true) ∧ Below w.heap.size w w' := by
  have C0 := Lib.hid (sliceFact_any hP hN)
  have C1 := Lib.hid (fun V (hV : Below w.heap.size w V) => Cut_bad (c := c) (h.below (B := 0) hV) hq h0)
  have C2 := Lib.hid (fun V (hV : Below w.heap.size w V) => Needs_bad (c := c) (h.below (B := 0) hV) hq h0)
  clear hP hN h hq
  go_enter Tryd.func7, Tryd.ntmps7
  go_wp2_with fail
  refine C0.out.mono ?_
  rintro e w1 ⟨rfl, hb1⟩
  go_wp2_with fail
  refine (C1.out _ hb1).mono ?_
  rintro e w2 ⟨rfl, hb2⟩
  have hb2 := hb1.trans (hb2.mono hb1.size)
  go_wp2_with fail
  refine (C2.out _ hb2).mono ?_
  rintro e w3 ⟨rfl, hb3⟩
  have HB := Lib.hid (hb2.trans (hb3.mono hb2.size))
  clear hb1 hb2 hb3
  go_wp2_with fail
  go_ret
  exact ⟨rfl, HB.out⟩
set_option maxHeartbeats 4000000 in
theorem ST_good {k u : Nat} {s : RS} (hP : Pow10 w.heap.size w) (hN : ∀ V, Below w.heap.size w V → NumErrs V) (h : NodesAt w A P (n + 1)) (hc : progCode P (n + 1) = 0) (hs : IsRS P n s) (hcn : s.cnt ≤ n + 1) (h80 : n + 1 ≤ 80) (hk : k < 6) (hu : 2 ^ k = u) :
    Calls Tryd.prog 7 #[.slice A (n + 1) c, .int .i64 k] w fun e w' => e = .returned (.bool true) ∧ Below w.heap.size w w' := by
  have hu64 : u < 64 := by subst hu; exact Nat.pow_lt_pow_right (n := 6) (by decide) hk
  obtain ⟨j, hj, -, hc2, hs2⟩ := left_of (u := u) hs hcn h80
  have htw := RS.cut_twice hs.is.ok hu64
  have hnd : (((s.cut u).getD .skip).st.need u) = s.st.need u := by rw [s.cut0_st]; exact cut_need hs.is.ok hu64 (Sub.refl u)
  have C0 := Lib.hid (sliceFact_any hP hN)
  have C1 := fun V (hV : Below w.heap.size w V) => Cut_good (c := c) (h.below (B := 0) hV) hc hs hk hu
  have C2 := Lib.hid (fun V (hV : Below w.heap.size w V) => Needs_good (c := c) (h.below (B := 0) hV) hc hs hk hu)
  have C3 := fun V A' c' (hA : NodesAt V A' (((s.cut u).getD .skip).lay 0) (j + 1)) => Cut_good (c := c') hA hc2 hs2 hk hu
  have C4 := fun V A' c' (hA : NodesAt V A' (((s.cut u).getD .skip).lay 0) (j + 1)) => Needs_good (c := c') hA hc2 hs2 hk hu
  rw [htw] at C3
  rw [hnd] at C4
  rw [hj] at C1 C3
  have C1 := Lib.hid C1
  have C3 := Lib.hid C3
  have C4 := Lib.hid C4
  generalize (s.st.need u).1 = v at *
  generalize ((s.cut u).getD .skip).lay 0 = L at *
  generalize hm : n + 1 = n1 at *
  generalize hm2 : j + 1 = j1 at *
  clear hP hN h hc hs hcn h80 htw hnd hc2 hs2 hj hm hm2
  go_enter Tryd.func7, Tryd.ntmps7
  go_wp2_with fail
  refine C0.out.mono ?_
  rintro e w1 ⟨rfl, hb1⟩
  go_wp2_with fail
  refine (C1.out _ hb1).mono ?_
  rintro e w2 ⟨⟨A', c', rfl, hA'⟩, hb2⟩
  have hb2 := hb1.trans (hb2.mono hb1.size)
  have HA := Lib.hid hA'
  have HB2 := Lib.hid hb2
  go_wp2_with fail
  refine (C2.out _ hb2).mono ?_
  rintro e w3 ⟨rfl, hb3⟩
  have HA := Lib.hid (HA.out.below (B := 0) hb3)
  have HB3 := Lib.hid (HB2.out.trans (hb3.mono HB2.out.size))
  have C5 := Lib.hid (C3.out w3 A' c' HA.out)
  clear hA' hb1 hb2 hb3 C0 C1 C2 HB2
  go_wp2_with fail
  refine C5.out.mono ?_
  rintro e w4 ⟨⟨A2, c2, rfl, hA2⟩, hb4⟩
  have HA := Lib.hid (HA.out.below (B := 0) hb4)
  have HA2 := Lib.hid hA2
  have HB4 := Lib.hid (HB3.out.trans (hb4.mono HB3.out.size))
  have C6 := Lib.hid (C4.out w4 A' c' HA.out)
  clear C5 hA2 hb4 HB3
  go_wp2_with fail
  refine C6.out.mono ?_
  rintro e w5 ⟨rfl, hb5⟩
  have C7 := Lib.hid (Nodes_same (c := c2) (d := c') (HA2.out.below (B := 0) hb5) (HA.out.below (B := 0) hb5))
  have HB5 := Lib.hid (HB4.out.trans (hb5.mono HB4.out.size))
  clear C6 hb5 HB4
  go_wp2_with fail
  refine C7.out.mono ?_
  rintro e w6 ⟨rfl, z, rfl⟩
  go_wp2_with fail
  go_ret
  exact ⟨rfl, belowD HB5.out z⟩
end
theorem SliceTwice_walk (n : Nat) (P : List Int) (A : Option Addr) (c : Nat) {W : World} (hn : P.length = n * 5) (h : IntsAt W A P) (s0 : n * 5 < 2 ^ 47) (b0 : ∀ x ∈ P, I64 x) (k : Int) (hk : I64 k)
    (w : World) (hw : w = W) (hP : Pow10 W.heap.size W) (hN : ∀ V, Below W.heap.size W V → NumErrs V) :
    Calls Tryd.prog 7 #[.slice A n c, .int .i64 k] w fun e w' => e = .returned (.bool true) ∧ Below W.heap.size W w' := by
  subst hw
  have hA : NodesAt w A P n := ⟨h, hn, by omega⟩
  obtain ⟨q, hq⟩ : ∃ q, sliceCode P n k = q := ⟨_, rfl⟩
  by_cases hne : q = 0
  · subst hne
    unfold sliceCode at hq
    split at hq
    · rename_i hc
      split at hq
      · rename_i hk6
        obtain ⟨k', rfl⟩ : ∃ k' : Nat, k = k' := ⟨k.toNat, by omega⟩
        obtain ⟨m, s, rfl, hs, hcn, h80⟩ := raw_of hc
        exact ST_good hP hN hA hc hs hcn h80 (by omega) rfl
      · cases hq
    · rename_i hc; exact absurd hq hc
  · exact ST_bad hP hN hA hq hne
end Go.Proofs.YtdgncngkalgknaaDoor
