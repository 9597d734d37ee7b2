/-
  Contract: quietwingsame.Nodes of two alike.
  The closed fact of the laws on slices; what Cut and Needs tell, in any world behind.
  The walk of SliceTwice.
  The walk of SliceSame.
-/
import Derived.Test.YtdgncngkalgknaaDoorPgB
import Derived.Test.YtdgncngkalgknaaDoorWithin
import Derived.Test.YtdgncngkalgknaaDoorOver
import Derived.Deep.QuietTactic
import Derived.BigQuiet
import Derived.Test.YtdgncngkalgknaaDoorSlWk
import Derived.Test.YtdgncngkalgknaaDoorJoinsW
namespace Go.Proofs.YtdgncngkalgknaaDoor
open Go.RowKit
set_option maxRecDepth 100000
set_option linter.unusedVariables false

set_option maxHeartbeats 4000000 in
theorem Nodes_same {w : World} {A B : Option Addr} {c d m : Nat} {S : List Int} (hA : NodesAt w A S m) (hB : NodesAt w B S m) :
    Calls Tryd.prog 24 #[.slice A m c, .slice B m d] w fun e w' => e = .returned (.bool true) ∧ ∃ n, w' = w.drewN n := by
  have hs := hA.small
  have HA := Lib.hid hA
  have HB := Lib.hid hB
  clear hA hB
  go_enter Tryd.func24, Tryd.ntmps24
  go_wp2_with fail
  go_loopw [5] (fun i wr => ∃ k : Nat, k ≤ m ∧ i = .int .i64 k ∧ ∃ n, wr = w.drewN n) (fun i _ => m - (intOf i).toNat)
  case atStart => exact ⟨0, Nat.zero_le _, rfl, 0, rfl⟩
  case round =>
    obtain ⟨k, hk, rfl, nd0, rfl⟩ := hrel
    by_cases hlt : k < m
    · obtain ⟨b, off, rfl, y0, y1, y2, y3, y4⟩ := HA.out.cells hlt
      obtain ⟨b', off', rfl, z0, z1, z2, z3, z4⟩ := HB.out.cells hlt
      generalize nd S k 0 = s0 at *
      generalize nd S k 1 = s1 at *
      generalize nd S k 2 = s2 at *
      generalize nd S k 3 = s3 at *
      generalize nd S k 4 = s4 at *
      go_wp2_with fail
      go_quiet (fail)
      go_wp2_with fail
      refine ⟨⟨k + 1, ?ya, ?yb, ?yc⟩, ?yd⟩
      case ya => omega
      case yb => go_num
      case yc => exact ⟨_, rfl⟩
      case yd => simp [intOf]; omega
    · obtain rfl : k = m := by omega
      go_wp2_with fail
      go_ret
      exact ⟨rfl, _, rfl⟩
end Go.Proofs.YtdgncngkalgknaaDoor

namespace Go.Proofs.YtdgncngkalgknaaDoor
open Go.RowKit
set_option maxRecDepth 100000
set_option linter.unusedVariables false

def sfL : List Int := [0, 1, 0, 0, 0, 6, 0, 0, 0, 0, 0, 2, 0, 0, 0, 6, 1, 2, 0, 0, 7, 0, 1, 3, 0]
def sfR : RS := .both (.set 0 0 0 (.leaf 0 1 0 0 0)) (.set 1 0 0 (.leaf 0 2 0 0 0))
theorem sfact_code : progCode sfL 5 = 0 := by decide +kernel
theorem sfact_raw : IsRS sfL 4 sfR :=
  .both (a := 1) (b := 3) rfl rfl rfl (by decide) (by decide) (.set (a := 0) rfl rfl (by decide) (by decide) rfl rfl rfl (by decide) (.leaf rfl rfl rfl rfl rfl (.inl ⟨rfl, by decide, by decide⟩)))
    (.set (a := 2) rfl rfl (by decide) (by decide) rfl rfl rfl (by decide) (.leaf rfl rfl rfl rfl rfl (.inl ⟨rfl, by decide, by decide⟩)))
theorem sfact_cut : (sfR.cut 2).getD .skip = .set 1 0 0 (.leaf 0 2 0 0 0) := by rfl
theorem sfact_read : readP ⟨#[97, 61, 35, 49, 59, 98, 61, 35, 50, 59]⟩ = .good 4 [] sfL := by decide +kernel
variable {w : World}
set_option maxHeartbeats 4000000 in
theorem sliceFact_any (hP : Pow10 w.heap.size w) (hN : ∀ V, Below w.heap.size w V → NumErrs V) : Calls Tryd.prog 29 #[] w fun e w' => e = .returned (.bool true) ∧ Below w.heap.size w w' := by
  have HR := Lib.hid (Read_right hP hN sfact_read w (Below.refl _ _))
  clear hP hN
  go_enter Tryd.func29, Tryd.ntmps29
  go_wp2_with fail
  refine HR.out.mono ?_
  rintro e w1 ⟨⟨A, c, rfl, hA⟩, -, hb1⟩
  have C1 := Cut_good (c := c) (k := 1) (u := 2) hA sfact_code sfact_raw (by decide) rfl
  rw [sfact_cut] at C1
  have C1 := Lib.hid (show Calls Tryd.prog 17 #[.slice A 5 c, .int .i64 1] w1 (fun e w' => (∃ A' c', e = .returned (.tuple #[.slice A' 2 c', .nilIface]) ∧ NodesAt w' A' [0, 2, 0, 0, 0, 6, 1, 0, 0, 0] 2) ∧ Below w1.heap.size w1 w') from C1)
  have HB1 := Lib.hid hb1
  clear HR hA hb1
  go_wp2_with fail
  refine C1.out.mono ?_
  rintro e w2 ⟨⟨A2, c2, rfl, hA2⟩, hb2⟩
  obtain ⟨b, off, rfl, hc⟩ := hA2.ints (by decide)
  have y1 : w2.cell? ⟨b, off + 6, none⟩ = some (.int .i64 1) := hc 6 1 rfl
  have HB2 := Lib.hid (HB1.out.trans (hb2.mono HB1.out.size))
  clear hc hA2 hb2 C1 HB1
  go_wp2_with fail
  go_ret
  exact ⟨rfl, HB2.out⟩
end Go.Proofs.YtdgncngkalgknaaDoor

namespace Go.Proofs.YtdgncngkalgknaaDoor
open Go.RowKit
set_option maxRecDepth 100000
set_option linter.unusedVariables false
/-- A right program's raw tree. -/
theorem raw_of {P : List Int} {n : Nat} (h : progCode P n = 0) : ∃ m s, n = m + 1 ∧ IsRS P m s ∧ s.cnt ≤ m + 1 ∧ m + 1 ≤ 80 := by
  obtain ⟨⟨hn1, hn80⟩, -, t, ht⟩ := progCode_tree h
  obtain ⟨m, rfl⟩ : ∃ m, n = m + 1 := ⟨n - 1, by omega⟩
  obtain ⟨s, hs, -⟩ := raw_st (show IsSt P m t from ht)
  exact ⟨m, s, rfl, hs, by rw [← RS.cnt_st]; exact root_cnt h hs.is, hn80⟩
/-- What is left of it, as a program. -/
theorem left_of {P : List Int} {m u : Nat} {s : RS} (hs : IsRS P m s) (hcn : s.cnt ≤ m + 1) (h80 : m + 1 ≤ 80) : ∃ j, ((s.cut u).getD .skip).cnt = j + 1 ∧ j ≤ m ∧ progCode (((s.cut u).getD .skip).lay 0) (j + 1) = 0 ∧ IsRS (((s.cut u).getD .skip).lay 0) j ((s.cut u).getD .skip) := by
  have h1 := RS.cut0_cnt s u
  have h2 := ((s.cut u).getD .skip).pos
  have hok : ((s.cut u).getD .skip).ok := ok_getD fun x e => RS.cut_ok hs.ok e
  obtain ⟨j, hj⟩ : ∃ j, ((s.cut u).getD .skip).cnt = j + 1 := ⟨((s.cut u).getD .skip).cnt - 1, by omega⟩
  obtain ⟨h3, h4⟩ := RS.code hok (by omega)
  rw [hj] at h3 h4
  exact ⟨j, hj, by omega, h3, h4⟩
section
variable {P : List Int} {n c : Nat} {A : Option Addr} {w : World}
set_option maxHeartbeats 4000000 in
theorem ST_bad {k : Int} {q : Nat} (hP : Pow10 w.heap.size w) (hN : ∀ V, Below w.heap.size w V → NumErrs V) (h : NodesAt w A P n) (hq : sliceCode P n k = q) (h0 : q ≠ 0) :
    Calls Tryd.prog 7 #[.slice A n c, .int .i64 k] w fun e w' => e = .returned (.bool true) ∧ Below w.heap.size w w' := by
  have C0 := Lib.hid (sliceFact_any hP hN)
  have C1 := Lib.hid (fun V (hV : Below w.heap.size w V) => Cut_bad (c := c) (h.below (B := 0) hV) hq h0)
  have C2 := Lib.hid (fun V (hV : Below w.heap.size w V) => Needs_bad (c := c) (h.below (B := 0) hV) hq h0)
  clear hP hN h hq
  go_enter Tryd.func7, Tryd.ntmps7
  go_wp2_with fail
  refine C0.out.mono ?_
  rintro e w1 ⟨rfl, hb1⟩
  go_wp2_with fail
  refine (C1.out _ hb1).mono ?_
  rintro e w2 ⟨rfl, hb2⟩
  have hb2 := hb1.trans (hb2.mono hb1.size)
  go_wp2_with fail
  refine (C2.out _ hb2).mono ?_
  rintro e w3 ⟨rfl, hb3⟩
  have HB := Lib.hid (hb2.trans (hb3.mono hb2.size))
  clear hb1 hb2 hb3
  go_wp2_with fail
  go_ret
  exact ⟨rfl, HB.out⟩
set_option maxHeartbeats 4000000 in
theorem ST_good {k u : Nat} {s : RS} (hP : Pow10 w.heap.size w) (hN : ∀ V, Below w.heap.size w V → NumErrs V) (h : NodesAt w A P (n + 1)) (hc : progCode P (n + 1) = 0) (hs : IsRS P n s) (hcn : s.cnt ≤ n + 1) (h80 : n + 1 ≤ 80) (hk : k < 6) (hu : 2 ^ k = u) :
    Calls Tryd.prog 7 #[.slice A (n + 1) c, .int .i64 k] w fun e w' => e = .returned (.bool true) ∧ Below w.heap.size w w' := by
  have hu64 : u < 64 := by subst hu; exact Nat.pow_lt_pow_right (n := 6) (by decide) hk
  obtain ⟨j, hj, -, hc2, hs2⟩ := left_of (u := u) hs hcn h80
  have htw := RS.cut_twice hs.is.ok hu64
  have hnd : (((s.cut u).getD .skip).st.need u) = s.st.need u := by rw [s.cut0_st]; exact cut_need hs.is.ok hu64 (Sub.refl u)
  have C0 := Lib.hid (sliceFact_any hP hN)
  have C1 := fun V (hV : Below w.heap.size w V) => Cut_good (c := c) (h.below (B := 0) hV) hc hs hk hu
  have C2 := Lib.hid (fun V (hV : Below w.heap.size w V) => Needs_good (c := c) (h.below (B := 0) hV) hc hs hk hu)
  have C3 := fun V A' c' (hA : NodesAt V A' (((s.cut u).getD .skip).lay 0) (j + 1)) => Cut_good (c := c') hA hc2 hs2 hk hu
  have C4 := fun V A' c' (hA : NodesAt V A' (((s.cut u).getD .skip).lay 0) (j + 1)) => Needs_good (c := c') hA hc2 hs2 hk hu
  rw [htw] at C3
  rw [hnd] at C4
  rw [hj] at C1 C3
  have C1 := Lib.hid C1
  have C3 := Lib.hid C3
  have C4 := Lib.hid C4
  generalize (s.st.need u).1 = v at *
  generalize ((s.cut u).getD .skip).lay 0 = L at *
  generalize hm : n + 1 = n1 at *
  generalize hm2 : j + 1 = j1 at *
  clear hP hN h hc hs hcn h80 htw hnd hc2 hs2 hj hm hm2
  go_enter Tryd.func7, Tryd.ntmps7
  go_wp2_with fail
  refine C0.out.mono ?_
  rintro e w1 ⟨rfl, hb1⟩
  go_wp2_with fail
  refine (C1.out _ hb1).mono ?_
  rintro e w2 ⟨⟨A', c', rfl, hA'⟩, hb2⟩
  have hb2 := hb1.trans (hb2.mono hb1.size)
  have HA := Lib.hid hA'
  have HB2 := Lib.hid hb2
  go_wp2_with fail
  refine (C2.out _ hb2).mono ?_
  rintro e w3 ⟨rfl, hb3⟩
  have HA := Lib.hid (HA.out.below (B := 0) hb3)
  have HB3 := Lib.hid (HB2.out.trans (hb3.mono HB2.out.size))
  have C5 := Lib.hid (C3.out w3 A' c' HA.out)
  clear hA' hb1 hb2 hb3 C0 C1 C2 HB2
  go_wp2_with fail
  refine C5.out.mono ?_
  rintro e w4 ⟨⟨A2, c2, rfl, hA2⟩, hb4⟩
  have HA := Lib.hid (HA.out.below (B := 0) hb4)
  have HA2 := Lib.hid hA2
  have HB4 := Lib.hid (HB3.out.trans (hb4.mono HB3.out.size))
  have C6 := Lib.hid (C4.out w4 A' c' HA.out)
  clear C5 hA2 hb4 HB3
  go_wp2_with fail
  refine C6.out.mono ?_
  rintro e w5 ⟨rfl, hb5⟩
  have C7 := Lib.hid (Nodes_same (c := c2) (d := c') (HA2.out.below (B := 0) hb5) (HA.out.below (B := 0) hb5))
  have HB5 := Lib.hid (HB4.out.trans (hb5.mono HB4.out.size))
  clear C6 hb5 HB4
  go_wp2_with fail
  refine C7.out.mono ?_
  rintro e w6 ⟨rfl, z, rfl⟩
  go_wp2_with fail
  go_ret
  exact ⟨rfl, belowD HB5.out z⟩
end
theorem SliceTwice_walk (n : Nat) (P : List Int) (A : Option Addr) (c : Nat) {W : World} (hn : P.length = n * 5) (h : IntsAt W A P) (s0 : n * 5 < 2 ^ 47) (b0 : ∀ x ∈ P, I64 x) (k : Int) (hk : I64 k)
    (w : World) (hw : w = W) (hP : Pow10 W.heap.size W) (hN : ∀ V, Below W.heap.size W V → NumErrs V) :
    Calls Tryd.prog 7 #[.slice A n c, .int .i64 k] w fun e w' => e = .returned (.bool true) ∧ Below W.heap.size W w' := by
  subst hw
  have hA : NodesAt w A P n := ⟨h, hn, by omega⟩
  obtain ⟨q, hq⟩ : ∃ q, sliceCode P n k = q := ⟨_, rfl⟩
  by_cases hne : q = 0
  · subst hne
    unfold sliceCode at hq
    split at hq
    · rename_i hc
      split at hq
      · rename_i hk6
        obtain ⟨k', rfl⟩ : ∃ k' : Nat, k = k' := ⟨k.toNat, by omega⟩
        obtain ⟨m, s, rfl, hs, hcn, h80⟩ := raw_of hc
        exact ST_good hP hN hA hc hs hcn h80 (by omega) rfl
      · cases hq
    · rename_i hc; exact absurd hq hc
  · exact ST_bad hP hN hA hq hne
end Go.Proofs.YtdgncngkalgknaaDoor

namespace Go.Proofs.YtdgncngkalgknaaDoor
open Go.RowKit
set_option maxRecDepth 100000
set_option linter.unusedVariables false
section
variable {P P2 : List Int} {n n2 c c2 : Nat} {A A2 : Option Addr} {w : World} {L : List Int} {Al : Option Addr} {cl : Nat} {fuel : Int} {s t : St}
/-- What a program does, and what another one does where it ends, too. -/
theorem Run_pair (h : NodesAt w A P n) (h2 : NodesAt w A2 P2 n2) (hL : IntsAt w Al L) (hc : progCode P n = 0) (hc2 : progCode P2 n2 = 0) (hs : IsSt P (n - 1) s) (hs2 : IsSt P2 (n2 - 1) t) :
    (∃ k : Nat, k ≠ 0 ∧ ∀ V, Below w.heap.size w V → Calls Tryd.prog 14 #[.slice A n c, .slice Al L.length cl, .int .i64 fuel] V fun e w' => RunErr w e w' k) ∨
    (∃ v l v' l', L = castL v ∧ L.length = 6 ∧ fuel = (l : Nat) ∧ Vars v ∧ s.run v l = some (v', l') ∧ Vars v' ∧ l' ≤ l ∧ (∀ V, Below w.heap.size w V → Calls Tryd.prog 14 #[.slice A n c, .slice Al L.length cl, .int .i64 fuel] V fun e w' => RunEnd w V e w' (l - l') v') ∧
      ∀ z m', t.run v l = some (z, m') → Vars z ∧ ∀ V, Below w.heap.size w V → Calls Tryd.prog 14 #[.slice A2 n2 c2, .slice Al L.length cl, .int .i64 fuel] V fun e w' => RunEnd w V e w' (l - m') z) := by
  obtain ⟨k, hk⟩ : ∃ k, runCode P n L fuel = k := ⟨_, rfl⟩
  have hk2 : runCode P2 n2 L fuel = k := by
    rw [← hk]; unfold runCode; rw [if_pos hc, if_pos hc2]
  by_cases hne : k = 0
  · subst hne
    obtain ⟨-, ⟨v, rfl, hv⟩, l, rfl, hl⟩ := runCode_ok hk
    have h6 : (castL v).length = 6 := by rw [length_castL, hv.1]
    have hR := fun V (hV : Below w.heap.size w V) => Run_ok (c := c) (cl := cl) (h.below (B := 0) hV) (hL.below hV) hk hv hs
    have hR2 := fun V (hV : Below w.heap.size w V) => Run_ok (c := c2) (cl := cl) (h2.below (B := 0) hV) (hL.below hV) hk2 hv hs2
    rw [h6]
    cases hr : s.run v l with
    | none =>
      rw [hr] at hR
      exact .inl ⟨4, by decide, fun V hV => (hR V hV).mono fun e w' ⟨he, hb⟩ => ⟨he, hV.trans (hb.mono hV.size)⟩⟩
    | some q =>
      obtain ⟨v', l'⟩ := q
      rw [hr] at hR
      refine .inr ⟨v, l, v', l', rfl, rfl, rfl, hv, hr, St.run_vars hs.ok hr hv, St.left _ _ _ _ hr, fun V hV => (hR V hV).mono fun e w' ⟨he, hb⟩ => ⟨he, hb, hV.trans (hb.mono hV.size)⟩, fun z m' ht => ⟨St.run_vars hs2.ok ht hv, fun V hV => ?_⟩⟩
      have := hR2 V hV
      rw [ht] at this
      exact this.mono fun e w' ⟨he, hb⟩ => ⟨he, hb, hV.trans (hb.mono hV.size)⟩
  · exact .inl ⟨k, hne, fun V hV => (Run_bad (c := c) (cl := cl) (h.below (B := 0) hV) (hL.below hV) hk hne).mono fun e w' ⟨he, hb⟩ => ⟨he, hV.trans (hb.mono hV.size)⟩⟩
end
theorem castL_at {w : World} {B : Option Addr} {v : List Nat} (h : IntsAt w B (castL v)) (h6 : v.length = 6) {k : Nat} (hk : k < 6) : ∃ b off, B = some ⟨b, off, none⟩ ∧ w.cell? ⟨b, off + k, none⟩ = some (.int .i64 ((v.getD k 0 : Nat) : Int)) := by
  obtain ⟨b, off, rfl, hc⟩ := h (by intro e; have := congrArg List.length e; rw [length_castL, h6] at this; cases this)
  refine ⟨b, off, rfl, hc k _ ?_⟩
  unfold castL
  rw [List.getElem?_map, List.getElem?_eq_getElem (by omega), List.getD_eq_getElem?_getD, List.getElem?_eq_getElem (by omega)]
  rfl
section
variable {P : List Int} {n c : Nat} {A : Option Addr} {w : World} {L : List Int} {Al : Option Addr} {cl : Nat} {fuel : Int}
set_option maxHeartbeats 4000000 in
theorem SS_bad {k : Int} {q : Nat} (hP : Pow10 w.heap.size w) (hN : ∀ V, Below w.heap.size w V → NumErrs V) (h : NodesAt w A P n) (hq : sliceCode P n k = q) (h0 : q ≠ 0) :
    Calls Tryd.prog 8 #[.slice A n c, .int .i64 k, .slice Al L.length cl, .int .i64 fuel] w fun e w' => e = .returned (.bool true) ∧ Below w.heap.size w w' := by
  have C0 := Lib.hid (sliceFact_any hP hN)
  have C1 := Lib.hid (fun V (hV : Below w.heap.size w V) => Cut_bad (c := c) (h.below (B := 0) hV) hq h0)
  clear hP hN h hq
  generalize L.length = m at *
  go_enter Tryd.func8, Tryd.ntmps8
  go_wp2_with fail
  refine C0.out.mono ?_
  rintro e w1 ⟨rfl, hb1⟩
  go_wp2_with fail
  refine (C1.out _ hb1).mono ?_
  rintro e w2 ⟨rfl, hb2⟩
  have HB := Lib.hid (hb1.trans (hb2.mono hb1.size))
  clear hb1 hb2
  go_wp2_with fail
  go_ret
  exact ⟨rfl, HB.out⟩
set_option maxHeartbeats 8000000 in
theorem SS_good {k u : Nat} {s : RS} (hP : Pow10 w.heap.size w) (hN : ∀ V, Below w.heap.size w V → NumErrs V) (h : NodesAt w A P (n + 1)) (hc : progCode P (n + 1) = 0) (hs : IsRS P n s) (hcn : s.cnt ≤ n + 1) (h80 : n + 1 ≤ 80) (hk : k < 6) (hu : 2 ^ k = u) (hL : IntsAt w Al L) :
    Calls Tryd.prog 8 #[.slice A (n + 1) c, .int .i64 k, .slice Al L.length cl, .int .i64 fuel] w fun e w' => e = .returned (.bool true) ∧ Below w.heap.size w w' := by
  have hu64 : u < 64 := by subst hu; exact Nat.pow_lt_pow_right (n := 6) (by decide) hk
  obtain ⟨j, hj, hjn, hc2, hs2⟩ := left_of (u := u) hs hcn h80
  have C0 := Lib.hid (sliceFact_any hP hN)
  have C1 := fun V (hV : Below w.heap.size w V) => Cut_good (c := c) (h.below (B := 0) hV) hc hs hk hu
  rw [hj] at C1
  have C1 := Lib.hid C1
  have C2 := fun V A' c' (hA : NodesAt V A' (((s.cut u).getD .skip).lay 0) (j + 1)) => PCheck_any (c := c') hA
  rw [hc2, errVal_zero] at C2
  have C2 := Lib.hid C2
  have HRP := Lib.hid (fun (V : World) A' c' (hV : Below w.heap.size w V) (hA : NodesAt V A' (((s.cut u).getD .skip).lay 0) (j + 1)) => Run_pair (n := n + 1) (n2 := j + 1) (c := c) (c2 := c') (cl := cl) (fuel := fuel) (s := s.st) (t := ((s.cut u).getD .skip).st) (h.below (B := 0) hV) hA (hL.below hV) hc hc2 hs.is hs2.is)
  have hdoes : Does s.st ((s.cut u).getD .skip).st (s.st.need u).1 u := by rw [s.cut0_st]; exact cut_does hs.is.ok hu64
  have HD := Lib.hid hdoes
  have Hbit := Lib.hid (show Bits u k by unfold Bits; rw [← hu, Nat.testBit_two_pow_self])
  generalize ((s.cut u).getD .skip).st = t at *
  generalize ((s.cut u).getD .skip).lay 0 = Q at *
  have d1 : decide (((j + 1 : Nat) : Int) > ((n + 1 : Nat) : Int) + 1) = false := by simp; omega
  have Hjn := Lib.hid hjn
  generalize hm2 : j + 1 = j1 at *
  generalize hm : n + 1 = n1 at *
  have d2 : ¬ ((n1 : Int) + 1 < (j1 : Int)) := by omega
  have hn180 : n1 ≤ 80 := by omega
  have hj180 : j1 ≤ 80 := by omega
  clear hP hN h hc hs hcn h80 hc2 hs2 hj hm hm2 hdoes hL hjn hu
  go_enter Tryd.func8, Tryd.ntmps8
  go_wp2_with fail
  refine C0.out.mono ?_
  rintro e w1 ⟨rfl, hb1⟩
  go_wp2_with fail
  refine (C1.out _ hb1).mono ?_
  rintro e w2 ⟨⟨A', c', rfl, hA'⟩, hb2⟩
  have hb2 := hb1.trans (hb2.mono hb1.size)
  have HA := Lib.hid hA'
  have HB2 := Lib.hid hb2
  have C3 := Lib.hid (C2.out w2 A' c' HA.out)
  clear hA' hb1 hb2 C0 C1 C2
  go_wp2_with fail
  refine C3.out.mono ?_
  rintro e w3 ⟨rfl, hb3⟩
  have HA := Lib.hid (HA.out.below (B := 0) hb3)
  have HB3 := Lib.hid (HB2.out.trans (hb3.mono HB2.out.size))
  clear C3 hb3 HB2
  rcases HRP.out w3 A' c' HB3.out HA.out with ⟨q, hq, hR⟩ | ⟨v, l, v', l', hLv, h6, hfu, hv, hr, hv', hll, hR, hR2⟩
  · have CR := Lib.hid (hR _ (Below.refl _ _))
    clear hR HRP
    generalize L.length = m at *
    go_wp2_with fail
    refine CR.out.mono ?_
    rintro e w4 ⟨rfl, hb4⟩
    have HB4 := Lib.hid (HB3.out.trans (hb4.mono HB3.out.size))
    clear hb4 CR
    go_wp2_with fail
    go_ret
    exact ⟨rfl, HB4.out⟩
  · obtain ⟨z, m', ht, hsame, hle⟩ := HD.out v l v' l' hr v l ⟨rfl, fun _ _ => rfl⟩ (Nat.le_refl _)
    obtain ⟨hz, hR2⟩ := hR2 z m' ht
    have CR := hR _ (Below.refl _ _)
    have CR2 := hR2
    rw [h6] at CR CR2 ⊢
    have CR := Lib.hid CR
    have CR2 := Lib.hid CR2
    have hx := hsame.2 k Hbit.out
    have HX := Lib.hid (And.intro hv'.1 (And.intro hz.1 hx))
    have hml : l - m' ≤ l - l' := by omega
    generalize l - m' = b2 at *
    generalize l - l' = b1 at *
    have dml : decide ((b2 : Int) ≤ (b1 : Int)) = true := by simpa using hml
    clear hR hR2 HRP hLv hfu hv hr hv' hll ht hsame hle hz h6 hx HD
    go_wp2_with fail
    refine CR.out.mono ?_
    rintro e w4 ⟨⟨B4, c4, rfl, hi4⟩, hd4, hb4⟩
    have Hi4 := Lib.hid hi4
    clear hi4
    go_wp2_with fail
    refine (CR2.out _ hb4).mono ?_
    rintro e w5 ⟨⟨B5, c5, rfl, hi5⟩, hd5, hb5⟩
    obtain ⟨b4, o4, rfl, y4⟩ := castL_at (Hi4.out.below hd5) HX.out.1 hk
    obtain ⟨b5, o5, rfl, y5⟩ := castL_at hi5 HX.out.2.1 hk
    rw [HX.out.2.2] at y4
    have HB5 := Lib.hid (HB3.out.trans (hb5.mono HB3.out.size))
    generalize z.getD k 0 = xk at *
    clear hb4 hb5 hd4 hd5 hi5 CR CR2
    go_wp2_with fail
    go_quiet (fail)
    go_wp2_with fail
    go_ret
    exact ⟨rfl, belowD HB5.out _⟩
end
theorem SliceSame_walk (n : Nat) (P : List Int) (A : Option Addr) (c : Nat) {W : World} (hn : P.length = n * 5) (h : IntsAt W A P) (s0 : n * 5 < 2 ^ 47) (b0 : ∀ x ∈ P, I64 x) (k : Int) (hk : I64 k) (L : List Int) (Al : Option Addr) (cl : Nat) (hL : IntsAt W Al L) (s1 : L.length < 2 ^ 47) (b1 : ∀ x ∈ L, I64 x)
    (fuel : Int) (hf : I64 fuel) (w : World) (hw : w = W) (hP : Pow10 W.heap.size W) (hN : ∀ V, Below W.heap.size W V → NumErrs V) :
    Calls Tryd.prog 8 #[.slice A n c, .int .i64 k, .slice Al L.length cl, .int .i64 fuel] w fun e w' => e = .returned (.bool true) ∧ Below W.heap.size W w' := by
  subst hw
  have hA : NodesAt w A P n := ⟨h, hn, by omega⟩
  obtain ⟨q, hq⟩ : ∃ q, sliceCode P n k = q := ⟨_, rfl⟩
  by_cases hne : q = 0
  · subst hne
    unfold sliceCode at hq
    split at hq
    · rename_i hc
      split at hq
      · rename_i hk6
        obtain ⟨k', rfl⟩ : ∃ k' : Nat, k = k' := ⟨k.toNat, by omega⟩
        obtain ⟨m, s, rfl, hs, hcn, h80⟩ := raw_of hc
        exact SS_good hP hN hA hc hs hcn h80 (by omega) rfl hL
      · cases hq
    · rename_i hc; exact absurd hq hc
  · exact SS_bad hP hN hA hq hne
end Go.Proofs.YtdgncngkalgknaaDoor
