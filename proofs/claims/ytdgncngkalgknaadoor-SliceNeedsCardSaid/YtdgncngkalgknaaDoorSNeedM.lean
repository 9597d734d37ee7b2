/-
  Contract: quietwingsame.Nodes of two alike.
  The closed fact of the laws on slices; what Cut and Needs tell, in any world behind.
  The walk of SliceTwice.
  Slicing: all that are needed for one variable may flow into it. Plain laws.
  Contract: quietwingref1.Within.
  The walk of SliceNeeds.
-/
import Derived.Test.YtdgncngkalgknaaDoorPgB
import Derived.Test.YtdgncngkalgknaaDoorWithin
import Derived.Test.YtdgncngkalgknaaDoorOver
import Derived.Deep.QuietTactic
import Derived.BigQuiet
import Derived.Test.YtdgncngkalgknaaDoorSlWk
import Derived.Test.YtdgncngkalgknaaDoorRunM
import Derived.Test.YtdgncngkalgknaaDoorSlPl
import Derived.Test.YtdgncngkalgknaaDoorFlowM
import Derived.Test.YtdgncngkalgknaaDoorWithN
import Derived.Test.YtdgncngkalgknaaDoorCells6
namespace Go.Proofs.YtdgncngkalgknaaDoor
open Go.RowKit
set_option maxRecDepth 100000
set_option linter.unusedVariables false

set_option maxHeartbeats 4000000 in
theorem Nodes_same {w : World} {A B : Option Addr} {c d m : Nat} {S : List Int} (hA : NodesAt w A S m) (hB : NodesAt w B S m) :
    Calls Tryd.prog 24 #[.slice A m c, .slice B m d] w fun e w' => e = .returned (.bool true) ∧ ∃ n, w' = w.drewN n := by
  have hs := hA.small
  have HA := Lib.hid hA
  have HB := Lib.hid hB
  clear hA hB
  go_enter Tryd.func24, Tryd.ntmps24
  go_wp2_with fail
  go_loopw [5] (fun i wr => ∃ k : Nat, k ≤ m ∧ i = .int .i64 k ∧ ∃ n, wr = w.drewN n) (fun i _ => m - (intOf i).toNat)
  case atStart => exact ⟨0, Nat.zero_le _, rfl, 0, rfl⟩
  case round =>
    obtain ⟨k, hk, rfl, nd0, rfl⟩ := hrel
    by_cases hlt : k < m
    · obtain ⟨b, off, rfl, y0, y1, y2, y3, y4⟩ := HA.out.cells hlt
      obtain ⟨b', off', rfl, z0, z1, z2, z3, z4⟩ := HB.out.cells hlt
      generalize nd S k 0 = s0 at *
      generalize nd S k 1 = s1 at *
      generalize nd S k 2 = s2 at *
      generalize nd S k 3 = s3 at *
      generalize nd S k 4 = s4 at *
      go_wp2_with fail
      go_quiet (fail)
      go_wp2_with fail
      refine ⟨⟨k + 1, ?ya, ?yb, ?yc⟩, ?yd⟩
      case ya => omega
      case yb => go_num
      case yc => exact ⟨_, rfl⟩
      case yd => simp [intOf]; omega
    · obtain rfl : k = m := by omega
      go_wp2_with fail
      go_ret
      exact ⟨rfl, _, rfl⟩
end Go.Proofs.YtdgncngkalgknaaDoor

namespace Go.Proofs.YtdgncngkalgknaaDoor
open Go.RowKit
set_option maxRecDepth 100000
set_option linter.unusedVariables false

def sfL : List Int := [0, 1, 0, 0, 0, 6, 0, 0, 0, 0, 0, 2, 0, 0, 0, 6, 1, 2, 0, 0, 7, 0, 1, 3, 0]
def sfR : RS := .both (.set 0 0 0 (.leaf 0 1 0 0 0)) (.set 1 0 0 (.leaf 0 2 0 0 0))
theorem sfact_code : progCode sfL 5 = 0 := by decide +kernel
theorem sfact_raw : IsRS sfL 4 sfR :=
  .both (a := 1) (b := 3) rfl rfl rfl (by decide) (by decide) (.set (a := 0) rfl rfl (by decide) (by decide) rfl rfl rfl (by decide) (.leaf rfl rfl rfl rfl rfl (.inl ⟨rfl, by decide, by decide⟩)))
    (.set (a := 2) rfl rfl (by decide) (by decide) rfl rfl rfl (by decide) (.leaf rfl rfl rfl rfl rfl (.inl ⟨rfl, by decide, by decide⟩)))
theorem sfact_cut : (sfR.cut 2).getD .skip = .set 1 0 0 (.leaf 0 2 0 0 0) := by rfl
theorem sfact_read : readP ⟨#[97, 61, 35, 49, 59, 98, 61, 35, 50, 59]⟩ = .good 4 [] sfL := by decide +kernel
variable {w : World}
set_option maxHeartbeats 4000000 in
theorem sliceFact_any (hP : Pow10 w.heap.size w) (hN : ∀ V, Below w.heap.size w V → NumErrs V) : Calls Tryd.prog 29 #[] w fun e w' => e = .returned (.bool true) ∧ Below w.heap.size w w' := by
  have HR := Lib.hid (Read_right hP hN sfact_read w (Below.refl _ _))
  clear hP hN
  go_enter Tryd.func29, Tryd.ntmps29
  go_wp2_with fail
  refine HR.out.mono ?_
  rintro e w1 ⟨⟨A, c, rfl, hA⟩, -, hb1⟩
  have C1 := Cut_good (c := c) (k := 1) (u := 2) hA sfact_code sfact_raw (by decide) rfl
  rw [sfact_cut] at C1
  have C1 := Lib.hid (show Calls Tryd.prog 17 #[.slice A 5 c, .int .i64 1] w1 (fun e w' => (∃ A' c', e = .returned (.tuple #[.slice A' 2 c', .nilIface]) ∧ NodesAt w' A' [0, 2, 0, 0, 0, 6, 1, 0, 0, 0] 2) ∧ Below w1.heap.size w1 w') from C1)
  have HB1 := Lib.hid hb1
  clear HR hA hb1
  go_wp2_with fail
  refine C1.out.mono ?_
  rintro e w2 ⟨⟨A2, c2, rfl, hA2⟩, hb2⟩
  obtain ⟨b, off, rfl, hc⟩ := hA2.ints (by decide)
  have y1 : w2.cell? ⟨b, off + 6, none⟩ = some (.int .i64 1) := hc 6 1 rfl
  have HB2 := Lib.hid (HB1.out.trans (hb2.mono HB1.out.size))
  clear hc hA2 hb2 C1 HB1
  go_wp2_with fail
  go_ret
  exact ⟨rfl, HB2.out⟩
end Go.Proofs.YtdgncngkalgknaaDoor

namespace Go.Proofs.YtdgncngkalgknaaDoor
open Go.RowKit
set_option maxRecDepth 100000
set_option linter.unusedVariables false
/-- A right program's raw tree. -/
theorem raw_of {P : List Int} {n : Nat} (h : progCode P n = 0) : ∃ m s, n = m + 1 ∧ IsRS P m s ∧ s.cnt ≤ m + 1 ∧ m + 1 ≤ 80 := by
  obtain ⟨⟨hn1, hn80⟩, -, t, ht⟩ := progCode_tree h
  obtain ⟨m, rfl⟩ : ∃ m, n = m + 1 := ⟨n - 1, by omega⟩
  obtain ⟨s, hs, -⟩ := raw_st (show IsSt P m t from ht)
  exact ⟨m, s, rfl, hs, by rw [← RS.cnt_st]; exact root_cnt h hs.is, hn80⟩
/-- What is left of it, as a program. -/
theorem left_of {P : List Int} {m u : Nat} {s : RS} (hs : IsRS P m s) (hcn : s.cnt ≤ m + 1) (h80 : m + 1 ≤ 80) : ∃ j, ((s.cut u).getD .skip).cnt = j + 1 ∧ j ≤ m ∧ progCode (((s.cut u).getD .skip).lay 0) (j + 1) = 0 ∧ IsRS (((s.cut u).getD .skip).lay 0) j ((s.cut u).getD .skip) := by
  have h1 := RS.cut0_cnt s u
  have h2 := ((s.cut u).getD .skip).pos
  have hok : ((s.cut u).getD .skip).ok := ok_getD fun x e => RS.cut_ok hs.ok e
  obtain ⟨j, hj⟩ : ∃ j, ((s.cut u).getD .skip).cnt = j + 1 := ⟨((s.cut u).getD .skip).cnt - 1, by omega⟩
  obtain ⟨h3, h4⟩ := RS.code hok (by omega)
  rw [hj] at h3 h4
  exact ⟨j, hj, by omega, h3, h4⟩
section
variable {P : List Int} {n c : Nat} {A : Option Addr} {w : World}
set_option maxHeartbeats 4000000 in
theorem ST_bad {k : Int} {q : Nat} (hP : Pow10 w.heap.size w) (hN : ∀ V, Below w.heap.size w V → NumErrs V) (h : NodesAt w A P n) (hq : sliceCode P n k = q) (h0 : q ≠ 0) :
    Calls Tryd.prog 7 #[.slice A n c, .int .i64 k] w fun e w' => e = .returned (.bool true) ∧ Below w.heap.size w w' := by
  have C0 := Lib.hid (sliceFact_any hP hN)
  have C1 := Lib.hid (fun V (hV : Below w.heap.size w V) => Cut_bad (c := c) (h.below (B := 0) hV) hq h0)
  have C2 := Lib.hid (fun V (hV : Below w.heap.size w V) => Needs_bad (c := c) (h.below (B := 0) hV) hq h0)
  clear hP hN h hq
  go_enter Tryd.func7, Tryd.ntmps7
  go_wp2_with fail
  refine C0.out.mono ?_
  rintro e w1 ⟨rfl, hb1⟩
  go_wp2_with fail
  refine (C1.out _ hb1).mono ?_
  rintro e w2 ⟨rfl, hb2⟩
  have hb2 := hb1.trans (hb2.mono hb1.size)
  go_wp2_with fail
  refine (C2.out _ hb2).mono ?_
  rintro e w3 ⟨rfl, hb3⟩
  have HB := Lib.hid (hb2.trans (hb3.mono hb2.size))
  clear hb1 hb2 hb3
  go_wp2_with fail
  go_ret
  exact ⟨rfl, HB.out⟩
set_option maxHeartbeats 4000000 in
theorem ST_good {k u : Nat} {s : RS} (hP : Pow10 w.heap.size w) (hN : ∀ V, Below w.heap.size w V → NumErrs V) (h : NodesAt w A P (n + 1)) (hc : progCode P (n + 1) = 0) (hs : IsRS P n s) (hcn : s.cnt ≤ n + 1) (h80 : n + 1 ≤ 80) (hk : k < 6) (hu : 2 ^ k = u) :
    Calls Tryd.prog 7 #[.slice A (n + 1) c, .int .i64 k] w fun e w' => e = .returned (.bool true) ∧ Below w.heap.size w w' := by
  have hu64 : u < 64 := by subst hu; exact Nat.pow_lt_pow_right (n := 6) (by decide) hk
  obtain ⟨j, hj, -, hc2, hs2⟩ := left_of (u := u) hs hcn h80
  have htw := RS.cut_twice hs.is.ok hu64
  have hnd : (((s.cut u).getD .skip).st.need u) = s.st.need u := by rw [s.cut0_st]; exact cut_need hs.is.ok hu64 (Sub.refl u)
  have C0 := Lib.hid (sliceFact_any hP hN)
  have C1 := fun V (hV : Below w.heap.size w V) => Cut_good (c := c) (h.below (B := 0) hV) hc hs hk hu
  have C2 := Lib.hid (fun V (hV : Below w.heap.size w V) => Needs_good (c := c) (h.below (B := 0) hV) hc hs hk hu)
  have C3 := fun V A' c' (hA : NodesAt V A' (((s.cut u).getD .skip).lay 0) (j + 1)) => Cut_good (c := c') hA hc2 hs2 hk hu
  have C4 := fun V A' c' (hA : NodesAt V A' (((s.cut u).getD .skip).lay 0) (j + 1)) => Needs_good (c := c') hA hc2 hs2 hk hu
  rw [htw] at C3
  rw [hnd] at C4
  rw [hj] at C1 C3
  have C1 := Lib.hid C1
  have C3 := Lib.hid C3
  have C4 := Lib.hid C4
  generalize (s.st.need u).1 = v at *
  generalize ((s.cut u).getD .skip).lay 0 = L at *
  generalize hm : n + 1 = n1 at *
  generalize hm2 : j + 1 = j1 at *
  clear hP hN h hc hs hcn h80 htw hnd hc2 hs2 hj hm hm2
  go_enter Tryd.func7, Tryd.ntmps7
  go_wp2_with fail
  refine C0.out.mono ?_
  rintro e w1 ⟨rfl, hb1⟩
  go_wp2_with fail
  refine (C1.out _ hb1).mono ?_
  rintro e w2 ⟨⟨A', c', rfl, hA'⟩, hb2⟩
  have hb2 := hb1.trans (hb2.mono hb1.size)
  have HA := Lib.hid hA'
  have HB2 := Lib.hid hb2
  go_wp2_with fail
  refine (C2.out _ hb2).mono ?_
  rintro e w3 ⟨rfl, hb3⟩
  have HA := Lib.hid (HA.out.below (B := 0) hb3)
  have HB3 := Lib.hid (HB2.out.trans (hb3.mono HB2.out.size))
  have C5 := Lib.hid (C3.out w3 A' c' HA.out)
  clear hA' hb1 hb2 hb3 C0 C1 C2 HB2
  go_wp2_with fail
  refine C5.out.mono ?_
  rintro e w4 ⟨⟨A2, c2, rfl, hA2⟩, hb4⟩
  have HA := Lib.hid (HA.out.below (B := 0) hb4)
  have HA2 := Lib.hid hA2
  have HB4 := Lib.hid (HB3.out.trans (hb4.mono HB3.out.size))
  have C6 := Lib.hid (C4.out w4 A' c' HA.out)
  clear C5 hA2 hb4 HB3
  go_wp2_with fail
  refine C6.out.mono ?_
  rintro e w5 ⟨rfl, hb5⟩
  have C7 := Lib.hid (Nodes_same (c := c2) (d := c') (HA2.out.below (B := 0) hb5) (HA.out.below (B := 0) hb5))
  have HB5 := Lib.hid (HB4.out.trans (hb5.mono HB4.out.size))
  clear C6 hb5 HB4
  go_wp2_with fail
  refine C7.out.mono ?_
  rintro e w6 ⟨rfl, z, rfl⟩
  go_wp2_with fail
  go_ret
  exact ⟨rfl, belowD HB5.out z⟩
end
theorem SliceTwice_walk (n : Nat) (P : List Int) (A : Option Addr) (c : Nat) {W : World} (hn : P.length = n * 5) (h : IntsAt W A P) (s0 : n * 5 < 2 ^ 47) (b0 : ∀ x ∈ P, I64 x) (k : Int) (hk : I64 k)
    (w : World) (hw : w = W) (hP : Pow10 W.heap.size W) (hN : ∀ V, Below W.heap.size W V → NumErrs V) :
    Calls Tryd.prog 7 #[.slice A n c, .int .i64 k] w fun e w' => e = .returned (.bool true) ∧ Below W.heap.size W w' := by
  subst hw
  have hA : NodesAt w A P n := ⟨h, hn, by omega⟩
  obtain ⟨q, hq⟩ : ∃ q, sliceCode P n k = q := ⟨_, rfl⟩
  by_cases hne : q = 0
  · subst hne
    unfold sliceCode at hq
    split at hq
    · rename_i hc
      split at hq
      · rename_i hk6
        obtain ⟨k', rfl⟩ : ∃ k' : Nat, k = k' := ⟨k.toNat, by omega⟩
        obtain ⟨m, s, rfl, hs, hcn, h80⟩ := raw_of hc
        exact ST_good hP hN hA hc hs hcn h80 (by omega) rfl
      · cases hq
    · rename_i hc; exact absurd hq hc
  · exact ST_bad hP hN hA hq hne
end Go.Proofs.YtdgncngkalgknaaDoor

namespace Go.Proofs.YtdgncngkalgknaaDoor
set_option linter.unusedVariables false

theorem need_within {s : St} (hs : s.ok) {x : Nat} (hx : x < 6) : Sub (s.need (2 ^ x)).1 (row (fromL s) x) := by
  intro j hj
  have hp := fun q hq => sets_lt hs (by decide) (u := 0) q hq
  obtain ⟨i, hi, hr⟩ := (need_flows (R := fun i j => i = j ∨ i < 6 ∧ j < 6 ∧ (row (fromL s) i).testBit j = true) (fun i => .inl rfl) (fun i m j h1 h2 => by
    rcases h1 with rfl | ⟨a1, a2, a3⟩
    · exact h2
    · rcases h2 with rfl | ⟨b1, b2, b3⟩
      · exact .inr ⟨a1, a2, a3⟩
      · exact .inr ⟨a1, b2, fromL_trans s a1 b1 a3 b3⟩) (s := s) (t := 0) (u := 2 ^ x) (fun p hpp j hb => .inr ⟨(hp p hpp).1, bit_below (n := 6) (hp p hpp).2 hb, fromL_more hs hpp hb⟩)).1 j hj
  rw [tb_pow, decide_eq_true_eq] at hi
  subst hi
  rcases hr with rfl | ⟨_, _, h⟩
  · exact fromL_self s hx
  · exact h
end Go.Proofs.YtdgncngkalgknaaDoor

namespace Go.Proofs.YtdgncngkalgknaaDoor
open Go.RowKit

set_option maxHeartbeats 400000 in
theorem Within_any (a b : Nat) (w : World) (ha : a < 2 ^ 62) (hb : b < 2 ^ 62) :
    Calls Tryd.prog 32 #[.int .i64 a, .int .i64 b] w fun e w' => e = .returned (.bool (within a b)) ∧ w = w' := by
  go_enter Tryd.func32, Tryd.ntmps32
  go_wp2
  go_loop [0, 1] (fun x y => ∃ c d : Nat, c ≤ a ∧ d ≤ b ∧ x = .int .i64 c ∧ y = .int .i64 d ∧ within a b = within c d) (fun x _ => (intOf x).toNat)
  case atStart => exact ⟨a, b, Nat.le_refl _, Nat.le_refl _, rfl, rfl, rfl⟩
  case round =>
    obtain ⟨c, d, hc, hd, rfl, rfl, he⟩ := hrel
    have He := Lib.hid he
    clear he
    by_cases hz : 0 < c
    · have Hs := Lib.hid (within_step c d)
      by_cases h1 : ((c : Int) % 2 == 1) = true
      · by_cases h2 : ((d : Int) % 2 == 0) = true
        · go_wp2
          go_ret
          refine ⟨ret_bool ?_, rfl⟩
          rw [He.out, Hs.out]
          have e1 : c % 2 = 1 := by have := beq_iff_eq.1 h1; omega
          have e2 : d % 2 = 0 := by have := beq_iff_eq.1 h2; omega
          simp [e1, e2]
        · go_wp2
          refine ⟨⟨c / 2, d / 2, by omega, by omega, by go_num, by go_num, ?_⟩, by simp [intOf]; omega⟩
          rw [He.out, Hs.out]
          have e2 : d % 2 = 1 := by have := mt beq_iff_eq.2 h2; omega
          simp [e2]
      · go_wp2
        refine ⟨⟨c / 2, d / 2, by omega, by omega, by go_num, by go_num, ?_⟩, by simp [intOf]; omega⟩
        rw [He.out, Hs.out]
        have e2 : c % 2 = 0 := by have := mt beq_iff_eq.2 h1; omega
        simp [e2]
    · obtain rfl : c = 0 := by omega
      go_wp2
      go_ret
      exact ⟨ret_bool (by rw [He.out, within_zero]), rfl⟩
theorem Within_is (x y : Nat) (b : Bool) (w : World) (ha : x < 2 ^ 62) (hb : y < 2 ^ 62) (h : within x y = b) :
    Calls Tryd.prog 32 #[.int .i64 x, .int .i64 y] w fun e w' => e = .returned (.bool b) ∧ w = w' := by
  subst h; exact Within_any x y w ha hb
end Go.Proofs.YtdgncngkalgknaaDoor

namespace Go.Proofs.YtdgncngkalgknaaDoor
open Go.RowKit
set_option maxRecDepth 100000
set_option linter.unusedVariables false
section
variable {P : List Int} {n c : Nat} {A : Option Addr} {w : World} {La Lb : List Int} {Aa Ab : Option Addr} {ca cb : Nat}
set_option maxHeartbeats 4000000 in
theorem SN_bad {k : Int} {q : Nat} (hP : Pow10 w.heap.size w) (hN : ∀ V, Below w.heap.size w V → NumErrs V) (h : NodesAt w A P n) (hq : sliceCode P n k = q) (h0 : q ≠ 0) :
    Calls Tryd.prog 11 #[.slice A n c, .int .i64 k, .slice Aa La.length ca, .slice Ab Lb.length cb] w fun e w' => e = .returned (.bool true) ∧ Below w.heap.size w w' := by
  have C0 := Lib.hid (sliceFact_any hP hN)
  have C1 := Lib.hid (fun V (hV : Below w.heap.size w V) => Needs_bad (c := c) (h.below (B := 0) hV) hq h0)
  have hF : ∀ V, Below w.heap.size w V → Calls Tryd.prog 31 #[.slice A n c] V fun e w' => (∃ x y, e = .returned (.tuple #[x, y])) ∧ Below V.heap.size V w' := fun V hV => by
    obtain ⟨k', hk'⟩ : ∃ k', progCode P n = k' := ⟨_, rfl⟩
    by_cases hne : k' = 0
    · subst hne
      obtain ⟨-, -, t, ht⟩ := progCode_tree hk'
      exact (From_ok (c := c) (h.below (B := 0) hV) hk' ht).mono fun e w' ⟨⟨B, c', he, _⟩, hb⟩ => ⟨⟨_, _, he⟩, hb⟩
    · exact (From_bad (c := c) (h.below (B := 0) hV) hk' hne).mono fun e w' ⟨he, hb⟩ => ⟨⟨_, _, he⟩, hb⟩
  have C2 := Lib.hid hF
  clear hP hN h hq hF
  generalize La.length = ma at *
  generalize Lb.length = mb at *
  go_enter Tryd.func11, Tryd.ntmps11
  go_wp2_with fail
  refine C0.out.mono ?_
  rintro e w1 ⟨rfl, hb1⟩
  go_wp2_with fail
  refine (C1.out _ hb1).mono ?_
  rintro e w2 ⟨rfl, hb2⟩
  have hb2 := hb1.trans (hb2.mono hb1.size)
  go_wp2_with fail
  refine (C2.out _ hb2).mono ?_
  rintro e w3 ⟨⟨x, y, rfl⟩, hb3⟩
  have HB := Lib.hid (hb2.trans (hb3.mono hb2.size))
  clear hb1 hb2 hb3
  go_wp2_with fail
  go_ret
  exact ⟨rfl, HB.out⟩
set_option maxHeartbeats 8000000 in
theorem SN_good {k u : Nat} {s : RS} (hP : Pow10 w.heap.size w) (hN : ∀ V, Below w.heap.size w V → NumErrs V) (h : NodesAt w A P (n + 1)) (hc : progCode P (n + 1) = 0) (hs : IsRS P n s) (hk : k < 6) (hu : 2 ^ k = u) (ha : IntsAt w Aa La) (hb : IntsAt w Ab Lb) :
    Calls Tryd.prog 11 #[.slice A (n + 1) c, .int .i64 k, .slice Aa La.length ca, .slice Ab Lb.length cb] w fun e w' => e = .returned (.bool true) ∧ Below w.heap.size w w' := by
  have hu64 : u < 64 := by subst hu; exact Nat.pow_lt_pow_right (n := 6) (by decide) hk
  have hst := hs.is.ok
  have C0 := Lib.hid (sliceFact_any hP hN)
  have C1 := Lib.hid (fun V (hV : Below w.heap.size w V) => Needs_good (c := c) (h.below (B := 0) hV) hc hs hk hu)
  have C2 := Lib.hid (fun V (hV : Below w.heap.size w V) => From_ok (c := c) (s := s.st) (h.below (B := 0) hV) hc hs.is)
  have HRa := Lib.hid (Run_cases (n := n + 1) (c := c) (cl := ca) (fuel := 600) (s := s.st) h ha (fun _ => hs.is))
  have HRb := Lib.hid (Run_cases (n := n + 1) (c := c) (cl := cb) (fuel := 600) (s := s.st) h hb (fun _ => hs.is))
  have HSb := Lib.hid (fun V hV => Run_some (n := n + 1) (c := c) (cl := cb) (fuel := 600) (s := s.st) h hb (fun _ => hs.is) V hV)
  have hsub : Sub (s.st.need u).1 (row (fromL s.st) k) := by subst hu; exact need_within hst hk
  have hv64 : (s.st.need u).1 < 64 := need_lt hst hu64
  have hr64 : row (fromL s.st) k < 64 := fromL_bd hst k
  have CW := Lib.hid (fun V => Within_is (s.st.need u).1 (row (fromL s.st) k) true V (by omega) (by omega) ((within_iff _ _).2 hsub))
  have HBt := Lib.hid (fun i (b : Bool) (hb : (s.st.need u).1.testBit i = b) (hi : i < 6) V => Bit_is (s.st.need u).1 i b V (by omega) (by omega) hb)
  have Hsame := Lib.hid (fun (va vb xa xb : List Nat) (fa fb la lb : Nat) (ra : s.st.run va fa = some (xa, la)) (rb : s.st.run vb fb = some (xb, lb)) (hh : Same (Bits (s.st.need u).1) va vb) => need_same hst hu64 ra rb hh)
  have Hbit := Lib.hid (show Bits u k by unfold Bits; rw [← hu, Nat.testBit_two_pow_self])
  have Hr6 := Lib.hid (fromL_len s.st)
  have HA := Lib.hid ha
  have HB := Lib.hid hb
  generalize hm : n + 1 = n1 at *
  generalize (s.st.need u).1 = v at *
  generalize hrk : row (fromL s.st) k = rk at *
  have Hrk := Lib.hid hrk
  generalize fromL s.st = r at *
  have d1 : decide ((v : Int) > 63) = false := by simp; omega
  have d2 : decide ((rk : Int) > 63) = false := by simp; omega
  have hki : (k : Int) < 6 := by omega
  clear hP hN h hc hs hst hsub hm hrk ha hb hu
  go_enter Tryd.func11, Tryd.ntmps11
  go_wp2_with fail
  refine C0.out.mono ?_
  rintro e w1 ⟨rfl, hb1⟩
  go_wp2_with fail
  refine (C1.out _ hb1).mono ?_
  rintro e w2 ⟨rfl, hb2⟩
  have hb2 := hb1.trans (hb2.mono hb1.size)
  go_wp2_with fail
  refine (C2.out _ hb2).mono ?_
  rintro e w3 ⟨⟨Br, cr, rfl, hR⟩, hb3⟩
  obtain ⟨pr, or_, rfl, cR⟩ := cells6 hR (by rw [length_castL, Hr6.out])
  have r1 := cR w3 (Below.refl _ _) k hk
  rw [gI_castL, ← row_getD, Hrk.out] at r1
  have HB3 := Lib.hid (hb2.trans (hb3.mono hb2.size))
  clear hb1 hb2 hb3 cR hR C0 C1 C2
  go_wp2_with fail
  refine (CW.out _).mono ?_
  rintro e w4 ⟨rfl, rfl⟩
  rcases HRa.out with ⟨qa, -, hRa⟩ | ⟨va, fa, xa, la, ⟨hva, h6a, hfa, vra, -, ra, vxa⟩, hRa⟩
  · have CA := Lib.hid (hRa _ HB3.out)
    clear hRa HRa HRb
    generalize La.length = ma at *
    generalize Lb.length = mb at *
    go_wp2_with fail
    refine CA.out.mono ?_
    rintro e w4 ⟨rfl, hb4⟩
    go_wp2_with fail
    refine (HSb.out _ hb4).mono ?_
    rintro e w5 ⟨⟨x, y, z, rfl⟩, hb5⟩
    go_wp2_with fail
    go_ret
    exact ⟨rfl, hb5⟩
  · have CA := hRa _ HB3.out
    rw [h6a] at CA ⊢
    have CA := Lib.hid CA
    rcases HRb.out with ⟨qb, -, hRb⟩ | ⟨vb, fb, xb, lb, ⟨hvb, h6b, hfb, vrb, -, rb, vxb⟩, hRb⟩
    · have CB := Lib.hid hRb
      clear hRa hRb HRa HRb HSb hva h6a hfa vra ra vxa
      generalize Lb.length = mb at *
      generalize fa - la = ba at *
      go_wp2_with fail
      refine CA.out.mono ?_
      rintro e w4 ⟨⟨B4, c4, rfl, -⟩, -, hb4⟩
      go_wp2_with fail
      refine (CB.out _ hb4).mono ?_
      rintro e w5 ⟨rfl, hb5⟩
      go_wp2_with fail
      go_ret
      exact ⟨rfl, hb5⟩
    · rw [h6b] at hRb ⊢
      have CB := Lib.hid hRb
      have Hq := Lib.hid (fun (hh : ∀ i, i < 6 → v.testBit i = true → va.getD i 0 = vb.getD i 0) => Hsame.out va vb xa xb fa fb la lb ra rb ⟨by rw [vra.1, vrb.1], fun i hi => by
        rcases Nat.lt_or_ge i 6 with h1 | h1
        · exact hh i h1 hi
        · rw [List.getD_eq_getElem?_getD, List.getD_eq_getElem?_getD, List.getElem?_eq_none (by rw [vra.1]; omega), List.getElem?_eq_none (by rw [vrb.1]; omega)]⟩)
      obtain ⟨pa, oa, rfl, cA⟩ := cells6 HA.out h6a
      obtain ⟨pb, ob, rfl, cB⟩ := cells6 HB.out h6b
      rw [hva] at cA
      rw [hvb] at cB
      have HcA := Lib.hid cA
      have HcB := Lib.hid cB
      have Hxa := Lib.hid vxa.1
      have Hxb := Lib.hid vxb.1
      generalize fa - la = ba at *
      generalize fb - lb = bb at *
      clear hRa hRb HRa HRb HSb hva h6a hfa vra ra vxa hvb h6b hfb vrb rb vxb cA cB Hsame
      go_wp2_with fail
      refine CA.out.mono ?_
      rintro e w4 ⟨⟨Bx, cx, rfl, hx⟩, -, hb4⟩
      have Hx := Lib.hid hx
      clear hx
      go_wp2_with fail
      refine (CB.out _ hb4).mono ?_
      rintro e w5 ⟨⟨By, cy, rfl, hy⟩, hb45, hb5⟩
      obtain ⟨px, ox, rfl, cX⟩ := cells6 (Hx.out.below hb45) (by rw [length_castL, Hxa.out])
      obtain ⟨py, oy, rfl, cY⟩ := cells6 hy (by rw [length_castL, Hxb.out])
      have HX := Lib.hid cX
      have HY := Lib.hid cY
      clear cX cY hy CA CB hb4 hb45
      go_wp2_with fail
      go_loopw [20] (fun i wr => ∃ j : Nat, j ≤ 6 ∧ i = .int .i64 j ∧ Hid (∀ x, x < j → v.testBit x = true → va.getD x 0 = vb.getD x 0) ∧ ∃ q, wr = w5.drewN q) (fun i _ => 6 - (intOf i).toNat)
      case atStart => exact ⟨0, Nat.zero_le _, rfl, Lib.hid (fun j hj => by omega), 0, rfl⟩
      case round =>
        obtain ⟨j, hj, rfl, hall, q, rfl⟩ := hrel
        by_cases hlt : j < 6
        · have c2 := HcA.out w5 hb5 j hlt
          have c3 := HcB.out w5 hb5 j hlt
          rw [gI_castL] at c2 c3
          have hk6 : (j : Int) < 6 := by omega
          have Hn := Lib.hid (fun (hh : v.testBit j = true → va.getD j 0 = vb.getD j 0) => show ∀ x, x < j + 1 → v.testBit x = true → va.getD x 0 = vb.getD x 0 from fun x hx hl => by
            rcases Nat.lt_or_ge x j with h1 | h1
            · exact hall.out x h1 hl
            · obtain rfl : x = j := by omega
              exact hh hl)
          generalize va.getD j 0 = xa0 at *
          generalize vb.getD j 0 = xb0 at *
          cases hbt : v.testBit j with
          | true =>
            have HB1 := Lib.hid (fun V => HBt.out j true hbt hlt V)
            by_cases hab : xa0 = xb0
            · have Hn1 := Lib.hid (Hn.out (fun _ => hab))
              subst hab
              clear Hn hbt
              go_wp2_with fail
              go_quiet (with_reducible exact quiet2 (HB1.out _))
              go_wp2_with fail
              refine ⟨⟨j + 1, ?ua, ?ub, Hn1, _, rfl⟩, ?ud⟩
              case ua => omega
              case ub => go_num
              case ud => simp [intOf]; omega
            · have dn : ((xa0 : Int) != (xb0 : Int)) = true := by simp; omega
              clear Hn hbt
              go_wp2_with fail
              go_quiet (with_reducible exact quiet2 (HB1.out _))
              go_wp2_with fail
              go_ret
              first | exact ⟨rfl, belowD hb5 _⟩ | exact ⟨rfl, belowD (belowD hb5 _) _⟩
          | false =>
            have HB1 := Lib.hid (fun V => HBt.out j false hbt hlt V)
            have Hn1 := Lib.hid (Hn.out (fun h => by rw [hbt] at h; cases h))
            clear Hn hbt
            go_wp2_with fail
            go_quiet (with_reducible exact quiet2 (HB1.out _))
            go_wp2_with fail
            refine ⟨⟨j + 1, ?ta, ?tb, Hn1, _, rfl⟩, ?td⟩
            case ta => omega
            case tb => go_num
            case td => simp [intOf]; omega
        · obtain rfl : j = 6 := by omega
          simp only [show ((6 : Nat) : Int) = 6 from rfl]
          have hq := Hq.out hall.out
          have Hs2 := Lib.hid (show xa.getD k 0 = xb.getD k 0 from hq.2 k Hbit.out)
          clear hq hall Hq
          have c2 := HX.out w5 (Below.refl _ _) k hk
          have c3 := HY.out w5 (Below.refl _ _) k hk
          rw [gI_castL] at c2 c3
          rw [Hs2.out] at c2
          generalize xb.getD k 0 = xb0 at *
          go_wp2_with fail
          go_quiet (fail)
          go_wp2_with fail
          go_ret
          first | exact ⟨ret_bool (by simp), belowD hb5 _⟩ | exact ⟨ret_bool (by simp), belowD (belowD hb5 _) _⟩
end
theorem SliceNeeds_walk (n : Nat) (P : List Int) (A : Option Addr) (c : Nat) {W : World} (hn : P.length = n * 5) (h : IntsAt W A P) (s0 : n * 5 < 2 ^ 47) (b0 : ∀ x ∈ P, I64 x) (k : Int) (hk : I64 k)
    (La : List Int) (Aa : Option Addr) (ca : Nat) (ha : IntsAt W Aa La) (sa : La.length < 2 ^ 47) (ba : ∀ x ∈ La, I64 x) (Lb : List Int) (Ab : Option Addr) (cb : Nat) (hb : IntsAt W Ab Lb) (sb : Lb.length < 2 ^ 47) (bb : ∀ x ∈ Lb, I64 x)
    (w : World) (hw : w = W) (hP : Pow10 W.heap.size W) (hN : ∀ V, Below W.heap.size W V → NumErrs V) :
    Calls Tryd.prog 11 #[.slice A n c, .int .i64 k, .slice Aa La.length ca, .slice Ab Lb.length cb] w fun e w' => e = .returned (.bool true) ∧ Below W.heap.size W w' := by
  subst hw
  have hA : NodesAt w A P n := ⟨h, hn, by omega⟩
  obtain ⟨q, hq⟩ : ∃ q, sliceCode P n k = q := ⟨_, rfl⟩
  by_cases hne : q = 0
  · subst hne
    unfold sliceCode at hq
    split at hq
    · rename_i hc
      split at hq
      · rename_i hk6
        obtain ⟨k', rfl⟩ : ∃ k' : Nat, k = k' := ⟨k.toNat, by omega⟩
        obtain ⟨m, s, rfl, hs, hcn, h80⟩ := raw_of hc
        exact SN_good hP hN hA hc hs (by omega) rfl ha hb
      · cases hq
    · rename_i hc; exact absurd hq hc
  · exact SN_bad hP hN hA hq hne
end Go.Proofs.YtdgncngkalgknaaDoor
