/-
  Contract: quietwingsame.Nodes of two alike.
  The closed fact of the laws on slices; what Cut and Needs tell, in any world behind.
  The walk of SliceTwice.
  Slicing: all that are needed for one variable may flow into it. Plain laws.
  The walk of TopText.
-/
import Derived.Test.YtdgncngkalgknaaDoorPgB
import Derived.Test.YtdgncngkalgknaaDoorWithin
import Derived.Test.YtdgncngkalgknaaDoorOver
import Derived.Deep.QuietTactic
import Derived.BigQuiet
import Derived.Test.YtdgncngkalgknaaDoorSlWk
import Derived.Test.YtdgncngkalgknaaDoorRunM
import Derived.Test.YtdgncngkalgknaaDoorSlPl
import Derived.Test.YtdgncngkalgknaaDoorFlowM
import Derived.Test.YtdgncngkalgknaaDoorCells6
namespace Go.Proofs.YtdgncngkalgknaaDoor
open Go.RowKit
set_option maxRecDepth 100000
set_option linter.unusedVariables false

set_option maxHeartbeats 4000000 in
theorem Nodes_same {w : World} {A B : Option Addr} {c d m : Nat} {S : List Int} (hA : NodesAt w A S m) (hB : NodesAt w B S m) :
    Calls Tryd.prog 24 #[.slice A m c, .slice B m d] w fun e w' => e = .returned (.bool true) ∧ ∃ n, w' = w.drewN n := by
  have hs := hA.small
  have HA := Lib.hid hA
  have HB := Lib.hid hB
  clear hA hB
  go_enter Tryd.func24, Tryd.ntmps24
  go_wp2_with fail
  go_loopw [5] (fun i wr => ∃ k : Nat, k ≤ m ∧ i = .int .i64 k ∧ ∃ n, wr = w.drewN n) (fun i _ => m - (intOf i).toNat)
  case atStart => exact ⟨0, Nat.zero_le _, rfl, 0, rfl⟩
  case round =>
    obtain ⟨k, hk, rfl, nd0, rfl⟩ := hrel
    by_cases hlt : k < m
    · obtain ⟨b, off, rfl, y0, y1, y2, y3, y4⟩ := HA.out.cells hlt
      obtain ⟨b', off', rfl, z0, z1, z2, z3, z4⟩ := HB.out.cells hlt
      generalize nd S k 0 = s0 at *
      generalize nd S k 1 = s1 at *
      generalize nd S k 2 = s2 at *
      generalize nd S k 3 = s3 at *
      generalize nd S k 4 = s4 at *
      go_wp2_with fail
      go_quiet (fail)
      go_wp2_with fail
      refine ⟨⟨k + 1, ?ya, ?yb, ?yc⟩, ?yd⟩
      case ya => omega
      case yb => go_num
      case yc => exact ⟨_, rfl⟩
      case yd => simp [intOf]; omega
    · obtain rfl : k = m := by omega
      go_wp2_with fail
      go_ret
      exact ⟨rfl, _, rfl⟩
end Go.Proofs.YtdgncngkalgknaaDoor

namespace Go.Proofs.YtdgncngkalgknaaDoor
open Go.RowKit
set_option maxRecDepth 100000
set_option linter.unusedVariables false

def sfL : List Int := [0, 1, 0, 0, 0, 6, 0, 0, 0, 0, 0, 2, 0, 0, 0, 6, 1, 2, 0, 0, 7, 0, 1, 3, 0]
def sfR : RS := .both (.set 0 0 0 (.leaf 0 1 0 0 0)) (.set 1 0 0 (.leaf 0 2 0 0 0))
theorem sfact_code : progCode sfL 5 = 0 := by decide +kernel
theorem sfact_raw : IsRS sfL 4 sfR :=
  .both (a := 1) (b := 3) rfl rfl rfl (by decide) (by decide) (.set (a := 0) rfl rfl (by decide) (by decide) rfl rfl rfl (by decide) (.leaf rfl rfl rfl rfl rfl (.inl ⟨rfl, by decide, by decide⟩)))
    (.set (a := 2) rfl rfl (by decide) (by decide) rfl rfl rfl (by decide) (.leaf rfl rfl rfl rfl rfl (.inl ⟨rfl, by decide, by decide⟩)))
theorem sfact_cut : (sfR.cut 2).getD .skip = .set 1 0 0 (.leaf 0 2 0 0 0) := by rfl
theorem sfact_read : readP ⟨#[97, 61, 35, 49, 59, 98, 61, 35, 50, 59]⟩ = .good 4 [] sfL := by decide +kernel
variable {w : World}
set_option maxHeartbeats 4000000 in
theorem sliceFact_any (hP : Pow10 w.heap.size w) (hN : ∀ V, Below w.heap.size w V → NumErrs V) : Calls Tryd.prog 29 #[] w fun e w' => e = .returned (.bool true) ∧ Below w.heap.size w w' := by
  have HR := Lib.hid (Read_right hP hN sfact_read w (Below.refl _ _))
  clear hP hN
  go_enter Tryd.func29, Tryd.ntmps29
  go_wp2_with fail
  refine HR.out.mono ?_
  rintro e w1 ⟨⟨A, c, rfl, hA⟩, -, hb1⟩
  have C1 := Cut_good (c := c) (k := 1) (u := 2) hA sfact_code sfact_raw (by decide) rfl
  rw [sfact_cut] at C1
  have C1 := Lib.hid (show Calls Tryd.prog 17 #[.slice A 5 c, .int .i64 1] w1 (fun e w' => (∃ A' c', e = .returned (.tuple #[.slice A' 2 c', .nilIface]) ∧ NodesAt w' A' [0, 2, 0, 0, 0, 6, 1, 0, 0, 0] 2) ∧ Below w1.heap.size w1 w') from C1)
  have HB1 := Lib.hid hb1
  clear HR hA hb1
  go_wp2_with fail
  refine C1.out.mono ?_
  rintro e w2 ⟨⟨A2, c2, rfl, hA2⟩, hb2⟩
  obtain ⟨b, off, rfl, hc⟩ := hA2.ints (by decide)
  have y1 : w2.cell? ⟨b, off + 6, none⟩ = some (.int .i64 1) := hc 6 1 rfl
  have HB2 := Lib.hid (HB1.out.trans (hb2.mono HB1.out.size))
  clear hc hA2 hb2 C1 HB1
  go_wp2_with fail
  go_ret
  exact ⟨rfl, HB2.out⟩
end Go.Proofs.YtdgncngkalgknaaDoor

namespace Go.Proofs.YtdgncngkalgknaaDoor
open Go.RowKit
set_option maxRecDepth 100000
set_option linter.unusedVariables false
/-- A right program's raw tree. -/
theorem raw_of {P : List Int} {n : Nat} (h : progCode P n = 0) : ∃ m s, n = m + 1 ∧ IsRS P m s ∧ s.cnt ≤ m + 1 ∧ m + 1 ≤ 80 := by
  obtain ⟨⟨hn1, hn80⟩, -, t, ht⟩ := progCode_tree h
  obtain ⟨m, rfl⟩ : ∃ m, n = m + 1 := ⟨n - 1, by omega⟩
  obtain ⟨s, hs, -⟩ := raw_st (show IsSt P m t from ht)
  exact ⟨m, s, rfl, hs, by rw [← RS.cnt_st]; exact root_cnt h hs.is, hn80⟩
/-- What is left of it, as a program. -/
theorem left_of {P : List Int} {m u : Nat} {s : RS} (hs : IsRS P m s) (hcn : s.cnt ≤ m + 1) (h80 : m + 1 ≤ 80) : ∃ j, ((s.cut u).getD .skip).cnt = j + 1 ∧ j ≤ m ∧ progCode (((s.cut u).getD .skip).lay 0) (j + 1) = 0 ∧ IsRS (((s.cut u).getD .skip).lay 0) j ((s.cut u).getD .skip) := by
  have h1 := RS.cut0_cnt s u
  have h2 := ((s.cut u).getD .skip).pos
  have hok : ((s.cut u).getD .skip).ok := ok_getD fun x e => RS.cut_ok hs.ok e
  obtain ⟨j, hj⟩ : ∃ j, ((s.cut u).getD .skip).cnt = j + 1 := ⟨((s.cut u).getD .skip).cnt - 1, by omega⟩
  obtain ⟨h3, h4⟩ := RS.code hok (by omega)
  rw [hj] at h3 h4
  exact ⟨j, hj, by omega, h3, h4⟩
section
variable {P : List Int} {n c : Nat} {A : Option Addr} {w : World}
set_option maxHeartbeats 4000000 in
theorem ST_bad {k : Int} {q : Nat} (hP : Pow10 w.heap.size w) (hN : ∀ V, Below w.heap.size w V → NumErrs V) (h : NodesAt w A P n) (hq : sliceCode P n k = q) (h0 : q ≠ 0) :
    Calls Tryd.prog 7 #[.slice A n c, .int .i64 k] w fun e w' => e = .returned (.bool true) ∧ Below w.heap.size w w' := by
  have C0 := Lib.hid (sliceFact_any hP hN)
  have C1 := Lib.hid (fun V (hV : Below w.heap.size w V) => Cut_bad (c := c) (h.below (B := 0) hV) hq h0)
  have C2 := Lib.hid (fun V (hV : Below w.heap.size w V) => Needs_bad (c := c) (h.below (B := 0) hV) hq h0)
  clear hP hN h hq
  go_enter Tryd.func7, Tryd.ntmps7
  go_wp2_with fail
  refine C0.out.mono ?_
  rintro e w1 ⟨rfl, hb1⟩
  go_wp2_with fail
  refine (C1.out _ hb1).mono ?_
  rintro e w2 ⟨rfl, hb2⟩
  have hb2 := hb1.trans (hb2.mono hb1.size)
  go_wp2_with fail
  refine (C2.out _ hb2).mono ?_
  rintro e w3 ⟨rfl, hb3⟩
  have HB := Lib.hid (hb2.trans (hb3.mono hb2.size))
  clear hb1 hb2 hb3
  go_wp2_with fail
  go_ret
  exact ⟨rfl, HB.out⟩
set_option maxHeartbeats 4000000 in
theorem ST_good {k u : Nat} {s : RS} (hP : Pow10 w.heap.size w) (hN : ∀ V, Below w.heap.size w V → NumErrs V) (h : NodesAt w A P (n + 1)) (hc : progCode P (n + 1) = 0) (hs : IsRS P n s) (hcn : s.cnt ≤ n + 1) (h80 : n + 1 ≤ 80) (hk : k < 6) (hu : 2 ^ k = u) :
    Calls Tryd.prog 7 #[.slice A (n + 1) c, .int .i64 k] w fun e w' => e = .returned (.bool true) ∧ Below w.heap.size w w' := by
  have hu64 : u < 64 := by subst hu; exact Nat.pow_lt_pow_right (n := 6) (by decide) hk
  obtain ⟨j, hj, -, hc2, hs2⟩ := left_of (u := u) hs hcn h80
  have htw := RS.cut_twice hs.is.ok hu64
  have hnd : (((s.cut u).getD .skip).st.need u) = s.st.need u := by rw [s.cut0_st]; exact cut_need hs.is.ok hu64 (Sub.refl u)
  have C0 := Lib.hid (sliceFact_any hP hN)
  have C1 := fun V (hV : Below w.heap.size w V) => Cut_good (c := c) (h.below (B := 0) hV) hc hs hk hu
  have C2 := Lib.hid (fun V (hV : Below w.heap.size w V) => Needs_good (c := c) (h.below (B := 0) hV) hc hs hk hu)
  have C3 := fun V A' c' (hA : NodesAt V A' (((s.cut u).getD .skip).lay 0) (j + 1)) => Cut_good (c := c') hA hc2 hs2 hk hu
  have C4 := fun V A' c' (hA : NodesAt V A' (((s.cut u).getD .skip).lay 0) (j + 1)) => Needs_good (c := c') hA hc2 hs2 hk hu
  rw [htw] at C3
  rw [hnd] at C4
  rw [hj] at C1 C3
  have C1 := Lib.hid C1
  have C3 := Lib.hid C3
  have C4 := Lib.hid C4
  generalize (s.st.need u).1 = v at *
  generalize ((s.cut u).getD .skip).lay 0 = L at *
  generalize hm : n + 1 = n1 at *
  generalize hm2 : j + 1 = j1 at *
  clear hP hN h hc hs hcn h80 htw hnd hc2 hs2 hj hm hm2
  go_enter Tryd.func7, Tryd.ntmps7
  go_wp2_with fail
  refine C0.out.mono ?_
  rintro e w1 ⟨rfl, hb1⟩
  go_wp2_with fail
  refine (C1.out _ hb1).mono ?_
  rintro e w2 ⟨⟨A', c', rfl, hA'⟩, hb2⟩
  have hb2 := hb1.trans (hb2.mono hb1.size)
  have HA := Lib.hid hA'
  have HB2 := Lib.hid hb2
  go_wp2_with fail
  refine (C2.out _ hb2).mono ?_
  rintro e w3 ⟨rfl, hb3⟩
  have HA := Lib.hid (HA.out.below (B := 0) hb3)
  have HB3 := Lib.hid (HB2.out.trans (hb3.mono HB2.out.size))
  have C5 := Lib.hid (C3.out w3 A' c' HA.out)
  clear hA' hb1 hb2 hb3 C0 C1 C2 HB2
  go_wp2_with fail
  refine C5.out.mono ?_
  rintro e w4 ⟨⟨A2, c2, rfl, hA2⟩, hb4⟩
  have HA := Lib.hid (HA.out.below (B := 0) hb4)
  have HA2 := Lib.hid hA2
  have HB4 := Lib.hid (HB3.out.trans (hb4.mono HB3.out.size))
  have C6 := Lib.hid (C4.out w4 A' c' HA.out)
  clear C5 hA2 hb4 HB3
  go_wp2_with fail
  refine C6.out.mono ?_
  rintro e w5 ⟨rfl, hb5⟩
  have C7 := Lib.hid (Nodes_same (c := c2) (d := c') (HA2.out.below (B := 0) hb5) (HA.out.below (B := 0) hb5))
  have HB5 := Lib.hid (HB4.out.trans (hb5.mono HB4.out.size))
  clear C6 hb5 HB4
  go_wp2_with fail
  refine C7.out.mono ?_
  rintro e w6 ⟨rfl, z, rfl⟩
  go_wp2_with fail
  go_ret
  exact ⟨rfl, belowD HB5.out z⟩
end
theorem SliceTwice_walk (n : Nat) (P : List Int) (A : Option Addr) (c : Nat) {W : World} (hn : P.length = n * 5) (h : IntsAt W A P) (s0 : n * 5 < 2 ^ 47) (b0 : ∀ x ∈ P, I64 x) (k : Int) (hk : I64 k)
    (w : World) (hw : w = W) (hP : Pow10 W.heap.size W) (hN : ∀ V, Below W.heap.size W V → NumErrs V) :
    Calls Tryd.prog 7 #[.slice A n c, .int .i64 k] w fun e w' => e = .returned (.bool true) ∧ Below W.heap.size W w' := by
  subst hw
  have hA : NodesAt w A P n := ⟨h, hn, by omega⟩
  obtain ⟨q, hq⟩ : ∃ q, sliceCode P n k = q := ⟨_, rfl⟩
  by_cases hne : q = 0
  · subst hne
    unfold sliceCode at hq
    split at hq
    · rename_i hc
      split at hq
      · rename_i hk6
        obtain ⟨k', rfl⟩ : ∃ k' : Nat, k = k' := ⟨k.toNat, by omega⟩
        obtain ⟨m, s, rfl, hs, hcn, h80⟩ := raw_of hc
        exact ST_good hP hN hA hc hs hcn h80 (by omega) rfl
      · cases hq
    · rename_i hc; exact absurd hq hc
  · exact ST_bad hP hN hA hq hne
end Go.Proofs.YtdgncngkalgknaaDoor

namespace Go.Proofs.YtdgncngkalgknaaDoor
set_option linter.unusedVariables false

theorem need_within {s : St} (hs : s.ok) {x : Nat} (hx : x < 6) : Sub (s.need (2 ^ x)).1 (row (fromL s) x) := by
  intro j hj
  have hp := fun q hq => sets_lt hs (by decide) (u := 0) q hq
  obtain ⟨i, hi, hr⟩ := (need_flows (R := fun i j => i = j ∨ i < 6 ∧ j < 6 ∧ (row (fromL s) i).testBit j = true) (fun i => .inl rfl) (fun i m j h1 h2 => by
    rcases h1 with rfl | ⟨a1, a2, a3⟩
    · exact h2
    · rcases h2 with rfl | ⟨b1, b2, b3⟩
      · exact .inr ⟨a1, a2, a3⟩
      · exact .inr ⟨a1, b2, fromL_trans s a1 b1 a3 b3⟩) (s := s) (t := 0) (u := 2 ^ x) (fun p hpp j hb => .inr ⟨(hp p hpp).1, bit_below (n := 6) (hp p hpp).2 hb, fromL_more hs hpp hb⟩)).1 j hj
  rw [tb_pow, decide_eq_true_eq] at hi
  subst hi
  rcases hr with rfl | ⟨_, _, h⟩
  · exact fromL_self s hx
  · exact h
end Go.Proofs.YtdgncngkalgknaaDoor

namespace Go.Proofs.YtdgncngkalgknaaDoor
open Go.RowKit
set_option maxRecDepth 100000
set_option linter.unusedVariables false
/-- With levels that fit: what is left for one variable leaves it as the whole does, with variables that differ above its level alone. -/
theorem top_same {s : RS} (hs : s.st.ok) {k u : Nat} (hk : k < 6) (hu : 2 ^ k = u) (hok : ((s.cut u).getD .skip).st.ok) {O : List Int} (hO : ∀ i, i < 6 → 0 ≤ gI O i) (hf : fitB O (s.st.sets 0) = true) {va vb xa xb : List Nat} {fa fb la lb : Nat}
    (ra : s.st.run va fa = some (xa, la)) (rb : ((s.cut u).getD .skip).st.run vb fb = some (xb, lb)) (h6a : va.length = 6) (h6b : vb.length = 6) (hh : ∀ x, x < 6 → gI O x ≤ gI O k → va.getD x 0 = vb.getD x 0) : xa.getD k 0 = xb.getD k 0 := by
  have hu64 : u < 64 := by subst hu; exact Nat.pow_lt_pow_right (n := 6) (by decide) hk
  have hsub : Sub (s.st.need u).1 (row (fromL s.st) k) := by subst hu; exact need_within hs hk
  have hfit := (fitB_iff hs hO).1 hf
  have hsame : Same (Bits (s.st.need u).1) va vb := ⟨by rw [h6a, h6b], fun i hi => by
    rcases Nat.lt_or_ge i 6 with h1 | h1
    · exact hh i h1 (hfit k i hk h1 (hsub i hi))
    · rw [List.getD_eq_getElem?_getD, List.getD_eq_getElem?_getD, List.getElem?_eq_none (by omega), List.getElem?_eq_none (by omega)]⟩
  rw [s.cut0_st] at rb hok
  obtain ⟨z, m', hz, hsz, -⟩ := cut_does hs hu64 va fa xa la ra va fa ⟨rfl, fun _ _ => rfl⟩ (Nat.le_refl _)
  have h2 := need_same hok hu64 hz rb (by rw [cut_need hs hu64 (Sub.refl u)]; exact hsame)
  have hbit : Bits u k := by unfold Bits; rw [← hu, Nat.testBit_two_pow_self]
  exact (hsz.2 k hbit).trans (h2.2 k hbit)
section
variable {P : List Int} {n c : Nat} {A : Option Addr} {w : World} {M : List Int} {Al : Option Addr} {cl : Nat} {s : St}
/-- What Least tells. -/
theorem Least_said (h : NodesAt w A P n) (hL : IntsAt w Al M) (hc : progCode P n = 0) (hs : IsSt P (n - 1) s) (hT : Tab w) :
    Calls Tryd.prog 16 #[.slice A n c, .slice Al M.length cl] w fun e w' => ((∃ k : Nat, e = .returned (.tuple #[.slice none 0 0, .iface 61 (.int .i64 k)])) ∨
      ∃ O, O.length = 6 ∧ (∀ i, i < 6 → 0 ≤ gI O i) ∧ fitB O (s.sets 0) = true ∧ ∃ B c', e = .returned (.tuple #[.slice B 6 c', .nilIface]) ∧ IntsAt w' B O) ∧ Below w.heap.size w w' := by
  obtain ⟨k, hk⟩ : ∃ k, leastCode P n M = k := ⟨_, rfl⟩
  by_cases hne : k = 0
  · subst hne
    refine (Least_ok (c := c) (cl := cl) h hL hk hs hT).mono ?_
    rintro e w' ⟨⟨O, hI, hSt, ⟨hf, B, c', he, hi⟩ | ⟨hf, he⟩⟩, hb⟩
    · exact ⟨.inr ⟨O, hI.len, fun i hi => (hI.bd i hi).1, hf, B, c', he, hi⟩, hb⟩
    · exact ⟨.inl ⟨6, he⟩, hb⟩
  · exact (Least_bad (c := c) (cl := cl) h hL hk hne).mono fun e w' ⟨he, hb⟩ => ⟨.inl ⟨k, he⟩, hb⟩
/-- What Cut tells. -/
theorem Cut_said {k : Int} {s : RS} (h : NodesAt w A P (n + 1)) (hc : progCode P (n + 1) = 0) (hs : IsRS P n s) :
    Calls Tryd.prog 17 #[.slice A (n + 1) c, .int .i64 k] w fun e w' => ((∃ q : Nat, e = .returned (.tuple #[.slice none 0 0, .iface 61 (.int .i64 q)])) ∨
      ∃ j u : Nat, k = j ∧ j < 6 ∧ 2 ^ j = u ∧ ∃ A' c', e = .returned (.tuple #[.slice A' ((s.cut u).getD .skip).cnt c', .nilIface]) ∧ NodesAt w' A' (((s.cut u).getD .skip).lay 0) ((s.cut u).getD .skip).cnt) ∧ Below w.heap.size w w' := by
  by_cases hk : 0 ≤ k ∧ k ≤ 5
  · obtain ⟨j, rfl⟩ : ∃ j : Nat, k = j := ⟨k.toNat, by omega⟩
    exact (Cut_good (c := c) (k := j) h hc hs (by omega) rfl).mono fun e w' ⟨⟨A', c', he, hA⟩, hb⟩ => ⟨.inr ⟨j, _, rfl, by omega, rfl, A', c', he, hA⟩, hb⟩
  · exact (Cut_bad (c := c) (k := k) (q := 1) h (by unfold sliceCode; rw [if_pos hc, if_neg hk]) (by decide)).mono fun e w' ⟨he, hb⟩ => ⟨.inl ⟨1, he⟩, hb⟩
end
section
variable {w : World} {s : ByteArray} {M La Lb : List Int} {Am Aa Ab : Option Addr} {cm ca cb : Nat} {k : Int}
set_option maxHeartbeats 4000000 in
theorem TT_bad {q : Nat} (hP : Pow10 w.heap.size w) (hN : ∀ V, Below w.heap.size w V → NumErrs V) (h : readP s = .bad q) :
    Calls Tryd.prog 3 #[.string s, .slice Am M.length cm, .slice Aa La.length ca, .slice Ab Lb.length cb, .int .i64 k] w fun e w' => e = .returned (.bool true) ∧ Below w.heap.size w w' := by
  have HR := Lib.hid (Read_fact hP)
  have CR := Lib.hid (Read_wrong hP hN h)
  clear hP hN h
  generalize M.length = lm at *
  generalize La.length = ma at *
  generalize Lb.length = mb at *
  go_enter Tryd.func3, Tryd.ntmps3
  go_wp2_with fail
  refine HR.out.mono ?_
  rintro e w1 ⟨⟨A, c, rfl, hA⟩, hb1⟩
  have hl1 := intsAt_built w1 3 (castL [0, 5, 0, 0, 0, 0])
  have hbl1 := (Below.refl w1.heap.size w1).alloc (Nat.le_refl _) (.cells ((castL [0, 5, 0, 0, 0, 0]).map (Value.int .i64)).toArray 3)
  have C1 := Run_ok (c := c) (cl := 6) (hA.below (B := 0) hbl1) hl1 fact_runCode fact_vars fact_st
  rw [fact_run] at C1
  have C1 := Lib.hid (show Calls Tryd.prog 14 #[.slice A 4 c, .slice (some ⟨w1.heap.size, 0, none⟩) 6 6, .int .i64 9] (w1.alloc (.cells ((castL [0, 5, 0, 0, 0, 0]).map (Value.int .i64)).toArray 3)) (fun e w' => (∃ B c', e = .returned (.tuple #[.slice B 6 c', .int .i64 1, .nilIface]) ∧ IntsAt w' B (castL [7, 5, 0, 0, 0, 0])) ∧ Below (w1.alloc (.cells ((castL [0, 5, 0, 0, 0, 0]).map (Value.int .i64)).toArray 3)).heap.size (w1.alloc (.cells ((castL [0, 5, 0, 0, 0, 0]).map (Value.int .i64)).toArray 3)) w') from C1)
  have hbw1 := hb1.trans (hbl1.mono hb1.size)
  have Hs1 := Lib.hid hbw1.size
  go_wp2_with fail
  refine C1.out.mono ?_
  rintro e w2 ⟨⟨B, c', rfl, hB⟩, hb2⟩
  have hbw2 := hbw1.trans (hb2.mono Hs1.out)
  have hl2 := intsAt_built w2 3 (castL [7, 5, 0, 0, 0, 0])
  have hbl2 := (Below.refl w2.heap.size w2).alloc (Nat.le_refl _) (.cells ((castL [7, 5, 0, 0, 0, 0]).map (Value.int .i64)).toArray 3)
  have C2 := Lib.hid (show Calls Tryd.prog 15 #[.slice B 6 c', .slice (some ⟨w2.heap.size, 0, none⟩) 6 6] (w2.alloc (.cells ((castL [7, 5, 0, 0, 0, 0]).map (Value.int .i64)).toArray 3)) (fun e w' => e = .returned (.bool true) ∧ ∃ n, w' = (w2.alloc (.cells ((castL [7, 5, 0, 0, 0, 0]).map (Value.int .i64)).toArray 3)).drewN n) from Ints_any (castL [7, 5, 0, 0, 0, 0]) (castL [7, 5, 0, 0, 0, 0]) B _ c' 6 _ (hB.below hbl2) hl2 (by decide))
  have hbw3 := hbw2.trans (hbl2.mono hbw2.size)
  have H3 := Lib.hid hbw3
  clear C1 hb1 hb2 hB hl2 hbl2 hl1 hbl1 hbw1 hbw2 hbw3 hA HR
  go_wp2_with fail
  refine C2.out.mono ?_
  rintro e w3 ⟨rfl, zz, rfl⟩
  have HB3 := Lib.hid (belowD H3.out zz)
  generalize (w2.alloc (.cells ((castL [7, 5, 0, 0, 0, 0]).map (Value.int .i64)).toArray 3)).drewN zz = w3 at *
  clear C2 H3
  go_wp2_with fail
  refine (CR.out _ HB3.out).mono ?_
  rintro e w4 ⟨rfl, hb4⟩
  go_wp2_with fail
  go_ret
  exact ⟨rfl, hb4⟩
set_option maxHeartbeats 8000000 in
theorem TT_good {i : Nat} {l : List UInt8} {o : List Int} (hP : Pow10 w.heap.size w) (hN : ∀ V, Below w.heap.size w V → NumErrs V) (hT : Tab w) (hM : IntsAt w Am M) (ha : IntsAt w Aa La) (hb : IntsAt w Ab Lb) (h : readP s = .good i l o) :
    Calls Tryd.prog 3 #[.string s, .slice Am M.length cm, .slice Aa La.length ca, .slice Ab Lb.length cb, .int .i64 k] w fun e w' => e = .returned (.bool true) ∧ Below w.heap.size w w' := by
  obtain ⟨-, -, -, hc, -⟩ := readP_good h
  obtain ⟨m, t, him, ht, hcn, h80⟩ := raw_of hc
  obtain rfl : i = m := by omega
  have HR := Lib.hid (Read_fact hP)
  have CR := Lib.hid (Read_right hP hN h)
  have CL := Lib.hid (fun (V : World) A c (hV : Below w.heap.size w V) (hA : NodesAt V A o (i + 1)) => Least_said (c := c) (cl := cm) (s := t.st) hA (hM.below hV) hc ht.is (hT.next hV))
  have CC := Lib.hid (fun (V : World) A c (hA : NodesAt V A o (i + 1)) => Cut_said (c := c) (k := k) hA hc ht)
  have HRa := Lib.hid (fun (V : World) A c (hV : Below w.heap.size w V) (hA : NodesAt V A o (i + 1)) => Run_cases (n := i + 1) (c := c) (cl := ca) (fuel := 500) (s := t.st) hA (ha.below hV) (fun _ => ht.is))
  have Hb := Lib.hid hb
  have Hha := Lib.hid ha
  have Ht := Lib.hid ht
  have Hl := Lib.hid (fun u => left_of (u := u) ht hcn h80)
  clear hP hN h hT hM ha hb hc ht hcn h80 him
  generalize hi1 : i + 1 = i1 at *
  clear hi1
  generalize M.length = lm at *
  go_enter Tryd.func3, Tryd.ntmps3
  go_wp2_with fail
  refine HR.out.mono ?_
  rintro e w1 ⟨⟨A, c, rfl, hA⟩, hb1⟩
  have hl1 := intsAt_built w1 3 (castL [0, 5, 0, 0, 0, 0])
  have hbl1 := (Below.refl w1.heap.size w1).alloc (Nat.le_refl _) (.cells ((castL [0, 5, 0, 0, 0, 0]).map (Value.int .i64)).toArray 3)
  have C1 := Run_ok (c := c) (cl := 6) (hA.below (B := 0) hbl1) hl1 fact_runCode fact_vars fact_st
  rw [fact_run] at C1
  have C1 := Lib.hid (show Calls Tryd.prog 14 #[.slice A 4 c, .slice (some ⟨w1.heap.size, 0, none⟩) 6 6, .int .i64 9] (w1.alloc (.cells ((castL [0, 5, 0, 0, 0, 0]).map (Value.int .i64)).toArray 3)) (fun e w' => (∃ B c', e = .returned (.tuple #[.slice B 6 c', .int .i64 1, .nilIface]) ∧ IntsAt w' B (castL [7, 5, 0, 0, 0, 0])) ∧ Below (w1.alloc (.cells ((castL [0, 5, 0, 0, 0, 0]).map (Value.int .i64)).toArray 3)).heap.size (w1.alloc (.cells ((castL [0, 5, 0, 0, 0, 0]).map (Value.int .i64)).toArray 3)) w') from C1)
  have hbw1 := hb1.trans (hbl1.mono hb1.size)
  have Hs1 := Lib.hid hbw1.size
  go_wp2_with fail
  refine C1.out.mono ?_
  rintro e w2 ⟨⟨B, c', rfl, hB⟩, hb2⟩
  have hbw2 := hbw1.trans (hb2.mono Hs1.out)
  have hl2 := intsAt_built w2 3 (castL [7, 5, 0, 0, 0, 0])
  have hbl2 := (Below.refl w2.heap.size w2).alloc (Nat.le_refl _) (.cells ((castL [7, 5, 0, 0, 0, 0]).map (Value.int .i64)).toArray 3)
  have C2 := Lib.hid (show Calls Tryd.prog 15 #[.slice B 6 c', .slice (some ⟨w2.heap.size, 0, none⟩) 6 6] (w2.alloc (.cells ((castL [7, 5, 0, 0, 0, 0]).map (Value.int .i64)).toArray 3)) (fun e w' => e = .returned (.bool true) ∧ ∃ n, w' = (w2.alloc (.cells ((castL [7, 5, 0, 0, 0, 0]).map (Value.int .i64)).toArray 3)).drewN n) from Ints_any (castL [7, 5, 0, 0, 0, 0]) (castL [7, 5, 0, 0, 0, 0]) B _ c' 6 _ (hB.below hbl2) hl2 (by decide))
  have hbw3 := hbw2.trans (hbl2.mono hbw2.size)
  have H3 := Lib.hid hbw3
  clear C1 hb1 hb2 hB hl2 hbl2 hl1 hbl1 hbw1 hbw2 hbw3 hA HR
  go_wp2_with fail
  refine C2.out.mono ?_
  rintro e w3 ⟨rfl, zz, rfl⟩
  have HB3 := Lib.hid (belowD H3.out zz)
  generalize (w2.alloc (.cells ((castL [7, 5, 0, 0, 0, 0]).map (Value.int .i64)).toArray 3)).drewN zz = w3 at *
  clear C2 H3
  go_wp2_with fail
  refine (CR.out _ HB3.out).mono ?_
  rintro e w4 ⟨⟨A4, c4, rfl, hA4⟩, -, hb4⟩
  have HA := Lib.hid hA4
  have HB4 := Lib.hid hb4
  have CL4 := Lib.hid (CL.out w4 A4 c4 hb4 hA4)
  clear hA4 hb4 CR CL HB3
  go_wp2_with fail
  refine CL4.out.mono ?_
  rintro e w5 ⟨hl5, hb5⟩
  have HA := Lib.hid (HA.out.below (B := 0) hb5)
  have HB5 := Lib.hid (HB4.out.trans (hb5.mono HB4.out.size))
  have CC5 := Lib.hid (CC.out w5 A4 c4 HA.out)
  clear hb5 CL4 CC HB4
  rcases hl5 with ⟨k5, rfl⟩ | ⟨O, hO6, hO0, hfit, BO, cO, rfl, hiO⟩
  · generalize La.length = ma at *
    generalize Lb.length = mb at *
    go_wp2_with fail
    refine CC5.out.mono ?_
    rintro e w6 ⟨hl6, hb6⟩
    have HB6 := Lib.hid (HB5.out.trans (hb6.mono HB5.out.size))
    clear hb6
    rcases hl6 with ⟨q6, rfl⟩ | ⟨j, u, rfl, hj, hu, A6, c6, rfl, hA6⟩
    · go_wp2_with fail
      go_ret
      exact ⟨rfl, HB6.out⟩
    · clear hA6
      generalize ((t.cut u).getD .skip).cnt = tc at *
      go_wp2_with fail
      go_ret
      exact ⟨rfl, HB6.out⟩
  · have HO := Lib.hid hiO
    have HOf := Lib.hid (And.intro hO6 (And.intro hO0 hfit))
    clear hiO hO6 hO0 hfit
    go_wp2_with fail
    refine CC5.out.mono ?_
    rintro e w6 ⟨hl6, hb6⟩
    have HA := Lib.hid (HA.out.below (B := 0) hb6)
    have HO := Lib.hid (HO.out.below hb6)
    have HB6 := Lib.hid (HB5.out.trans (hb6.mono HB5.out.size))
    clear hb6 CC5 HB5
    rcases hl6 with ⟨q6, rfl⟩ | ⟨j, u, rfl, hj, hu, A6, c6, rfl, hA6⟩
    · generalize La.length = ma at *
      generalize Lb.length = mb at *
      go_wp2_with fail
      go_ret
      exact ⟨rfl, HB6.out⟩
    · obtain ⟨jj, hj1, -, hc2, hs2⟩ := Hl.out u
      rw [hj1] at hA6 ⊢
      have HRb := Lib.hid (Run_cases (n := jj + 1) (c := c6) (cl := cb) (fuel := 500) (s := ((t.cut u).getD .skip).st) hA6 (Hb.out.below HB6.out) (fun _ => hs2.is))
      have HSb := Lib.hid (fun V hV => Run_some (n := jj + 1) (c := c6) (cl := cb) (fuel := 500) (s := ((t.cut u).getD .skip).st) hA6 (Hb.out.below HB6.out) (fun _ => hs2.is) V hV)
      have Htop := Lib.hid (fun (va vb xa xb : List Nat) (fa fb la lb : Nat) => top_same (va := va) (vb := vb) (xa := xa) (xb := xb) (fa := fa) (fb := fb) (la := la) (lb := lb) Ht.out.is.ok hj hu hs2.is.ok HOf.out.2.1 HOf.out.2.2)
      obtain ⟨pl, ol, rfl, cL⟩ := cells6 HO.out HOf.out.1
      have HcL := Lib.hid cL
      have HRa6 := Lib.hid (HRa.out w6 A4 c4 HB6.out HA.out)
      have hki : (j : Int) < 6 := by omega
      clear hc2 hs2 hA6 hj1 Hl Ht HO cL HRa hu HA
      generalize hjj : jj + 1 = j1 at *
      clear hjj
      rcases HRa6.out with ⟨qa, -, hRa⟩ | ⟨va, fa, xa, la, ⟨hva, h6a, hfa, vra, -, ra, vxa⟩, hRa⟩
      · have CA := Lib.hid (hRa _ (Below.refl _ _))
        clear hRa HRa6 HRb
        generalize La.length = ma at *
        generalize Lb.length = mb at *
        go_wp2_with fail
        refine CA.out.mono ?_
        rintro e w7 ⟨rfl, hb7⟩
        go_wp2_with fail
        refine (HSb.out _ hb7).mono ?_
        rintro e w8 ⟨⟨x, y, z, rfl⟩, hb8⟩
        have HB8 := Lib.hid (HB6.out.trans (hb8.mono HB6.out.size))
        clear hb7 hb8
        go_wp2_with fail
        go_ret
        exact ⟨rfl, HB8.out⟩
      · have CA := hRa _ (Below.refl _ _)
        rw [h6a] at CA ⊢
        have CA := Lib.hid CA
        rcases HRb.out with ⟨qb, -, hRb⟩ | ⟨vb, fb, xb, lb, ⟨hvb, h6b, hfb, vrb, -, rb, vxb⟩, hRb⟩
        · have CB := Lib.hid hRb
          clear hRa hRb HRa6 HRb HSb hva h6a hfa vra ra vxa
          generalize Lb.length = mb at *
          generalize fa - la = ba at *
          go_wp2_with fail
          refine CA.out.mono ?_
          rintro e w7 ⟨⟨B7, c7, rfl, -⟩, -, hb7⟩
          go_wp2_with fail
          refine (CB.out _ hb7).mono ?_
          rintro e w8 ⟨rfl, hb8⟩
          have HB8 := Lib.hid (HB6.out.trans (hb8.mono HB6.out.size))
          clear hb7 hb8
          go_wp2_with fail
          go_ret
          exact ⟨rfl, HB8.out⟩
        · rw [h6b] at hRb ⊢
          have CB := Lib.hid hRb
          have Hq := Lib.hid (fun (hh : ∀ x, x < 6 → gI O x ≤ gI O j → va.getD x 0 = vb.getD x 0) => Htop.out va vb xa xb fa fb la lb ra rb vra.1 vrb.1 hh)
          obtain ⟨pa, oa, rfl, cA⟩ := cells6 Hha.out h6a
          obtain ⟨pb, ob, rfl, cB⟩ := cells6 Hb.out h6b
          rw [hva] at cA
          rw [hvb] at cB
          have HcA := Lib.hid cA
          have HcB := Lib.hid cB
          have Hxa := Lib.hid vxa.1
          have Hxb := Lib.hid vxb.1
          generalize fa - la = ba at *
          generalize fb - lb = bb at *
          clear hRa hRb HRa6 HRb HSb hva h6a hfa vra ra vxa hvb h6b hfb vrb rb vxb cA cB Htop
          go_wp2_with fail
          refine CA.out.mono ?_
          rintro e w7 ⟨⟨Bx, cx, rfl, hx⟩, -, hb7⟩
          have Hx := Lib.hid hx
          clear hx
          go_wp2_with fail
          refine (CB.out _ hb7).mono ?_
          rintro e w8 ⟨⟨By, cy, rfl, hy⟩, hb78, hb8⟩
          obtain ⟨px, ox, rfl, cX⟩ := cells6 (Hx.out.below hb78) (by rw [length_castL, Hxa.out])
          obtain ⟨py, oy, rfl, cY⟩ := cells6 hy (by rw [length_castL, Hxb.out])
          have HX := Lib.hid cX
          have HY := Lib.hid cY
          have HB8 := Lib.hid (HB6.out.trans (hb8.mono HB6.out.size))
          have Hb8 := Lib.hid hb8
          clear cX cY hy CA CB hb7 hb78 hb8
          go_wp2_with fail
          go_loopw [28] (fun i wr => ∃ x : Nat, x ≤ 6 ∧ i = .int .i64 x ∧ Hid (∀ y, y < x → gI O y ≤ gI O j → va.getD y 0 = vb.getD y 0) ∧ ∃ q, wr = w8.drewN q) (fun i _ => 6 - (intOf i).toNat)
          case atStart => exact ⟨0, Nat.zero_le _, rfl, Lib.hid (fun j hj => by omega), 0, rfl⟩
          case round =>
            obtain ⟨x, hx, rfl, hall, q, rfl⟩ := hrel
            by_cases hlt : x < 6
            · have c2 := HcA.out w8 HB8.out x hlt
              have c3 := HcB.out w8 HB8.out x hlt
              rw [gI_castL] at c2 c3
              have cl1 := HcL.out w8 Hb8.out x hlt
              have cl2 := HcL.out w8 Hb8.out j hj
              have hk6 : (x : Int) < 6 := by omega
              have Hn := Lib.hid (fun (hh : gI O x ≤ gI O j → va.getD x 0 = vb.getD x 0) => show ∀ y, y < x + 1 → gI O y ≤ gI O j → va.getD y 0 = vb.getD y 0 from fun y hy hl => by
                rcases Nat.lt_or_ge y x with h1 | h1
                · exact hall.out y h1 hl
                · obtain rfl : y = x := by omega
                  exact hh hl)
              generalize va.getD x 0 = xa0 at *
              generalize vb.getD x 0 = xb0 at *
              generalize hox : gI O x = lx at *
              generalize hoj : gI O j = lj at *
              by_cases hle : lx ≤ lj
              · have dle : decide (lx ≤ lj) = true := decide_eq_true hle
                by_cases hab : xa0 = xb0
                · have Hn1 := Lib.hid (Hn.out (fun _ => hab))
                  subst hab
                  clear Hn hle hox
                  go_wp2_with fail
                  go_quiet (fail)
                  go_wp2_with fail
                  refine ⟨⟨x + 1, ?ua, ?ub, Hn1, _, rfl⟩, ?ud⟩
                  case ua => omega
                  case ub => go_num
                  case ud => simp [intOf]; omega
                · have dn : ((xa0 : Int) != (xb0 : Int)) = true := by simp; omega
                  clear Hn hle hox
                  go_wp2_with fail
                  go_quiet (fail)
                  go_wp2_with fail
                  go_ret
                  first | exact ⟨rfl, belowD HB8.out _⟩ | exact ⟨rfl, belowD (belowD HB8.out _) _⟩
              · have dle : decide (lx ≤ lj) = false := decide_eq_false hle
                have Hn1 := Lib.hid (Hn.out (fun h => absurd h hle))
                clear Hn hle hox
                go_wp2_with fail
                go_quiet (fail)
                go_wp2_with fail
                refine ⟨⟨x + 1, ?ta, ?tb, Hn1, _, rfl⟩, ?td⟩
                case ta => omega
                case tb => go_num
                case td => simp [intOf]; omega
            · obtain rfl : x = 6 := by omega
              simp only [show ((6 : Nat) : Int) = 6 from rfl]
              have Hs2 := Lib.hid (Hq.out hall.out)
              clear hall Hq
              have c2 := HX.out w8 (Below.refl _ _) j hj
              have c3 := HY.out w8 (Below.refl _ _) j hj
              rw [gI_castL] at c2 c3
              rw [Hs2.out] at c2
              generalize xb.getD j 0 = xb0 at *
              go_wp2_with fail
              go_quiet (fail)
              go_wp2_with fail
              go_ret
              first | exact ⟨ret_bool (by simp), belowD HB8.out _⟩ | exact ⟨ret_bool (by simp), belowD (belowD HB8.out _) _⟩
end
theorem TopText_walk (s : ByteArray) (hs : s.size < 2 ^ 47) (M : List Int) (Am : Option Addr) (cm : Nat) {W : World} (hM : IntsAt W Am M) (sM : M.length < 2 ^ 47) (bM : ∀ x ∈ M, I64 x) (La : List Int) (Aa : Option Addr) (ca : Nat) (ha : IntsAt W Aa La) (sa : La.length < 2 ^ 47) (ba : ∀ x ∈ La, I64 x)
    (Lb : List Int) (Ab : Option Addr) (cb : Nat) (hb : IntsAt W Ab Lb) (sb : Lb.length < 2 ^ 47) (bb : ∀ x ∈ Lb, I64 x) (k : Int) (hk : I64 k)
    (w : World) (hw : w = W) (hP : Pow10 W.heap.size W) (hN : ∀ V, Below W.heap.size W V → NumErrs V) (hT : Tab W) :
    Calls Tryd.prog 3 #[.string s, .slice Am M.length cm, .slice Aa La.length ca, .slice Ab Lb.length cb, .int .i64 k] w fun e w' => e = .returned (.bool true) ∧ Below W.heap.size W w' := by
  subst hw
  cases h : readP s with
  | bad q => exact TT_bad hP hN h
  | good i l o => exact TT_good hP hN hT hM ha hb h
end Go.Proofs.YtdgncngkalgknaaDoor
