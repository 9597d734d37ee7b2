/-
  The walk of RunKeeps.
-/
import Derived.Test.YtdgncngkalgknaaDoorRunFact
import Derived.Test.YtdgncngkalgknaaDoorFrame
import Derived.Deep.QuietTactic
import Derived.BigQuiet
namespace Go.Proofs.YtdgncngkalgknaaDoor
open Go.RowKit
set_option maxRecDepth 100000
set_option linter.unusedVariables false

theorem IsSt.sets_node {P : List Int} {i : Nat} {s : St} (h : IsSt P i s) : ∀ {u x f : Nat}, (x, f) ∈ s.sets u → ∃ k, k ≤ i ∧ nd P k 0 = 6 ∧ nd P k 1 = (x : Int) := by
  induction h with
  | skip _ => intro u x f hm; cases hm
  | set h0 h1 _ _ _ _ =>
    intro u x f hm
    rw [St.sets, List.mem_singleton] at hm
    injection hm with e1 e2
    subst e1
    exact ⟨_, Nat.le_refl _, h0, h1⟩
  | both _ _ _ ha hb _ _ iha ihb =>
    intro u x f hm
    rw [St.sets, List.mem_append] at hm
    rcases hm with hm | hm
    · obtain ⟨k, hk, h⟩ := iha hm; exact ⟨k, by omega, h⟩
    · obtain ⟨k, hk, h⟩ := ihb hm; exact ⟨k, by omega, h⟩
  | ite _ _ _ _ ha hb hc _ _ _ ihb ihc =>
    intro u x f hm
    rw [St.sets, List.mem_append] at hm
    rcases hm with hm | hm
    · obtain ⟨k, hk, h⟩ := ihb hm; exact ⟨k, by omega, h⟩
    · obtain ⟨k, hk, h⟩ := ihc hm; exact ⟨k, by omega, h⟩
  | loop _ _ _ ha hb _ _ ihb =>
    intro u x f hm
    rw [St.sets] at hm
    obtain ⟨k, hk, h⟩ := ihb hm; exact ⟨k, by omega, h⟩
/-- Does a Set among the first nodes name a variable? -/
def namedB (P : List Int) (i : Nat) : Nat → Bool
  | 0 => false
  | j + 1 => namedB P i j || (nd P j 0 == 6 && nd P j 1 == (i : Int))
theorem namedB_true {P : List Int} {i : Nat} : ∀ {n k : Nat}, k < n → nd P k 0 = 6 → nd P k 1 = (i : Int) → namedB P i n = true
  | n + 1, k, hk, h0, h1 => by
    rw [namedB]
    rcases Nat.lt_or_ge k n with h | h
    · rw [namedB_true h h0 h1]; rfl
    · obtain rfl : k = n := by omega
      rw [h0, h1]; simp
theorem keeps_law {P : List Int} {n : Nat} {s : St} (hs : IsSt P (n - 1) s) (hn : 0 < n) {v v' : List Nat} {l l' : Nat} (hr : s.run v l = some (v', l')) {i : Nat} (hi : namedB P i n = false) : v'.getD i 0 = v.getD i 0 := by
  refine St.inv (R := fun x => x.getD i 0 = v.getD i 0) 0 (fun x e w hx hw _ => ?_) hs.ok v l v' l' hr rfl
  obtain ⟨f, hf⟩ := hx
  obtain ⟨k, hk, h0, h1⟩ := hs.sets_node hf
  show (w.set x e).getD i 0 = v.getD i 0
  rw [getD_set, if_neg, hw]
  rintro ⟨rfl, _⟩
  rw [namedB_true (by omega) h0 h1] at hi
  cases hi
section
variable {P : List Int} {n : Nat} {A : Option Addr} {c : Nat} {w : World} {L : List Int} {Al : Option Addr} {cl : Nat} {fuel : Int} {s : St}
set_option maxHeartbeats 1000000 in
theorem RunKeeps_err (h : NodesAt w A P n) (hL : IntsAt w Al L) (hP : Pow10 w.heap.size w) {k : Nat} (hC : ∀ V, Below w.heap.size w V → Calls Tryd.prog 14 #[.slice A n c, .slice Al L.length cl, .int .i64 fuel] V fun e w' => RunErr w e w' k) :
    Calls Tryd.prog 6 #[.slice A n c, .slice Al L.length cl, .int .i64 fuel] w fun e w' => e = .returned (.bool true) ∧ Below w.heap.size w w' := by
  have C0 := Lib.hid (runFact_any hP)
  have C1 := Lib.hid hC
  clear hC h hL hP
  generalize L.length = m at *
  go_enter Tryd.func6, Tryd.ntmps6
  go_wp2_with fail
  refine C0.out.mono ?_
  rintro e w1 ⟨rfl, hb1⟩
  go_wp2_with fail
  refine (C1.out _ hb1).mono ?_
  rintro e w2 ⟨rfl, hb2⟩
  go_wp2_with fail
  go_ret
  exact ⟨rfl, hb2⟩
set_option maxHeartbeats 4000000 in
theorem RunKeeps_end {v v' : List Nat} {l l' : Nat} (h : NodesAt w A P n) (hL : IntsAt w Al (castL v)) (hP : Pow10 w.heap.size w) (hk : runCode P n (castL v) (l : Int) = 0) (hv : Vars v) (hs : IsSt P (n - 1) s) (hr : s.run v l = some (v', l')) :
    Calls Tryd.prog 6 #[.slice A n c, .slice Al 6 cl, .int .i64 l] w fun e w' => e = .returned (.bool true) ∧ Below w.heap.size w w' := by
  obtain ⟨hc, -, l2, hl2, hl5⟩ := runCode_ok hk
  obtain ⟨⟨hn1, hn80⟩, -, -⟩ := progCode_tree hc
  have hv' := St.run_vars hs.ok hr hv
  have C0 := Lib.hid (runFact_any hP)
  have C1 := fun (V : World) (hV : Below w.heap.size w V) => (Run_ok (c := c) (cl := cl) (h.below (B := 0) hV) (hL.below hV) hk hv hs).mono fun e w' (⟨he, hb⟩ : RunPost V l (s.run v l) e w') => (⟨he, hV.trans (hb.mono hV.size)⟩ : _ ∧ Below w.heap.size w w')
  rw [hr] at C1
  dsimp only at C1
  have C1 := Lib.hid C1
  have HK := Lib.hid (fun (i : Nat) (hi : namedB P i n = false) => keeps_law hs (by omega) hr hi)
  have Hv' := Lib.hid hv'.2
  obtain ⟨ba, offa, rfl, hca⟩ := cells6 hL (by rw [length_castL, hv.1])
  have Hca := Lib.hid (fun V hV (x : Nat) (hx : x < 6) => (hca V hV x hx).trans (by rw [gI_castL]))
  have Hcells := Lib.hid (fun V (hV : Below w.heap.size w V) (i : Nat) (hi : i < n) => (h.below (B := 0) hV).cells hi)
  have h6' : (castL v').length = 6 := by rw [length_castL, hv'.1]
  have H6' := Lib.hid h6'
  generalize (l - l' : Nat) = b at *
  clear hr hk h hL hP hs hv hl2 hv' hca h6' hc
  go_enter Tryd.func6, Tryd.ntmps6
  go_wp2_with fail
  refine C0.out.mono ?_
  rintro e w1 ⟨rfl, hb1⟩
  go_wp2_with fail
  refine (C1.out _ hb1).mono ?_
  rintro e w2 ⟨⟨B1, c1, rfl, hi1⟩, hb2⟩
  obtain ⟨bx, offx, rfl, hcx⟩ := cells6 hi1 H6'.out
  have Hcx := Lib.hid (fun V hV (x : Nat) (hx : x < 6) => (hcx V hV x hx).trans (by rw [gI_castL]))
  clear C0 C1 hi1 hcx hb1
  go_wp2_with fail
  go_loopw [11] (fun i wr => ∃ j : Nat, i = .int .i64 j ∧ j ≤ 6 ∧ Below w2.heap.size w2 wr) (fun i _ => 6 - (intOf i).toNat)
  case atStart => exact ⟨0, rfl, by decide, Below.refl _ _⟩
  case round =>
    obtain ⟨j, rfl, hj, hbr⟩ := hrel
    have hbw := hb2.trans (hbr.mono hb2.size)
    by_cases hlt : j < 6
    · have d6 : decide ((j : Int) < 6) = true := by simp; omega
      have d6' : decide (j < 6) = true := by simpa using hlt
      have ca := Hca.out _ hbw j hlt
      have cx := Hcx.out _ hbr j hlt
      have HC := Lib.hid (fun i hi => Hcells.out _ hbw i hi)
      have hj0 : (0 : Int) ≤ (j : Int) := by omega
      have hj6 : (j : Int) < 6 := by omega
      go_wp2_with fail
      obtain ⟨wo, rfl⟩ : ∃ wo : World, wo = wr := ⟨_, rfl⟩
      go_loop [12, 13] (fun nm k => ∃ m : Nat, k = .int .i64 m ∧ m ≤ n ∧ nm = .bool (namedB P j m)) (fun _ k => n - (intOf k).toNat)
      case atStart => exact ⟨0, rfl, Nat.zero_le _, rfl⟩
      case round =>
        obtain ⟨m, rfl, hm, rfl⟩ := hrel
        by_cases hlm : m < n
        · obtain ⟨bp, offp, rfl, p0, p1, -, -, -⟩ := HC.out m hlm
          have Hn := Lib.hid (show namedB P j (m + 1) = (namedB P j m || (nd P m 0 == 6 && nd P m 1 == (j : Int))) from rfl)
          generalize nd P m 0 = k0 at *
          generalize nd P m 1 = k1 at *
          have fin : ∀ x : Bool, x = (namedB P j m || (k0 == 6 && k1 == (j : Int))) → (Value.bool x) = .bool (namedB P j (m + 1)) := fun x hx => by rw [hx, Hn.out]
          have Fin := Lib.hid fin
          clear fin Hn
          cases hnb : namedB P j m with
          | true =>
            rw [hnb] at Fin
            have Hnb := Lib.hid hnb
            clear hnb
            go_wp2_with fail
            go_round
            case rel => exact ⟨m + 1, by go_num, by omega, Fin.out _ (by simp)⟩
            case measure => simp [intOf]; omega
          | false =>
            rw [hnb] at Fin
            have Hnb := Lib.hid hnb
            clear hnb
            by_cases hk6 : k0 = 6
            · have dk : (k0 == 6) = true := by simpa using hk6
              have Dk := Lib.hid dk
              clear hk6
              go_wp2_with fail
              go_round
              case rel => exact ⟨m + 1, by go_num, by omega, Fin.out _ (by rw [Dk.out]; simp)⟩
              case measure => simp [intOf]; omega
            · have dk : (k0 == 6) = false := by simpa using hk6
              have Dk := Lib.hid dk
              clear hk6
              go_wp2_with fail
              go_round
              case rel => exact ⟨m + 1, by go_num, by omega, Fin.out _ (by rw [Dk.out]; simp)⟩
              case measure => simp [intOf]; omega
        · obtain rfl : m = n := by omega
          have dmm : decide ((m : Int) < (m : Int)) = false := by simp
          have hx9 := Hv'.out j
          have hx0 : (0 : Int) ≤ (((v'.getD j 0 : Nat)) : Int) := by omega
          cases hnb : namedB P j m with
          | true =>
            have Hnb := Lib.hid hnb
            clear hnb
            generalize v'.getD j 0 = x' at *
            generalize v.getD j 0 = x at *
            have q0 : decide ((x' : Int) < 0) = false := by simp
            have q1 : decide ((x' : Int) > 999999) = false := by simp; omega
            have q1' : decide (999999 < x') = false := by simp; omega
            go_wp2_with fail
            go_quiet (fail)
            go_wp2_with fail
            refine ⟨⟨j + 1, ?ya, ?yb, belowD hbr _⟩, ?yd⟩
            case ya => go_num
            case yb => omega
            case yd => simp [intOf]; omega
          | false =>
            have he := HK.out j hnb
            have Hnb := Lib.hid hnb
            clear hnb
            rw [he] at cx hx9 hx0
            clear he
            generalize v.getD j 0 = x at *
            have q0 : decide ((x : Int) < 0) = false := by simp
            have q1 : decide ((x : Int) > 999999) = false := by simp; omega
            have q1' : decide (999999 < x) = false := by simp; omega
            go_wp2_with fail
            go_quiet (fail)
            go_wp2_with fail
            refine ⟨⟨j + 1, ?ya, ?yb, belowD hbr _⟩, ?yd⟩
            case ya => go_num
            case yb => omega
            case yd => simp [intOf]; omega
    · have d6 : decide ((j : Int) < 6) = false := by simp; omega
      have d6' : decide (j < 6) = false := by simpa using hlt
      go_wp2_with fail
      go_ret
      exact ⟨rfl, hbw⟩
end
theorem RunKeeps_walk (n : Nat) (P : List Int) (A : Option Addr) (c : Nat) {W : World} (hn : P.length = n * 5) (h : IntsAt W A P) (s0 : n * 5 < 2 ^ 47) (b0 : ∀ x ∈ P, I64 x) (L : List Int) (Al : Option Addr) (cl : Nat) (hL : IntsAt W Al L) (s1 : L.length < 2 ^ 47) (b1 : ∀ x ∈ L, I64 x)
    (fuel : Int) (hf : I64 fuel) (w : World) (hw : w = W) (hP : Pow10 W.heap.size W) :
    Calls Tryd.prog 6 #[.slice A n c, .slice Al L.length cl, .int .i64 fuel] w fun e w' => e = .returned (.bool true) ∧ Below W.heap.size W w' := by
  subst hw
  have hA : NodesAt w A P n := ⟨h, hn, by omega⟩
  obtain ⟨s, hs⟩ := some_tree P n
  obtain ⟨k, hk⟩ : ∃ k, runCode P n L fuel = k := ⟨_, rfl⟩
  by_cases hne : k = 0
  · subst hne
    obtain ⟨hc, ⟨v, rfl, hv⟩, l, rfl, hl⟩ := runCode_ok hk
    have h6 : (castL v).length = 6 := by rw [length_castL, hv.1]
    cases hr : s.run v l with
    | none =>
      refine RunKeeps_err hA hL hP (k := 4) fun V hV => ?_
      rw [h6]
      have := Run_ok (c := c) (cl := cl) (hA.below (B := 0) hV) (hL.below hV) hk hv (hs hc)
      rw [hr] at this
      exact this.mono fun e w' ⟨he, hb⟩ => ⟨he, hV.trans (hb.mono hV.size)⟩
    | some q =>
      rw [h6]
      exact RunKeeps_end hA hL hP hk hv (hs hc) hr
  · exact RunKeeps_err hA hL hP fun V hV => (Run_bad (c := c) (cl := cl) (hA.below (B := 0) hV) (hL.below hV) hk hne).mono fun e w' ⟨he, hb⟩ => ⟨he, hV.trans (hb.mono hV.size)⟩
end Go.Proofs.YtdgncngkalgknaaDoor
