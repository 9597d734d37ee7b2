/-
  Contracts: run.Check, run.Run.
-/
import Derived.Test.YtdgncngkalgknaaDoorRunB
import Derived.Test.YtdgncngkalgknaaDoorPgC
import Derived.Test.YtdgncngkalgknaaDoorClone
import Derived.Test.YtdgncngkalgknaaDoorBibaLaw
namespace Go.Proofs.YtdgncngkalgknaaDoor
open Go.RowKit
set_option maxRecDepth 100000
set_option linter.unusedVariables false

def valOk (x : Int) : Bool := decide (0 ≤ x ∧ x ≤ 999999)
/-- What is wrong with a program, its variables and fuel. -/
def runCode (P : List Int) (n : Nat) (L : List Int) (fuel : Int) : Nat :=
  if progCode P n = 0 then if L.length = 6 then if L.all valOk then if 0 ≤ fuel ∧ fuel ≤ 5000 then 0 else 1 else 1 else 3 else progCode P n

set_option maxHeartbeats 2000000 in
theorem RunCheck_any {P : List Int} {n : Nat} {A : Option Addr} {c : Nat} {w : World} {L : List Int} {Al : Option Addr} {cl : Nat} (fuel : Int) (h : NodesAt w A P n) (hL : IntsAt w Al L) :
    Calls Tryd.prog 37 #[.slice A n c, .slice Al L.length cl, .int .i64 fuel] w fun e w' => e = .returned (errVal (runCode P n L fuel)) ∧ Below w.heap.size w w' := by
  have HC := PCheck_any (c := c) h
  by_cases hc : progCode P n = 0
  · rw [hc, errVal_zero] at HC
    have HC := Lib.hid HC
    by_cases h6 : L.length = 6
    · have Hc := Lib.hid (show runCode P n L fuel = if L.all valOk then if 0 ≤ fuel ∧ fuel ≤ 5000 then 0 else 1 else 1 by unfold runCode; rw [if_pos hc, if_pos h6])
      have H6 := Lib.hid h6
      rw [h6]
      clear h6 hc
      go_enter Tryd.func37, Tryd.ntmps37
      go_wp2_with (go_at_call 30; with_reducible refine HC.out.mono ?_; rintro e w1 ⟨rfl, hb1⟩)
      go_loopw [21] (fun i wr => ∃ k : Nat, k ≤ 6 ∧ i = .int .i64 k ∧ Hid (∀ j x, j < k → L[j]? = some x → 0 ≤ x ∧ x ≤ 999999) ∧ wr = w1) (fun i _ => 6 - (intOf i).toNat)
      case atStart => exact ⟨0, Nat.zero_le _, rfl, Lib.hid (fun j x hj => by omega), rfl⟩
      case round =>
        obtain ⟨k, hk, rfl, hall, rfl⟩ := hrel
        by_cases hlt : k < 6
        · obtain ⟨b, off, x, rfl, hx, hc0⟩ := hL.at_ (k := k) (by have := H6.out; omega)
          have hcx := (hb1.cell (p := ⟨b, off + k, none⟩) (block_lt hc0)).trans hc0
          clear hL hc0
          by_cases hok : 0 ≤ x ∧ x ≤ 999999
          · have W1 := Lib.hid (fun V => Within3_is x 0 999999 true V (decide_eq_true hok))
            have Hn := Lib.hid (show ∀ j y, j < k + 1 → L[j]? = some y → 0 ≤ y ∧ y ≤ 999999 from fun j y hj hy => by
              rcases Nat.lt_or_ge j k with h1 | h1
              · exact hall.out j y h1 hy
              · obtain rfl : j = k := by omega
                rw [hx.out] at hy
                injection hy with hy
                subst hy
                exact hok)
            clear hall hx hok
            go_wp2_with (go_at_call 57; with_reducible refine (W1.out _).mono ?_; rintro e w' ⟨rfl, rfl⟩)
            refine ⟨⟨k + 1, ?qa, ?qb, Hn, trivial⟩, ?qd⟩
            case qa => omega
            case qb => go_num
            case qd => simp [intOf]; omega
          · have W1 := Lib.hid (fun V => Within3_is x 0 999999 false V (decide_eq_false hok))
            have Hr := Lib.hid (show runCode P n L fuel = 1 by
              rw [Hc.out, if_neg]
              rw [List.all_eq_true]
              intro ha
              have := ha x (List.mem_of_getElem? hx.out)
              exact hok (of_decide_eq_true this))
            clear hall hx hok Hc
            go_wp2_with (go_at_call 57; with_reducible refine (W1.out _).mono ?_; rintro e w' ⟨rfl, rfl⟩)
            go_ret
            exact ⟨by rw [Hr.out]; rfl, hb1⟩
        · obtain rfl : k = 6 := by omega
          have ha : L.all valOk = true := by
            rw [List.all_eq_true]
            intro x hx
            obtain ⟨j, hj, rfl⟩ := List.getElem_of_mem hx
            exact decide_eq_true (hall.out j _ (by have := H6.out; omega) (List.getElem?_eq_getElem hj))
          have Hc2 := Lib.hid (show runCode P n L fuel = if 0 ≤ fuel ∧ fuel ≤ 5000 then 0 else 1 by rw [Hc.out, if_pos ha])
          clear hall Hc hL ha
          by_cases hf : 0 ≤ fuel ∧ fuel ≤ 5000
          · have W1 := Lib.hid (fun V => Within3_is fuel 0 5000 true V (decide_eq_true hf))
            have Hr := Lib.hid (show runCode P n L fuel = 0 by rw [Hc2.out, if_pos hf])
            clear Hc2 hf
            go_wp2_with (go_at_call 57; with_reducible refine (W1.out _).mono ?_; rintro e w' ⟨rfl, rfl⟩)
            go_ret
            exact ⟨by rw [Hr.out]; rfl, hb1⟩
          · have W1 := Lib.hid (fun V => Within3_is fuel 0 5000 false V (decide_eq_false hf))
            have Hr := Lib.hid (show runCode P n L fuel = 1 by rw [Hc2.out, if_neg hf])
            clear Hc2 hf
            go_wp2_with (go_at_call 57; with_reducible refine (W1.out _).mono ?_; rintro e w' ⟨rfl, rfl⟩)
            go_ret
            exact ⟨by rw [Hr.out]; rfl, hb1⟩
    · have hb : ((L.length : Int) != 6) = true := by rw [bne_iff_ne]; omega
      have Hr := Lib.hid (show runCode P n L fuel = 3 by unfold runCode; rw [if_pos hc, if_neg h6])
      clear h6 hL hc
      generalize L.length = m at *
      go_enter Tryd.func37, Tryd.ntmps37
      go_wp2_with (go_at_call 30; with_reducible refine HC.out.mono ?_; rintro e w1 ⟨rfl, hb1⟩)
      go_ret
      exact ⟨by rw [Hr.out]; rfl, hb1⟩
  · obtain ⟨k, hk⟩ : ∃ k, progCode P n = k := ⟨_, rfl⟩
    rw [hk] at hc
    rw [hk, errVal_pos hc] at HC
    have HC := Lib.hid HC
    have Hr := Lib.hid (show runCode P n L fuel = k by unfold runCode; rw [hk, if_neg hc])
    have He := Lib.hid (errVal_pos hc)
    clear hc hk hL
    generalize L.length = m at *
    go_enter Tryd.func37, Tryd.ntmps37
    go_wp2_with (go_at_call 30; with_reducible refine HC.out.mono ?_; rintro e w1 ⟨rfl, hb1⟩)
    go_ret
    exact ⟨by rw [Hr.out, He.out]; rfl, hb1⟩

theorem runCode_ok {P : List Int} {n : Nat} {L : List Int} {fuel : Int} (h : runCode P n L fuel = 0) : progCode P n = 0 ∧ (∃ v, L = castL v ∧ Vars v) ∧ ∃ l : Nat, fuel = l ∧ l ≤ 5000 := by
  unfold runCode at h
  split at h
  · rename_i hc
    split at h
    · rename_i h6
      split at h
      · rename_i ha
        split at h
        · rename_i hf
          refine ⟨hc, ⟨L.map Int.toNat, ?_, by rw [List.length_map]; exact h6, fun i => ?_⟩, fuel.toNat, by omega, by omega⟩
          · unfold castL
            rw [List.map_map]
            refine List.ext_getElem (by simp) fun i h1 h2 => ?_
            rw [List.getElem_map]
            rw [List.all_eq_true] at ha
            have := of_decide_eq_true (ha _ (List.getElem_mem h1))
            show L[i] = (((L[i]).toNat : Nat) : Int)
            omega
          · rw [List.getD_eq_getElem?_getD, List.getElem?_map]
            cases hx : L[i]? with
            | none => simp
            | some x =>
              rw [List.all_eq_true] at ha
              have := of_decide_eq_true (ha _ (List.mem_of_getElem? hx))
              simp only [Option.map_some, Option.getD_some]
              omega
        · cases h
      · cases h
    · cases h
  · rename_i hc; exact absurd h hc

end Go.Proofs.YtdgncngkalgknaaDoor
