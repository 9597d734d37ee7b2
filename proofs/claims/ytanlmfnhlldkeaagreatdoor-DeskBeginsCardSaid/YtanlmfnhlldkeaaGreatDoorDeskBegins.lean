/-
  The walk of DeskBegins.
-/
import Derived.Test.YtanlmfnhlldkeaaGreatDoorDkR
import Derived.Test.YtanlmfnhlldkeaaGreatDoorDkL
import Derived.Test.YtanlmfnhlldkeaaGreatDoorDoorA
import Derived.Laws.IdiomStrings
namespace Go.Proofs.YtanlmfnhlldkeaaGreatDoor
open Go.RowKit
set_option maxRecDepth 100000
set_option linter.unusedVariables false

set_option maxHeartbeats 8000000 in
theorem DeskBegins_walk (s : ByteArray) {W : World} (hsW : s.size < 2 ^ 47) (k : Int) (bk : I64 k) (w : World) (hw : w = W) (hG : Glob W) :
    Calls Tryz.prog 6 #[.string s, .int .i64 k] w fun e w' => e = .returned (.bool true) ∧ Below W.heap.size W w' := by
  subst hw
  have hf : dRun [117, 115, 101, 114, 32, 51, 97] = [111, 107, 10] := by kernel_rfl
  have R0 := Run_any hG ⟨#[117, 115, 101, 114, 32, 51, 97]⟩
  rw [show dRun (⟨#[117, 115, 101, 114, 32, 51, 97]⟩ : ByteArray).data.toList = [111, 107, 10] from hf] at R0
  have R1 := Lib.hid (fun V (hV : Below w.heap.size w V) (t : ByteArray) => Run_any (hG.next hV) t)
  have R0 := Lib.hid R0
  clear hf hG
  go_enter Tryz.func6, Tryz.ntmps6
  go_wp2_with fail
  with_reducible refine R0.out.mono ?_
  rintro e w1 ⟨rfl, hb1⟩
  have Hb1 := Lib.hid hb1
  clear R0 hb1
  by_cases hs : 3000 < s.size
  · have g0 : decide ((s.size : Int) > 3000) = true := by simp; omega
    clear hs
    go_wp2_with fail
    go_ret
    exact ⟨rfl, Hb1.out⟩
  have g0 : decide ((s.size : Int) > 3000) = false := by simp; omega
  by_cases hk0 : k < 0
  · have g1 : decide (k < 0) = true := by simp; omega
    clear hs
    go_wp2_with fail
    go_ret
    exact ⟨rfl, Hb1.out⟩
  have g1 : decide (k < 0) = false := by simp; omega
  by_cases hk1 : (s.size : Int) < k
  · have g2 : decide (k > (s.size : Int)) = true := by simp; omega
    clear hs hk0
    go_wp2_with fail
    go_ret
    exact ⟨rfl, Hb1.out⟩
  have g2 : decide (k > (s.size : Int)) = false := by simp; omega
  obtain ⟨j, rfl⟩ := Int.eq_ofNat_of_zero_le (show 0 ≤ k by omega)
  have hj : j ≤ s.size := by omega
  have hs3 : s.size ≤ 3000 := by omega
  clear hs hk0 hk1 bk
  have Hsl := Lib.hid (show s.data.toList.length = s.size from (ba_size s).symm)
  go_wp2_with fail
  go_loopw [1] (fun i wr => ∃ (m : Nat), m ≤ s.size ∧ i = .int .i64 m ∧ wr = w1) (fun i _ => (intOf i).toNat)
  case atStart => exact ⟨j, hj, rfl, rfl⟩
  case round =>
    obtain ⟨m, hm, rfl, hwr⟩ := hrel
    have hwr2 : w1 = wr := hwr.symm
    clear hwr
    subst hwr2
    clear hj g1 g2
    cases m with
    | zero =>
      have d0 : decide (((0 : Nat) : Int) > 0) = false := by decide
      have hst : 0 = 0 ∨ s.data.toList[0 - 1]? = some 10 := .inl rfl
      obtain ⟨z, hz⟩ := run_begins (t := s.data.toList) (by rw [Hsl.out]; exact hs3) (k := 0) (by rw [Hsl.out]; exact hm) hst
      have hx2 : (s.extract 0 0).data.toList = s.data.toList.take 0 := by rw [ByteArray.data_extract]; simp
      have p0 : (0 : Int) ≤ ((0 : Nat) : Int) := by omega
      have p1 : ((0 : Nat) : Int) ≤ (s.size : Int) := by omega
      have Hx2 := Lib.hid hx2
      have Hz := Lib.hid hz
      obtain ⟨X, hX⟩ : ∃ X : ByteArray, (⟨(dRun (s.data.toList.take 0)).toArray⟩ : ByteArray) = X := ⟨_, rfl⟩
      have hXd : X.data.toList = dRun (s.data.toList.take 0) := by rw [← hX, ba_of]
      have R2 := Lib.hid (show Calls Tryz.prog 21 #[.string .empty] w1 fun e w' => e = .returned (.string X) ∧ Below w1.heap.size w1 w' from by
        have h := R1.out w1 Hb1.out .empty
        rw [show (ByteArray.empty : ByteArray).data.toList = s.data.toList.take 0 by rw [List.take_zero]; rfl, hX] at h
        exact h)
      obtain ⟨Y, hY⟩ : ∃ Y : ByteArray, (⟨(dRun s.data.toList).toArray⟩ : ByteArray) = Y := ⟨_, rfl⟩
      have hYd : Y.data.toList = X.data.toList ++ z := by rw [← hY, ba_of, hz, hXd]
      have R3 := Lib.hid (show ∀ V, Below w.heap.size w V → Calls Tryz.prog 21 #[.string s] V fun e w' => e = .returned (.string Y) ∧ Below V.heap.size V w' from fun V hV => by
        have h := R1.out V hV s
        rw [hY] at h
        exact h)
      have hle : X.size ≤ Y.size := by rw [ba_size, ba_size, hYd, List.length_append]; omega
      have hext : Y.extract 0 X.size = X := ba_ext (by rw [ByteArray.data_extract]; simp; rw [hYd, ba_size X, List.take_left])
      have dle : decide ((X.size : Int) ≤ (Y.size : Int)) = true := by simp; omega
      have q0 : (0 : Int) ≤ (X.size : Int) := by omega
      have q1 : (X.size : Int) ≤ (Y.size : Int) := by omega
      clear hst hX hY hXd hYd hz hx2 R1
      go_wp2_with fail
      with_reducible refine R2.out.mono ?_
      rintro e w2 ⟨rfl, hb2⟩
      have hb02 := Hb1.out.trans (hb2.mono Hb1.out.size)
      go_wp2_with fail
      with_reducible refine (R3.out w2 hb02).mono ?_
      rintro e w3 ⟨rfl, hb3⟩
      have Hb3 := Lib.hid (hb02.trans (hb3.mono hb02.size))
      go_wp2_with fail
      go_ret
      exact ⟨rfl, Hb3.out⟩
    | succ p =>
      have hks : p < s.size := by omega
      obtain ⟨x, hx⟩ : ∃ x : Nat, (s[p]'hks).toNat = x := ⟨_, rfl⟩
      have hgx : s.data.toList[p]? = some (s[p]'hks) := by rw [Array.getElem?_toList, Array.getElem?_eq_getElem hks]; rfl
      have dp : decide (((p + 1 : Nat) : Int) > 0) = true := decide_eq_true (by omega)
      have dp2 : decide ((p : Int) + 1 > 0) = true := decide_eq_true (by omega)
      have pn : IntKind.i64.wrap (((p + 1 : Nat) : Int) - 1) = (p : Int) := (IntKind.wrap_i64 _).trans (by omega)
      have pn2 : IntKind.i64.wrap ((p : Int) + 1 - 1) = (p : Int) := (IntKind.wrap_i64 _).trans (by omega)
      have pn3 : IntKind.i64.wrap (p : Int) = (p : Int) := (IntKind.wrap_i64 _).trans (by omega)
      by_cases h10 : x = 10
      · have d10 : ((x : Int) == 10) = true := by simp; omega
        have d11 : ((x : Int) != 10) = false := by simp; omega
        have h10b : s.data.toList[p + 1 - 1]? = some 10 := by
          rw [Nat.add_sub_cancel, hgx]
          exact congrArg some (UInt8.toNat_inj.1 (by rw [hx, h10]; rfl))
        clear h10 hgx
        have hst : (p + 1) = 0 ∨ s.data.toList[(p + 1) - 1]? = some 10 := .inr h10b
        obtain ⟨z, hz⟩ := run_begins (t := s.data.toList) (by rw [Hsl.out]; exact hs3) (k := (p + 1)) (by rw [Hsl.out]; exact hm) hst
        have hx2 : (s.extract 0 (p + 1)).data.toList = s.data.toList.take (p + 1) := by rw [ByteArray.data_extract]; simp
        have p0 : (0 : Int) ≤ (((p + 1) : Nat) : Int) := by omega
        have p1 : (((p + 1) : Nat) : Int) ≤ (s.size : Int) := by omega
        have Hx2 := Lib.hid hx2
        have Hz := Lib.hid hz
        obtain ⟨X, hX⟩ : ∃ X : ByteArray, (⟨(dRun (s.data.toList.take (p + 1))).toArray⟩ : ByteArray) = X := ⟨_, rfl⟩
        have hXd : X.data.toList = dRun (s.data.toList.take (p + 1)) := by rw [← hX, ba_of]
        have R2 := Lib.hid (show Calls Tryz.prog 21 #[.string (s.extract 0 (p + 1))] w1 fun e w' => e = .returned (.string X) ∧ Below w1.heap.size w1 w' from by
          have h := R1.out w1 Hb1.out (s.extract 0 (p + 1))
          rw [hx2, hX] at h
          exact h)
        obtain ⟨Y, hY⟩ : ∃ Y : ByteArray, (⟨(dRun s.data.toList).toArray⟩ : ByteArray) = Y := ⟨_, rfl⟩
        have hYd : Y.data.toList = X.data.toList ++ z := by rw [← hY, ba_of, hz, hXd]
        have R3 := Lib.hid (show ∀ V, Below w.heap.size w V → Calls Tryz.prog 21 #[.string s] V fun e w' => e = .returned (.string Y) ∧ Below V.heap.size V w' from fun V hV => by
          have h := R1.out V hV s
          rw [hY] at h
          exact h)
        have hle : X.size ≤ Y.size := by rw [ba_size, ba_size, hYd, List.length_append]; omega
        have hext : Y.extract 0 X.size = X := ba_ext (by rw [ByteArray.data_extract]; simp; rw [hYd, ba_size X, List.take_left])
        have dle : decide ((X.size : Int) ≤ (Y.size : Int)) = true := by simp; omega
        have q0 : (0 : Int) ≤ (X.size : Int) := by omega
        have q1 : (X.size : Int) ≤ (Y.size : Int) := by omega
        clear hst hX hY hXd hYd hz hx2 R1
        go_wp2_with fail
        with_reducible refine R2.out.mono ?_
        rintro e w2 ⟨rfl, hb2⟩
        have hb02 := Hb1.out.trans (hb2.mono Hb1.out.size)
        go_wp2_with fail
        with_reducible refine (R3.out w2 hb02).mono ?_
        rintro e w3 ⟨rfl, hb3⟩
        have Hb3 := Lib.hid (hb02.trans (hb3.mono hb02.size))
        go_wp2_with fail
        go_ret
        exact ⟨rfl, Hb3.out⟩
      · have d10 : ((x : Int) == 10) = false := by simp; omega
        have d11 : ((x : Int) != 10) = true := by simp; omega
        clear h10 hgx
        go_wp2_with fail
        refine ⟨⟨p, ?ya, ?yb, trivial⟩, ?yd⟩
        case ya => omega
        case yb => rfl
        case yd => simp [intOf]
end Go.Proofs.YtanlmfnhlldkeaaGreatDoor
