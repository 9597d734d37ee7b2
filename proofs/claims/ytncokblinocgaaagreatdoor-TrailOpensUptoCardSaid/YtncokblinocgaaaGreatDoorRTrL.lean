/-
  Contract: quietwingref5.link.
-/
import Derived.Test.YtncokblinocgaaaGreatDoorBaseA
namespace Go.Proofs.YtncokblinocgaaaGreatDoor
open Go.RowKit
set_option maxRecDepth 100000
set_option linter.unusedVariables false

theorem rt_of (l : List UInt8) : (⟨l.toArray⟩ : ByteArray).data.toList = l := List.toList_toArray
theorem rt_size (s : ByteArray) : s.size = s.data.toList.length := (Array.length_toList ..).symm
theorem wsum_drop {l : List UInt8} {k : Nat} (h : k < l.length) : wsum (l.drop k) k = (k + 1) * (l.getD k 0).toNat + wsum (l.drop (k + 1)) (k + 1) := by
  rw [List.drop_eq_getElem_cons h, wsum, List.getD_eq_getElem?_getD, List.getElem?_eq_getElem h]
  rfl
theorem wrap_mul {j x y : Nat} (h : (j + 1) * x = y) (hy : y ≤ 25600000) : wrap64 (((j : Int) + 1) * (x : Int)) = (y : Int) ∧ IntKind.i64.wrap (((j : Int) + 1) * (x : Int)) = (y : Int) := by
  have e : ((j : Int) + 1) * (x : Int) = (y : Int) := by rw [← h]; push_cast; rfl
  rw [e]
  clear h e
  exact ⟨by unfold wrap64; omega, (IntKind.wrap_i64 _).trans (by omega)⟩
set_option maxHeartbeats 4000000 in
theorem RLink_any {c : Nat} {s : ByteArray} (hc : c < 9973) (hs : s.size ≤ 100000) (w : World) :
    Calls Tryz.prog 96 #[.int .i64 c, .string s] w fun e w' => e = .returned (.int .i64 (linkV c s.data.toList : Nat)) ∧ w = w' := by
  have hsz : s.data.toList.length = s.size := Array.length_toList ..
  have Hle := Lib.hid (fun k => wsum_le (s.data.toList.drop k) k)
  have Hlk := Lib.hid (show linkV c s.data.toList = (c * 31 + wsum s.data.toList 0) % 9973 from rfl)
  have Hget := Lib.hid (fun k (hk : k < s.size) => show (s.data.toList.getD k 0) = s[k]'hk by rw [List.getD_eq_getElem?_getD, Array.getElem?_toList, Array.getElem?_eq_getElem hk]; rfl)
  rw [Hlk.out]
  have Hs := Lib.hid (fun k (hk : k < s.size) => wsum_drop (l := s.data.toList) (k := k) (by omega))
  have w1 : IntKind.i64.wrap (31 * (c : Int)) = ((c * 31 : Nat) : Int) := (IntKind.wrap_i64 _).trans (by push_cast; omega)
  have w2 : wrap64 (31 * (c : Int)) = ((c * 31 : Nat) : Int) := by unfold wrap64; push_cast; omega
  have w3 : IntKind.i64.wrap ((s.size : Int) - 1) = (s.size : Int) - 1 := (IntKind.wrap_i64 _).trans (by omega)
  have w4 : wrap64 ((s.size : Int) - 1) = (s.size : Int) - 1 := by unfold wrap64; omega
  have h31 : c * 31 ≤ 309163 := by omega
  obtain ⟨l, hl⟩ : ∃ l, s.data.toList = l := ⟨_, rfl⟩
  simp only [hl] at Hle Hget Hs hsz
  rw [hl]
  clear hl Hlk
  replace hsz := Lib.hid hsz
  obtain ⟨c31, hc31⟩ : ∃ x, c * 31 = x := ⟨_, rfl⟩
  rw [hc31] at w1 w2 h31 ⊢
  clear hc31
  go_enter Tryz.func96, Tryz.ntmps96
  go_wp2_with fail
  clear w1 w2 w3 w4
  go_loopw [5, 6] (fun nv i wr => ∃ (k S : Nat), k ≤ s.size ∧ i = .int .i64 ((k : Int) - 1) ∧ nv = .int .i64 (S : Nat) ∧ Hid (S = c31 + wsum (l.drop k) k) ∧ wr = w) (fun _ i _ => (intOf i + 1).toNat)
  case atStart => exact ⟨s.size, c31, Nat.le_refl _, rfl, rfl, Lib.hid (by rw [List.drop_of_length_le (by have := hsz.out; omega), wsum, Nat.add_zero]), rfl⟩
  case round =>
    obtain ⟨k, S, hk, rfl, rfl, hS, hwr⟩ := hrel
    have hwr2 : w = wr := hwr.symm
    clear hwr
    subst hwr2
    have hS0 : S ≤ 6000000000000 := by
      have h1 := Hle.out k
      have h2 : (l.drop k).length ≤ 100000 := by rw [List.length_drop]; have := hsz.out; omega
      have h3 := hS.out
      have h4 : (l.drop k).length * ((k + (l.drop k).length) * 255) ≤ 100000 * (200000 * 255) := Nat.mul_le_mul h2 (by omega)
      omega
    rcases k with _ | j
    · have hfin := Lib.hid (show S = c31 + wsum l 0 from hS.out)
      have d0 : decide ((((0 : Nat) : Int) - 1) ≥ 0) = false := by simp
      have w5 : (S : Int).tmod 9973 = ((S % 9973 : Nat) : Int) := by rw [Int.tmod_eq_emod_of_nonneg (by omega)]; rfl
      go_wp2_with fail
      go_ret
      refine ⟨?_, rfl⟩
      rw [← hfin.out]
      rfl
    · have hks : j < s.size := by omega
      have hgj := Hget.out j hks
      obtain ⟨x, hx⟩ : ∃ x : Nat, (s[j]'hks).toNat = x := ⟨_, rfl⟩
      have hx256 : x < 256 := by rw [← hx]; exact (s[j]'hks).toNat_lt
      have hstep := Hs.out j hks
      rw [hgj, hx] at hstep
      obtain ⟨y, hy⟩ : ∃ y, (j + 1) * x = y := ⟨_, rfl⟩
      rw [hy] at hstep
      have hS1 := Lib.hid (show S + y = c31 + wsum (l.drop j) j by rw [hstep, hS.out]; omega)
      have hp2 : (j + 1) * x ≤ 100000 * 256 := Nat.mul_le_mul (by omega) (by omega)
      rw [hy] at hp2
      replace hp2 : y ≤ 25600000 := hp2
      obtain ⟨hw1, hw2⟩ := wrap_mul hy hp2
      clear hstep hgj
      have hsub : (((j + 1 : Nat) : Int) - 1) = (j : Int) := by omega
      rw [hsub]
      have d0 : decide ((j : Int) ≥ 0) = true := by simp
      have n0 : (0 : Int) ≤ (j : Int) := by omega
      clear hy hS
      go_wp2_with fail
      refine ⟨⟨j, S + y, ?ya, ?yb, ?yc, hS1, trivial⟩, ?yd⟩
      case ya => omega
      case yb => go_num
      case yc => go_num
      case yd => simp [intOf]
end Go.Proofs.YtncokblinocgaaaGreatDoor
