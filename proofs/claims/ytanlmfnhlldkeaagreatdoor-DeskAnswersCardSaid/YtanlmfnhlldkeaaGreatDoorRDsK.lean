/-
  Contract: quietwingref5.answer.
-/
import Derived.Test.YtanlmfnhlldkeaaGreatDoorRDsJ
namespace Go.Proofs.YtanlmfnhlldkeaaGreatDoor
open Go.RowKit
set_option maxRecDepth 100000
set_option linter.unusedVariables false

section
variable {ok : Nat → Prop} {w : World} {D : DS}
theorem two_of {l : List (List UInt8)} {u : List UInt8} (h : l.length = 2 ∧ l.getD 0 [] = u) : ∃ x, l = [u, x] := by
  obtain ⟨h1, h2⟩ := h
  match l, h1, h2 with
  | [a, x], _, h2 => exact ⟨x, by rw [← h2]; rfl⟩
theorem RAnswer_any (hok : ∀ g, w.heap.size ≤ g → ok g) (hD : DOk D) {kv : Value} (hR : RDAt ok w kv D) (s : ByteArray) (hs : s.size ≤ 3000) :
    Calls Tryz.prog 46 #[kv, .string s] w fun e w' => RDPost ok w (dLine D s.data.toList) e w' := by
  obtain ⟨a1, a2, c1, c2, b1, b2, b3, b4, b5, k1, d1, k2, d2, k3, d3, k4, d4, k5, d5, ts, mn, ch, rfl, -, -, -⟩ := hR.is
  have hx : ∀ x ∈ cutL 32 s.data.toList, (⟨x.toArray⟩ : ByteArray).size < 2 ^ 48 := fun x hx => by
    have h1 := cutL_le 32 s.data.toList x hx
    rw [← ba_size] at h1
    rw [ba_size, ba_of]
    omega
  by_cases h1 : (cutL 32 s.data.toList).length = 2 ∧ (cutL 32 s.data.toList).getD 0 [] = vUser
  · obtain ⟨x, hx2⟩ := two_of h1
    have hd : dLine D s.data.toList = dAddU D x := by unfold dLine; rw [if_pos h1, hx2]; rfl
    rw [hd]
    have h := ansUser hok hD hR s hs ⟨x.toArray⟩ (hx x (by rw [hx2]; simp)) (by rw [hx2, ba_of])
    rw [ba_of] at h
    exact h
  by_cases h2 : (cutL 32 s.data.toList).length = 2 ∧ (cutL 32 s.data.toList).getD 0 [] = vFile
  · obtain ⟨x, hx2⟩ := two_of h2
    have hd : dLine D s.data.toList = dAddF D x := by unfold dLine; rw [if_neg h1, if_pos h2, hx2]; rfl
    rw [hd]
    have h := ansFile hok hD hR s hs ⟨x.toArray⟩ (hx x (by rw [hx2]; simp)) (by rw [hx2, ba_of])
    rw [ba_of] at h
    exact h
  by_cases h3 : s.data.toList = vStart
  · have hd : dLine D s.data.toList = dStart D := by unfold dLine; rw [if_neg h1, if_neg h2, if_pos h3]
    rw [hd]
    obtain rfl : s = ⟨#[115, 116, 97, 114, 116]⟩ := ba_ext h3
    cases hT : D.T with
    | none =>
      have h4 : dStart D = ({ D with T := some (tStart D.m D.n) }, okL) := by unfold dStart; rw [hT, if_neg (by decide), if_pos hD.code]
      rw [h4]
      rw [hT] at hR
      exact ansStart_down hok hD hT hR
    | some T =>
      have h4 : dStart D = (D, stateL) := by unfold dStart; rw [hT]; rfl
      rw [h4]
      rw [hT] at hR
      exact ansStart_up hR
  · have hd : dLine D s.data.toList = dRest D (cutL 32 s.data.toList) := by unfold dLine; rw [if_neg h1, if_neg h2, if_neg h3]
    rw [hd]
    by_cases h5 : (cutL 32 s.data.toList).length = 2
    · exact ansRest_two hok hD hR s hs h3 h5 (fun e => h1 ⟨h5, e⟩) (fun e => h2 ⟨h5, e⟩)
    · exact ansRest_more hok hD hR s hs h3 h5
end
end Go.Proofs.YtanlmfnhlldkeaaGreatDoor
