/-
  Contract: the reference's set.
-/
import Derived.Test.YtncokblinocgaaaGreatDoorRowsA
namespace Go.Proofs.YtncokblinocgaaaGreatDoor
open Go.RowKit
set_option maxRecDepth 100000
set_option linter.unusedVariables false

set_option maxHeartbeats 1000000 in
theorem Rset_any (l : List Int) (i : Nat) (x : Int) (A : Option Addr) (c : Nat) (w : World) (h : IntsAt w A l) (hl : l.length ≤ 100) :
    Calls Tryz.prog 155 #[.slice A l.length c, .int .i64 i, .int .i64 x] w fun e w' => (∃ A' c', e = .returned (.slice A' (l.set i x).length c') ∧ IntsAt w' A' (l.set i x) ∧ (l ≠ [] → ∃ g, A' = some ⟨g, 0, none⟩ ∧ w.heap.size ≤ g ∧ OwnAt w' g 3 (vI (l.set i x)))) ∧ Below w.heap.size w w' := by
  generalize hn : l.length = n at *
  have Hn := Lib.hid hn
  clear hn
  go_enter Tryz.func155, Tryz.ntmps155
  go_wp2
  go_loopw [7, 8] (fun o k wr => ∃ j : Nat, j ≤ n ∧ k = .int .i64 j ∧ OwnI wr w.heap.size o ((l.set i x).take j) ∧ Below w.heap.size w wr) (fun _ k _ => n - (intOf k).toNat)
  case atStart => exact ⟨0, Nat.zero_le _, rfl, OwnI.nil _ _, Below.refl _ _⟩
  case round =>
    obtain ⟨j, hj, rfl, hown, hbw⟩ := hrel
    have hA := h.below hbw
    by_cases hlt : j < n
    · obtain ⟨b, off, y, rfl, hy, hc⟩ := hA.at_ (k := j) (by have := Hn.out; omega)
      have hlen : ((l.set i x).take j).length < 2 ^ 40 := by rw [List.length_take]; omega
      have hjl : j < (l.set i x).length := by rw [List.length_set]; have := Hn.out; omega
      by_cases hij : j = i
      · subst hij
        have Hnx := Lib.hid (show (l.set j x).take j ++ [x] = (l.set j x).take (j + 1) by
          rw [List.take_add_one, List.getElem?_set_self (by simpa using hjl)]; rfl)
        generalize (l.set j x).take j = xs at *
        clear hy
        go_wp2_with (at_builtin; refine wpList_push_int rfl _ _ rfl rfl (hown.next ((Below.refl _ _).alloc (Nat.le_refl _) _)) _ x rfl (cell_of_row _ _ 0 _ _ _ (heap_alloc_new _ _)) hlen (by have := hbw.size; simp; omega) ?_; intro v' w' hown' _ _ hbl)
        have hb' := hbl w (hbw.alloc hbw.size _)
        clear hbl
        go_wp2
        refine ⟨⟨j + 1, ?wa, ?wb, ?wc, hb'⟩, ?wd⟩
        case wa => omega
        case wb => go_num
        case wc => rw [← Hnx.out]; exact hown'
        case wd => simp [intOf]; omega
      · have Hnx := Lib.hid (show (l.set i x).take j ++ [y] = (l.set i x).take (j + 1) by
          rw [List.take_add_one, List.getElem?_set_ne (fun e => hij e.symm), hy]; rfl)
        have dj : decide ((j : Int) = i) = false := by simp; omega
        generalize (l.set i x).take j = xs at *
        clear hy
        go_wp2_with (at_builtin; refine wpList_push_int rfl _ _ rfl rfl (hown.next ((Below.refl _ _).alloc (Nat.le_refl _) _)) _ y rfl (cell_of_row _ _ 0 _ _ _ (heap_alloc_new _ _)) hlen (by have := hbw.size; simp; omega) ?_; intro v' w' hown' _ _ hbl)
        have hb' := hbl w (hbw.alloc hbw.size _)
        clear hbl
        go_wp2
        refine ⟨⟨j + 1, ?va, ?vb, ?vc, hb'⟩, ?vd⟩
        case va => omega
        case vb => go_num
        case vc => rw [← Hnx.out]; exact hown'
        case vd => simp [intOf]; omega
    · obtain rfl : j = n := by omega
      have e : (l.set i x).take j = l.set i x := List.take_of_length_le (by rw [List.length_set]; have := Hn.out; omega)
      rw [e] at hown
      obtain ⟨B, cc, rfl, hi⟩ := hown.form
      have how : l ≠ [] → ∃ g, B = some ⟨g, 0, none⟩ ∧ w.heap.size ≤ g ∧ OwnAt wr g 3 (vI (l.set i x)) := fun hne => OwnAt.of_owns hown (by rw [List.length_set]; exact List.length_pos_iff.2 hne)
      go_wp2
      go_ret
      exact ⟨⟨B, cc, rfl, hi, how⟩, hbw⟩

end Go.Proofs.YtncokblinocgaaaGreatDoor
