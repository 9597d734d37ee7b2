/-
  Contracts: the reference's in, less, set, Levels.
-/
import Derived.Test.YtodikdmmmfeddaaDoorBibaN
import Derived.Test.YtodikdmmmfeddaaDoorPush
namespace Go.Proofs.YtodikdmmmfeddaaDoor
open Go.RowKit
set_option maxRecDepth 100000
set_option linter.unusedVariables false

theorem Rin_any (n a b : Int) (V : World) : Calls Tryd.prog 42 #[.int .i64 n, .int .i64 a, .int .i64 b] V fun e w' => e = .returned (.bool (decide (a ≤ n) && decide (n ≤ b))) ∧ V = w' := by
  by_cases h : a ≤ n
  · have d : decide (a ≤ n) = true := by simpa using h
    have d' : decide (n ≥ a) = true := by simpa using h
    go_enter Tryd.func42, Tryd.ntmps42
    go_wp2
    go_ret
    exact ⟨by rw [d]; rfl, rfl⟩
  · have d : decide (a ≤ n) = false := by simpa using h
    have d' : decide (n ≥ a) = false := by simpa using h
    go_enter Tryd.func42, Tryd.ntmps42
    go_wp2
    go_ret
    exact ⟨rfl, rfl⟩
theorem Rin_is (n a b : Int) (t : Bool) (V : World) (h : (decide (a ≤ n) && decide (n ≤ b)) = t) : Calls Tryd.prog 42 #[.int .i64 n, .int .i64 a, .int .i64 b] V fun e w' => e = .returned (.bool t) ∧ V = w' := by
  subst h; exact Rin_any n a b V
theorem Rless_any (a b : Int) (V : World) : Calls Tryd.prog 45 #[.int .i64 a, .int .i64 b] V fun e w' => e = .returned (.int .i64 (min a b)) ∧ V = w' := by
  by_cases h : a < b
  · have d : decide (a < b) = true := by simpa using h
    have hm : min a b = a := by omega
    rw [hm]
    go_enter Tryd.func45, Tryd.ntmps45
    go_wp2
    go_ret
    exact ⟨rfl, rfl⟩
  · have d : decide (a < b) = false := by simpa using h
    have hm : min a b = b := by omega
    rw [hm]
    go_enter Tryd.func45, Tryd.ntmps45
    go_wp2
    go_ret
    exact ⟨rfl, rfl⟩

set_option maxHeartbeats 1000000 in
theorem Rset_any (l : List Int) (i : Nat) (x : Int) (A : Option Addr) (c : Nat) (w : World) (h : IntsAt w A l) (hl : l.length ≤ 100) :
    Calls Tryd.prog 44 #[.slice A l.length c, .int .i64 i, .int .i64 x] w fun e w' => (∃ A' c', e = .returned (.slice A' (l.set i x).length c') ∧ IntsAt w' A' (l.set i x) ∧ (l ≠ [] → ∃ g, A' = some ⟨g, 0, none⟩ ∧ w.heap.size ≤ g ∧ OwnAt w' g 3 (vI (l.set i x)))) ∧ Below w.heap.size w w' := by
  generalize hn : l.length = n at *
  have Hn := Lib.hid hn
  clear hn
  go_enter Tryd.func44, Tryd.ntmps44
  go_wp2
  go_loopw [7, 8] (fun o k wr => ∃ j : Nat, j ≤ n ∧ k = .int .i64 j ∧ OwnI wr w.heap.size o ((l.set i x).take j) ∧ Below w.heap.size w wr) (fun _ k _ => n - (intOf k).toNat)
  case atStart => exact ⟨0, Nat.zero_le _, rfl, OwnI.nil _ _, Below.refl _ _⟩
  case round =>
    obtain ⟨j, hj, rfl, hown, hbw⟩ := hrel
    have hA := h.below hbw
    by_cases hlt : j < n
    · obtain ⟨b, off, y, rfl, hy, hc⟩ := hA.at_ (k := j) (by have := Hn.out; omega)
      have hlen : ((l.set i x).take j).length < 2 ^ 40 := by rw [List.length_take]; omega
      have hjl : j < (l.set i x).length := by rw [List.length_set]; have := Hn.out; omega
      by_cases hij : j = i
      · subst hij
        have Hnx := Lib.hid (show (l.set j x).take j ++ [x] = (l.set j x).take (j + 1) by
          rw [List.take_add_one, List.getElem?_set_self (by simpa using hjl)]; rfl)
        generalize (l.set j x).take j = xs at *
        clear hy
        go_wp2_with (at_builtin; refine wpList_push_int rfl _ _ rfl rfl (hown.next ((Below.refl _ _).alloc (Nat.le_refl _) _)) _ x rfl (cell_of_row _ _ 0 _ _ _ (heap_alloc_new _ _)) hlen (by have := hbw.size; simp; omega) ?_; intro v' w' hown' _ _ hbl)
        have hb' := hbl w (hbw.alloc hbw.size _)
        clear hbl
        go_wp2
        refine ⟨⟨j + 1, ?wa, ?wb, ?wc, hb'⟩, ?wd⟩
        case wa => omega
        case wb => go_num
        case wc => rw [← Hnx.out]; exact hown'
        case wd => simp [intOf]; omega
      · have Hnx := Lib.hid (show (l.set i x).take j ++ [y] = (l.set i x).take (j + 1) by
          rw [List.take_add_one, List.getElem?_set_ne (fun e => hij e.symm), hy]; rfl)
        have dj : decide ((j : Int) = i) = false := by simp; omega
        generalize (l.set i x).take j = xs at *
        clear hy
        go_wp2_with (at_builtin; refine wpList_push_int rfl _ _ rfl rfl (hown.next ((Below.refl _ _).alloc (Nat.le_refl _) _)) _ y rfl (cell_of_row _ _ 0 _ _ _ (heap_alloc_new _ _)) hlen (by have := hbw.size; simp; omega) ?_; intro v' w' hown' _ _ hbl)
        have hb' := hbl w (hbw.alloc hbw.size _)
        clear hbl
        go_wp2
        refine ⟨⟨j + 1, ?va, ?vb, ?vc, hb'⟩, ?vd⟩
        case va => omega
        case vb => go_num
        case vc => rw [← Hnx.out]; exact hown'
        case vd => simp [intOf]; omega
    · obtain rfl : j = n := by omega
      have e : (l.set i x).take j = l.set i x := List.take_of_length_le (by rw [List.length_set]; have := Hn.out; omega)
      rw [e] at hown
      obtain ⟨B, cc, rfl, hi⟩ := hown.form
      have how : l ≠ [] → ∃ g, B = some ⟨g, 0, none⟩ ∧ w.heap.size ≤ g ∧ OwnAt wr g 3 (vI (l.set i x)) := fun hne => OwnAt.of_owns hown (by rw [List.length_set]; exact List.length_pos_iff.2 hne)
      go_wp2
      go_ret
      exact ⟨⟨B, cc, rfl, hi, how⟩, hbw⟩

set_option maxHeartbeats 1000000 in
theorem Rlevels_any (l : List Int) (most : Nat) (hm : most ≤ 100) (A : Option Addr) (c : Nat) (w : World) (h : IntsAt w A l) (hl : l.length < 2 ^ 60) :
    Calls Tryd.prog 19 #[.slice A l.length c, .int .i64 most] w fun e w' => e = .returned (.int .i64 (levCode l most)) ∧ w = w' := by
  by_cases h12 : most < l.length
  · have Hc := Lib.hid (show levCode l most = 4 by unfold levCode; rw [if_pos h12])
    generalize l.length = n at *
    go_enter Tryd.func19, Tryd.ntmps19
    go_wp2
    go_ret
    exact ⟨by rw [Hc.out]; rfl, rfl⟩
  · have Hc := Lib.hid (show levCode l most = if l.all lvl then 0 else 1 by unfold levCode; rw [if_neg h12])
    generalize hn : l.length = n at *
    have Hn := Lib.hid hn
    clear hn
    go_enter Tryd.func19, Tryd.ntmps19
    go_wp2
    go_loop [5] (fun i => ∃ k : Nat, k ≤ n ∧ i = .int .i64 k ∧ Hid (∀ x ∈ l.take k, lvl x = true)) (fun i => n - (intOf i).toNat)
    case atStart => exact ⟨0, Nat.zero_le _, rfl, fun x hx => by simp at hx⟩
    case round =>
      obtain ⟨k, hk, rfl, hall⟩ := hrel
      by_cases hlt : k < n
      · obtain ⟨b, off, x, rfl, hx, hc⟩ := h.at_ (k := k) (by have := Hn.out; omega)
        cases hb : lvl x with
        | true =>
          have Hb := Lib.hid (fun V => Rin_is x 0 7 true V (by unfold lvl at hb; simpa using hb))
          have Hnew := Lib.hid (show ∀ y ∈ l.take (k + 1), lvl y = true from fun y hy => by
            rw [List.take_add_one, List.mem_append] at hy
            rcases hy with hy | hy
            · exact hall.out y hy
            · rw [hx.out] at hy; simp at hy; subst hy; exact hb)
          clear hb hall
          go_wp2_with (go_at_call 42; with_reducible refine (Hb.out _).mono ?_; rintro e w' ⟨rfl, rfl⟩)
          refine ⟨⟨k + 1, ?xa, ?xb, Hnew⟩, ?xd⟩
          case xa => omega
          case xb => go_num
          case xd => simp [intOf]; omega
        | false =>
          have Hb := Lib.hid (fun V => Rin_is x 0 7 false V (by unfold lvl at hb; simp at hb ⊢; exact hb))
          have Hno := Lib.hid (show l.all lvl = false from by
            refine Bool.eq_false_iff.2 fun e => ?_
            rw [List.all_eq_true] at e
            rw [e x (List.mem_of_getElem? hx.out)] at hb; cases hb)
          clear hb hall
          go_wp2_with (go_at_call 42; with_reducible refine (Hb.out _).mono ?_; rintro e w' ⟨rfl, rfl⟩)
          go_ret
          exact ⟨by rw [Hc.out, Hno.out]; rfl, rfl⟩
      · obtain rfl : k = n := by omega
        have Hyes := Lib.hid (show l.all lvl = true from by
          rw [List.all_eq_true]
          intro x hx
          exact hall.out x (by rw [List.take_of_length_le (by have := Hn.out; omega)]; exact hx))
        clear hall
        go_wp2
        go_ret
        exact ⟨by rw [Hc.out, Hyes.out]; rfl, rfl⟩
end Go.Proofs.YtodikdmmmfeddaaDoor
