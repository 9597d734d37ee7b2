/-
  The walk of quietwinglaw1.RelReduces.
-/
import Derived.Test.YtbdochaahbpabaaDoorReduce
import Derived.Test.YtbdochaahbpabaaDoorLatRules
import Derived.Test.YtbdochaahbpabaaDoorPush
import Derived.Test.YtbdochaahbpabaaDoorFrame
namespace Go.Proofs.YtbdochaahbpabaaDoor
open Go.RowKit
set_option maxRecDepth 100000
set_option linter.unusedVariables false

theorem Reduce_err (l : List Int) (A : Option Addr) (c : Nat) (w : World) (h : IntsAt w A l) (hl : l.length < 2 ^ 60) (hT : Tab w) (hne : latCode l ≠ 0) :
    Calls Tryd.prog 25 #[.slice A l.length c] w fun e w' => e = .returned (.tuple #[.slice none 0 0, errVal (latCode l)]) ∧ Below w.heap.size w w' := by
  rw [errVal_pos hne]
  by_cases hc : relCode l = 0
  · obtain ⟨r, rfl, h1, h2⟩ := relCode_ok hc
    have hlc := latCode_cast h1 h2
    have ho : orderB (closed r) = false := by
      refine Bool.eq_false_iff.2 fun ho => hne ?_
      rw [hlc, ho]; rfl
    rw [hlc, ho]
    have Ho := Order_ok r h1 h2 A c w h hT
    rw [ho] at Ho
    rw [length_castL]
    have Ho := Lib.hid Ho
    clear h hl hne hlc ho hc h2 hT
    generalize r.length = n at *
    go_enter Tryd.func25, Tryd.ntmps25
    go_wp2_with fail
    refine Ho.out.mono ?_
    rintro e w1 ⟨rfl, hb⟩
    go_wp2_with fail
    go_ret2
    exact ⟨rfl, hb⟩
  · have e : latCode l = relCode l := by unfold latCode; rw [if_pos hc]
    rw [e]
    have Ho := Lib.hid (Order_bad l A c w h hl hc)
    clear h hl hne e hc hT
    generalize l.length = n at *
    generalize relCode l = m at *
    go_enter Tryd.func25, Tryd.ntmps25
    go_wp2_with fail
    refine Ho.out.mono ?_
    rintro e w1 ⟨rfl, hb⟩
    go_wp2_with fail
    go_ret2
    exact ⟨rfl, hb⟩

set_option maxHeartbeats 2000000 in
theorem RelReduces_err (l : List Int) (A : Option Addr) (c : Nat) (i j : Int) (w : World) (h : IntsAt w A l) (hl : l.length < 2 ^ 60) (hT : Tab w) (hne : latCode l ≠ 0) :
    Calls Tryd.prog 6 #[.slice A l.length c, .int .i64 i, .int .i64 j] w fun e w' => e = .returned (.bool true) ∧ Below w.heap.size w w' := by
  have C0 := Lib.hid (fun (V : World) (hV : Below w.heap.size w V) => over hV (relFact_any V))
  have c1 := fun (V : World) (hV : Below w.heap.size w V) => over hV (Reduce_err l A c V (h.below hV) hl (hT.next hV) hne)
  rw [errVal_pos hne] at c1
  have C1 := Lib.hid c1
  have hbl : Below w.heap.size w w := Below.refl _ _
  clear c1 h hl hT hne
  generalize latCode l = k at *
  generalize l.length = n at *
  go_enter Tryd.func6, Tryd.ntmps6
  go_wp2_with (first
    | (go_at_call 18; with_reducible refine (C0.out _ (by assumption)).mono ?_; rintro e w' ⟨rfl, hbk⟩)
    | (go_at_call 25; with_reducible refine (C1.out _ (by assumption)).mono ?_; rintro e w' ⟨rfl, hbk⟩))
  go_ret
  exact ⟨rfl, by assumption⟩

theorem Ints_is (l l' : List Int) (A A' : Option Addr) (c c' : Nat) (b : Bool) (w : World) (h : IntsAt w A l) (h' : IntsAt w A' l') (hl : l.length < 2 ^ 60) (hb : decide (l = l') = b) :
    Calls Tryd.prog 26 #[.slice A l.length c, .slice A' l'.length c'] w fun e w' => e = .returned (.bool b) ∧ ∃ n, w.drewN n = w' := by
  subst hb
  exact (Ints_any l l' A A' c c' w h h' hl).mono fun e w' ⟨he, n, hn⟩ => ⟨he, n, hn.symm⟩
theorem castL_set (d : List Nat) (i x : Nat) : castL (d.set i x) = (castL d).set i (x : Int) := by unfold castL; rw [List.map_set]; rfl
set_option maxHeartbeats 4000000 in
theorem RelReduces_out (r : List Nat) (h1 : r.length ≤ 12) (h2 : Bd r.length r) (ho : orderB (closed r) = true) (A : Option Addr) (c : Nat) (i j : Int) (w : World) (h : IntsAt w A (castL r)) (hT : Tab w)
    (hout : ¬ ((0 ≤ i ∧ i < r.length) ∧ (0 ≤ j ∧ j < r.length))) :
    Calls Tryd.prog 6 #[.slice A r.length c, .int .i64 i, .int .i64 j] w fun e w' => e = .returned (.bool true) ∧ Below w.heap.size w w' := by
  have hdl : (reduceL (closed r)).length = r.length := by rw [length_reduceL, length_closed]
  have hbd : Bd (reduceL (closed r)).length (reduceL (closed r)) := by rw [hdl]; have := bd_reduceL (c := closed r) (by rw [length_closed]; exact closed_lt r h2); rwa [length_closed] at this
  have C0 := Lib.hid (fun (V : World) (hV : Below w.heap.size w V) => over hV (relFact_any V))
  have C1 := Lib.hid (fun (V : World) (hV : Below w.heap.size w V) => Reduce_ok r h1 h2 ho A c V (h.below hV) (hT.next hV))
  have C2 := Lib.hid (fun (V : World) (hV : Below w.heap.size w V) => Closure_ok r h1 h2 A c V (h.below hV))
  have C3 := Lib.hid (fun (B : Option Addr) (c' : Nat) (V : World) (hV : IntsAt V B (castL (reduceL (closed r)))) => Closure_ok (reduceL (closed r)) (by rw [hdl]; exact h1) hbd B c' V hV)
  rw [hdl, closed_reduce h1 h2 ho] at C3
  have Hlen := Lib.hid (length_closed r)
  have C4 := Lib.hid (fun (B B' : Option Addr) (c c' : Nat) (V : World) (hV : IntsAt V B (castL (closed r))) (hV' : IntsAt V B' (castL (closed r))) => Ints_is (castL (closed r)) (castL (closed r)) B B' c c' true V hV hV' (by rw [length_castL, Hlen.out]; omega) (decide_eq_true rfl))
  rw [length_castL, Hlen.out] at C4
  have hbl : Below w.heap.size w w := Below.refl _ _
  have Hout := Lib.hid hout
  clear h hT ho h2 hbd hdl hout Hlen
  generalize closed r = cl at *
  generalize r.length = n at *
  go_enter Tryd.func6, Tryd.ntmps6
  go_wp2_with (go_at_call 18; with_reducible refine (C0.out _ (by assumption)).mono ?_; rintro e w1 ⟨rfl, hb1⟩)
  refine (C1.out w1 hb1).mono ?_
  rintro e w2 ⟨Bd', cd, rfl, hD, hbd⟩
  have hb2 := hb1.trans (hbd.mono hb1.size)
  clear C0 C1 hbl hb1 hbd
  go_wp2_with fail
  refine (C2.out w2 hb2).mono ?_
  rintro e w3 ⟨Bc, cc, rfl, hC, hbc⟩
  have hD3 := hD.below hbc
  have hb3 := hb2.trans (hbc.mono hb2.size)
  clear C2 hD hb2 hbc
  go_wp2_with fail
  refine (C3.out Bd' cd w3 hD3).mono ?_
  rintro e w4 ⟨Bx, cx, rfl, hX, hbx⟩
  have hD4 := hD3.below hbx
  have hC4 := hC.below hbx
  have hb4 := hb3.trans (hbx.mono hb3.size)
  have C5 := Lib.hid (C4.out Bc Bx cc cx w4 hC4 hX)
  clear C3 C4 hD3 hC hb3 hbx
  go_wp2_with (go_at_call 26; with_reducible refine C5.out.mono ?_; rintro e w' ⟨rfl, q, rfl⟩)
  all_goals first
    | (go_ret; exact ⟨rfl, below_drewN hb4 _⟩)
    | (exfalso; have := Hout.out; omega)

set_option maxHeartbeats 4000000 in
theorem RelReduces_in (r : List Nat) (h1 : r.length ≤ 12) (h2 : Bd r.length r) (ho : orderB (closed r) = true) (A : Option Addr) (c : Nat) (i j : Nat) (w : World) (h : IntsAt w A (castL r)) (hT : Tab w)
    (hi : i < r.length) (hj : j < r.length) :
    Calls Tryd.prog 6 #[.slice A r.length c, .int .i64 i, .int .i64 j] w fun e w' => e = .returned (.bool true) ∧ Below w.heap.size w w' := by
  have hdl : (reduceL (closed r)).length = r.length := by rw [length_reduceL, length_closed]
  have hbd : Bd (reduceL (closed r)).length (reduceL (closed r)) := by rw [hdl]; have := bd_reduceL (c := closed r) (by rw [length_closed]; exact closed_lt r h2); rwa [length_closed] at this
  have hbd' : Bd r.length (reduceL (closed r)) := hdl ▸ hbd
  have C0 := Lib.hid (fun (V : World) (hV : Below w.heap.size w V) => over hV (relFact_any V))
  have C1 := Lib.hid (fun (V : World) (hV : Below w.heap.size w V) => Reduce_ok r h1 h2 ho A c V (h.below hV) (hT.next hV))
  have C2 := Lib.hid (fun (V : World) (hV : Below w.heap.size w V) => Closure_ok r h1 h2 A c V (h.below hV))
  have C3 := Lib.hid (fun (B : Option Addr) (c' : Nat) (V : World) (hV : IntsAt V B (castL (reduceL (closed r)))) => Closure_ok (reduceL (closed r)) (by rw [hdl]; exact h1) hbd B c' V hV)
  rw [hdl, closed_reduce h1 h2 ho] at C3
  have hrow : row (reduceL (closed r)) i < 2 ^ 12 := Nat.lt_of_lt_of_le (hbd' i) (Nat.pow_le_pow_right (by decide) h1)
  have Hlen := Lib.hid (length_closed r)
  have C4 := Lib.hid (fun (B B' : Option Addr) (c c' : Nat) (V : World) (hV : IntsAt V B (castL (closed r))) (hV' : IntsAt V B' (castL (closed r))) => Ints_is (castL (closed r)) (castL (closed r)) B B' c c' true V hV hV' (by rw [length_castL, Hlen.out]; omega) (decide_eq_true rfl))
  rw [length_castL, Hlen.out] at C4
  have hbl : Below w.heap.size w w := Below.refl _ _
  have g1 : decide ((i : Int) < 0) = false := by simp
  have g2 : decide ((j : Int) < 0) = false := by simp
  have g3 : decide ((i : Int) ≥ (r.length : Int)) = false := by simp; omega
  have g4 : decide ((j : Int) ≥ (r.length : Int)) = false := by simp; omega
  -- what the removal brings
  have Hspare := Lib.hid (fun (hb : (row (reduceL (closed r)) i).testBit j = true) => reduce_spare h1 h2 hi hb (e := (reduceL (closed r)).set i (diff (row (reduceL (closed r)) i) (2 ^ j))) (by rw [List.length_set, hdl]) (fun x => by
    rw [row_set _ _ _ _ (by rw [hdl]; exact hi)]
    by_cases hx : x = i
    · subst hx; simp
    · rw [if_neg hx, if_neg (fun e => hx e.symm)]))
  have C6 := Lib.hid (fun (B : Option Addr) (c' : Nat) (V : World) (hV : IntsAt V B (castL ((reduceL (closed r)).set i (diff (row (reduceL (closed r)) i) (2 ^ j))))) => Closure_ok ((reduceL (closed r)).set i (diff (row (reduceL (closed r)) i) (2 ^ j))) (by rw [List.length_set, hdl]; exact h1)
    (by rw [List.length_set, hdl]; exact hbd'.set _ _ (diff_lt (hbd' i))) B c' V hV)
  rw [List.length_set, hdl] at C6
  have C7 := Lib.hid (fun (hne : closed ((reduceL (closed r)).set i (diff (row (reduceL (closed r)) i) (2 ^ j))) ≠ closed r) (B B' : Option Addr) (c c' : Nat) (V : World) (hV : IntsAt V B (castL (closed ((reduceL (closed r)).set i (diff (row (reduceL (closed r)) i) (2 ^ j)))))) (hV' : IntsAt V B' (castL (closed r))) =>
    Ints_is (castL (closed ((reduceL (closed r)).set i (diff (row (reduceL (closed r)) i) (2 ^ j))))) (castL (closed r)) B B' c c' false V hV hV' (by rw [length_castL, length_closed, List.length_set, hdl]; omega) (decide_eq_false fun e => hne (castL_inj e)))
  rw [length_castL, length_castL, length_closed, List.length_set, hdl, Hlen.out] at C7
  have Hsub := Lib.hid (fun (hb : (row (reduceL (closed r)) i).testBit j = true) => sub_pow hb)
  have Hdl := Lib.hid hdl
  have Hset := Lib.hid (castL_set (reduceL (closed r)) i (diff (row (reduceL (closed r)) i) (2 ^ j)))
  clear h hT ho h2 hbd hdl Hlen hbd'
  generalize hecl : closed ((reduceL (closed r)).set i (diff (row (reduceL (closed r)) i) (2 ^ j))) = ecl at *
  clear hecl
  generalize closed r = cl at *
  generalize hde : reduceL cl = d at *
  clear hde
  generalize r.length = n at *
  go_enter Tryd.func6, Tryd.ntmps6
  go_wp2_with (go_at_call 18; with_reducible refine (C0.out _ (by assumption)).mono ?_; rintro e w1 ⟨rfl, hb1⟩)
  refine (C1.out w1 hb1).mono ?_
  rintro e w2 ⟨Bd', cd, rfl, hD, hbd⟩
  have hb2 := hb1.trans (hbd.mono hb1.size)
  clear C0 C1 hbl hb1 hbd
  go_wp2_with fail
  refine (C2.out w2 hb2).mono ?_
  rintro e w3 ⟨Bc, cc, rfl, hC, hbc⟩
  have hD3 := hD.below hbc
  have hb3 := hb2.trans (hbc.mono hb2.size)
  clear C2 hD hb2 hbc
  go_wp2_with fail
  refine (C3.out Bd' cd w3 hD3).mono ?_
  rintro e w4 ⟨Bx, cx, rfl, hX, hbx⟩
  have hD4 := hD3.below hbx
  have hC4 := hC.below hbx
  have hb4 := hb3.trans (hbx.mono hb3.size)
  have C5 := Lib.hid (C4.out Bc Bx cc cx w4 hC4 hX)
  obtain ⟨b, off, hA, hcd⟩ := hD4.row (k := i) (by rw [Hdl.out]; exact hi)
  subst hA
  clear C3 C4 hD3 hC hb3 hbx hX
  cases hbit : (row d i).testBit j with
  | false =>
    have C8 := Lib.hid (fun V => Bit_is (row d i) j false V (by omega) (by omega) hbit)
    clear hbit Hspare Hsub C6 C7
    generalize row d i = x at *
    go_wp2_with (first | (go_at_call 26; with_reducible refine C5.out.mono ?_; rintro e w' ⟨rfl, q, rfl⟩) | (go_at_call 21; with_reducible refine (C8.out _).mono ?_; rintro e w' ⟨rfl, rfl⟩))
    go_ret
    exact ⟨rfl, below_drewN hb4 _⟩
  | true =>
    have C8 := Lib.hid (fun V => Bit_is (row d i) j true V (by omega) (by omega) hbit)
    have hsub := Hsub.out hbit
    have Hne := Lib.hid (Hspare.out hbit)
    have C9 := Lib.hid (fun V => (Pow2_any j V (by omega)).mono fun e w' ⟨he, hw⟩ => (⟨he, hw.symm⟩ : e = _ ∧ w' = V))
    clear hbit Hspare Hsub
    generalize hdm : diff (row d i) (2 ^ j) = m at *
    clear hdm
    generalize hrx : row d i = x at *
    have Hrx := Lib.hid hrx
    clear hrx
    generalize 2 ^ j = p at *
    have Hs2 := Lib.hid hsub
    have hxm : (x : Int) - (p : Int) = (m : Int) := by omega
    have Hxm := Lib.hid hxm
    clear hsub hxm
    have hDc : CellsAt w4 (some ⟨b, off, none⟩) ((castL d).map (.int .i64)) := hD4.cells
    have hdn : ((castL d).map (Value.int .i64)).length = n * 1 := by rw [List.length_map, length_castL, Hdl.out]; simp
    have Hdn := Lib.hid hdn
    have intCells := Lib.hid (show ∀ u ∈ (castL d).map (Value.int .i64), u.oneCell' = true from fun u hu => by obtain ⟨x', _, rfl⟩ := List.mem_map.1 hu; rfl)
    have hnlt : n < 13 := by omega
    clear hdn
    go_wp2_with (first
      | (go_at_call 26; with_reducible refine C5.out.mono ?_; rintro e w' ⟨rfl, q, rfl⟩)
      | (go_at_call 21; with_reducible refine (C8.out _).mono ?_; rintro e w' ⟨rfl, rfl⟩)
      | (at_builtin; refine wpList_append_cells rfl _ _ rfl eInts rfl (World.ownsRow_nil _ w4.heap.size _ 1) _ n cd _ rfl (hDc.drewN q) Hdn.out intCells.out (by omega) (by omega) (Nat.le_refl _) ?_; intro v' w5 hp))
    have hn0 : 0 < n := by omega
    have hown : w5.ownsRow w4.heap.size 3 1 v' n ((castL d).map (.int .i64)) := by simpa using hp.own
    obtain ⟨A', cl', rfl⟩ := ownsRow_form hown
    obtain ⟨g, rfl, hge, hoG⟩ := OwnAt.of_owns hown hn0
    have hb45 : Below w4.heap.size w4 w5 := (below_drewN (Below.refl _ w4) q).grown hp.grew (Nat.le_refl _) (fun k hk => absurd (show (none : Option Nat) = some k from hk) (by simp))
    have hb5 := hb4.trans (hb45.mono hb4.size)
    have hC5 := hC4.below hb45
    have hlg := hoG.lt
    have hcell : w5.cell? ⟨g, i, none⟩ = some (.int .i64 (x : Nat)) := by
      have h1 := (hoG.ints).row (k := i) (by rw [Hdl.out]; exact hi)
      obtain ⟨b2, off2, hA2, hc2⟩ := h1
      injection hA2 with hA2; injection hA2 with e1 e2; subst e1; subst e2
      rw [Hrx.out, Nat.zero_add] at hc2; exact hc2
    have hfree := hoG.free i
    have hgw : w.heap.size ≤ g := Nat.le_trans hb4.size hge
    have hm2 : IntsAt (w5.drew.setCell ⟨g, i, none⟩ (.int .i64 (m : Nat))) (some ⟨g, 0, none⟩) (castL (d.set i m)) := by
      refine OwnAt.ints (e := 3) ?_
      rw [map_set_cast]
      exact hoG.drew.set (by rw [List.length_map, length_castL, Hdl.out]; exact hi) _
    have hC6 : IntsAt (w5.drew.setCell ⟨g, i, none⟩ (.int .i64 (m : Nat))) Bc (castL cl) := hC4.keep fun p hp => by
      rw [World.cell?_setCell_other _ _ _ _ (fun e => by subst e; simp at hp; omega)]
      exact hb45.cell hp
    have hb6 : Below w.heap.size w (w5.drew.setCell ⟨g, i, none⟩ (.int .i64 (m : Nat))) := hb5.drew.setCell hgw _
    have hxm := Hxm.out
    clear hp hown hb45 hb5 hC5 hoG hgw hge hD4 hDc hC4
    refine wp_region_still_tail 10 (by kernel_rfl) (by kernel_rfl) ?_
    simp only [List.take_succ_cons, List.take_zero, List.drop_succ_cons, List.drop_zero]
    repeat (first | still_step | still_call (C9.out _))
    refine wpStill_nil ?_
    go_wp2_with fail
    refine (C6.out (some ⟨g, 0, none⟩) cl' _ hm2).mono ?_
    rintro e w7 ⟨By, cy, rfl, hY, hb7⟩
    have hC7 := hC6.below hb7
    have hbl7 := hb6.trans (hb7.mono hb6.size)
    have C10 := Lib.hid (C7.out Hne.out By Bc cy cc w7 hY hC7)
    clear hm2 hC6 hb6 hb7 hY hC7 C7 C6
    go_wp2_with (go_at_call 26; with_reducible refine C10.out.mono ?_; rintro e w' ⟨rfl, q2, rfl⟩)
    go_ret
    exact ⟨rfl, below_drewN hbl7 _⟩

theorem RelReduces_walk (l : List Int) (A : Option Addr) (c : Nat) {W : World} (h : IntsAt W A l) (hl : l.length < 2 ^ 47) (hI : ∀ x ∈ l, I64 x) (i : Int) (wi : I64 i) (j : Int) (wj : I64 j) (w : World) (hw : w = W) (hT : Tab W) :
    Calls Tryd.prog 6 #[.slice A l.length c, .int .i64 i, .int .i64 j] w fun e w' => e = .returned (.bool true) ∧ Below w.heap.size w w' := by
  subst hw
  by_cases hc : latCode l = 0
  · obtain ⟨r, rfl, h1, h2, ho⟩ := latCode_ok hc
    rw [length_castL]
    by_cases hr : (0 ≤ i ∧ i < r.length) ∧ (0 ≤ j ∧ j < r.length)
    · obtain ⟨an, rfl⟩ := Int.eq_ofNat_of_zero_le hr.1.1
      obtain ⟨bn, rfl⟩ := Int.eq_ofNat_of_zero_le hr.2.1
      exact RelReduces_in r h1 h2 ho A c an bn w h hT (by omega) (by omega)
    · exact RelReduces_out r h1 h2 ho A c i j w h hT hr
  · exact RelReduces_err l A c i j w h (by omega) hT hc
end Go.Proofs.YtbdochaahbpabaaDoor
