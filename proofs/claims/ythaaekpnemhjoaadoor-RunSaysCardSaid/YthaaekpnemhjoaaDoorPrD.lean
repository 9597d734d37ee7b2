/-
  Contracts: the document's Running, Value.
-/
import Derived.Test.YthaaekpnemhjoaaDoorPrC
import Derived.Test.YthaaekpnemhjoaaDoorRunC
namespace Go.Proofs.YthaaekpnemhjoaaDoor
open Go.RowKit
set_option maxRecDepth 100000
set_option linter.unusedVariables false

section
variable {P : List Int} {n : Nat} {A : Option Addr} {c : Nat} {w : World} {L : List Int} {Al : Option Addr} {cl : Nat} {fuel : Int}
set_option maxHeartbeats 1000000 in
/-- Where the program itself, or the number of variables, is wrong. -/
theorem RRunning_bad (h : NodesAt w A P n) {k : Nat} (hk : (if progCode P n = 0 then (if L.length = 6 then 0 else 3) else progCode P n) = k) (hne : k ≠ 0) :
    Calls Tryd.prog 16 #[.slice A n c, .slice Al L.length cl, .int .i64 fuel] w fun e w' => e = .returned (.int .i64 (k : Nat)) ∧ Below w.heap.size w w' := by
  have HC := Lib.hid (RProg_any (c := c) h)
  have dk : ((k : Int) == 0) = false := by simp; omega
  by_cases hc : progCode P n = 0
  · rw [if_pos hc] at hk
    rw [hc] at HC
    have h6 : L.length ≠ 6 := fun e => hne (by rw [← hk, if_pos e])
    rw [if_neg h6] at hk
    subst hk
    have hb : ((L.length : Int) != 6) = true := by rw [bne_iff_ne]; omega
    clear hc h6 hne h
    generalize L.length = m at *
    go_enter Tryd.func16, Tryd.ntmps16
    go_wp2_with (go_at_call 21; with_reducible refine HC.out.mono ?_; rintro e w1 ⟨rfl, hb1⟩)
    go_loopw [8, 7] (fun i e wr => i = .int .i64 0 ∧ e = .int .i64 3 ∧ w1 = wr) (fun i _ _ => 0)
    case atStart => exact ⟨rfl, rfl, rfl⟩
    case round =>
      obtain ⟨rfl, rfl, rfl⟩ := hrel
      by_cases hm : 0 < m
      · have hmi : (0 : Int) < m := by omega
        go_wp2_with fail
        go_ret
        exact ⟨rfl, hb1⟩
      · obtain rfl : m = 0 := by omega
        go_wp2_with fail
        go_ret
        exact ⟨rfl, hb1⟩
  · rw [if_neg hc] at hk
    rw [hk] at HC
    clear hc hk h hne
    generalize L.length = m at *
    go_enter Tryd.func16, Tryd.ntmps16
    go_wp2_with (go_at_call 21; with_reducible refine HC.out.mono ?_; rintro e w1 ⟨rfl, hb1⟩)
    go_loopw [8, 7] (fun i e wr => i = .int .i64 0 ∧ e = .int .i64 (k : Nat) ∧ w1 = wr) (fun i _ _ => 0)
    case atStart => exact ⟨rfl, rfl, rfl⟩
    case round =>
      obtain ⟨rfl, rfl, rfl⟩ := hrel
      by_cases hm : 0 < m
      · have hmi : (0 : Int) < m := by omega
        go_wp2_with fail
        go_ret
        exact ⟨rfl, hb1⟩
      · obtain rfl : m = 0 := by omega
        go_wp2_with fail
        go_ret
        exact ⟨rfl, hb1⟩
set_option maxHeartbeats 2000000 in
theorem RRunning_any (h : NodesAt w A P n) (hL : IntsAt w Al L) :
    Calls Tryd.prog 16 #[.slice A n c, .slice Al L.length cl, .int .i64 fuel] w fun e w' => e = .returned (.int .i64 (runCode P n L fuel : Nat)) ∧ Below w.heap.size w w' := by
  by_cases hc : progCode P n = 0
  · by_cases h6 : L.length = 6
    · have HC := RProg_any (c := c) h
      rw [hc] at HC
      have HC := Lib.hid HC
      have Hc := Lib.hid (show runCode P n L fuel = if L.all valOk then if 0 ≤ fuel ∧ fuel ≤ 5000 then 0 else 1 else 1 by unfold runCode; rw [if_pos hc, if_pos h6])
      obtain ⟨b, off, rfl, hcl⟩ := (show _ from hL) (by intro e; rw [e] at h6; cases h6)
      have Hcl := Lib.hid (show ∀ x, x < 6 → w.cell? ⟨b, off + x, none⟩ = some (.int .i64 (gI L x)) from fun x hx => hcl x _ (get_gI (by omega)))
      have hbw := block_lt (Hcl.out 0 (by decide))
      have Hall := Lib.hid (show (∀ j, j < 6 → 0 ≤ gI L j ∧ gI L j ≤ 999999) → L.all valOk = true from fun hh => by
        rw [List.all_eq_true]
        intro x hx
        obtain ⟨j, hj, rfl⟩ := List.getElem_of_mem hx
        have := hh j (by omega)
        rw [gI_of (List.getElem?_eq_getElem hj)] at this
        exact decide_eq_true this)
      have Hnot := Lib.hid (show ∀ j, j < 6 → ¬ (0 ≤ gI L j ∧ gI L j ≤ 999999) → L.all valOk = false from fun j hj hh => by
        rw [List.all_eq_false]
        exact ⟨gI L j, List.mem_of_getElem? (get_gI (by omega)), by unfold valOk; simpa using hh⟩)
      rw [h6]
      clear hc h6 h hL hcl
      go_enter Tryd.func16, Tryd.ntmps16
      go_wp2_with (go_at_call 21; with_reducible refine HC.out.mono ?_; rintro e w1 ⟨rfl, hb1⟩)
      go_loopw [8, 7] (fun i e wr => ∃ (k ec : Nat), k ≤ 6 ∧ i = .int .i64 k ∧ e = .int .i64 ec ∧ Hid ((ec = 0 ∧ ∀ j, j < k → 0 ≤ gI L j ∧ gI L j ≤ 999999) ∨ (ec = 1 ∧ L.all valOk = false)) ∧ w1 = wr) (fun i _ _ => 6 - (intOf i).toNat)
      case atStart => exact ⟨0, 0, Nat.zero_le _, rfl, rfl, Lib.hid (.inl ⟨rfl, fun j hj => by omega⟩), rfl⟩
      case round =>
        obtain ⟨k, ec, hk, rfl, rfl, hst, rfl⟩ := hrel
        rcases hst.out with ⟨rfl, hall⟩ | ⟨rfl, hbad⟩
        · by_cases hlt : k < 6
          · have c1 := (hb1.cell (p := ⟨b, off + k, none⟩) hbw).trans (Hcl.out k hlt)
            have hk6 : (k : Int) < 6 := by omega
            by_cases hok : 0 ≤ gI L k ∧ gI L k ≤ 999999
            · have W1 := Lib.hid (fun V => RIn_is (gI L k) 0 999999 true V (decide_eq_true hok))
              have Hn := Lib.hid (show ∀ j, j < k + 1 → 0 ≤ gI L j ∧ gI L j ≤ 999999 from fun j hj => by
                rcases Nat.lt_or_ge j k with h1 | h1
                · exact hall j h1
                · obtain rfl : j = k := by omega
                  exact hok)
              clear hst hall hok
              generalize gI L k = x at *
              go_wp2_with (go_at_call 37; with_reducible refine (W1.out _).mono ?_; rintro e w' ⟨rfl, rfl⟩)
              refine ⟨⟨k + 1, 0, ?qa, ?qb, rfl, Lib.hid (.inl ⟨rfl, Hn.out⟩), trivial⟩, ?qd⟩
              case qa => omega
              case qb => go_num
              case qd => simp [intOf]; omega
            · have W1 := Lib.hid (fun V => RIn_is (gI L k) 0 999999 false V (decide_eq_false hok))
              have Hn := Lib.hid (Hnot.out k hlt hok)
              clear hst hall hok
              generalize gI L k = x at *
              go_wp2_with (go_at_call 37; with_reducible refine (W1.out _).mono ?_; rintro e w' ⟨rfl, rfl⟩)
              refine ⟨⟨k + 1, 1, ?ra, ?rb, rfl, Lib.hid (.inr ⟨rfl, Hn.out⟩), trivial⟩, ?rd⟩
              case ra => omega
              case rb => go_num
              case rd => simp [intOf]; omega
          · obtain rfl : k = 6 := by omega
            simp only [show ((6 : Nat) : Int) = 6 from rfl]
            have Hc2 := Lib.hid (show runCode P n L fuel = if 0 ≤ fuel ∧ fuel ≤ 5000 then 0 else 1 by rw [Hc.out, if_pos (Hall.out hall)])
            clear hst hall
            by_cases hf : 0 ≤ fuel ∧ fuel ≤ 5000
            · have W1 := Lib.hid (fun V => RIn_is fuel 0 5000 true V (decide_eq_true hf))
              have Hr := Lib.hid (show runCode P n L fuel = 0 by rw [Hc2.out, if_pos hf])
              clear Hc2 hf
              go_wp2_with (go_at_call 37; with_reducible refine (W1.out _).mono ?_; rintro e w' ⟨rfl, rfl⟩)
              go_ret
              exact ⟨by rw [Hr.out]; rfl, hb1⟩
            · have W1 := Lib.hid (fun V => RIn_is fuel 0 5000 false V (decide_eq_false hf))
              have Hr := Lib.hid (show runCode P n L fuel = 1 by rw [Hc2.out, if_neg hf])
              clear Hc2 hf
              go_wp2_with (go_at_call 37; with_reducible refine (W1.out _).mono ?_; rintro e w' ⟨rfl, rfl⟩)
              go_ret
              exact ⟨by rw [Hr.out]; rfl, hb1⟩
        · have Hr := Lib.hid (show runCode P n L fuel = 1 by rw [Hc.out, if_neg (by rw [hbad]; decide)])
          clear hst hbad
          rcases Nat.lt_or_ge k 6 with hlt | hlt
          · have hk6 : (k : Int) < 6 := by omega
            go_wp2_with fail
            go_ret
            exact ⟨by rw [Hr.out]; rfl, hb1⟩
          · obtain rfl : k = 6 := by omega
            simp only [show ((6 : Nat) : Int) = 6 from rfl]
            go_wp2_with fail
            go_ret
            exact ⟨by rw [Hr.out]; rfl, hb1⟩
    · have hr : runCode P n L fuel = 3 := by unfold runCode; rw [if_pos hc, if_neg h6]
      rw [hr]
      exact RRunning_bad h (by rw [if_pos hc, if_neg h6]) (by decide)
  · have hr : runCode P n L fuel = progCode P n := by unfold runCode; rw [if_neg hc]
    rw [hr]
    exact RRunning_bad h (by rw [if_neg hc]) hc
end

set_option maxHeartbeats 4000000 in
theorem RValue_any {P : List Int} {n c cv g : Nat} {A : Option Addr} {v : List Nat} (hv : Vars v) {i : Nat} {e : Ex} (he : IsEx P i e) (hi : i < n) : ∀ (w : World), NodesAt w A P n → OwnAt w g 3 ((castL v).map (Value.int .i64)) →
    Calls Tryd.prog 40 #[.slice A n c, .int .i64 i, .slice (some ⟨g, 0, none⟩) 6 cv] w fun r w' => r = .returned (.int .i64 (e.val v : Nat)) ∧ Below w.heap.size w w' := by
  induction he with
  | @num i m h0 h1 h2 =>
    intro w h hg
    obtain ⟨b, off, rfl, p0, p1, p2, p3, p4⟩ := h.cells hi
    rw [h0] at p0
    rw [h1] at p1
    have hb : Below w.heap.size w (w.alloc (.cells #[.int .i64 0, .int .i64 m, .int .i64 (nd P i 2), .int .i64 (nd P i 3), .int .i64 (nd P i 4)] 66)) := (Below.refl _ _).alloc (Nat.le_refl _) _
    have Hb := Lib.hid hb
    clear h h0 h1 hb hg
    go_enter Tryd.func40, Tryd.ntmps40
    go_wp2_with fail
    go_ret
    exact ⟨rfl, Hb.out⟩
  | @var i m h0 h1 h2 =>
    intro w h hg
    obtain ⟨b, off, rfl, p0, p1, p2, p3, p4⟩ := h.cells hi
    rw [h0] at p0
    rw [h1] at p1
    have hb : Below w.heap.size w (w.alloc (.cells #[.int .i64 1, .int .i64 m, .int .i64 (nd P i 2), .int .i64 (nd P i 3), .int .i64 (nd P i 4)] 66)) := (Below.refl _ _).alloc (Nat.le_refl _) _
    have h2v := (hg.all hb).cell (get_cast_val v m (by rw [hv.1]; exact h2))
    have Hr := Lib.hid (show (Ex.var m).val v = row v m by rw [row_getD]; rfl)
    have Hb := Lib.hid hb
    have hm6 : (m : Int) < 6 := by omega
    clear h h0 h1 hb hg
    go_enter Tryd.func40, Tryd.ntmps40
    go_wp2_with fail
    go_ret
    exact ⟨by rw [Hr.out]; rfl, Hb.out⟩
  | @op i k a b x y hk2 hk4 h0 h2 h3 la lb hx hy iha ihb =>
    intro w h hg
    obtain ⟨bb, off, rfl, p0, p1, p2, p3, p4⟩ := h.cells hi
    rw [h0] at p0
    rw [h2] at p2
    rw [h3] at p3
    have hb : Below w.heap.size w (w.alloc (.cells #[.int .i64 k, .int .i64 (nd P i 1), .int .i64 a, .int .i64 b, .int .i64 (nd P i 4)] 66)) := (Below.refl _ _).alloc (Nat.le_refl _) _
    have hx0 := BoxN.new w 66 #[.int .i64 k, .int .i64 (nd P i 1), .int .i64 a, .int .i64 b, .int .i64 (nd P i 4)]
    have bx := Ex.val_le hx.ok hv
    have by_ := Ex.val_le hy.ok hv
    have Ha := Lib.hid (fun V (hV : Below w.heap.size w V) => (iha (by omega) V (h.below (B := 0) hV) (hg.all hV)).mono fun r w' ⟨he, hb⟩ => (⟨he, hb, hV.trans (hb.mono hV.size)⟩ : _ ∧ Below V.heap.size V w' ∧ Below w.heap.size w w'))
    have Hb := Lib.hid (fun V (hV : Below w.heap.size w V) => (ihb (by omega) V (h.below (B := 0) hV) (hg.all hV)).mono fun r w' ⟨he, hb⟩ => (⟨he, hb, hV.trans (hb.mono hV.size)⟩ : _ ∧ Below V.heap.size V w' ∧ Below w.heap.size w w'))
    have Hr := Lib.hid (show (Ex.op k x y).val v = opV k (x.val v) (y.val v) from rfl)
    generalize (Ex.op k x y).val v = rr at *
    generalize x.val v = xv at *
    generalize y.val v = yv at *
    clear h iha ihb hx hy h0 h2 h3 la lb hv hg
    generalize nd P i 1 = q1 at *
    generalize nd P i 4 = q4 at *
    have hk : k = 2 ∨ k = 3 ∨ k = 4 := by omega
    have dk0 : ((k : Int) == 0) = false := by simp; omega
    have dk1 : ((k : Int) == 1) = false := by simp; omega
    go_enter Tryd.func40, Tryd.ntmps40
    go_wp2_with fail
    refine (Ha.out _ hb).mono ?_
    rintro r w1 ⟨rfl, hb1, hbw1⟩
    have hx1 := hx0.all hb1
    have e3 : w1.cell? ⟨w.heap.size, 3, none⟩ = some (.int .i64 (b : Nat)) := hx1.cell rfl
    go_wp2_with fail
    refine (Hb.out _ hbw1).mono ?_
    rintro r w2 ⟨rfl, hb2, hbw2⟩
    have e0 : w2.cell? ⟨w.heap.size, 0, none⟩ = some (.int .i64 (k : Nat)) := (hx1.all hb2).cell rfl
    clear Ha Hb hx0 hx1 hb e3
    rcases hk with rfl | rfl | rfl
    · by_cases hlt : 999999 < xv + yv
      · have Hr1 := Lib.hid (show (rr : Int) = (xv : Int) + yv - 1000000 by rw [Hr.out]; unfold opV; rw [if_pos rfl]; omega)
        have hs9 : (999999 : Int) < (xv : Int) + yv := by omega
        clear Hr
        go_wp2_with fail
        go_ret
        exact ⟨ret_int Hr1.out.symm, hbw2⟩
      · have Hr1 := Lib.hid (show (rr : Int) = (xv : Int) + yv by rw [Hr.out]; unfold opV; rw [if_pos rfl]; omega)
        have hs9 : ¬ ((999999 : Int) < (xv : Int) + yv) := by omega
        clear Hr
        go_wp2_with fail
        go_ret
        exact ⟨ret_int Hr1.out.symm, hbw2⟩
    · by_cases hlt : xv < yv
      · have Hr1 := Lib.hid (show rr = 1 by rw [Hr.out]; simp [opV, hlt])
        have d3 : decide ((xv : Int) < (yv : Int)) = true := by simp; omega
        clear Hr
        go_wp2_with fail
        go_ret
        exact ⟨by rw [Hr1.out]; rfl, hbw2⟩
      · have Hr1 := Lib.hid (show rr = 0 by rw [Hr.out]; simp [opV, hlt])
        have d3 : decide ((xv : Int) < (yv : Int)) = false := by simp; omega
        clear Hr
        go_wp2_with fail
        go_ret
        exact ⟨by rw [Hr1.out]; rfl, hbw2⟩
    · by_cases hlt : xv = yv
      · have Hr1 := Lib.hid (show rr = 1 by rw [Hr.out]; simp [opV, hlt])
        have d3 : ((xv : Int) == (yv : Int)) = true := by simp; omega
        clear Hr
        go_wp2_with fail
        go_ret
        exact ⟨by rw [Hr1.out]; rfl, hbw2⟩
      · have Hr1 := Lib.hid (show rr = 0 by rw [Hr.out]; simp [opV, hlt])
        have d3 : ((xv : Int) == (yv : Int)) = false := by simp; omega
        clear Hr
        go_wp2_with fail
        go_ret
        exact ⟨by rw [Hr1.out]; rfl, hbw2⟩
end Go.Proofs.YthaaekpnemhjoaaDoor
