/-
  Contracts: the runner's burn and do.
-/
import Derived.Test.YtdgncngkalgknaaDoorRunA
import Derived.Test.YtdgncngkalgknaaDoorBut
import Derived.Deep.LoopGhost
import Derived.Deep.RegionWith
namespace Go.Proofs.YtdgncngkalgknaaDoor
open Go.RowKit
set_option maxRecDepth 100000
set_option linter.unusedVariables false

theorem burn_any {w : World} {p : Nat} {q0 q1 q2 q3 q4 q5 q6 : Value} {l : Nat} (h : BoxN w p 71 #[q0, q1, q2, q3, q4, q5, q6, .int .i64 (l : Nat)]) (hl : l ≤ 5000) (r : Bool) (hr : decide (1 ≤ l) = r) :
    Calls Tryd.prog 65 #[.pointer (some ⟨p, 0, none⟩)] w fun e w' => e = .returned (.bool r) ∧ w' = w.setCell ⟨p, 7, none⟩ (.int .i64 ((l : Int) - 1)) := by
  have c7 : w.cell? ⟨p, 7, none⟩ = some (.int .i64 (l : Nat)) := h.cell rfl
  have f7 := h.free 7
  cases r with
  | true =>
    have h1 : 1 ≤ l := of_decide_eq_true hr
    clear h hr
    go_enter Tryd.func65, Tryd.ntmps65
    go_wp2_with fail
    go_ret
    exact ⟨ret_bool (by simp; omega), rfl⟩
  | false =>
    have h1 : ¬ 1 ≤ l := of_decide_eq_false hr
    obtain rfl : l = 0 := by omega
    clear h hr
    go_enter Tryd.func65, Tryd.ntmps65
    go_wp2_with fail
    go_ret
    exact ⟨rfl, rfl⟩

/-- From one world of a run to a later one. -/
structure RunTo (p : Nat) (w w' : World) : Prop where
  low : Below p w w'
  but : KeepsBut p w w'
section
variable {p : Nat} {w w' w'' : World}
theorem RunTo.trans (h : RunTo p w w') (k : RunTo p w' w'') : RunTo p w w'' := ⟨h.low.trans k.low, h.but.trans k.but⟩
theorem RunTo.below (h : Below w.heap.size w w') (hp : p ≤ w.heap.size) : RunTo p w w' := ⟨h.mono hp, KeepsBut.below h⟩
theorem RunTo.refl (p : Nat) (w : World) : RunTo p w w := ⟨Below.refl _ _, KeepsBut.refl _ _⟩
theorem RunTo.setCell (h : RunTo p w w') (k : Nat) (v : Value) : RunTo p w (w'.setCell ⟨p, k, none⟩ v) := ⟨h.low.setCell (p := ⟨p, k, none⟩) (Nat.le_refl _) _, h.but.setCell k v⟩
theorem RunTo.drew (h : RunTo p w w') : RunTo p w w'.drew := ⟨h.low.drew, h.but.below'⟩
end
section
variable {w0 w w' : World} {p : Nat} {A : Option Addr} {P : List Int} {n c : Nat} {v : List Nat} {left : Int}
theorem RunAt.setLeft (h : RunAt w0 w p A P n c v left) (l : Int) : RunAt w0 (w.setCell ⟨p, 7, none⟩ (.int .i64 l)) p A P n c v l :=
  ⟨h.base, h.low.setCell (p := ⟨p, 7, none⟩) h.bp _, h.bp, h.box.set 7 _⟩
theorem RunAt.setVar (h : RunAt w0 w p A P n c v left) (h6 : v.length = 6) {x : Nat} (hx : x < 6) (y : Nat) : RunAt w0 (w.setCell ⟨p, 1 + x, none⟩ (.int .i64 (y : Nat))) p A P n c (v.set x y) left := by
  refine ⟨h.base, h.low.setCell (p := ⟨p, 1 + x, none⟩) h.bp _, h.bp, ?_⟩
  have hb := h.box.set (1 + x) (.int .i64 (y : Nat))
  have hr : ∀ i, row (v.set x y) i = if x = i then y else row v i := fun i => by rw [row_set _ _ _ _ (by omega)]
  simp only [hr]
  have hc : x = 0 ∨ x = 1 ∨ x = 2 ∨ x = 3 ∨ x = 4 ∨ x = 5 := by omega
  rcases hc with rfl | rfl | rfl | rfl | rfl | rfl <;> exact hb
theorem RunAt.drew (h : RunAt w0 w p A P n c v left) : RunAt w0 w.drew p A P n c v left := ⟨h.base, h.low.drew, h.bp, h.box.drew⟩
end

/-- What a deed leaves behind it. -/
def DoPost (w0 : World) (p : Nat) (A : Option Addr) (P : List Int) (n c : Nat) (V : World) (r : Option (List Nat × Nat)) (e : Ending) (w' : World) : Prop :=
  RunTo p V w' ∧ match r with
    | none => e = .returned (.bool false)
    | some (v', l') => e = .returned (.bool true) ∧ RunAt w0 w' p A P n c v' l'

set_option maxHeartbeats 4000000 in
theorem do_any {w0 : World} {P : List Int} {n c p : Nat} {A : Option Addr} {i : Nat} {s : St} (hs : IsSt P i s) (hi : i < n) : ∀ (v : List Nat) (l : Nat) (V : World), Vars v → l ≤ 5000 → RunAt w0 V p A P n c v l →
    Calls Tryd.prog 38 #[.pointer (some ⟨p, 0, none⟩), .int .i64 i] V (DoPost w0 p A P n c V (s.run v l)) := by
  induction hs with
  | @skip i h0 =>
    intro v l V hv hl h
    obtain ⟨b, off, rfl, p0, p1, p2, p3, p4⟩ := h.nodes.cells hi
    rw [h0] at p0
    have c0 : V.cell? ⟨p, 0, none⟩ = some (.slice (some ⟨b, off, none⟩) n c) := h.box.cell rfl
    have hb : Below V.heap.size V (V.alloc (.cells #[.int .i64 5, .int .i64 (nd P i 1), .int .i64 (nd P i 2), .int .i64 (nd P i 3), .int .i64 (nd P i 4)] 51)) := (Below.refl _ _).alloc (Nat.le_refl _) _
    have Hr := Lib.hid (h.all hb)
    have Ht := Lib.hid (RunTo.below hb (Nat.le_of_lt h.box.lt))
    have Hrun := Lib.hid (show St.run .skip v l = some (v, l) from rfl)
    clear h h0 hb hv
    go_enter Tryd.func38, Tryd.ntmps38
    go_wp2_with fail
    go_ret
    rw [Hrun.out]
    exact ⟨Ht.out, rfl, Hr.out⟩
  | @set i m a x h0 h1 h6 h2 la hx =>
    intro v l V hv hl h
    obtain ⟨b, off, rfl, p0, p1, p2, p3, p4⟩ := h.nodes.cells hi
    rw [h0] at p0
    rw [h1] at p1
    rw [h2] at p2
    have c0 : V.cell? ⟨p, 0, none⟩ = some (.slice (some ⟨b, off, none⟩) n c) := h.box.cell rfl
    have hb : Below V.heap.size V (V.alloc (.cells #[.int .i64 6, .int .i64 m, .int .i64 a, .int .i64 (nd P i 3), .int .i64 (nd P i 4)] 51)) := (Below.refl _ _).alloc (Nat.le_refl _) _
    have hx0 := BoxN.new V 51 #[.int .i64 6, .int .i64 m, .int .i64 a, .int .i64 (nd P i 3), .int .i64 (nd P i 4)]
    have hpV := h.box.lt
    have hW := h.all hb
    have hT := RunTo.below hb (Nat.le_of_lt hpV)
    generalize nd P i 3 = q3 at *
    generalize nd P i 4 = q4 at *
    clear h h0 h1 h2
    go_enter Tryd.func38, Tryd.ntmps38
    go_wp2_with fail
    generalize (V.alloc (.cells #[.int .i64 6, .int .i64 m, .int .i64 a, .int .i64 q3, .int .i64 q4] 51)) = W at *
    clear p0 p1 p2 p3 p4 c0 hb
    by_cases hl0 : l = 0
    · subst hl0
      have Hrun := Lib.hid (show St.run (.set m x) v 0 = none from rfl)
      refine (burn_any hW.box (by omega) false rfl).mono ?_
      rintro e w1 ⟨rfl, rfl⟩
      go_wp2_with fail
      go_ret
      rw [Hrun.out]
      exact ⟨hT.setCell _ _, rfl⟩
    · have Hrun := Lib.hid (show St.run (.set m x) v l = some (v.set m (x.val v), l - 1) by rw [St.run, if_neg hl0])
      refine (burn_any hW.box hl true (decide_eq_true (by omega))).mono ?_
      rintro e w1 ⟨rfl, hw1⟩
      have h1' := hW.setLeft ((l : Int) - 1)
      have hl1 : ((l : Int) - 1) = ((l - 1 : Nat) : Int) := by omega
      have hT1 := hT.setCell 7 (.int .i64 ((l : Int) - 1))
      have hx1 := hx0.other (a := ⟨p, 7, none⟩) (by show V.heap.size ≠ p; omega) (.int .i64 ((l : Int) - 1))
      rw [← hw1] at h1' hT1 hx1
      rw [hl1] at h1'
      have HV := Lib.hid (fun X (hX : Below w1.heap.size w1 X) => (value_any hv hx (by omega) X (h1'.all hX)).mono fun e w' ⟨he, hb⟩ => (⟨he, hX.trans (hb.mono hX.size)⟩ : _ ∧ Below w1.heap.size w1 w'))
      have e1 : w1.cell? ⟨V.heap.size, 1, none⟩ = some (.int .i64 (m : Nat)) := hx1.cell rfl
      have e2 : w1.cell? ⟨V.heap.size, 2, none⟩ = some (.int .i64 (a : Nat)) := hx1.cell rfl
      have hbd := (Below.refl w1.heap.size w1).drew
      have H1 := Lib.hid h1'
      have HT1 := Lib.hid hT1
      have hps' := Nat.le_of_lt h1'.box.lt
      have hm6 : (m : Int) < 6 := by omega
      have hmm : (1 + (m : Int)).toNat = 1 + m := by omega
      generalize x.val v = xv at *
      clear hw1 h1' hT1 hT hW hx0 hx
      go_wp2_with fail
      go_region_with (go_at_call 66; with_reducible refine (HV.out _ hbd).mono ?_; rintro e w2 ⟨rfl, hb2⟩; have z1 := (hx1.all hb2).cell (k := 1) rfl; have z2 := (hx1.all hb2).cell (k := 2) rfl; have zv := (H1.out.all hb2).var h6; have zf := (H1.out.all hb2).box.free (1 + m))
      all_goals (go_wp2_with fail)
      all_goals go_ret
      all_goals rw [Hrun.out]
      all_goals exact ⟨(HT1.out.trans (RunTo.below hb2 hps')).setCell _ _, rfl, (H1.out.all hb2).setVar hv.1 h6 _⟩
  | @both i a b x y h0 h2 h3 la lb hx hy iha ihb =>
    intro v l V hv hl h
    obtain ⟨bb, off, rfl, p0, p1, p2, p3, p4⟩ := h.nodes.cells hi
    rw [h0] at p0
    rw [h2] at p2
    rw [h3] at p3
    have c0 : V.cell? ⟨p, 0, none⟩ = some (.slice (some ⟨bb, off, none⟩) n c) := h.box.cell rfl
    have hb : Below V.heap.size V (V.alloc (.cells #[.int .i64 7, .int .i64 (nd P i 1), .int .i64 a, .int .i64 b, .int .i64 (nd P i 4)] 51)) := (Below.refl _ _).alloc (Nat.le_refl _) _
    have hx0 := BoxN.new V 51 #[.int .i64 7, .int .i64 (nd P i 1), .int .i64 a, .int .i64 b, .int .i64 (nd P i 4)]
    have hpV := h.box.lt
    have hW := h.all hb
    have hT := RunTo.below hb (Nat.le_of_lt hpV)
    generalize (nd P i 1) = q1 at *
    generalize (nd P i 4) = q4 at *
    clear h h0 h2 h3
    go_enter Tryd.func38, Tryd.ntmps38
    go_wp2_with fail
    generalize (V.alloc (.cells #[.int .i64 7, .int .i64 q1, .int .i64 a, .int .i64 b, .int .i64 q4] 51)) = W at *
    clear p0 p1 p2 p3 p4 c0 hb
    have e2 : W.cell? ⟨V.heap.size, 2, none⟩ = some (.int .i64 (a : Nat)) := hx0.cell rfl
    have hrun : St.run (.both x y) v l = match x.run v l with
      | none => none
      | some (v', n') => y.run v' n' := rfl
    have Ha := iha (by omega) v l W hv hl hW
    have hpw : V.heap.size ≠ p := by omega
    cases hx1 : x.run v l with
    | none =>
      rw [hx1] at hrun Ha
      have Hrun := Lib.hid (show St.run (.both x y) v l = none from hrun)
      clear hrun hx1
      go_wp2_with fail
      refine Ha.mono ?_
      rintro e w1 ⟨hT1, he⟩
      have he : e = .returned (.bool false) := he
      subst he
      go_wp2_with fail
      go_ret
      rw [Hrun.out]
      exact ⟨hT.trans hT1, rfl⟩
    | some q =>
      obtain ⟨v1, l1⟩ := q
      rw [hx1] at hrun Ha
      have Hrun := Lib.hid (show St.run (.both x y) v l = y.run v1 l1 from hrun)
      have hv1 := St.run_vars hx.ok hx1 hv
      have hl1 := St.left _ _ _ _ hx1
      clear hrun hx1
      go_wp2_with fail
      refine Ha.mono ?_
      rintro e w1 ⟨hT1, he⟩
      obtain ⟨he, h1⟩ : e = .returned (.bool true) ∧ RunAt w0 w1 p (some ⟨bb, off, none⟩) P n c v1 l1 := he
      subst he
      have hx2 := hT1.but.box hx0 hpw
      have e3 : w1.cell? ⟨V.heap.size, 3, none⟩ = some (.int .i64 (b : Nat)) := hx2.cell rfl
      have Hb := ihb (by omega) v1 l1 w1 hv1 (by omega) h1
      clear Ha e2
      go_wp2_with fail
      refine Hb.mono ?_
      rintro e w2 ⟨hT2, he⟩
      cases hy1 : y.run v1 l1 with
      | none =>
        rw [hy1] at he
        have he : e = .returned (.bool false) := he
        subst he
        go_wp2_with fail
        go_ret
        rw [Hrun.out, hy1]
        exact ⟨(hT.trans hT1).trans hT2, rfl⟩
      | some q =>
        obtain ⟨v2, l2⟩ := q
        rw [hy1] at he
        obtain ⟨he, h2⟩ : e = .returned (.bool true) ∧ RunAt w0 w2 p (some ⟨bb, off, none⟩) P n c v2 l2 := he
        subst he
        go_wp2_with fail
        go_ret
        rw [Hrun.out, hy1]
        exact ⟨(hT.trans hT1).trans hT2, rfl, h2⟩
  | @ite i a b d x y z h0 h2 h3 h4 la lb ld hx hy hz ihb ihd =>
    intro v l V hv hl h
    obtain ⟨bb, off, rfl, p0, p1, p2, p3, p4⟩ := h.nodes.cells hi
    rw [h0] at p0
    rw [h2] at p2
    rw [h3] at p3
    rw [h4] at p4
    have c0 : V.cell? ⟨p, 0, none⟩ = some (.slice (some ⟨bb, off, none⟩) n c) := h.box.cell rfl
    have hb : Below V.heap.size V (V.alloc (.cells #[.int .i64 8, .int .i64 (nd P i 1), .int .i64 a, .int .i64 b, .int .i64 d] 51)) := (Below.refl _ _).alloc (Nat.le_refl _) _
    have hx0 := BoxN.new V 51 #[.int .i64 8, .int .i64 (nd P i 1), .int .i64 a, .int .i64 b, .int .i64 d]
    have hpV := h.box.lt
    have hW := h.all hb
    have hT := RunTo.below hb (Nat.le_of_lt hpV)
    generalize (nd P i 1) = q1 at *
    clear h h0 h2 h3 h4
    go_enter Tryd.func38, Tryd.ntmps38
    go_wp2_with fail
    generalize (V.alloc (.cells #[.int .i64 8, .int .i64 q1, .int .i64 a, .int .i64 b, .int .i64 d] 51)) = W at *
    clear p0 p1 p2 p3 p4 c0 hb
    by_cases hl0 : l = 0
    · subst hl0
      have Hrun := Lib.hid (show St.run (.ite x y z) v 0 = none from rfl)
      refine (burn_any hW.box (by omega) false rfl).mono ?_
      rintro e w1 ⟨rfl, rfl⟩
      go_wp2_with fail
      go_ret
      rw [Hrun.out]
      exact ⟨hT.setCell _ _, rfl⟩
    · have Hrun0 := Lib.hid (show St.run (.ite x y z) v l = if x.val v ≠ 0 then y.run v (l - 1) else z.run v (l - 1) by rw [St.run, if_neg hl0])
      refine (burn_any hW.box hl true (decide_eq_true (by omega))).mono ?_
      rintro e w1 ⟨rfl, hw1⟩
      have h1' := hW.setLeft ((l : Int) - 1)
      have hl1 : ((l : Int) - 1) = ((l - 1 : Nat) : Int) := by omega
      have hT1 := hT.setCell 7 (.int .i64 ((l : Int) - 1))
      have hx1 := hx0.other (a := ⟨p, 7, none⟩) (by show V.heap.size ≠ p; omega) (.int .i64 ((l : Int) - 1))
      rw [← hw1] at h1' hT1 hx1
      rw [hl1] at h1'
      have HV := value_any hv hx (by omega) w1 h1'
      have e2 : w1.cell? ⟨V.heap.size, 2, none⟩ = some (.int .i64 (a : Nat)) := hx1.cell rfl
      clear hw1
      go_wp2_with fail
      refine HV.mono ?_
      rintro e w2 ⟨rfl, hb2⟩
      by_cases hxv : x.val v = 0
      · have hrun := Hrun0.out
        rw [if_neg (fun e => e hxv)] at hrun
        have Hrun := Lib.hid hrun
        clear Hrun0
        have dz : (((x.val v : Nat) : Int) != 0) = false := by simp [hxv]
        clear hrun hxv HV
        generalize x.val v = xv at *
        have Hb := ihd (by omega) v (l - 1) w2 hv (by omega) (h1'.all hb2)
        have e3 : w2.cell? ⟨V.heap.size, 4, none⟩ = some (.int .i64 (d : Nat)) := (hx1.all hb2).cell rfl
        have hT2 := hT1.trans (RunTo.below hb2 (Nat.le_of_lt h1'.box.lt))
        clear e2
        go_wp2_with fail
        refine Hb.mono ?_
        rintro e w3 ⟨hT3, he⟩
        cases hy1 : z.run v (l - 1) with
        | none =>
          rw [hy1] at he
          have he : e = .returned (.bool false) := he
          subst he
          go_wp2_with fail
          go_ret
          rw [Hrun.out, hy1]
          exact ⟨hT2.trans hT3, rfl⟩
        | some q =>
          obtain ⟨v2, l2⟩ := q
          rw [hy1] at he
          obtain ⟨he, h2⟩ : e = .returned (.bool true) ∧ RunAt w0 w3 p (some ⟨bb, off, none⟩) P n c v2 l2 := he
          subst he
          go_wp2_with fail
          go_ret
          rw [Hrun.out, hy1]
          exact ⟨hT2.trans hT3, rfl, h2⟩
      · have hrun := Hrun0.out
        rw [if_pos hxv] at hrun
        have Hrun := Lib.hid hrun
        clear Hrun0
        have dz : (((x.val v : Nat) : Int) != 0) = true := by simp; omega
        clear hrun HV
        generalize x.val v = xv at *
        have Hb := ihb (by omega) v (l - 1) w2 hv (by omega) (h1'.all hb2)
        have e3 : w2.cell? ⟨V.heap.size, 3, none⟩ = some (.int .i64 (b : Nat)) := (hx1.all hb2).cell rfl
        have hT2 := hT1.trans (RunTo.below hb2 (Nat.le_of_lt h1'.box.lt))
        clear e2
        go_wp2_with fail
        refine Hb.mono ?_
        rintro e w3 ⟨hT3, he⟩
        cases hy1 : y.run v (l - 1) with
        | none =>
          rw [hy1] at he
          have he : e = .returned (.bool false) := he
          subst he
          go_wp2_with fail
          go_ret
          rw [Hrun.out, hy1]
          exact ⟨hT2.trans hT3, rfl⟩
        | some q =>
          obtain ⟨v2, l2⟩ := q
          rw [hy1] at he
          obtain ⟨he, h2⟩ : e = .returned (.bool true) ∧ RunAt w0 w3 p (some ⟨bb, off, none⟩) P n c v2 l2 := he
          subst he
          go_wp2_with fail
          go_ret
          rw [Hrun.out, hy1]
          exact ⟨hT2.trans hT3, rfl, h2⟩
  | @loop i a b x y h0 h2 h3 la lb hx hy ihb =>
    intro v l V hv hl h
    obtain ⟨bb, off, rfl, p0, p1, p2, p3, p4⟩ := h.nodes.cells hi
    rw [h0] at p0
    rw [h2] at p2
    rw [h3] at p3
    have c0 : V.cell? ⟨p, 0, none⟩ = some (.slice (some ⟨bb, off, none⟩) n c) := h.box.cell rfl
    have hb : Below V.heap.size V (V.alloc (.cells #[.int .i64 9, .int .i64 (nd P i 1), .int .i64 a, .int .i64 b, .int .i64 (nd P i 4)] 51)) := (Below.refl _ _).alloc (Nat.le_refl _) _
    have hx0 := BoxN.new V 51 #[.int .i64 9, .int .i64 (nd P i 1), .int .i64 a, .int .i64 b, .int .i64 (nd P i 4)]
    have hpV := h.box.lt
    have hW := h.all hb
    have hT := RunTo.below hb (Nat.le_of_lt hpV)
    generalize (nd P i 1) = q1 at *
    generalize (nd P i 4) = q4 at *
    clear h h0 h2 h3
    go_enter Tryd.func38, Tryd.ntmps38
    go_wp2_with fail
    generalize (V.alloc (.cells #[.int .i64 9, .int .i64 q1, .int .i64 a, .int .i64 b, .int .i64 q4] 51)) = W at *
    clear p0 p1 p2 p3 p4 c0 hb
    have hpw : V.heap.size ≠ p := by omega
    go_loopg [62] (l + 1) (fun m k wr => ∃ (v1 : List Nat) (l1 : Nat), l1 < m ∧ l1 ≤ l ∧ Vars v1 ∧ Hid ((St.loop x y).run v l = (St.loop x y).run v1 l1) ∧ RunAt w0 wr p (some ⟨bb, off, none⟩) P n c v1 l1 ∧ RunTo p V wr ∧ BoxN wr V.heap.size 51 #[.int .i64 9, .int .i64 q1, .int .i64 a, .int .i64 b, .int .i64 q4])
    case atStart => exact ⟨v, l, by omega, Nat.le_refl _, hv, Lib.hid rfl, hW, hT, hx0⟩
    case round =>
      clear hW hT hx0 hv
      obtain ⟨v1, l1, hlm, hll, hv, hrl, hW, hT, hx0⟩ := hrel
      by_cases hl0 : l1 = 0
      · subst hl0
        have Hrun := Lib.hid (show St.run (.loop x y) v l = none by rw [hrl.out, St.run_loop, if_pos rfl])
        have HB := burn_any hW.box (by omega) false rfl
        go_wp2_with fail
        refine HB.mono ?_
        rintro e w1 ⟨rfl, rfl⟩
        go_wp2_with fail
        go_ret
        rw [Hrun.out]
        exact ⟨hT.setCell _ _, rfl⟩
      · have hrun : St.run (.loop x y) v1 l1 = if x.val v1 = 0 then some (v1, l1 - 1) else match y.run v1 (l1 - 1) with
          | none => none
          | some (v', n') => (St.loop x y).run v' n' := by rw [St.run_loop, if_neg hl0]; rfl
        rw [← hrl.out] at hrun
        have Hrun0 := Lib.hid hrun
        clear hrun
        have HB := burn_any hW.box (by omega) true (decide_eq_true (by omega))
        go_wp2_with fail
        refine HB.mono ?_
        rintro e w1 ⟨rfl, hw1⟩
        have h1' := hW.setLeft ((l1 : Int) - 1)
        have hl1 : ((l1 : Int) - 1) = ((l1 - 1 : Nat) : Int) := by omega
        have hT1 := hT.setCell 7 (.int .i64 ((l1 : Int) - 1))
        have hx1 := hx0.other (a := ⟨p, 7, none⟩) (by show V.heap.size ≠ p; omega) (.int .i64 ((l1 : Int) - 1))
        rw [← hw1] at h1' hT1 hx1
        rw [hl1] at h1'
        have HV := value_any hv hx (by omega) w1 h1'
        have e2 : w1.cell? ⟨V.heap.size, 2, none⟩ = some (.int .i64 (a : Nat)) := hx1.cell rfl
        clear hw1 HB
        go_wp2_with fail
        refine HV.mono ?_
        rintro e w2 ⟨rfl, hb2⟩
        have hT2 := hT1.trans (RunTo.below hb2 (Nat.le_of_lt h1'.box.lt))
        have h2' := h1'.all hb2
        have hx2 := hx1.all hb2
        by_cases hxv : x.val v1 = 0
        · have hrun := Hrun0.out
          rw [if_pos hxv] at hrun
          clear Hrun0
          have Hrun := Lib.hid hrun
          have dz : (((x.val v1 : Nat) : Int) == 0) = true := by simp [hxv]
          clear hrun hxv HV
          generalize x.val v1 = xv at *
          go_wp2_with fail
          go_ret
          rw [Hrun.out]
          exact ⟨hT2, rfl, h2'⟩
        · have hrun := Hrun0.out
          rw [if_neg hxv] at hrun
          clear Hrun0
          have dz : (((x.val v1 : Nat) : Int) == 0) = false := by simp; omega
          have Hb := ihb (by omega) v1 (l1 - 1) w2 hv (by omega) h2'
          have e3 : w2.cell? ⟨V.heap.size, 3, none⟩ = some (.int .i64 (b : Nat)) := hx2.cell rfl
          clear HV e2
          generalize x.val v1 = xv at *
          cases hy1 : y.run v1 (l1 - 1) with
          | none =>
            rw [hy1] at hrun Hb
            have Hrun := Lib.hid (show St.run (.loop x y) v l = none from hrun)
            clear hrun hy1
            go_wp2_with fail
            refine Hb.mono ?_
            rintro e w3 ⟨hT3, he⟩
            have he : e = .returned (.bool false) := he
            subst he
            go_wp2_with fail
            go_ret
            rw [Hrun.out]
            exact ⟨hT2.trans hT3, rfl⟩
          | some q =>
            obtain ⟨v2, l2⟩ := q
            rw [hy1] at hrun Hb
            have Hrun := Lib.hid (show St.run (.loop x y) v1 l1 = (St.loop x y).run v2 l2 from hrl.out.symm.trans hrun)
            have hv2 := St.run_vars hy.ok hy1 hv
            have hl2 := St.left _ _ _ _ hy1
            clear hrun hy1
            go_wp2_with fail
            refine Hb.mono ?_
            rintro e w3 ⟨hT3, he⟩
            obtain ⟨he, h3⟩ : e = .returned (.bool true) ∧ RunAt w0 w3 p (some ⟨bb, off, none⟩) P n c v2 l2 := he
            subst he
            go_wp2_with fail
            go_roundg l1
            case measure => exact hlm
            case rel => exact ⟨v2, l2, by omega, by omega, hv2, Lib.hid (hrl.out.trans Hrun.out), h3, hT2.trans hT3, hT3.but.box hx2 hpw⟩
end Go.Proofs.YtdgncngkalgknaaDoor
