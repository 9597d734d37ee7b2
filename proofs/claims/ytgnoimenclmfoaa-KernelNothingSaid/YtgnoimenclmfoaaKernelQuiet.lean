/-
  The walk of KernelQuiet.
-/
import Derived.Test.YtgnoimenclmfoaaKernH
namespace Go.Proofs.Ytgnoimenclmfoaa
open Go.RowKit
set_option maxRecDepth 100000
set_option linter.unusedVariables false

/-- A row of ops that lies below a block. -/
def OldR (B : Nat) (w : World) (A : Option Addr) (n : Nat) (l : List Int) : Prop := l.length = n * 3 ∧ n ≤ maxLen ∧ IntsIn (fun b => b < B) w A l
theorem OldR.keep {B C : Nat} {w w' : World} {A : Option Addr} {n : Nat} {l : List Int} (h : OldR B w A n l) (hb : Below C w w') (hC : B ≤ C) : OldR B w' A n l := ⟨h.1, h.2.1, h.2.2.keep fun b _ hb' => hb.block b (by have : b < B := hb'; omega)⟩
theorem OldR.of {w w' : World} {A : Option Addr} {n : Nat} {l : List Int} {ok : Nat → Prop} (h1 : l.length = n * 3) (h2 : n ≤ maxLen) (h : IntsIn ok w A l) (hb : Below w.heap.size w w') : OldR w.heap.size w' A n l := ⟨h1, h2, (h.mono (ok' := fun b => b < w.heap.size) fun b hb' _ => hb').keep fun b _ hb' => hb.block b hb'⟩
theorem SlVals.old {B base : Nat} {w : World} {xs : List Value} {Ls : List (List Int)} {A : Option Addr} {n c : Nat} (h : SlVals (OldR B) w xs Ls) (ho : w.ownsRow base 27 1 (.slice A n c) n xs) : RowsIn anyB 3 w A Ls := fun hne => by
  have hx : xs ≠ [] := by rintro rfl; exact hne (List.length_eq_zero_iff.1 h.1.symm)
  obtain ⟨b, off, hA2, hc⟩ := CellsAt.own ho hx
  refine ⟨b, off, hA2, trivial, fun i l hi => ?_⟩
  obtain ⟨Ai, ni, ci, h1, h2, h3, h4⟩ := h.2 i l hi
  exact ⟨Ai, ni, ci, hc i _ h1, h2, h3, h4.mono fun _ _ _ => trivial⟩
theorem take_more (M : List (List Int)) {j : Nat} (h : j < M.length) : M.take (j + 1) = M.take j ++ [M.getD j []] := by
  rw [List.take_add_one, List.getD_eq_getElem?_getD, List.getElem?_eq_getElem h]; rfl
theorem set_getD_same (L : List (List Int)) {i : Nat} (x : List Int) (h : i < L.length) : (L.set i x).getD i [] = x := by
  rw [List.getD_eq_getElem?_getD, List.getElem?_set_self h]; rfl
theorem set_getD_other (L : List (List Int)) {i j : Nat} (x : List Int) (h : j ≠ i) : (L.set i x).getD j [] = L.getD j [] := by
  rw [List.getD_eq_getElem?_getD, List.getElem?_set_ne (fun e => h e.symm), List.getD_eq_getElem?_getD]

set_option maxHeartbeats 8000000 in
theorem KernelQuiet_walk (L : List (List Int)) (P T : List Int) (q : Nat) (Ap Ao At : Option Addr) (cp co ct : Nat) {W : World} (hL : RowsIn anyB 3 W Ap L) (hP : IntsIn anyB W Ao P) (hl : P.length = q * 2) (hT : IntsIn anyB W At T) (nL : L.length ≤ maxLen) (nq : q ≤ maxLen) (nT : T.length ≤ maxLen)
    (part : Int) (bp : I64 part) (no : Nat) (o : List Int) (Oa : Option Addr) (Oc : Nat) (ho : o.length = no * 3) (iO : IntsAt W Oa o) (sO : no * 3 < 2 ^ 47) (bO : ∀ x ∈ o, I64 x) (ticks : Int) (bt : I64 ticks) (who : Int) (bw : I64 who) (w : World) (hw : w = W) :
    Calls Try.prog 3 #[.agg #[.slice Ap L.length cp, .slice Ao q co, .slice At T.length ct], .int .i64 part, .slice Oa no Oc, .int .i64 ticks, .int .i64 who] w fun e w' => e = .returned (.bool true) ∧ Below W.heap.size W w' := by
  subst hw
  have hb0 := BoxN.new w 26 #[.slice Ap L.length cp, .slice Ao q co, .slice At T.length ct]
  have hbW := (Below.refl w.heap.size w).alloc (Nat.le_refl _) (.cells #[.slice Ap L.length cp, .slice Ao q co, .slice At T.length ct] 26)
  have hsW : (w.alloc (.cells #[.slice Ap L.length cp, .slice Ao q co, .slice At T.length ct] 26)).heap.size = w.heap.size + 1 := by simp
  go_enter Try.func3, Try.ntmps3
  go_wp2_with fail
  generalize w.alloc (.cells #[.slice Ap L.length cp, .slice Ao q co, .slice At T.length ct] 26) = W0 at *
  refine (kernelFact_true W0).mono ?_
  rintro e w1 ⟨rfl, hb1⟩
  have hbx1 := hb0.all hb1
  have hbw1 := hbW.trans (hb1.mono hbW.size)
  have Hs1 := Lib.hid (show w.heap.size < w1.heap.size by have := hbx1.lt; omega)
  clear hb0 hb1 hsW hbW
  have x0 := hbx1.cell (k := 0) rfl
  have x1 := hbx1.cell (k := 1) rfl
  have x2 := hbx1.cell (k := 2) rfl
  have nL2 : L.length ≤ 9223372036854775807 := by unfold maxLen at nL; omega
  by_cases hc : sysCode L P q T = 0
  · have HN := New_ok (cp := cp) (co := co) (ct := ct) (hL.below hbw1) (hP.below hbw1) hl (hT.below hbw1) rfl rfl nL nq nT hc
    go_wp2_with fail
    refine HN.mono ?_
    rintro e w2 ⟨⟨p, rfl, gp, gh, K, hK⟩, hb2⟩
    have hbx2 := hbx1.all hb2
    have hbw2 := hbw1.trans (hb2.mono hbw1.size)
    have HLow := Lib.hid hK.low
    have HNew := Lib.hid hK.new
    have HK := Lib.hid hK
    have Hs2 := Lib.hid hb2.size
    clear HN hK x0 x1 x2 hbx1 hb2
    have x0 := hbx2.cell (k := 0) rfl
    have x1 := hbx2.cell (k := 1) rfl
    have x2 := hbx2.cell (k := 2) rfl
    by_cases hin : (0 ≤ part ∧ part < L.length) ∧ 0 ≤ who ∧ who < L.length
    · obtain ⟨⟨hp0, hp1⟩, hw0, hw1⟩ := hin
      obtain ⟨pn, rfl⟩ := Int.eq_ofNat_of_zero_le hp0
      obtain ⟨wn, rfl⟩ := Int.eq_ofNat_of_zero_le hw0
      have hpn : pn < L.length := by omega
      have hwn : wn < L.length := by omega
      have d1 : decide ((pn : Int) < 0) = false := by simp
      have d2 : decide ((pn : Int) ≥ L.length) = false := by simp; omega
      have d3 : decide ((wn : Int) < 0) = false := by simp
      have d4 : decide ((wn : Int) ≥ L.length) = false := by simp; omega
      have d2' : decide (L.length ≤ pn) = false := by simp; omega
      have d4' : decide (L.length ≤ wn) = false := by simp; omega
      have hL5 : L.length ≤ 5 := (sysOk hc).parts.2
      have hT2 := BoxN.new w2 26 #[.slice none 0 0, .slice Ao q co, .slice At T.length ct]
      have hbx3 := hbx2.alloc (.cells #[.slice none 0 0, .slice Ao q co, .slice At T.length ct] 26)
      have hb3 := (Below.refl w2.heap.size w2).alloc (Nat.le_refl _) (.cells #[.slice none 0 0, .slice Ao q co, .slice At T.length ct] 26)
      have hsz3 : (w2.alloc (.cells #[.slice none 0 0, .slice Ao q co, .slice At T.length ct] 26)).heap.size = w2.heap.size + 1 := by simp
      have Hl12 := Lib.hid (show w.heap.size < w2.heap.size by have := Hs1.out; have := Hs2.out; omega)
      clear hp0 hw0 hp1 hw1
      go_wp2_with fail
      generalize w2.alloc (.cells #[.slice none 0 0, .slice Ao q co, .slice At T.length ct] 26) = w3 at *
      have HML := Lib.hid (show (L.set pn o).length = L.length by simp)
      go_loopw [15] (fun i wr => ∃ (j : Nat) (v : Value) (xs : List Value), j ≤ L.length ∧ i = .int .i64 j ∧ BoxN wr w2.heap.size 26 #[v, .slice Ao q co, .slice At T.length ct] ∧ BoxN wr w.heap.size 26 #[.slice Ap L.length cp, .slice Ao q co, .slice At T.length ct] ∧ wr.ownsRow (w2.heap.size + 1) 27 1 v j xs ∧ SlVals (OldR w.heap.size) wr xs ((L.set pn o).take j) ∧ Below w2.heap.size w2 wr ∧ Hid (w2.heap.size + 1 ≤ wr.heap.size)) (fun i _ => L.length - (intOf i).toNat)
      case atStart => exact ⟨0, _, [], Nat.zero_le _, rfl, hT2, hbx3, World.ownsRow_nil _ _ _ _, by simpa using SlVals.nil, hb3, Lib.hid (by omega)⟩
      case round =>
        clear hT2 hbx3 hb3 x0 x1 x2 hsz3
        obtain ⟨j, v, xs, hj, rfl, hx, hbx, hown, hvs, hb23, hsz⟩ := hrel
        have x0 := hbx.cell (k := 0) rfl
        by_cases hlt : j < L.length
        · have hbwr := hbw2.trans (hb23.mono (by have := Hl12.out; omega))
          have htk := take_more (L.set pn o) (j := j) (by rw [HML.out]; exact hlt)
          have y0 := hx.cell (k := 0) rfl
          have fy0 := hx.free 0
          have hpx := hx.lt
          have hpb := hbx.lt
          by_cases hjp : j = pn
          · subst hjp
            rw [set_getD_same L o hlt] at htk
            have Htk := Lib.hid htk
            have dj : ((j : Int) == (j : Int)) = true := by simp
            clear htk
            have y0' := (hx.alloc (.cells #[.slice Oa no Oc] 27)).cell (k := 0) rfl
            go_wp2_with (at_builtin; refine wpList_push_one eRowsO (by decide) rfl _ _ rfl rfl (ownsRow_below hown ((Below.refl _ wr).alloc (Nat.le_refl _) _) (Nat.le_refl _)) wr.heap.size (.slice Oa no Oc) rfl rfl (cell_of_row _ _ 0 _ _ _ (heap_alloc_new wr _)) (by omega) (by have := hsz.out; simp; omega) ?_; intro B' cc w' hown' hgr hbl; have hbf := hbl wr ((Below.refl _ wr).alloc (hsz.out) _); have hx' := hx.below hbf (Nat.lt_succ_self _); have fo' := hx'.free 0; have yo' := hx'.cell (k := 0) rfl)
            have hbx' := hbx.below hbf (by have := Hl12.out; omega)
            have hbb : Below w2.heap.size w2 w' := hb23.trans (hbf.mono (Nat.le_succ _))
            refine ⟨⟨j + 1, _, xs ++ [.slice Oa no Oc], ?ya, ?yb, hx'.set 0 _, ?yc, ?ye, ?yf, ?yg, ?yh⟩, ?yd⟩
            case ya => omega
            case yb => go_num
            case yc => exact hbx'.other (a := ⟨w2.heap.size, 0, none⟩) (by show w.heap.size ≠ w2.heap.size; have := Hl12.out; omega) _
            case ye => exact ownsRow_far hown' hx' rows_ne_sys 0 _
            case yf =>
              rw [Htk.out]
              refine SlVals.push (hvs.keep fun A n l hr => (hr.keep hbf (by have := Hl12.out; omega)).keep (belowSet (Below.refl w2.heap.size w') (Nat.le_refl _) _) (by have := Hl12.out; omega)) ?_
              exact (OldR.of ho (by unfold maxLen; omega) iO.in_ (hbw2.trans ((hbb.trans (belowSet (Below.refl w2.heap.size w') (Nat.le_refl _) _)).mono (by have := Hl12.out; omega))))
            case yg => exact belowSet hbb (Nat.le_refl _) _
            case yh => exact Lib.hid (by have := hsz.out; have := hbf.size; simp; omega)
            case yd => simp [intOf]; omega
          · rw [set_getD_other L o hjp] at htk
            obtain ⟨b, off, Ai, ni, ci, rfl, c0, hli, hni, hi⟩ := (hL.below hbwr).get (i := j) (by omega)
            have OldL := (hL.get (i := j) (by omega))
            obtain ⟨b', off', Ai', ni', ci', hA', c0', hli', hni', hi'⟩ := OldL
            injection hA' with hA'
            injection hA' with hA1 hA2
            subst hA1
            subst hA2
            have hce := (hbwr.cell (p := ⟨b, off + j, none⟩) (block_lt c0')).trans c0'
            rw [c0] at hce
            injection hce with hce
            injection hce with hc1 hc2 hc3
            subst hc1; subst hc2; subst hc3
            have Hold : OldR w.heap.size wr Ai ni (L.getD j []) := OldR.of hli' hni' hi' hbwr
            have Htk := Lib.hid htk
            have dj : ((j : Int) == (pn : Int)) = false := by simp; omega
            clear htk hi hi' hli hli' c0'
            have y0' := (hx.alloc (.cells #[.slice Ai ni ci] 27)).cell (k := 0) rfl
            have x0' := (hbx.alloc (.cells #[.slice Ai ni ci] 27)).cell (k := 0) rfl
            go_wp2_with fail
            go_region_law ((refine step_push_one eRowsO (by decide) (by rfl) _ _ (by rfl) (by rfl) (ownsRow_below hown (w1 := _) (B := wr.heap.size) (by repeat (first | exact Below.refl _ _ | refine Below.drew ?_ | refine Below.alloc ?_ (Nat.le_refl _) _)) (Nat.le_refl _)) wr.heap.size (.slice Ai ni ci) (by rfl) (by rfl) (cell_of_row _ _ 0 _ _ _ (heap_alloc_new _ _)) (by omega) (by have := hsz.out; simp; omega) ?_; intro B' cc w' hown' hgr hbl; have hbf := hbl wr (by repeat (first | exact Below.refl _ _ | refine Below.drew ?_ | refine Below.alloc ?_ hsz.out _)); have hx' := hx.below hbf (Nat.lt_succ_self _); have fo' := hx'.free 0; have yo' := hx'.cell (k := 0) rfl))
            all_goals
              go_wp2_with fail
              have hbx' := hbx.below hbf (by have := Hl12.out; omega)
              have hbb : Below w2.heap.size w2 w' := hb23.trans (hbf.mono (Nat.le_succ _))
              refine ⟨⟨j + 1, _, xs ++ [.slice Ai ni ci], ?ya, ?yb, hx'.set 0 _, ?yc, ?ye, ?yf, ?yg, ?yh⟩, ?yd⟩
              case ya => omega
              case yb => go_num
              case yc => exact hbx'.other (a := ⟨w2.heap.size, 0, none⟩) (by show w.heap.size ≠ w2.heap.size; have := Hl12.out; omega) _
              case ye => exact ownsRow_far hown' hx' rows_ne_sys 0 _
              case yf =>
                rw [Htk.out]
                refine SlVals.push (hvs.keep fun A n l hr => (hr.keep hbf (by have := Hl12.out; omega)).keep (belowSet (Below.refl w2.heap.size w') (Nat.le_refl _) _) (by have := Hl12.out; omega)) ?_
                exact (Hold.keep hbf (by have := Hl12.out; omega)).keep (belowSet (Below.refl w2.heap.size w') (Nat.le_refl _) _) (by have := Hl12.out; omega)
              case yg => exact belowSet hbb (Nat.le_refl _) _
              case yh => exact Lib.hid (by have := hsz.out; have := hbf.size; simp; omega)
              case yd => simp [intOf]; omega
        · have hjl : j = L.length := by omega
          have htk : (L.set pn o).take j = L.set pn o := List.take_of_length_le (by rw [HML.out]; omega)
          rw [htk] at hvs
          obtain ⟨A', c', rfl⟩ := ownsRow_form hown
          have iM : RowsIn anyB 3 wr A' (L.set pn o) := hvs.old hown
          have hbwr := hbw2.trans (hb23.mono (by have := Hl12.out; omega))
          have y0 := hx.cell (k := 0) rfl
          have y1 := hx.cell (k := 1) rfl
          have y2 := hx.cell (k := 2) rfl
          have x1 := hbx.cell (k := 1) rfl
          have x2 := hbx.cell (k := 2) rfl
          have Hx := Lib.hid hx
          have Hbx := Lib.hid hbx
          rw [hjl] at y0
          clear hvs hown htk hx hbx
          subst hjl
          by_cases hc2 : sysCode (L.set pn o) P q T = 0
          · have HN := Lib.hid (New_ok (cp := c') (co := co) (ct := ct) iM (hP.below hbwr) hl (hT.below hbwr) HML.out rfl nL nq nT hc2)
            go_wp2_with fail
            refine HN.out.mono ?_
            rintro e w6 ⟨⟨p2, rfl, gp2, gh2, K2, hK2⟩, hb6⟩
            clear HN
            have hKw := HK.out.below (hb23.trans (hb6.mono hb23.size))
            have hbx6 := Hbx.out.all hb6
            have Hl6 := Lib.hid (Nat.le_trans hb23.size hb6.size)
            have hbw6 := hbwr.trans (hb6.mono hbwr.size)
            have hlo2 := hb23.size
            clear HK y0 y1 y2 x0 x1 x2
            have x0 := hbx6.cell (k := 0) rfl
            have x1 := hbx6.cell (k := 1) rfl
            have x2 := hbx6.cell (k := 2) rfl
            by_cases ht : 0 ≤ ticks ∧ ticks ≤ 300
            · obtain ⟨tn, rfl⟩ := Int.eq_ofNat_of_zero_le ht.1
              have R1 := Lib.hid (Run_ok hKw (sysOk hc) kNew_inv (by omega) tn (by omega) (by omega))
              go_wp2_with fail
              refine R1.out.mono ?_
              rintro e w7 ⟨rfl, r7, k7, t7⟩
              clear R1
              have hK27 := hK2.off t7 (fun b hb hh => HNew.out b (by
                rcases hh with hh | hh
                · rcases Nat.lt_or_ge b wr.heap.size with h1 | h1
                  · exact absurd (hK2.low b h1) hh
                  · omega
                · omega))
              have R2 := Lib.hid (Run_ok hK27 (sysOk hc2) kNew_inv (by omega) tn (by omega) (by omega))
              go_wp2_with fail
              refine R2.out.mono ?_
              rintro e w8 ⟨rfl, r8, k8, t8⟩
              clear R2
              have hK18 := k7.off t8 (fun b hb hh => by
                rcases Nat.lt_or_ge b w6.heap.size with h1 | h1
                · refine hK2.low b ?_
                  rcases hh with hh | hh
                  · rw [t7.keep b h1] at hh
                    rcases Nat.lt_or_ge b w2.heap.size with h2 | h2
                    · omega
                    · exact absurd (HNew.out b h2) hh
                  · omega
                · exact hK2.new b h1)
              have hb67 := t7.to_below (B := w.heap.size + 1) (fun b hb => HLow.out b (by have := Hs1.out; omega)) (by have := hbx6.lt; omega)
              have hb78 := t8.to_below (B := w.heap.size + 1) (fun b hb => hK2.low b (by have := Hl12.out; omega)) (by have := hbx6.lt; have := t7.size; omega)
              have hbx8 := (hbx6.below hb67 (by omega)).below hb78 (by omega)
              have hbw8 := (hbw6.trans (hb67.mono (by omega))).trans (hb78.mono (by omega))
              clear x0 x1 x2
              have x0 := hbx8.cell (k := 0) rfl
              have x1 := hbx8.cell (k := 1) rfl
              have x2 := hbx8.cell (k := 2) rfl
              have HR := Lib.hid (reach_any (Ap := Ap) (At := At) (n := L.length) (m := T.length) (cp := cp) (co := co) (ct := ct) (hP.below hbw8) hl (sysOk hc) hpn)
              have Hlt := Lib.hid (portRounds_lt (P := P) (q := q) (part := pn) (n := 5) (by omega) (fun i hi => by have := ((sysOk hc).port i hi).2.1; unfold portTo; omega) 6)
              have Hq := Lib.hid (fun hw => quiet_shown (sysOk hc) (sysOk hc2) HML.out.symm hpn (fun i hi => (set_getD_other L o hi).symm) (who := wn) hw (turnsFrom T 0 tn))
              have hI1 := (kNew_inv.turns (sysOk hc) (turnsFrom T 0 tn))
              have hI2 := (kNew_inv.turns (sysOk hc2) (turnsFrom T 0 tn))
              have htl : (turnsFrom T 0 tn).length = tn := by simp [turnsFrom]
              have HS1 := Lib.hid (fun V (hV : Below w8.heap.size w8 V) => (Shown_any (hK18.below hV) (i := wn) hwn (by omega) (by have := (hI1.shown wn).1; omega)).mono fun e w' ⟨he, hb⟩ => (⟨he, hb, hV.trans (hb.mono hV.size)⟩ : _ ∧ Below V.heap.size V w' ∧ Below w8.heap.size w8 w'))
              have HS2 := Lib.hid (fun V (hV : Below w8.heap.size w8 V) => (Shown_any (k8.below hV) (i := wn) (by rw [HML.out]; exact hwn) (by rw [HML.out]; omega) (by have := (hI2.shown wn).1; omega)).mono fun e w' ⟨he, hb⟩ => (⟨he, hb, hV.trans (hb.mono hV.size)⟩ : _ ∧ Below V.heap.size V w' ∧ Below w8.heap.size w8 w'))
              have Hl1 := Lib.hid (show ((kturns (sysOps L) (turnsFrom T 0 tn) kNew).parts wn).shown.length ≤ 1000 by have := (hI1.shown wn).1; omega)
              generalize portRounds P q pn 6 = sr at *
              generalize ((kturns (sysOps L) (turnsFrom T 0 tn) kNew).parts wn).shown = l1 at *
              generalize ((kturns (sysOps (L.set pn o)) (turnsFrom T 0 tn) kNew).parts wn).shown = l2 at *
              clear hK18 k8 t7 t8 k7 hK27 hI1 hI2 hK2 hKw hb67 hb78
              cases hbit : sr.testBit wn with
              | true =>
                have B1 := Lib.hid (fun V => Bit_is sr wn true V (by have := Hlt.out; omega) (by omega) hbit)
                clear hbit HS1 HS2 Hq
                go_wp2_with (first | (go_at_call 10; with_reducible refine HR.out.mono ?_; rintro e w9 ⟨rfl, hb9⟩) | (go_at_call 9; with_reducible refine (B1.out _).mono ?_; rintro e w' ⟨rfl, rfl⟩))
                go_ret
                exact ⟨rfl, hbw8.trans (hb9.mono hbw8.size)⟩
              | false =>
                have B1 := Lib.hid (fun V => Bit_is sr wn false V (by have := Hlt.out; omega) (by omega) hbit)
                have hl12 := Hq.out hbit
                subst hl12
                clear hbit Hq
                go_wp2_with (first | (go_at_call 10; with_reducible refine HR.out.mono ?_; rintro e w9 ⟨rfl, hb9⟩) | (go_at_call 9; with_reducible refine (B1.out _).mono ?_; rintro e w' ⟨rfl, rfl⟩) | (go_at_call 12; with_reducible refine (HS1.out _ hb9).mono ?_; rintro e wa ⟨⟨Aa, ca, rfl, oa⟩, hba, hba8⟩) | (go_at_call 12; with_reducible refine (HS2.out _ hba8).mono ?_; rintro e wb ⟨⟨Ab, cb, rfl, ob⟩, hbb, hbb8⟩) | (go_at_call 11; with_reducible refine (Ints_any l1 l1 Aa Ab ca cb wb (oa.at_.below hbb) ob.at_ (by have := Hl1.out; omega)).mono ?_; rintro e wd ⟨rfl, nd, rfl⟩))
                go_ret
                exact ⟨ret_bool (by simp), belowD (hbw8.trans (hbb8.mono hbw8.size)) _⟩
            · have R1 := Lib.hid (Run_bad1 hKw ticks ht)
              have R2 := Lib.hid (Run_bad1 hK2 ticks ht)
              go_wp2_with (first | (with_reducible refine R1.out.mono ?_; rintro e w' ⟨rfl, rfl⟩) | (with_reducible refine R2.out.mono ?_; rintro e w' ⟨rfl, rfl⟩))
              go_ret
              exact ⟨rfl, hbw6⟩
          · have HN := Lib.hid (New_bad (cp := c') (co := co) (ct := ct) iM (hP.below hbwr) hl (hT.below hbwr) HML.out rfl nL nq nT rfl hc2)
            have HC := Lib.hid (fun V (hV : Below wr.heap.size wr V) => KCheck_any (cp := c') (co := co) (ct := ct) (iM.below hV) ((hP.below hbwr).below hV) hl ((hT.below hbwr).below hV) HML.out rfl nL nq nT)
            generalize sysCode (L.set pn o) P q T = k2 at *
            go_wp2_with fail
            refine HN.out.mono ?_
            rintro e w6 ⟨rfl, hb6⟩
            have hx6 := Hx.out.all hb6
            have HC6 := HC.out w6 hb6
            rw [errVal_pos hc2] at HC6
            have HC7 := Lib.hid HC6
            clear HC6 HC HN y0 y1 y2
            have y0 := hx6.cell (k := 0) rfl
            have y1 := hx6.cell (k := 1) rfl
            have y2 := hx6.cell (k := 2) rfl
            go_wp2_with (with_reducible refine HC7.out.mono ?_; rintro e w7 ⟨rfl, hb7⟩)
            go_ret
            exact ⟨rfl, hbwr.trans ((hb6.trans (hb7.mono hb6.size)).mono hbwr.size)⟩
    · by_cases h1 : part < 0
      · have d1 : decide (part < 0) = true := decide_eq_true h1
        go_wp2_with fail
        go_ret
        exact ⟨rfl, hbw2⟩
      have d1 : decide (part < 0) = false := decide_eq_false h1
      by_cases h2 : part ≥ L.length
      · have d2 : decide (part ≥ (L.length : Int)) = true := decide_eq_true h2
        go_wp2_with fail
        go_ret
        exact ⟨rfl, hbw2⟩
      have d2 : decide (part ≥ (L.length : Int)) = false := decide_eq_false h2
      by_cases h3 : who < 0
      · have d3 : decide (who < 0) = true := decide_eq_true h3
        go_wp2_with fail
        go_ret
        exact ⟨rfl, hbw2⟩
      have d3 : decide (who < 0) = false := decide_eq_false h3
      have d4 : decide (who ≥ (L.length : Int)) = true := decide_eq_true (by omega)
      go_wp2_with fail
      go_ret
      exact ⟨rfl, hbw2⟩
  · have HN := Lib.hid (New_bad (cp := cp) (co := co) (ct := ct) (hL.below hbw1) (hP.below hbw1) hl (hT.below hbw1) rfl rfl nL nq nT rfl hc)
    generalize sysCode L P q T = k at *
    go_wp2_with fail
    refine HN.out.mono ?_
    rintro e w2 ⟨rfl, hb2⟩
    go_wp2_with fail
    go_ret
    exact ⟨rfl, hbw1.trans (hb2.mono hbw1.size)⟩
end Go.Proofs.Ytgnoimenclmfoaa
