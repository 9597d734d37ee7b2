/-
  The walk of KernelNothing.
-/
import Derived.Test.YtgnoimenclmfoaaKernelQuiet
namespace Go.Proofs.Ytgnoimenclmfoaa
open Go.RowKit
set_option maxRecDepth 100000
set_option linter.unusedVariables false

/-- One part alone. -/
def aloneL (L : List (List Int)) (who : Nat) : List (List Int) := (List.range L.length).map fun i => if i = who then L.getD i [] else []
theorem aloneL_length (L : List (List Int)) (who : Nat) : (aloneL L who).length = L.length := by simp [aloneL]
theorem aloneL_getD (L : List (List Int)) (who : Nat) {i : Nat} (h : i < L.length) : (aloneL L who).getD i [] = if i = who then L.getD i [] else [] := by
  rw [List.getD_eq_getElem?_getD]
  unfold aloneL
  rw [List.getElem?_map, List.getElem?_range h]
  rfl
theorem firstC_congr {f g : Nat → Nat} : ∀ (m i : Nat), (∀ j, i ≤ j → j < i + m → f j = g j) → firstC f m i = firstC g m i
  | 0, _, _ => rfl
  | m + 1, i, h => by
    rw [firstC, firstC, h i (Nat.le_refl _) (by omega), firstC_congr m (i + 1) fun j h1 h2 => h j (by omega) (by omega)]
theorem firstC_all {f : Nat → Nat} : ∀ (m i : Nat), (∀ j, i ≤ j → j < i + m → f j = 0) → firstC f m i = 0
  | 0, _, _ => rfl
  | m + 1, i, h => by
    rw [firstC, if_pos (h i (Nat.le_refl _) (by omega)), firstC_all m (i + 1) fun j h1 h2 => h j (by omega) (by omega)]
theorem alone_code {L : List (List Int)} {P T : List Int} {q who : Nat} (h : sysCode L P q T = 0) : sysCode (aloneL L who) P q T = 0 := by
  have hs := sysOk h
  have h1 : ¬ (L.length = 0 ∨ T.length = 0) := by have := hs.parts; have := hs.turns; omega
  have h2 : ¬ (5 < L.length ∨ 6 < q ∨ 12 < T.length) := by have := hs.parts; have := hs.turns; have := hs.few; omega
  rw [sysCode_rest (by rw [aloneL_length]; exact h1) (by rw [aloneL_length]; exact h2)]
  rw [sysCode_rest h1 h2] at h
  rw [aloneL_length]
  split at h
  · rename_i h3; exact absurd h h3
  · rename_i h3
    rw [if_neg h3]
    split at h
    · rename_i h4; exact absurd h h4
    · rename_i h4
      rw [if_neg h4]
      refine firstC_all _ _ fun j _ hj => ?_
      have hz := firstC_zero h j (Nat.zero_le _) hj
      unfold rowF at hz ⊢
      rw [aloneL_getD L who (by omega)]
      split
      · exact hz
      · rfl
theorem nothing_shown {L : List (List Int)} {P T : List Int} {q who : Nat} (hL : SysOk L P q T) (hM : SysOk (aloneL L who) P q T) (hw : who < L.length) (hn : ∀ i, i < q → nI P (2 * i + 1) ≠ (who : Int)) (l : List Nat) :
    ((kturns (sysOps L) l kNew).parts who).shown = ((kturns (sysOps (aloneL L who)) l kNew).parts who).shown := by
  have hto : ∀ i, i < q → portTo P i ≠ who := fun i hi e => by
    have h1 := (hL.port i hi).2.1
    have h2 := hn i hi
    unfold portTo at e
    omega
  have hf : ∀ {K : List (List Int)}, SysOk K P q T → KFair (fun p => p ≠ who) (portTo P) (sysOps K) := fun hK => sys_fair hK fun i hi _ => hto i hi
  have := kturns_agree (hf hL) (hf hM) (fun p hnp => by
    have hp : p = who := Classical.not_not.1 hnp
    subst hp
    unfold sysOps
    rw [aloneL_getD L p hw, if_pos rfl]) l (KAgree.refl kNew)
  rw [this.1 who (fun h => h rfl)]

set_option maxHeartbeats 8000000 in
theorem KernelNothing_walk (L : List (List Int)) (P T : List Int) (q : Nat) (Ap Ao At : Option Addr) (cp co ct : Nat) {W : World} (hL : RowsIn anyB 3 W Ap L) (hP : IntsIn anyB W Ao P) (hl : P.length = q * 2) (hT : IntsIn anyB W At T) (nL : L.length ≤ maxLen) (nq : q ≤ maxLen) (nT : T.length ≤ maxLen)
    (ticks : Int) (bt : I64 ticks) (who : Int) (bw : I64 who) (w : World) (hw : w = W) :
    Calls Try.prog 4 #[.agg #[.slice Ap L.length cp, .slice Ao q co, .slice At T.length ct], .int .i64 ticks, .int .i64 who] w fun e w' => e = .returned (.bool true) ∧ Below W.heap.size W w' := by
  subst hw
  have hb0 := BoxN.new w 26 #[.slice Ap L.length cp, .slice Ao q co, .slice At T.length ct]
  have hbW := (Below.refl w.heap.size w).alloc (Nat.le_refl _) (.cells #[.slice Ap L.length cp, .slice Ao q co, .slice At T.length ct] 26)
  have hsW : (w.alloc (.cells #[.slice Ap L.length cp, .slice Ao q co, .slice At T.length ct] 26)).heap.size = w.heap.size + 1 := by simp
  go_enter Try.func4, Try.ntmps4
  go_wp2_with fail
  generalize w.alloc (.cells #[.slice Ap L.length cp, .slice Ao q co, .slice At T.length ct] 26) = W0 at *
  refine (kernelFact_true W0).mono ?_
  rintro e w1 ⟨rfl, hb1⟩
  have hbx1 := hb0.all hb1
  have hbw1 := hbW.trans (hb1.mono hbW.size)
  have Hs1 := Lib.hid (show w.heap.size < w1.heap.size by have := hbx1.lt; omega)
  clear hb0 hb1 hsW hbW
  have x0 := hbx1.cell (k := 0) rfl
  have x1 := hbx1.cell (k := 1) rfl
  have x2 := hbx1.cell (k := 2) rfl
  have nL2 : L.length ≤ 9223372036854775807 := by unfold maxLen at nL; omega
  by_cases hc : sysCode L P q T = 0
  · have HN := New_ok (cp := cp) (co := co) (ct := ct) (hL.below hbw1) (hP.below hbw1) hl (hT.below hbw1) rfl rfl nL nq nT hc
    go_wp2_with fail
    refine HN.mono ?_
    rintro e w2 ⟨⟨p, rfl, gp, gh, K, hK⟩, hb2⟩
    have hbx2 := hbx1.all hb2
    have hbw2 := hbw1.trans (hb2.mono hbw1.size)
    have HLow := Lib.hid hK.low
    have HNew := Lib.hid hK.new
    have HK := Lib.hid hK
    have Hs2 := Lib.hid hb2.size
    clear HN hK x0 x1 x2 hbx1 hb2
    have x0 := hbx2.cell (k := 0) rfl
    have x1 := hbx2.cell (k := 1) rfl
    have x2 := hbx2.cell (k := 2) rfl
    by_cases hin : 0 ≤ who ∧ who < L.length
    · obtain ⟨hw0, hw1⟩ := hin
      obtain ⟨wn, rfl⟩ := Int.eq_ofNat_of_zero_le hw0
      have hwn : wn < L.length := by omega
      have d3 : decide ((wn : Int) < 0) = false := by simp
      have d4 : decide ((wn : Int) ≥ L.length) = false := by simp; omega
      have d4' : decide (L.length ≤ wn) = false := by simp; omega
      have hL5 : L.length ≤ 5 := (sysOk hc).parts.2
      have hq6 := (sysOk hc).few
      go_wp2_with fail
      go_loopw [10] (fun i wr => ∃ k : Nat, k ≤ q ∧ i = .int .i64 k ∧ Hid (∀ x, x < k → nI P (2 * x + 1) ≠ (wn : Int)) ∧ wr = w2) (fun i _ => q - (intOf i).toNat)
      case atStart => exact ⟨0, Nat.zero_le _, rfl, Lib.hid (fun x hx => by omega), rfl⟩
      case round =>
      obtain ⟨kq, hkq, rfl, hnone, hwr⟩ := hrel
      have hwr2 : w2 = wr := hwr.symm
      clear hwr
      subst hwr2
      by_cases hltq : kq < q
      · obtain ⟨b, off, rfl, c0, c1⟩ := port_cells (hP.below hbw2) hl hltq
        by_cases he : nI P (2 * kq + 1) = (wn : Int)
        · rw [he] at c1
          clear c0 he
          go_wp2_with fail
          go_ret
          exact ⟨rfl, hbw2⟩
        · have hn2 := Lib.hid (show ∀ x, x < kq + 1 → nI P (2 * x + 1) ≠ (wn : Int) from fun x hx => by
            rcases Nat.lt_or_ge x kq with h1 | h1
            · exact hnone.out x h1
            · obtain rfl : x = kq := by omega
              exact he)
          have dx : (nI P (2 * kq + 1) == (wn : Int)) = false := by simpa using he
          generalize nI P (2 * kq + 1) = x1' at *
          clear c0 hnone he
          go_wp2_with fail
          refine ⟨⟨kq + 1, ?za, ?zb, hn2, trivial⟩, ?zd⟩
          case za => omega
          case zb => go_num
          case zd => simp [intOf]; omega
      have hkq2 : kq = q := by omega
      subst hkq2
      have hT2 := BoxN.new w2 26 #[.slice none 0 0, .slice Ao kq co, .slice At T.length ct]
      have hbx3 := hbx2.alloc (.cells #[.slice none 0 0, .slice Ao kq co, .slice At T.length ct] 26)
      have hb3 := (Below.refl w2.heap.size w2).alloc (Nat.le_refl _) (.cells #[.slice none 0 0, .slice Ao kq co, .slice At T.length ct] 26)
      have hsz3 : (w2.alloc (.cells #[.slice none 0 0, .slice Ao kq co, .slice At T.length ct] 26)).heap.size = w2.heap.size + 1 := by simp
      have Hl12 := Lib.hid (show w.heap.size < w2.heap.size by have := Hs1.out; have := Hs2.out; omega)
      clear hw0 hw1
      go_wp2_with fail
      generalize w2.alloc (.cells #[.slice none 0 0, .slice Ao kq co, .slice At T.length ct] 26) = w3 at *
      have HML := Lib.hid (aloneL_length L wn)
      go_loopw [12] (fun i wr => ∃ (j : Nat) (v : Value) (xs : List Value), j ≤ L.length ∧ i = .int .i64 j ∧ BoxN wr w2.heap.size 26 #[v, .slice Ao kq co, .slice At T.length ct] ∧ BoxN wr w.heap.size 26 #[.slice Ap L.length cp, .slice Ao kq co, .slice At T.length ct] ∧ wr.ownsRow (w2.heap.size + 1) 27 1 v j xs ∧ SlVals (OldR w.heap.size) wr xs ((aloneL L wn).take j) ∧ Below w2.heap.size w2 wr ∧ Hid (w2.heap.size + 1 ≤ wr.heap.size)) (fun i _ => L.length - (intOf i).toNat)
      case atStart => exact ⟨0, _, [], Nat.zero_le _, rfl, hT2, hbx3, World.ownsRow_nil _ _ _ _, by simpa using SlVals.nil, hb3, Lib.hid (by omega)⟩
      case round =>
        clear hT2 hbx3 hb3 x0 x1 x2 hsz3
        obtain ⟨j, v, xs, hj, rfl, hx, hbx, hown, hvs, hb23, hsz⟩ := hrel
        have x0 := hbx.cell (k := 0) rfl
        by_cases hlt : j < L.length
        · have hbwr := hbw2.trans (hb23.mono (by have := Hl12.out; omega))
          have htk := take_more (aloneL L wn) (j := j) (by rw [HML.out]; exact hlt)
          have y0 := hx.cell (k := 0) rfl
          have fy0 := hx.free 0
          have hpx := hx.lt
          have hpb := hbx.lt
          by_cases hjp : j = wn
          · subst hjp
            rw [aloneL_getD L j hlt, if_pos rfl] at htk
            obtain ⟨b, off, Ai, ni, ci, rfl, c0, hli, hni, hi⟩ := (hL.below hbwr).get (i := j) (by omega)
            have OldL := (hL.get (i := j) (by omega))
            obtain ⟨b', off', Ai', ni', ci', hA', c0', hli', hni', hi'⟩ := OldL
            injection hA' with hA'
            injection hA' with hA1 hA2
            subst hA1
            subst hA2
            have hce := (hbwr.cell (p := ⟨b, off + j, none⟩) (block_lt c0')).trans c0'
            rw [c0] at hce
            injection hce with hce
            injection hce with hc1 hc2 hc3
            subst hc1; subst hc2; subst hc3
            have Hold : OldR w.heap.size wr Ai ni (L.getD j []) := OldR.of hli' hni' hi' hbwr
            have Htk := Lib.hid htk
            have dj : ((j : Int) == (j : Int)) = true := by simp
            clear htk hi hi' hli hli' c0'
            have y0' := (hx.alloc (.cells #[.slice Ai ni ci] 27)).cell (k := 0) rfl
            have x0' := (hbx.alloc (.cells #[.slice Ai ni ci] 27)).cell (k := 0) rfl
            go_wp2_with fail
            go_region_law ((refine step_push_one eRowsO (by decide) (by rfl) _ _ (by rfl) (by rfl) (ownsRow_below hown (w1 := _) (B := wr.heap.size) (by repeat (first | exact Below.refl _ _ | refine Below.drew ?_ | refine Below.alloc ?_ (Nat.le_refl _) _)) (Nat.le_refl _)) wr.heap.size (.slice Ai ni ci) (by rfl) (by rfl) (cell_of_row _ _ 0 _ _ _ (heap_alloc_new _ _)) (by omega) (by have := hsz.out; simp; omega) ?_; intro B' cc w' hown' hgr hbl; have hbf := hbl wr (by repeat (first | exact Below.refl _ _ | refine Below.drew ?_ | refine Below.alloc ?_ hsz.out _)); have hx' := hx.below hbf (Nat.lt_succ_self _); have fo' := hx'.free 0; have yo' := hx'.cell (k := 0) rfl))
            all_goals
              go_wp2_with fail
              have hbx' := hbx.below hbf (by have := Hl12.out; omega)
              have hbb : Below w2.heap.size w2 w' := hb23.trans (hbf.mono (Nat.le_succ _))
              refine ⟨⟨j + 1, _, xs ++ [.slice Ai ni ci], ?ya, ?yb, hx'.set 0 _, ?yc, ?ye, ?yf, ?yg, ?yh⟩, ?yd⟩
              case ya => omega
              case yb => go_num
              case yc => exact hbx'.other (a := ⟨w2.heap.size, 0, none⟩) (by show w.heap.size ≠ w2.heap.size; have := Hl12.out; omega) _
              case ye => exact ownsRow_far hown' hx' rows_ne_sys 0 _
              case yf =>
                rw [Htk.out]
                refine SlVals.push (hvs.keep fun A n l hr => (hr.keep hbf (by have := Hl12.out; omega)).keep (belowSet (Below.refl w2.heap.size w') (Nat.le_refl _) _) (by have := Hl12.out; omega)) ?_
                exact (Hold.keep hbf (by have := Hl12.out; omega)).keep (belowSet (Below.refl w2.heap.size w') (Nat.le_refl _) _) (by have := Hl12.out; omega)
              case yg => exact belowSet hbb (Nat.le_refl _) _
              case yh => exact Lib.hid (by have := hsz.out; have := hbf.size; simp; omega)
              case yd => simp [intOf]; omega
          · rw [aloneL_getD L wn hlt, if_neg hjp] at htk
            have Htk := Lib.hid htk
            have dj : ((j : Int) == (wn : Int)) = false := by simp; omega
            clear htk
            have y0' := (hx.alloc (.cells #[.slice none 0 0] 27)).cell (k := 0) rfl
            go_wp2_with (at_builtin; refine wpList_push_one eRowsO (by decide) rfl _ _ rfl rfl (ownsRow_below hown ((Below.refl _ wr).alloc (Nat.le_refl _) _) (Nat.le_refl _)) wr.heap.size (.slice none 0 0) rfl rfl (cell_of_row _ _ 0 _ _ _ (heap_alloc_new wr _)) (by omega) (by have := hsz.out; simp; omega) ?_; intro B' cc w' hown' hgr hbl; have hbf := hbl wr ((Below.refl _ wr).alloc (hsz.out) _); have hx' := hx.below hbf (Nat.lt_succ_self _); have fo' := hx'.free 0; have yo' := hx'.cell (k := 0) rfl)
            have hbx' := hbx.below hbf (by have := Hl12.out; omega)
            have hbb : Below w2.heap.size w2 w' := hb23.trans (hbf.mono (Nat.le_succ _))
            refine ⟨⟨j + 1, _, xs ++ [.slice none 0 0], ?ya, ?yb, hx'.set 0 _, ?yc, ?ye, ?yf, ?yg, ?yh⟩, ?yd⟩
            case ya => omega
            case yb => go_num
            case yc => exact hbx'.other (a := ⟨w2.heap.size, 0, none⟩) (by show w.heap.size ≠ w2.heap.size; have := Hl12.out; omega) _
            case ye => exact ownsRow_far hown' hx' rows_ne_sys 0 _
            case yf =>
              rw [Htk.out]
              refine SlVals.push (hvs.keep fun A n l hr => (hr.keep hbf (by have := Hl12.out; omega)).keep (belowSet (Below.refl w2.heap.size w') (Nat.le_refl _) _) (by have := Hl12.out; omega)) ?_
              exact ⟨by simp, by unfold maxLen; omega, IntsIn.nil⟩
            case yg => exact belowSet hbb (Nat.le_refl _) _
            case yh => exact Lib.hid (by have := hsz.out; have := hbf.size; simp; omega)
            case yd => simp [intOf]; omega
        · have hjl : j = L.length := by omega
          have htk : (aloneL L wn).take j = aloneL L wn := List.take_of_length_le (by rw [HML.out]; omega)
          rw [htk] at hvs
          obtain ⟨A', c', rfl⟩ := ownsRow_form hown
          have iM : RowsIn anyB 3 wr A' (aloneL L wn) := hvs.old hown
          have hbwr := hbw2.trans (hb23.mono (by have := Hl12.out; omega))
          have y0 := hx.cell (k := 0) rfl
          have y1 := hx.cell (k := 1) rfl
          have y2 := hx.cell (k := 2) rfl
          have x1 := hbx.cell (k := 1) rfl
          have x2 := hbx.cell (k := 2) rfl
          have Hx := Lib.hid hx
          have Hbx := Lib.hid hbx
          rw [hjl] at y0
          clear hvs hown htk hx hbx
          subst hjl
          · have hc2 : sysCode (aloneL L wn) P kq T = 0 := alone_code hc
            have HN := Lib.hid (New_ok (cp := c') (co := co) (ct := ct) iM (hP.below hbwr) hl (hT.below hbwr) HML.out rfl nL nq nT hc2)
            go_wp2_with fail
            refine HN.out.mono ?_
            rintro e w6 ⟨⟨p2, rfl, gp2, gh2, K2, hK2⟩, hb6⟩
            clear HN
            have hKw := HK.out.below (hb23.trans (hb6.mono hb23.size))
            have hbx6 := Hbx.out.all hb6
            have Hl6 := Lib.hid (Nat.le_trans hb23.size hb6.size)
            have hbw6 := hbwr.trans (hb6.mono hbwr.size)
            have hlo2 := hb23.size
            clear HK y0 y1 y2 x0 x1 x2
            have x0 := hbx6.cell (k := 0) rfl
            have x1 := hbx6.cell (k := 1) rfl
            have x2 := hbx6.cell (k := 2) rfl
            by_cases ht : 0 ≤ ticks ∧ ticks ≤ 300
            · obtain ⟨tn, rfl⟩ := Int.eq_ofNat_of_zero_le ht.1
              have R1 := Lib.hid (Run_ok hKw (sysOk hc) kNew_inv (by omega) tn (by omega) (by omega))
              go_wp2_with fail
              refine R1.out.mono ?_
              rintro e w7 ⟨rfl, r7, k7, t7⟩
              clear R1
              have hK27 := hK2.off t7 (fun b hb hh => HNew.out b (by
                rcases hh with hh | hh
                · rcases Nat.lt_or_ge b wr.heap.size with h1 | h1
                  · exact absurd (hK2.low b h1) hh
                  · omega
                · omega))
              have R2 := Lib.hid (Run_ok hK27 (sysOk hc2) kNew_inv (by omega) tn (by omega) (by omega))
              go_wp2_with fail
              refine R2.out.mono ?_
              rintro e w8 ⟨rfl, r8, k8, t8⟩
              clear R2
              have hK18 := k7.off t8 (fun b hb hh => by
                rcases Nat.lt_or_ge b w6.heap.size with h1 | h1
                · refine hK2.low b ?_
                  rcases hh with hh | hh
                  · rw [t7.keep b h1] at hh
                    rcases Nat.lt_or_ge b w2.heap.size with h2 | h2
                    · omega
                    · exact absurd (HNew.out b h2) hh
                  · omega
                · exact hK2.new b h1)
              have hb67 := t7.to_below (B := w.heap.size + 1) (fun b hb => HLow.out b (by have := Hs1.out; omega)) (by have := hbx6.lt; omega)
              have hb78 := t8.to_below (B := w.heap.size + 1) (fun b hb => hK2.low b (by have := Hl12.out; omega)) (by have := hbx6.lt; have := t7.size; omega)
              have hbx8 := (hbx6.below hb67 (by omega)).below hb78 (by omega)
              have hbw8 := (hbw6.trans (hb67.mono (by omega))).trans (hb78.mono (by omega))
              clear x0 x1 x2
              have x0 := hbx8.cell (k := 0) rfl
              have x1 := hbx8.cell (k := 1) rfl
              have x2 := hbx8.cell (k := 2) rfl
              have Hq := Lib.hid (nothing_shown (sysOk hc) (sysOk hc2) hwn hnone.out (turnsFrom T 0 tn))
              have hI1 := (kNew_inv.turns (sysOk hc) (turnsFrom T 0 tn))
              have hI2 := (kNew_inv.turns (sysOk hc2) (turnsFrom T 0 tn))
              have htl : (turnsFrom T 0 tn).length = tn := by simp [turnsFrom]
              have HS1 := Lib.hid (fun V (hV : Below w8.heap.size w8 V) => (Shown_any (hK18.below hV) (i := wn) hwn (by omega) (by have := (hI1.shown wn).1; omega)).mono fun e w' ⟨he, hb⟩ => (⟨he, hb, hV.trans (hb.mono hV.size)⟩ : _ ∧ Below V.heap.size V w' ∧ Below w8.heap.size w8 w'))
              have HS2 := Lib.hid (fun V (hV : Below w8.heap.size w8 V) => (Shown_any (k8.below hV) (i := wn) (by rw [HML.out]; exact hwn) (by rw [HML.out]; omega) (by have := (hI2.shown wn).1; omega)).mono fun e w' ⟨he, hb⟩ => (⟨he, hb, hV.trans (hb.mono hV.size)⟩ : _ ∧ Below V.heap.size V w' ∧ Below w8.heap.size w8 w'))
              have Hl1 := Lib.hid (show ((kturns (sysOps L) (turnsFrom T 0 tn) kNew).parts wn).shown.length ≤ 1000 by have := (hI1.shown wn).1; omega)
              generalize ((kturns (sysOps L) (turnsFrom T 0 tn) kNew).parts wn).shown = l1 at *
              generalize ((kturns (sysOps (aloneL L wn)) (turnsFrom T 0 tn) kNew).parts wn).shown = l2 at *
              clear hK18 k8 t7 t8 k7 hK27 hI1 hI2 hK2 hKw hb67 hb78
              have hl12 := Hq.out
              subst hl12
              clear Hq
              go_wp2_with fail
              go_region_held3 (fun V => True) (trivial) ((first | (go_at_call 12; with_reducible refine (HS1.out _ (by repeat (first | assumption | exact Below.refl _ _ | refine Below.drew ?_))).mono ?_; rintro e wa ⟨⟨Aa, ca, rfl, oa⟩, hba, hba8⟩) | (go_at_call 12; with_reducible refine (HS2.out _ (by repeat (first | assumption | exact Below.refl _ _ | refine Below.drew ?_))).mono ?_; rintro e wb ⟨⟨Ab, cb, rfl, ob⟩, hbb, hbb8⟩) | (go_at_call 11; with_reducible refine (Ints_any l1 l1 Aa Ab ca cb _ (by first | exact oa.at_.below hbb | exact oa.at_) (by first | exact ob.at_.below hba | exact ob.at_) (by have := Hl1.out; omega)).mono ?_; rintro e wd ⟨rfl, nd, rfl⟩)))
              all_goals
                go_wp2_with fail
                go_ret
                exact ⟨ret_bool (by simp), belowD (hbw8.trans ((by first | exact hbb8 | exact hba8 : Below w8.heap.size w8 _).mono hbw8.size)) _⟩
            · have R1 := Lib.hid (Run_bad1 hKw ticks ht)
              have R2 := Lib.hid (Run_bad1 hK2 ticks ht)
              have HS1 := Lib.hid (fun V (hV : Below w6.heap.size w6 V) => (Shown_any (hKw.below hV) (i := wn) hwn (by omega) (by simp [kNew])).mono fun e w' ⟨he, hb⟩ => (⟨he, hb, hV.trans (hb.mono hV.size)⟩ : _ ∧ Below V.heap.size V w' ∧ Below w6.heap.size w6 w'))
              have HS2 := Lib.hid (fun V (hV : Below w6.heap.size w6 V) => (Shown_any (hK2.below hV) (i := wn) (by rw [HML.out]; exact hwn) (by rw [HML.out]; omega) (by simp [kNew])).mono fun e w' ⟨he, hb⟩ => (⟨he, hb, hV.trans (hb.mono hV.size)⟩ : _ ∧ Below V.heap.size V w' ∧ Below w6.heap.size w6 w'))
              obtain ⟨l1, hl1⟩ : ∃ l : List Int, l = [] := ⟨[], rfl⟩
              have hsh : (kNew.parts wn).shown = l1 := by rw [hl1]; rfl
              have Hl1 := Lib.hid (show l1.length ≤ 1000 by rw [hl1]; simp)
              clear hl1
              rw [hsh] at HS1 HS2
              clear hKw hK2
              go_wp2_with (first | (go_at_call 8; first | (with_reducible refine R1.out.mono ?_; rintro e w' ⟨rfl, rfl⟩) | (with_reducible refine R2.out.mono ?_; rintro e w' ⟨rfl, rfl⟩)))
              go_region_held3 (fun V => True) (trivial) ((first | (go_at_call 12; with_reducible refine (HS1.out _ (by repeat (first | assumption | exact Below.refl _ _ | refine Below.drew ?_))).mono ?_; rintro e wa ⟨⟨Aa, ca, rfl, oa⟩, hba, hba8⟩) | (go_at_call 12; with_reducible refine (HS2.out _ (by repeat (first | assumption | exact Below.refl _ _ | refine Below.drew ?_))).mono ?_; rintro e wb ⟨⟨Ab, cb, rfl, ob⟩, hbb, hbb8⟩) | (go_at_call 11; with_reducible refine (Ints_any l1 l1 Aa Ab ca cb _ (by first | exact oa.at_.below hbb | exact oa.at_) (by first | exact ob.at_.below hba | exact ob.at_) (by have := Hl1.out; omega)).mono ?_; rintro e wd ⟨rfl, nd, rfl⟩)))
              all_goals
                go_wp2_with fail
                go_ret
                exact ⟨ret_bool (by simp), belowD (hbw6.trans ((by first | exact hbb8 | exact hba8 : Below w6.heap.size w6 _).mono hbw6.size)) _⟩
    · by_cases h3 : who < 0
      · have d3 : decide (who < 0) = true := decide_eq_true h3
        go_wp2_with fail
        go_ret
        exact ⟨rfl, hbw2⟩
      have d3 : decide (who < 0) = false := decide_eq_false h3
      have d4 : decide (who ≥ (L.length : Int)) = true := decide_eq_true (by omega)
      go_wp2_with fail
      go_ret
      exact ⟨rfl, hbw2⟩
  · have HN := Lib.hid (New_bad (cp := cp) (co := co) (ct := ct) (hL.below hbw1) (hP.below hbw1) hl (hT.below hbw1) rfl rfl nL nq nT rfl hc)
    generalize sysCode L P q T = k at *
    go_wp2_with fail
    refine HN.out.mono ?_
    rintro e w2 ⟨rfl, hb2⟩
    go_wp2_with fail
    go_ret
    exact ⟨rfl, hbw1.trans (hb2.mono hbw1.size)⟩
end Go.Proofs.Ytgnoimenclmfoaa
