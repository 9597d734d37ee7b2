/-
  The walk of FlowSays, by ways (printed by flowsays.py).
-/
import Derived.Test.YthaaekpnemhjoaaDoorPrJ
import Derived.Test.YthaaekpnemhjoaaDoorPrC
import Derived.Test.YthaaekpnemhjoaaDoorAs
import Derived.Test.YthaaekpnemhjoaaDoorInts
import Derived.Test.YthaaekpnemhjoaaDoorFrame
namespace Go.Proofs.YthaaekpnemhjoaaDoor
open Go.RowKit
set_option maxRecDepth 100000
set_option linter.unusedVariables false

section
variable {P : List Int} {n : Nat} {A : Option Addr} {c : Nat} {w : World} {L M : List Int} {Al Am : Option Addr} {cl cm : Nat} {s : St}
theorem nilInts2 (V : World) : Calls Tryd.prog 13 #[.slice none 0 0, .slice none 0 0] V fun e w' => e = .returned (.bool true) ∧ Below V.heap.size V w' := by
  have := Ints_any [] [] none none 0 0 V IntsAt.nil IntsAt.nil (by decide)
  exact this.mono fun e w' ⟨he, q, hw⟩ => ⟨by rw [he]; simp, by rw [hw]; exact belowD (Below.refl _ _) _⟩
theorem sameInts (l : List Int) (h6 : l.length = 6) (V : World) (B B2 : Option Addr) (c3 c4 : Nat) (h1 : IntsAt V B l) (h2 : IntsAt V B2 l) : Calls Tryd.prog 13 #[.slice B 6 c3, .slice B2 6 c4] V fun e w' => e = .returned (.bool true) ∧ Below V.heap.size V w' := by
  have := Ints_any l l B B2 c3 c4 V h1 h2 (by rw [h6]; decide)
  rw [h6] at this
  exact this.mono fun e w' ⟨he, q, hw⟩ => ⟨by rw [he]; simp, by rw [hw]; exact belowD (Below.refl _ _) _⟩
theorem RFrom_tree (h : NodesAt w A P n) (hc : progCode P n = 0) (hs : IsSt P (n - 1) s) :
    Calls Tryd.prog 22 #[.slice A n c] w fun e w' => (∃ B c', e = .returned (.slice B 6 c') ∧ IntsAt w' B (castL (fromL s))) ∧ Below w.heap.size w w' := by
  have := RFrom_any (c := c) h (progCode_tree hc).2.1
  rw [rowsFlat_from hc hs] at this
  exact this.mono fun e w' ⟨B, c', he, hi, hb⟩ => ⟨⟨B, c', he, hi⟩, hb⟩
theorem RLevels_keep (L : List Int) (lo : Int) (V : World) (hL : IntsAt V Al L) {k : Nat} (hk : levCode L lo = k) :
    Calls Tryd.prog 23 #[.slice Al L.length cl, .int .i64 lo] V fun e w' => e = .returned (.int .i64 (k : Nat)) ∧ Below V.heap.size V w' :=
  (RLevels_any L lo Al cl V hL).mono fun e w' ⟨he, hw⟩ => ⟨by rw [he, hk], by rw [← hw]; exact Below.refl _ _⟩
theorem lev_len {L : List Int} {lo : Int} (h : levCode L lo = 0) : L.length = 6 := by
  unfold levCode at h
  split at h
  · assumption
  · cases h
theorem FLeast_good (h : NodesAt w A P n) (hM : IntsAt w Am M) (hc : progCode P n = 0) (hg : levCode M (-1) = 0) (hs : IsSt P (n - 1) s) (hT : Tab w) (ho : okTo M (fromL s) 6 = true) :
    Calls Tryd.prog 20 #[.slice A n c, .slice Am M.length cm] w fun e w' => (∃ B c', e = .returned (.tuple #[.slice B 6 c', .nilIface]) ∧ IntsAt w' B (leastL M (fromL s))) ∧ Below w.heap.size w w' :=
  (Least_ok h hM (by unfold leastCode; rw [if_pos hc, hg]) hs hT).mono fun e w' ⟨⟨O, h1, h2, h3⟩, hb⟩ => by
    refine ⟨?_, hb⟩
    rcases h3 with ⟨hf, B, c', he, hi⟩ | ⟨hf, he⟩
    · exact ⟨B, c', he, by rw [← least_is hs.ok h1 hf ho]; exact hi⟩
    · rw [least_fits hs.ok h1 h2, ho] at hf; cases hf
theorem FLeast_not (h : NodesAt w A P n) (hM : IntsAt w Am M) (hc : progCode P n = 0) (hg : levCode M (-1) = 0) (hs : IsSt P (n - 1) s) (hT : Tab w) (ho : okTo M (fromL s) 6 = false) :
    Calls Tryd.prog 20 #[.slice A n c, .slice Am M.length cm] w fun e w' => e = .returned (.tuple #[.slice none 0 0, .iface 62 (.int .i64 6)]) ∧ Below w.heap.size w w' :=
  (Least_ok h hM (by unfold leastCode; rw [if_pos hc, hg]) hs hT).mono fun e w' ⟨⟨O, h1, h2, h3⟩, hb⟩ => by
    refine ⟨?_, hb⟩
    rcases h3 with ⟨hf, B, c', he, hi⟩ | ⟨hf, he⟩
    · rw [least_fits hs.ok h1 h2, ho] at hf; cases hf
    · exact he
theorem ok_fit {L : List Int} {s : St} (hs : s.ok) (hl : levCode L 0 = 0) : fitB L (s.sets 0) = okTo L (fromL s) 6 := by
  have h6 := lev_len hl
  have h0 : ∀ i, i < 6 → 0 ≤ gI L i := fun i hi => by
    unfold levCode at hl
    rw [if_pos h6] at hl
    split at hl
    · rename_i ha
      rw [List.all_eq_true] at ha
      exact (of_decide_eq_true (ha _ (List.mem_of_getElem? (get_gI (by omega))))).1
    · cases hl
  rw [Bool.eq_iff_iff, fitB_iff hs h0, okTo_iff]
  exact ⟨fun h i j hi hj hb _ => h i j hi hj hb, fun h i j hi hj hb => h i j hi hj hb (h0 i hi)⟩

set_option maxHeartbeats 4000000 in
theorem FlowSays_bad (h : NodesAt w A P n) (hL : IntsAt w Al L) (hM : IntsAt w Am M) (hT : Tab w) (hE : ErrT w) {k : Nat} (hk : progCode P n = k) (hnk : k ≠ 0) :
    Calls Tryd.prog 8 #[.slice A n c, .slice Al L.length cl, .slice Am M.length cm] w fun e w' => e = .returned (.bool true) ∧ Below w.heap.size w w' := by
  have C1 := Lib.hid (fun V (hV : Below w.heap.size w V) => ((RProg_any (c := c) (h.below (B := 0) hV))).mono fun e w' ⟨he, hb⟩ => (⟨he, hb, hV.trans (hb.mono hV.size)⟩ : _ ∧ Below V.heap.size V w' ∧ Below w.heap.size w w'))
  rw [hk] at C1
  have CE := fun V (hV : Below w.heap.size w V) => Error_is k k true V (hE.next hV) (by simp)
  rw [errVal_pos hnk] at CE
  have CE := Lib.hid (fun V (hV : Below w.heap.size w V) => (CE V hV).mono fun e w' ⟨he, hb⟩ => (⟨he, hb, hV.trans (hb.mono hV.size)⟩ : _ ∧ Below V.heap.size V w' ∧ Below w.heap.size w w'))
  have CF := Lib.hid (fun V (hV : Below w.heap.size w V) => (From_bad (c := c) (h.below (B := 0) hV) hk hnk).mono fun e w' ⟨he, hb⟩ => (⟨he, hb, hV.trans (hb.mono hV.size)⟩ : _ ∧ Below V.heap.size V w' ∧ Below w.heap.size w w'))
  have CI := Lib.hid (fun V (hV : Below w.heap.size w V) => (Fits_bad (c := c) (cl := cl) (h.below (B := 0) hV) (hL.below hV) (by unfold fitsCode; rw [if_neg (by rw [hk]; exact hnk), hk]) hnk).mono fun e w' ⟨he, hb⟩ => (⟨he, hb, hV.trans (hb.mono hV.size)⟩ : _ ∧ Below V.heap.size V w' ∧ Below w.heap.size w w'))
  have CL := Lib.hid (fun V (hV : Below w.heap.size w V) => (Least_bad (c := c) (cl := cm) (h.below (B := 0) hV) (hM.below hV) (by unfold leastCode; rw [if_neg (by rw [hk]; exact hnk), hk]) hnk).mono fun e w' ⟨he, hb⟩ => (⟨he, hb, hV.trans (hb.mono hV.size)⟩ : _ ∧ Below V.heap.size V w' ∧ Below w.heap.size w w'))
  have CN := Lib.hid (fun V (hV : Below w.heap.size w V) => (nilInts2 V).mono fun e w' ⟨he, hb⟩ => (⟨he, hb, hV.trans (hb.mono hV.size)⟩ : _ ∧ Below V.heap.size V w' ∧ Below w.heap.size w w'))
  have dk : ((k : Int) == 0) = false := by simp; omega
  clear h hL hM hT hE hk hnk
  generalize L.length = lm at *
  generalize M.length = mm at *
  have hb00 := Below.refl w.heap.size w
  go_enter Tryd.func8, Tryd.ntmps8
  go_wp2_with fail
  refine (C1.out _ hb00).mono ?_
  rintro e w1 ⟨rfl, hb1, hb01⟩
  go_wp2_with fail
  refine (CF.out _ hb01).mono ?_
  rintro e w2 ⟨rfl, hb2, hb02⟩
  go_wp2_with fail
  refine (CE.out _ hb02).mono ?_
  rintro e w3 ⟨rfl, hb3, hb03⟩
  go_wp2_with fail
  refine (CN.out _ hb03).mono ?_
  rintro e w4 ⟨rfl, hb4, hb04⟩
  go_wp2_with fail
  refine (CI.out _ hb04).mono ?_
  rintro e w5 ⟨rfl, hb5, hb05⟩
  go_wp2_with fail
  refine (CE.out _ hb05).mono ?_
  rintro e w6 ⟨rfl, hb6, hb06⟩
  go_wp2_with fail
  refine (CL.out _ hb06).mono ?_
  rintro e w7 ⟨rfl, hb7, hb07⟩
  go_wp2_with fail
  refine (CE.out _ hb07).mono ?_
  rintro e w8 ⟨rfl, hb8, hb08⟩
  go_wp2_with fail
  refine (CN.out _ hb08).mono ?_
  rintro e w9 ⟨rfl, hb9, hb09⟩
  go_wp2_with fail
  go_ret
  exact ⟨ret_bool (by simp), hb09⟩

set_option maxHeartbeats 4000000 in
theorem FlowSays_ok_ok (h : NodesAt w A P n) (hL : IntsAt w Al L) (hM : IntsAt w Am M) (hT : Tab w) (hE : ErrT w) (hc : progCode P n = 0) (hs : IsSt P (n - 1) s) (hf : levCode L 0 = 0) (hg : levCode M (-1) = 0) (ho : okTo M (fromL s) 6 = true) :
    Calls Tryd.prog 8 #[.slice A n c, .slice Al L.length cl, .slice Am M.length cm] w fun e w' => e = .returned (.bool true) ∧ Below w.heap.size w w' := by
  have C1 := Lib.hid (fun V (hV : Below w.heap.size w V) => ((RProg_any (c := c) (h.below (B := 0) hV))).mono fun e w' ⟨he, hb⟩ => (⟨he, hb, hV.trans (hb.mono hV.size)⟩ : _ ∧ Below V.heap.size V w' ∧ Below w.heap.size w w'))
  rw [hc] at C1
  have CR := Lib.hid (fun V (hV : Below w.heap.size w V) => (RFrom_tree (c := c) (h.below (B := 0) hV) hc hs).mono fun e w' ⟨he, hb⟩ => (⟨he, hb, hV.trans (hb.mono hV.size)⟩ : _ ∧ Below V.heap.size V w' ∧ Below w.heap.size w w'))
  have CV := Lib.hid (fun V (hV : Below w.heap.size w V) => (RLevels_keep (cl := cl) L 0 V (hL.below hV) hf).mono fun e w' ⟨he, hb⟩ => (⟨he, hb, hV.trans (hb.mono hV.size)⟩ : _ ∧ Below V.heap.size V w' ∧ Below w.heap.size w w'))
  have CW := Lib.hid (fun V (hV : Below w.heap.size w V) => (RLevels_keep (cl := cm) M (-1) V (hM.below hV) hg).mono fun e w' ⟨he, hb⟩ => (⟨he, hb, hV.trans (hb.mono hV.size)⟩ : _ ∧ Below V.heap.size V w' ∧ Below w.heap.size w w'))
  have CE0 := Lib.hid (fun V (hV : Below w.heap.size w V) => ((Error_is 0 0 true V (hE.next hV) (by simp) : Calls Tryd.prog 17 #[.nilIface, .int .i64 0] V _)).mono fun e w' ⟨he, hb⟩ => (⟨he, hb, hV.trans (hb.mono hV.size)⟩ : _ ∧ Below V.heap.size V w' ∧ Below w.heap.size w w'))
  have l1 : (castL (fromL s)).length = 6 := by rw [length_castL, fromL_len]
  have CS := Lib.hid (fun V (hV : Below w.heap.size w V) B B2 c3 c4 (h1 : IntsAt V B (castL (fromL s))) (h2 : IntsAt V B2 (castL (fromL s))) => (sameInts (castL (fromL s)) l1 V B B2 c3 c4 h1 h2).mono fun e w' ⟨he, hb⟩ => (⟨he, hb, hV.trans (hb.mono hV.size)⟩ : _ ∧ Below V.heap.size V w' ∧ Below w.heap.size w w'))
  have CF := Lib.hid (fun V (hV : Below w.heap.size w V) => (From_ok (c := c) (h.below (B := 0) hV) hc hs).mono fun e w' ⟨he, hb⟩ => (⟨he, hb, hV.trans (hb.mono hV.size)⟩ : _ ∧ Below V.heap.size V w' ∧ Below w.heap.size w w'))
  have CA := Lib.hid (fun V (hV : Below w.heap.size w V) => (RFits_any (c := c) (cl := cl) (h.below (B := 0) hV) (hL.below hV) hc (lev_len hf) hs).mono fun e w' ⟨he, hb⟩ => (⟨he, hb, hV.trans (hb.mono hV.size)⟩ : _ ∧ Below V.heap.size V w' ∧ Below w.heap.size w w'))
  have CI := Lib.hid (fun V (hV : Below w.heap.size w V) => (Fits_ok (c := c) (cl := cl) (h.below (B := 0) hV) (hL.below hV) (by unfold fitsCode; rw [if_pos hc, hf]) hs (hT.next hV) (ok_fit hs.ok hf)).mono fun e w' ⟨he, hb⟩ => (⟨he, hb, hV.trans (hb.mono hV.size)⟩ : _ ∧ Below V.heap.size V w' ∧ Below w.heap.size w w'))
  have CN := Lib.hid (fun V (hV : Below w.heap.size w V) => (nilInts2 V).mono fun e w' ⟨he, hb⟩ => (⟨he, hb, hV.trans (hb.mono hV.size)⟩ : _ ∧ Below V.heap.size V w' ∧ Below w.heap.size w w'))
  have CB := Lib.hid (fun V (hV : Below w.heap.size w V) => (RFits_any (c := c) (cl := cm) (h.below (B := 0) hV) (hM.below hV) hc (lev_len hg) hs).mono fun e w' ⟨he, hb⟩ => (⟨he, hb, hV.trans (hb.mono hV.size)⟩ : _ ∧ Below V.heap.size V w' ∧ Below w.heap.size w w'))
  rw [ho] at CB
  have CZ := Lib.hid (fun V (hV : Below w.heap.size w V) => (RLeast_any (c := c) (cl := cm) (h.below (B := 0) hV) (hM.below hV) hc (lev_len hg) hs).mono fun e w' ⟨he, hb⟩ => (⟨he, hb, hV.trans (hb.mono hV.size)⟩ : _ ∧ Below V.heap.size V w' ∧ Below w.heap.size w w'))
  have CL := Lib.hid (fun V (hV : Below w.heap.size w V) => (FLeast_good (c := c) (cm := cm) (h.below (B := 0) hV) (hM.below hV) hc hg hs (hT.next hV) ho).mono fun e w' ⟨he, hb⟩ => (⟨he, hb, hV.trans (hb.mono hV.size)⟩ : _ ∧ Below V.heap.size V w' ∧ Below w.heap.size w w'))
  have l2 : (leastL M (fromL s)).length = 6 := by unfold leastL; simp
  have CT := Lib.hid (fun V (hV : Below w.heap.size w V) B B2 c3 c4 (h1 : IntsAt V B (leastL M (fromL s))) (h2 : IntsAt V B2 (leastL M (fromL s))) => (sameInts (leastL M (fromL s)) l2 V B B2 c3 c4 h1 h2).mono fun e w' ⟨he, hb⟩ => (⟨he, hb, hV.trans (hb.mono hV.size)⟩ : _ ∧ Below V.heap.size V w' ∧ Below w.heap.size w w'))
  clear h hL hM hT hE hc hs hf hg l1 ho l2
  generalize okTo L (fromL s) 6 = fb at *
  generalize L.length = lm at *
  generalize M.length = mm at *
  have hb00 := Below.refl w.heap.size w
  go_enter Tryd.func8, Tryd.ntmps8
  go_wp2_with fail
  refine (C1.out _ hb00).mono ?_
  rintro e w1 ⟨rfl, hb1, hb01⟩
  go_wp2_with fail
  refine (CR.out _ hb01).mono ?_
  rintro e w2 ⟨⟨B2, c2, rfl, ix2⟩, hb2, hb02⟩
  go_wp2_with fail
  refine (CV.out _ hb02).mono ?_
  rintro e w3 ⟨rfl, hb3, hb03⟩
  have ix3 := ix2.below hb3
  go_wp2_with fail
  refine (CW.out _ hb03).mono ?_
  rintro e w4 ⟨rfl, hb4, hb04⟩
  have ix4 := ix3.below hb4
  go_wp2_with fail
  refine (CA.out _ hb04).mono ?_
  rintro e w5 ⟨rfl, hb5, hb05⟩
  have ix5 := ix4.below hb5
  go_wp2_with fail
  refine (CB.out _ hb05).mono ?_
  rintro e w6 ⟨rfl, hb6, hb06⟩
  have ix6 := ix5.below hb6
  go_wp2_with fail
  refine (CZ.out _ hb06).mono ?_
  rintro e w7 ⟨⟨B7, c7, rfl, iz7⟩, hb7, hb07⟩
  have ix7 := ix6.below hb7
  go_wp2_with fail
  refine (CF.out _ hb07).mono ?_
  rintro e w8 ⟨⟨B8, c8, rfl, iy8⟩, hb8, hb08⟩
  have ix8 := ix7.below hb8
  have iz8 := iz7.below hb8
  go_wp2_with fail
  refine (CE0.out _ hb08).mono ?_
  rintro e w9 ⟨rfl, hb9, hb09⟩
  have ix9 := ix8.below hb9
  have iz9 := iz8.below hb9
  have iy9 := iy8.below hb9
  go_wp2_with fail
  refine (CS.out _ hb09 _ _ _ _ iy9 ix9).mono ?_
  rintro e w10 ⟨rfl, hb10, hb010⟩
  have ix10 := ix9.below hb10
  have iz10 := iz9.below hb10
  have iy10 := iy9.below hb10
  go_wp2_with fail
  refine (CI.out _ hb010).mono ?_
  rintro e w11 ⟨rfl, hb11, hb011⟩
  have ix11 := ix10.below hb11
  have iz11 := iz10.below hb11
  have iy11 := iy10.below hb11
  go_wp2_with fail
  refine (CE0.out _ hb011).mono ?_
  rintro e w12 ⟨rfl, hb12, hb012⟩
  have ix12 := ix11.below hb12
  have iz12 := iz11.below hb12
  have iy12 := iy11.below hb12
  go_wp2_with fail
  refine (CL.out _ hb012).mono ?_
  rintro e w13 ⟨⟨B13, c13, rfl, iu13⟩, hb13, hb013⟩
  have ix13 := ix12.below hb13
  have iz13 := iz12.below hb13
  have iy13 := iy12.below hb13
  go_wp2_with fail
  refine (CE0.out _ hb013).mono ?_
  rintro e w14 ⟨rfl, hb14, hb014⟩
  have ix14 := ix13.below hb14
  have iz14 := iz13.below hb14
  have iy14 := iy13.below hb14
  have iu14 := iu13.below hb14
  go_wp2_with fail
  refine (CT.out _ hb014 _ _ _ _ iu14 iz14).mono ?_
  rintro e w15 ⟨rfl, hb15, hb015⟩
  have ix15 := ix14.below hb15
  have iz15 := iz14.below hb15
  have iy15 := iy14.below hb15
  have iu15 := iu14.below hb15
  go_wp2_with fail
  go_ret
  exact ⟨ret_bool (by simp), hb015⟩

set_option maxHeartbeats 4000000 in
theorem FlowSays_ok_not (h : NodesAt w A P n) (hL : IntsAt w Al L) (hM : IntsAt w Am M) (hT : Tab w) (hE : ErrT w) (hc : progCode P n = 0) (hs : IsSt P (n - 1) s) (hf : levCode L 0 = 0) (hg : levCode M (-1) = 0) (ho : okTo M (fromL s) 6 = false) :
    Calls Tryd.prog 8 #[.slice A n c, .slice Al L.length cl, .slice Am M.length cm] w fun e w' => e = .returned (.bool true) ∧ Below w.heap.size w w' := by
  have C1 := Lib.hid (fun V (hV : Below w.heap.size w V) => ((RProg_any (c := c) (h.below (B := 0) hV))).mono fun e w' ⟨he, hb⟩ => (⟨he, hb, hV.trans (hb.mono hV.size)⟩ : _ ∧ Below V.heap.size V w' ∧ Below w.heap.size w w'))
  rw [hc] at C1
  have CR := Lib.hid (fun V (hV : Below w.heap.size w V) => (RFrom_tree (c := c) (h.below (B := 0) hV) hc hs).mono fun e w' ⟨he, hb⟩ => (⟨he, hb, hV.trans (hb.mono hV.size)⟩ : _ ∧ Below V.heap.size V w' ∧ Below w.heap.size w w'))
  have CV := Lib.hid (fun V (hV : Below w.heap.size w V) => (RLevels_keep (cl := cl) L 0 V (hL.below hV) hf).mono fun e w' ⟨he, hb⟩ => (⟨he, hb, hV.trans (hb.mono hV.size)⟩ : _ ∧ Below V.heap.size V w' ∧ Below w.heap.size w w'))
  have CW := Lib.hid (fun V (hV : Below w.heap.size w V) => (RLevels_keep (cl := cm) M (-1) V (hM.below hV) hg).mono fun e w' ⟨he, hb⟩ => (⟨he, hb, hV.trans (hb.mono hV.size)⟩ : _ ∧ Below V.heap.size V w' ∧ Below w.heap.size w w'))
  have CE0 := Lib.hid (fun V (hV : Below w.heap.size w V) => ((Error_is 0 0 true V (hE.next hV) (by simp) : Calls Tryd.prog 17 #[.nilIface, .int .i64 0] V _)).mono fun e w' ⟨he, hb⟩ => (⟨he, hb, hV.trans (hb.mono hV.size)⟩ : _ ∧ Below V.heap.size V w' ∧ Below w.heap.size w w'))
  have l1 : (castL (fromL s)).length = 6 := by rw [length_castL, fromL_len]
  have CS := Lib.hid (fun V (hV : Below w.heap.size w V) B B2 c3 c4 (h1 : IntsAt V B (castL (fromL s))) (h2 : IntsAt V B2 (castL (fromL s))) => (sameInts (castL (fromL s)) l1 V B B2 c3 c4 h1 h2).mono fun e w' ⟨he, hb⟩ => (⟨he, hb, hV.trans (hb.mono hV.size)⟩ : _ ∧ Below V.heap.size V w' ∧ Below w.heap.size w w'))
  have CF := Lib.hid (fun V (hV : Below w.heap.size w V) => (From_ok (c := c) (h.below (B := 0) hV) hc hs).mono fun e w' ⟨he, hb⟩ => (⟨he, hb, hV.trans (hb.mono hV.size)⟩ : _ ∧ Below V.heap.size V w' ∧ Below w.heap.size w w'))
  have CA := Lib.hid (fun V (hV : Below w.heap.size w V) => (RFits_any (c := c) (cl := cl) (h.below (B := 0) hV) (hL.below hV) hc (lev_len hf) hs).mono fun e w' ⟨he, hb⟩ => (⟨he, hb, hV.trans (hb.mono hV.size)⟩ : _ ∧ Below V.heap.size V w' ∧ Below w.heap.size w w'))
  have CI := Lib.hid (fun V (hV : Below w.heap.size w V) => (Fits_ok (c := c) (cl := cl) (h.below (B := 0) hV) (hL.below hV) (by unfold fitsCode; rw [if_pos hc, hf]) hs (hT.next hV) (ok_fit hs.ok hf)).mono fun e w' ⟨he, hb⟩ => (⟨he, hb, hV.trans (hb.mono hV.size)⟩ : _ ∧ Below V.heap.size V w' ∧ Below w.heap.size w w'))
  have CN := Lib.hid (fun V (hV : Below w.heap.size w V) => (nilInts2 V).mono fun e w' ⟨he, hb⟩ => (⟨he, hb, hV.trans (hb.mono hV.size)⟩ : _ ∧ Below V.heap.size V w' ∧ Below w.heap.size w w'))
  have CB := Lib.hid (fun V (hV : Below w.heap.size w V) => (RFits_any (c := c) (cl := cm) (h.below (B := 0) hV) (hM.below hV) hc (lev_len hg) hs).mono fun e w' ⟨he, hb⟩ => (⟨he, hb, hV.trans (hb.mono hV.size)⟩ : _ ∧ Below V.heap.size V w' ∧ Below w.heap.size w w'))
  rw [ho] at CB
  have CL := Lib.hid (fun V (hV : Below w.heap.size w V) => (FLeast_not (c := c) (cm := cm) (h.below (B := 0) hV) (hM.below hV) hc hg hs (hT.next hV) ho).mono fun e w' ⟨he, hb⟩ => (⟨he, hb, hV.trans (hb.mono hV.size)⟩ : _ ∧ Below V.heap.size V w' ∧ Below w.heap.size w w'))
  have CE6 := Lib.hid (fun V (hV : Below w.heap.size w V) => ((Error_is 6 6 true V (hE.next hV) (by simp) : Calls Tryd.prog 17 #[.iface 62 (.int .i64 6), .int .i64 6] V _)).mono fun e w' ⟨he, hb⟩ => (⟨he, hb, hV.trans (hb.mono hV.size)⟩ : _ ∧ Below V.heap.size V w' ∧ Below w.heap.size w w'))
  clear h hL hM hT hE hc hs hf hg l1 ho
  generalize okTo L (fromL s) 6 = fb at *
  generalize L.length = lm at *
  generalize M.length = mm at *
  have hb00 := Below.refl w.heap.size w
  go_enter Tryd.func8, Tryd.ntmps8
  go_wp2_with fail
  refine (C1.out _ hb00).mono ?_
  rintro e w1 ⟨rfl, hb1, hb01⟩
  go_wp2_with fail
  refine (CR.out _ hb01).mono ?_
  rintro e w2 ⟨⟨B2, c2, rfl, ix2⟩, hb2, hb02⟩
  go_wp2_with fail
  refine (CV.out _ hb02).mono ?_
  rintro e w3 ⟨rfl, hb3, hb03⟩
  have ix3 := ix2.below hb3
  go_wp2_with fail
  refine (CW.out _ hb03).mono ?_
  rintro e w4 ⟨rfl, hb4, hb04⟩
  have ix4 := ix3.below hb4
  go_wp2_with fail
  refine (CA.out _ hb04).mono ?_
  rintro e w5 ⟨rfl, hb5, hb05⟩
  have ix5 := ix4.below hb5
  go_wp2_with fail
  refine (CB.out _ hb05).mono ?_
  rintro e w6 ⟨rfl, hb6, hb06⟩
  have ix6 := ix5.below hb6
  go_wp2_with fail
  refine (CF.out _ hb06).mono ?_
  rintro e w7 ⟨⟨B7, c7, rfl, iy7⟩, hb7, hb07⟩
  have ix7 := ix6.below hb7
  go_wp2_with fail
  refine (CE0.out _ hb07).mono ?_
  rintro e w8 ⟨rfl, hb8, hb08⟩
  have ix8 := ix7.below hb8
  have iy8 := iy7.below hb8
  go_wp2_with fail
  refine (CS.out _ hb08 _ _ _ _ iy8 ix8).mono ?_
  rintro e w9 ⟨rfl, hb9, hb09⟩
  have ix9 := ix8.below hb9
  have iy9 := iy8.below hb9
  go_wp2_with fail
  refine (CI.out _ hb09).mono ?_
  rintro e w10 ⟨rfl, hb10, hb010⟩
  have ix10 := ix9.below hb10
  have iy10 := iy9.below hb10
  go_wp2_with fail
  refine (CE0.out _ hb010).mono ?_
  rintro e w11 ⟨rfl, hb11, hb011⟩
  have ix11 := ix10.below hb11
  have iy11 := iy10.below hb11
  go_wp2_with fail
  refine (CL.out _ hb011).mono ?_
  rintro e w12 ⟨rfl, hb12, hb012⟩
  have ix12 := ix11.below hb12
  have iy12 := iy11.below hb12
  go_wp2_with fail
  refine (CE6.out _ hb012).mono ?_
  rintro e w13 ⟨rfl, hb13, hb013⟩
  have ix13 := ix12.below hb13
  have iy13 := iy12.below hb13
  go_wp2_with fail
  refine (CN.out _ hb013).mono ?_
  rintro e w14 ⟨rfl, hb14, hb014⟩
  have ix14 := ix13.below hb14
  have iy14 := iy13.below hb14
  go_wp2_with fail
  go_ret
  exact ⟨ret_bool (by simp), hb014⟩

set_option maxHeartbeats 4000000 in
theorem FlowSays_ok_bad (h : NodesAt w A P n) (hL : IntsAt w Al L) (hM : IntsAt w Am M) (hT : Tab w) (hE : ErrT w) (hc : progCode P n = 0) (hs : IsSt P (n - 1) s) (hf : levCode L 0 = 0) {gk : Nat} (hg : levCode M (-1) = gk) (hngk : gk ≠ 0) :
    Calls Tryd.prog 8 #[.slice A n c, .slice Al L.length cl, .slice Am M.length cm] w fun e w' => e = .returned (.bool true) ∧ Below w.heap.size w w' := by
  have C1 := Lib.hid (fun V (hV : Below w.heap.size w V) => ((RProg_any (c := c) (h.below (B := 0) hV))).mono fun e w' ⟨he, hb⟩ => (⟨he, hb, hV.trans (hb.mono hV.size)⟩ : _ ∧ Below V.heap.size V w' ∧ Below w.heap.size w w'))
  rw [hc] at C1
  have CR := Lib.hid (fun V (hV : Below w.heap.size w V) => (RFrom_tree (c := c) (h.below (B := 0) hV) hc hs).mono fun e w' ⟨he, hb⟩ => (⟨he, hb, hV.trans (hb.mono hV.size)⟩ : _ ∧ Below V.heap.size V w' ∧ Below w.heap.size w w'))
  have CV := Lib.hid (fun V (hV : Below w.heap.size w V) => (RLevels_keep (cl := cl) L 0 V (hL.below hV) hf).mono fun e w' ⟨he, hb⟩ => (⟨he, hb, hV.trans (hb.mono hV.size)⟩ : _ ∧ Below V.heap.size V w' ∧ Below w.heap.size w w'))
  have CW := Lib.hid (fun V (hV : Below w.heap.size w V) => (RLevels_keep (cl := cm) M (-1) V (hM.below hV) hg).mono fun e w' ⟨he, hb⟩ => (⟨he, hb, hV.trans (hb.mono hV.size)⟩ : _ ∧ Below V.heap.size V w' ∧ Below w.heap.size w w'))
  have CE0 := Lib.hid (fun V (hV : Below w.heap.size w V) => ((Error_is 0 0 true V (hE.next hV) (by simp) : Calls Tryd.prog 17 #[.nilIface, .int .i64 0] V _)).mono fun e w' ⟨he, hb⟩ => (⟨he, hb, hV.trans (hb.mono hV.size)⟩ : _ ∧ Below V.heap.size V w' ∧ Below w.heap.size w w'))
  have l1 : (castL (fromL s)).length = 6 := by rw [length_castL, fromL_len]
  have CS := Lib.hid (fun V (hV : Below w.heap.size w V) B B2 c3 c4 (h1 : IntsAt V B (castL (fromL s))) (h2 : IntsAt V B2 (castL (fromL s))) => (sameInts (castL (fromL s)) l1 V B B2 c3 c4 h1 h2).mono fun e w' ⟨he, hb⟩ => (⟨he, hb, hV.trans (hb.mono hV.size)⟩ : _ ∧ Below V.heap.size V w' ∧ Below w.heap.size w w'))
  have CF := Lib.hid (fun V (hV : Below w.heap.size w V) => (From_ok (c := c) (h.below (B := 0) hV) hc hs).mono fun e w' ⟨he, hb⟩ => (⟨he, hb, hV.trans (hb.mono hV.size)⟩ : _ ∧ Below V.heap.size V w' ∧ Below w.heap.size w w'))
  have CA := Lib.hid (fun V (hV : Below w.heap.size w V) => (RFits_any (c := c) (cl := cl) (h.below (B := 0) hV) (hL.below hV) hc (lev_len hf) hs).mono fun e w' ⟨he, hb⟩ => (⟨he, hb, hV.trans (hb.mono hV.size)⟩ : _ ∧ Below V.heap.size V w' ∧ Below w.heap.size w w'))
  have CI := Lib.hid (fun V (hV : Below w.heap.size w V) => (Fits_ok (c := c) (cl := cl) (h.below (B := 0) hV) (hL.below hV) (by unfold fitsCode; rw [if_pos hc, hf]) hs (hT.next hV) (ok_fit hs.ok hf)).mono fun e w' ⟨he, hb⟩ => (⟨he, hb, hV.trans (hb.mono hV.size)⟩ : _ ∧ Below V.heap.size V w' ∧ Below w.heap.size w w'))
  have CN := Lib.hid (fun V (hV : Below w.heap.size w V) => (nilInts2 V).mono fun e w' ⟨he, hb⟩ => (⟨he, hb, hV.trans (hb.mono hV.size)⟩ : _ ∧ Below V.heap.size V w' ∧ Below w.heap.size w w'))
  have CEg := fun V (hV : Below w.heap.size w V) => Error_is gk gk true V (hE.next hV) (by simp)
  rw [errVal_pos hngk] at CEg
  have CEg := Lib.hid (fun V (hV : Below w.heap.size w V) => (CEg V hV).mono fun e w' ⟨he, hb⟩ => (⟨he, hb, hV.trans (hb.mono hV.size)⟩ : _ ∧ Below V.heap.size V w' ∧ Below w.heap.size w w'))
  have CL := Lib.hid (fun V (hV : Below w.heap.size w V) => (Least_bad (c := c) (cl := cm) (h.below (B := 0) hV) (hM.below hV) (by unfold leastCode; rw [if_pos hc, hg]) hngk).mono fun e w' ⟨he, hb⟩ => (⟨he, hb, hV.trans (hb.mono hV.size)⟩ : _ ∧ Below V.heap.size V w' ∧ Below w.heap.size w w'))
  have dgk : ((gk : Int) == 0) = false := by simp; omega
  clear h hL hM hT hE hc hs hf hg l1 hngk
  generalize okTo L (fromL s) 6 = fb at *
  generalize L.length = lm at *
  generalize M.length = mm at *
  have hb00 := Below.refl w.heap.size w
  go_enter Tryd.func8, Tryd.ntmps8
  go_wp2_with fail
  refine (C1.out _ hb00).mono ?_
  rintro e w1 ⟨rfl, hb1, hb01⟩
  go_wp2_with fail
  refine (CR.out _ hb01).mono ?_
  rintro e w2 ⟨⟨B2, c2, rfl, ix2⟩, hb2, hb02⟩
  go_wp2_with fail
  refine (CV.out _ hb02).mono ?_
  rintro e w3 ⟨rfl, hb3, hb03⟩
  have ix3 := ix2.below hb3
  go_wp2_with fail
  refine (CW.out _ hb03).mono ?_
  rintro e w4 ⟨rfl, hb4, hb04⟩
  have ix4 := ix3.below hb4
  go_wp2_with fail
  refine (CA.out _ hb04).mono ?_
  rintro e w5 ⟨rfl, hb5, hb05⟩
  have ix5 := ix4.below hb5
  go_wp2_with fail
  refine (CF.out _ hb05).mono ?_
  rintro e w6 ⟨⟨B6, c6, rfl, iy6⟩, hb6, hb06⟩
  have ix6 := ix5.below hb6
  go_wp2_with fail
  refine (CE0.out _ hb06).mono ?_
  rintro e w7 ⟨rfl, hb7, hb07⟩
  have ix7 := ix6.below hb7
  have iy7 := iy6.below hb7
  go_wp2_with fail
  refine (CS.out _ hb07 _ _ _ _ iy7 ix7).mono ?_
  rintro e w8 ⟨rfl, hb8, hb08⟩
  have ix8 := ix7.below hb8
  have iy8 := iy7.below hb8
  go_wp2_with fail
  refine (CI.out _ hb08).mono ?_
  rintro e w9 ⟨rfl, hb9, hb09⟩
  have ix9 := ix8.below hb9
  have iy9 := iy8.below hb9
  go_wp2_with fail
  refine (CE0.out _ hb09).mono ?_
  rintro e w10 ⟨rfl, hb10, hb010⟩
  have ix10 := ix9.below hb10
  have iy10 := iy9.below hb10
  go_wp2_with fail
  refine (CL.out _ hb010).mono ?_
  rintro e w11 ⟨rfl, hb11, hb011⟩
  have ix11 := ix10.below hb11
  have iy11 := iy10.below hb11
  go_wp2_with fail
  refine (CEg.out _ hb011).mono ?_
  rintro e w12 ⟨rfl, hb12, hb012⟩
  have ix12 := ix11.below hb12
  have iy12 := iy11.below hb12
  go_wp2_with fail
  refine (CN.out _ hb012).mono ?_
  rintro e w13 ⟨rfl, hb13, hb013⟩
  have ix13 := ix12.below hb13
  have iy13 := iy12.below hb13
  go_wp2_with fail
  go_ret
  exact ⟨ret_bool (by simp), hb013⟩

set_option maxHeartbeats 4000000 in
theorem FlowSays_bad_ok (h : NodesAt w A P n) (hL : IntsAt w Al L) (hM : IntsAt w Am M) (hT : Tab w) (hE : ErrT w) (hc : progCode P n = 0) (hs : IsSt P (n - 1) s) {fk : Nat} (hf : levCode L 0 = fk) (hnfk : fk ≠ 0) (hg : levCode M (-1) = 0) (ho : okTo M (fromL s) 6 = true) :
    Calls Tryd.prog 8 #[.slice A n c, .slice Al L.length cl, .slice Am M.length cm] w fun e w' => e = .returned (.bool true) ∧ Below w.heap.size w w' := by
  have C1 := Lib.hid (fun V (hV : Below w.heap.size w V) => ((RProg_any (c := c) (h.below (B := 0) hV))).mono fun e w' ⟨he, hb⟩ => (⟨he, hb, hV.trans (hb.mono hV.size)⟩ : _ ∧ Below V.heap.size V w' ∧ Below w.heap.size w w'))
  rw [hc] at C1
  have CR := Lib.hid (fun V (hV : Below w.heap.size w V) => (RFrom_tree (c := c) (h.below (B := 0) hV) hc hs).mono fun e w' ⟨he, hb⟩ => (⟨he, hb, hV.trans (hb.mono hV.size)⟩ : _ ∧ Below V.heap.size V w' ∧ Below w.heap.size w w'))
  have CV := Lib.hid (fun V (hV : Below w.heap.size w V) => (RLevels_keep (cl := cl) L 0 V (hL.below hV) hf).mono fun e w' ⟨he, hb⟩ => (⟨he, hb, hV.trans (hb.mono hV.size)⟩ : _ ∧ Below V.heap.size V w' ∧ Below w.heap.size w w'))
  have CW := Lib.hid (fun V (hV : Below w.heap.size w V) => (RLevels_keep (cl := cm) M (-1) V (hM.below hV) hg).mono fun e w' ⟨he, hb⟩ => (⟨he, hb, hV.trans (hb.mono hV.size)⟩ : _ ∧ Below V.heap.size V w' ∧ Below w.heap.size w w'))
  have CE0 := Lib.hid (fun V (hV : Below w.heap.size w V) => ((Error_is 0 0 true V (hE.next hV) (by simp) : Calls Tryd.prog 17 #[.nilIface, .int .i64 0] V _)).mono fun e w' ⟨he, hb⟩ => (⟨he, hb, hV.trans (hb.mono hV.size)⟩ : _ ∧ Below V.heap.size V w' ∧ Below w.heap.size w w'))
  have l1 : (castL (fromL s)).length = 6 := by rw [length_castL, fromL_len]
  have CS := Lib.hid (fun V (hV : Below w.heap.size w V) B B2 c3 c4 (h1 : IntsAt V B (castL (fromL s))) (h2 : IntsAt V B2 (castL (fromL s))) => (sameInts (castL (fromL s)) l1 V B B2 c3 c4 h1 h2).mono fun e w' ⟨he, hb⟩ => (⟨he, hb, hV.trans (hb.mono hV.size)⟩ : _ ∧ Below V.heap.size V w' ∧ Below w.heap.size w w'))
  have CF := Lib.hid (fun V (hV : Below w.heap.size w V) => (From_ok (c := c) (h.below (B := 0) hV) hc hs).mono fun e w' ⟨he, hb⟩ => (⟨he, hb, hV.trans (hb.mono hV.size)⟩ : _ ∧ Below V.heap.size V w' ∧ Below w.heap.size w w'))
  have CEf := fun V (hV : Below w.heap.size w V) => Error_is fk fk true V (hE.next hV) (by simp)
  rw [errVal_pos hnfk] at CEf
  have CEf := Lib.hid (fun V (hV : Below w.heap.size w V) => (CEf V hV).mono fun e w' ⟨he, hb⟩ => (⟨he, hb, hV.trans (hb.mono hV.size)⟩ : _ ∧ Below V.heap.size V w' ∧ Below w.heap.size w w'))
  have CI := Lib.hid (fun V (hV : Below w.heap.size w V) => (Fits_bad (c := c) (cl := cl) (h.below (B := 0) hV) (hL.below hV) (by unfold fitsCode; rw [if_pos hc, hf]) hnfk).mono fun e w' ⟨he, hb⟩ => (⟨he, hb, hV.trans (hb.mono hV.size)⟩ : _ ∧ Below V.heap.size V w' ∧ Below w.heap.size w w'))
  have dfk : ((fk : Int) == 0) = false := by simp; omega
  have CN := Lib.hid (fun V (hV : Below w.heap.size w V) => (nilInts2 V).mono fun e w' ⟨he, hb⟩ => (⟨he, hb, hV.trans (hb.mono hV.size)⟩ : _ ∧ Below V.heap.size V w' ∧ Below w.heap.size w w'))
  have CB := Lib.hid (fun V (hV : Below w.heap.size w V) => (RFits_any (c := c) (cl := cm) (h.below (B := 0) hV) (hM.below hV) hc (lev_len hg) hs).mono fun e w' ⟨he, hb⟩ => (⟨he, hb, hV.trans (hb.mono hV.size)⟩ : _ ∧ Below V.heap.size V w' ∧ Below w.heap.size w w'))
  rw [ho] at CB
  have CZ := Lib.hid (fun V (hV : Below w.heap.size w V) => (RLeast_any (c := c) (cl := cm) (h.below (B := 0) hV) (hM.below hV) hc (lev_len hg) hs).mono fun e w' ⟨he, hb⟩ => (⟨he, hb, hV.trans (hb.mono hV.size)⟩ : _ ∧ Below V.heap.size V w' ∧ Below w.heap.size w w'))
  have CL := Lib.hid (fun V (hV : Below w.heap.size w V) => (FLeast_good (c := c) (cm := cm) (h.below (B := 0) hV) (hM.below hV) hc hg hs (hT.next hV) ho).mono fun e w' ⟨he, hb⟩ => (⟨he, hb, hV.trans (hb.mono hV.size)⟩ : _ ∧ Below V.heap.size V w' ∧ Below w.heap.size w w'))
  have l2 : (leastL M (fromL s)).length = 6 := by unfold leastL; simp
  have CT := Lib.hid (fun V (hV : Below w.heap.size w V) B B2 c3 c4 (h1 : IntsAt V B (leastL M (fromL s))) (h2 : IntsAt V B2 (leastL M (fromL s))) => (sameInts (leastL M (fromL s)) l2 V B B2 c3 c4 h1 h2).mono fun e w' ⟨he, hb⟩ => (⟨he, hb, hV.trans (hb.mono hV.size)⟩ : _ ∧ Below V.heap.size V w' ∧ Below w.heap.size w w'))
  clear h hL hM hT hE hc hs hf hg l1 hnfk ho l2
  generalize L.length = lm at *
  generalize M.length = mm at *
  have hb00 := Below.refl w.heap.size w
  go_enter Tryd.func8, Tryd.ntmps8
  go_wp2_with fail
  refine (C1.out _ hb00).mono ?_
  rintro e w1 ⟨rfl, hb1, hb01⟩
  go_wp2_with fail
  refine (CR.out _ hb01).mono ?_
  rintro e w2 ⟨⟨B2, c2, rfl, ix2⟩, hb2, hb02⟩
  go_wp2_with fail
  refine (CV.out _ hb02).mono ?_
  rintro e w3 ⟨rfl, hb3, hb03⟩
  have ix3 := ix2.below hb3
  go_wp2_with fail
  refine (CW.out _ hb03).mono ?_
  rintro e w4 ⟨rfl, hb4, hb04⟩
  have ix4 := ix3.below hb4
  go_wp2_with fail
  refine (CB.out _ hb04).mono ?_
  rintro e w5 ⟨rfl, hb5, hb05⟩
  have ix5 := ix4.below hb5
  go_wp2_with fail
  refine (CZ.out _ hb05).mono ?_
  rintro e w6 ⟨⟨B6, c6, rfl, iz6⟩, hb6, hb06⟩
  have ix6 := ix5.below hb6
  go_wp2_with fail
  refine (CF.out _ hb06).mono ?_
  rintro e w7 ⟨⟨B7, c7, rfl, iy7⟩, hb7, hb07⟩
  have ix7 := ix6.below hb7
  have iz7 := iz6.below hb7
  go_wp2_with fail
  refine (CE0.out _ hb07).mono ?_
  rintro e w8 ⟨rfl, hb8, hb08⟩
  have ix8 := ix7.below hb8
  have iz8 := iz7.below hb8
  have iy8 := iy7.below hb8
  go_wp2_with fail
  refine (CS.out _ hb08 _ _ _ _ iy8 ix8).mono ?_
  rintro e w9 ⟨rfl, hb9, hb09⟩
  have ix9 := ix8.below hb9
  have iz9 := iz8.below hb9
  have iy9 := iy8.below hb9
  go_wp2_with fail
  refine (CI.out _ hb09).mono ?_
  rintro e w10 ⟨rfl, hb10, hb010⟩
  have ix10 := ix9.below hb10
  have iz10 := iz9.below hb10
  have iy10 := iy9.below hb10
  go_wp2_with fail
  refine (CEf.out _ hb010).mono ?_
  rintro e w11 ⟨rfl, hb11, hb011⟩
  have ix11 := ix10.below hb11
  have iz11 := iz10.below hb11
  have iy11 := iy10.below hb11
  go_wp2_with fail
  refine (CL.out _ hb011).mono ?_
  rintro e w12 ⟨⟨B12, c12, rfl, iu12⟩, hb12, hb012⟩
  have ix12 := ix11.below hb12
  have iz12 := iz11.below hb12
  have iy12 := iy11.below hb12
  go_wp2_with fail
  refine (CE0.out _ hb012).mono ?_
  rintro e w13 ⟨rfl, hb13, hb013⟩
  have ix13 := ix12.below hb13
  have iz13 := iz12.below hb13
  have iy13 := iy12.below hb13
  have iu13 := iu12.below hb13
  go_wp2_with fail
  refine (CT.out _ hb013 _ _ _ _ iu13 iz13).mono ?_
  rintro e w14 ⟨rfl, hb14, hb014⟩
  have ix14 := ix13.below hb14
  have iz14 := iz13.below hb14
  have iy14 := iy13.below hb14
  have iu14 := iu13.below hb14
  go_wp2_with fail
  go_ret
  exact ⟨ret_bool (by simp), hb014⟩

set_option maxHeartbeats 4000000 in
theorem FlowSays_bad_not (h : NodesAt w A P n) (hL : IntsAt w Al L) (hM : IntsAt w Am M) (hT : Tab w) (hE : ErrT w) (hc : progCode P n = 0) (hs : IsSt P (n - 1) s) {fk : Nat} (hf : levCode L 0 = fk) (hnfk : fk ≠ 0) (hg : levCode M (-1) = 0) (ho : okTo M (fromL s) 6 = false) :
    Calls Tryd.prog 8 #[.slice A n c, .slice Al L.length cl, .slice Am M.length cm] w fun e w' => e = .returned (.bool true) ∧ Below w.heap.size w w' := by
  have C1 := Lib.hid (fun V (hV : Below w.heap.size w V) => ((RProg_any (c := c) (h.below (B := 0) hV))).mono fun e w' ⟨he, hb⟩ => (⟨he, hb, hV.trans (hb.mono hV.size)⟩ : _ ∧ Below V.heap.size V w' ∧ Below w.heap.size w w'))
  rw [hc] at C1
  have CR := Lib.hid (fun V (hV : Below w.heap.size w V) => (RFrom_tree (c := c) (h.below (B := 0) hV) hc hs).mono fun e w' ⟨he, hb⟩ => (⟨he, hb, hV.trans (hb.mono hV.size)⟩ : _ ∧ Below V.heap.size V w' ∧ Below w.heap.size w w'))
  have CV := Lib.hid (fun V (hV : Below w.heap.size w V) => (RLevels_keep (cl := cl) L 0 V (hL.below hV) hf).mono fun e w' ⟨he, hb⟩ => (⟨he, hb, hV.trans (hb.mono hV.size)⟩ : _ ∧ Below V.heap.size V w' ∧ Below w.heap.size w w'))
  have CW := Lib.hid (fun V (hV : Below w.heap.size w V) => (RLevels_keep (cl := cm) M (-1) V (hM.below hV) hg).mono fun e w' ⟨he, hb⟩ => (⟨he, hb, hV.trans (hb.mono hV.size)⟩ : _ ∧ Below V.heap.size V w' ∧ Below w.heap.size w w'))
  have CE0 := Lib.hid (fun V (hV : Below w.heap.size w V) => ((Error_is 0 0 true V (hE.next hV) (by simp) : Calls Tryd.prog 17 #[.nilIface, .int .i64 0] V _)).mono fun e w' ⟨he, hb⟩ => (⟨he, hb, hV.trans (hb.mono hV.size)⟩ : _ ∧ Below V.heap.size V w' ∧ Below w.heap.size w w'))
  have l1 : (castL (fromL s)).length = 6 := by rw [length_castL, fromL_len]
  have CS := Lib.hid (fun V (hV : Below w.heap.size w V) B B2 c3 c4 (h1 : IntsAt V B (castL (fromL s))) (h2 : IntsAt V B2 (castL (fromL s))) => (sameInts (castL (fromL s)) l1 V B B2 c3 c4 h1 h2).mono fun e w' ⟨he, hb⟩ => (⟨he, hb, hV.trans (hb.mono hV.size)⟩ : _ ∧ Below V.heap.size V w' ∧ Below w.heap.size w w'))
  have CF := Lib.hid (fun V (hV : Below w.heap.size w V) => (From_ok (c := c) (h.below (B := 0) hV) hc hs).mono fun e w' ⟨he, hb⟩ => (⟨he, hb, hV.trans (hb.mono hV.size)⟩ : _ ∧ Below V.heap.size V w' ∧ Below w.heap.size w w'))
  have CEf := fun V (hV : Below w.heap.size w V) => Error_is fk fk true V (hE.next hV) (by simp)
  rw [errVal_pos hnfk] at CEf
  have CEf := Lib.hid (fun V (hV : Below w.heap.size w V) => (CEf V hV).mono fun e w' ⟨he, hb⟩ => (⟨he, hb, hV.trans (hb.mono hV.size)⟩ : _ ∧ Below V.heap.size V w' ∧ Below w.heap.size w w'))
  have CI := Lib.hid (fun V (hV : Below w.heap.size w V) => (Fits_bad (c := c) (cl := cl) (h.below (B := 0) hV) (hL.below hV) (by unfold fitsCode; rw [if_pos hc, hf]) hnfk).mono fun e w' ⟨he, hb⟩ => (⟨he, hb, hV.trans (hb.mono hV.size)⟩ : _ ∧ Below V.heap.size V w' ∧ Below w.heap.size w w'))
  have dfk : ((fk : Int) == 0) = false := by simp; omega
  have CN := Lib.hid (fun V (hV : Below w.heap.size w V) => (nilInts2 V).mono fun e w' ⟨he, hb⟩ => (⟨he, hb, hV.trans (hb.mono hV.size)⟩ : _ ∧ Below V.heap.size V w' ∧ Below w.heap.size w w'))
  have CB := Lib.hid (fun V (hV : Below w.heap.size w V) => (RFits_any (c := c) (cl := cm) (h.below (B := 0) hV) (hM.below hV) hc (lev_len hg) hs).mono fun e w' ⟨he, hb⟩ => (⟨he, hb, hV.trans (hb.mono hV.size)⟩ : _ ∧ Below V.heap.size V w' ∧ Below w.heap.size w w'))
  rw [ho] at CB
  have CL := Lib.hid (fun V (hV : Below w.heap.size w V) => (FLeast_not (c := c) (cm := cm) (h.below (B := 0) hV) (hM.below hV) hc hg hs (hT.next hV) ho).mono fun e w' ⟨he, hb⟩ => (⟨he, hb, hV.trans (hb.mono hV.size)⟩ : _ ∧ Below V.heap.size V w' ∧ Below w.heap.size w w'))
  have CE6 := Lib.hid (fun V (hV : Below w.heap.size w V) => ((Error_is 6 6 true V (hE.next hV) (by simp) : Calls Tryd.prog 17 #[.iface 62 (.int .i64 6), .int .i64 6] V _)).mono fun e w' ⟨he, hb⟩ => (⟨he, hb, hV.trans (hb.mono hV.size)⟩ : _ ∧ Below V.heap.size V w' ∧ Below w.heap.size w w'))
  clear h hL hM hT hE hc hs hf hg l1 hnfk ho
  generalize L.length = lm at *
  generalize M.length = mm at *
  have hb00 := Below.refl w.heap.size w
  go_enter Tryd.func8, Tryd.ntmps8
  go_wp2_with fail
  refine (C1.out _ hb00).mono ?_
  rintro e w1 ⟨rfl, hb1, hb01⟩
  go_wp2_with fail
  refine (CR.out _ hb01).mono ?_
  rintro e w2 ⟨⟨B2, c2, rfl, ix2⟩, hb2, hb02⟩
  go_wp2_with fail
  refine (CV.out _ hb02).mono ?_
  rintro e w3 ⟨rfl, hb3, hb03⟩
  have ix3 := ix2.below hb3
  go_wp2_with fail
  refine (CW.out _ hb03).mono ?_
  rintro e w4 ⟨rfl, hb4, hb04⟩
  have ix4 := ix3.below hb4
  go_wp2_with fail
  refine (CB.out _ hb04).mono ?_
  rintro e w5 ⟨rfl, hb5, hb05⟩
  have ix5 := ix4.below hb5
  go_wp2_with fail
  refine (CF.out _ hb05).mono ?_
  rintro e w6 ⟨⟨B6, c6, rfl, iy6⟩, hb6, hb06⟩
  have ix6 := ix5.below hb6
  go_wp2_with fail
  refine (CE0.out _ hb06).mono ?_
  rintro e w7 ⟨rfl, hb7, hb07⟩
  have ix7 := ix6.below hb7
  have iy7 := iy6.below hb7
  go_wp2_with fail
  refine (CS.out _ hb07 _ _ _ _ iy7 ix7).mono ?_
  rintro e w8 ⟨rfl, hb8, hb08⟩
  have ix8 := ix7.below hb8
  have iy8 := iy7.below hb8
  go_wp2_with fail
  refine (CI.out _ hb08).mono ?_
  rintro e w9 ⟨rfl, hb9, hb09⟩
  have ix9 := ix8.below hb9
  have iy9 := iy8.below hb9
  go_wp2_with fail
  refine (CEf.out _ hb09).mono ?_
  rintro e w10 ⟨rfl, hb10, hb010⟩
  have ix10 := ix9.below hb10
  have iy10 := iy9.below hb10
  go_wp2_with fail
  refine (CL.out _ hb010).mono ?_
  rintro e w11 ⟨rfl, hb11, hb011⟩
  have ix11 := ix10.below hb11
  have iy11 := iy10.below hb11
  go_wp2_with fail
  refine (CE6.out _ hb011).mono ?_
  rintro e w12 ⟨rfl, hb12, hb012⟩
  have ix12 := ix11.below hb12
  have iy12 := iy11.below hb12
  go_wp2_with fail
  refine (CN.out _ hb012).mono ?_
  rintro e w13 ⟨rfl, hb13, hb013⟩
  have ix13 := ix12.below hb13
  have iy13 := iy12.below hb13
  go_wp2_with fail
  go_ret
  exact ⟨ret_bool (by simp), hb013⟩

set_option maxHeartbeats 4000000 in
theorem FlowSays_bad_bad (h : NodesAt w A P n) (hL : IntsAt w Al L) (hM : IntsAt w Am M) (hT : Tab w) (hE : ErrT w) (hc : progCode P n = 0) (hs : IsSt P (n - 1) s) {fk : Nat} (hf : levCode L 0 = fk) (hnfk : fk ≠ 0) {gk : Nat} (hg : levCode M (-1) = gk) (hngk : gk ≠ 0) :
    Calls Tryd.prog 8 #[.slice A n c, .slice Al L.length cl, .slice Am M.length cm] w fun e w' => e = .returned (.bool true) ∧ Below w.heap.size w w' := by
  have C1 := Lib.hid (fun V (hV : Below w.heap.size w V) => ((RProg_any (c := c) (h.below (B := 0) hV))).mono fun e w' ⟨he, hb⟩ => (⟨he, hb, hV.trans (hb.mono hV.size)⟩ : _ ∧ Below V.heap.size V w' ∧ Below w.heap.size w w'))
  rw [hc] at C1
  have CR := Lib.hid (fun V (hV : Below w.heap.size w V) => (RFrom_tree (c := c) (h.below (B := 0) hV) hc hs).mono fun e w' ⟨he, hb⟩ => (⟨he, hb, hV.trans (hb.mono hV.size)⟩ : _ ∧ Below V.heap.size V w' ∧ Below w.heap.size w w'))
  have CV := Lib.hid (fun V (hV : Below w.heap.size w V) => (RLevels_keep (cl := cl) L 0 V (hL.below hV) hf).mono fun e w' ⟨he, hb⟩ => (⟨he, hb, hV.trans (hb.mono hV.size)⟩ : _ ∧ Below V.heap.size V w' ∧ Below w.heap.size w w'))
  have CW := Lib.hid (fun V (hV : Below w.heap.size w V) => (RLevels_keep (cl := cm) M (-1) V (hM.below hV) hg).mono fun e w' ⟨he, hb⟩ => (⟨he, hb, hV.trans (hb.mono hV.size)⟩ : _ ∧ Below V.heap.size V w' ∧ Below w.heap.size w w'))
  have CE0 := Lib.hid (fun V (hV : Below w.heap.size w V) => ((Error_is 0 0 true V (hE.next hV) (by simp) : Calls Tryd.prog 17 #[.nilIface, .int .i64 0] V _)).mono fun e w' ⟨he, hb⟩ => (⟨he, hb, hV.trans (hb.mono hV.size)⟩ : _ ∧ Below V.heap.size V w' ∧ Below w.heap.size w w'))
  have l1 : (castL (fromL s)).length = 6 := by rw [length_castL, fromL_len]
  have CS := Lib.hid (fun V (hV : Below w.heap.size w V) B B2 c3 c4 (h1 : IntsAt V B (castL (fromL s))) (h2 : IntsAt V B2 (castL (fromL s))) => (sameInts (castL (fromL s)) l1 V B B2 c3 c4 h1 h2).mono fun e w' ⟨he, hb⟩ => (⟨he, hb, hV.trans (hb.mono hV.size)⟩ : _ ∧ Below V.heap.size V w' ∧ Below w.heap.size w w'))
  have CF := Lib.hid (fun V (hV : Below w.heap.size w V) => (From_ok (c := c) (h.below (B := 0) hV) hc hs).mono fun e w' ⟨he, hb⟩ => (⟨he, hb, hV.trans (hb.mono hV.size)⟩ : _ ∧ Below V.heap.size V w' ∧ Below w.heap.size w w'))
  have CEf := fun V (hV : Below w.heap.size w V) => Error_is fk fk true V (hE.next hV) (by simp)
  rw [errVal_pos hnfk] at CEf
  have CEf := Lib.hid (fun V (hV : Below w.heap.size w V) => (CEf V hV).mono fun e w' ⟨he, hb⟩ => (⟨he, hb, hV.trans (hb.mono hV.size)⟩ : _ ∧ Below V.heap.size V w' ∧ Below w.heap.size w w'))
  have CI := Lib.hid (fun V (hV : Below w.heap.size w V) => (Fits_bad (c := c) (cl := cl) (h.below (B := 0) hV) (hL.below hV) (by unfold fitsCode; rw [if_pos hc, hf]) hnfk).mono fun e w' ⟨he, hb⟩ => (⟨he, hb, hV.trans (hb.mono hV.size)⟩ : _ ∧ Below V.heap.size V w' ∧ Below w.heap.size w w'))
  have dfk : ((fk : Int) == 0) = false := by simp; omega
  have CN := Lib.hid (fun V (hV : Below w.heap.size w V) => (nilInts2 V).mono fun e w' ⟨he, hb⟩ => (⟨he, hb, hV.trans (hb.mono hV.size)⟩ : _ ∧ Below V.heap.size V w' ∧ Below w.heap.size w w'))
  have CEg := fun V (hV : Below w.heap.size w V) => Error_is gk gk true V (hE.next hV) (by simp)
  rw [errVal_pos hngk] at CEg
  have CEg := Lib.hid (fun V (hV : Below w.heap.size w V) => (CEg V hV).mono fun e w' ⟨he, hb⟩ => (⟨he, hb, hV.trans (hb.mono hV.size)⟩ : _ ∧ Below V.heap.size V w' ∧ Below w.heap.size w w'))
  have CL := Lib.hid (fun V (hV : Below w.heap.size w V) => (Least_bad (c := c) (cl := cm) (h.below (B := 0) hV) (hM.below hV) (by unfold leastCode; rw [if_pos hc, hg]) hngk).mono fun e w' ⟨he, hb⟩ => (⟨he, hb, hV.trans (hb.mono hV.size)⟩ : _ ∧ Below V.heap.size V w' ∧ Below w.heap.size w w'))
  have dgk : ((gk : Int) == 0) = false := by simp; omega
  clear h hL hM hT hE hc hs hf hg l1 hnfk hngk
  generalize L.length = lm at *
  generalize M.length = mm at *
  have hb00 := Below.refl w.heap.size w
  go_enter Tryd.func8, Tryd.ntmps8
  go_wp2_with fail
  refine (C1.out _ hb00).mono ?_
  rintro e w1 ⟨rfl, hb1, hb01⟩
  go_wp2_with fail
  refine (CR.out _ hb01).mono ?_
  rintro e w2 ⟨⟨B2, c2, rfl, ix2⟩, hb2, hb02⟩
  go_wp2_with fail
  refine (CV.out _ hb02).mono ?_
  rintro e w3 ⟨rfl, hb3, hb03⟩
  have ix3 := ix2.below hb3
  go_wp2_with fail
  refine (CW.out _ hb03).mono ?_
  rintro e w4 ⟨rfl, hb4, hb04⟩
  have ix4 := ix3.below hb4
  go_wp2_with fail
  refine (CF.out _ hb04).mono ?_
  rintro e w5 ⟨⟨B5, c5, rfl, iy5⟩, hb5, hb05⟩
  have ix5 := ix4.below hb5
  go_wp2_with fail
  refine (CE0.out _ hb05).mono ?_
  rintro e w6 ⟨rfl, hb6, hb06⟩
  have ix6 := ix5.below hb6
  have iy6 := iy5.below hb6
  go_wp2_with fail
  refine (CS.out _ hb06 _ _ _ _ iy6 ix6).mono ?_
  rintro e w7 ⟨rfl, hb7, hb07⟩
  have ix7 := ix6.below hb7
  have iy7 := iy6.below hb7
  go_wp2_with fail
  refine (CI.out _ hb07).mono ?_
  rintro e w8 ⟨rfl, hb8, hb08⟩
  have ix8 := ix7.below hb8
  have iy8 := iy7.below hb8
  go_wp2_with fail
  refine (CEf.out _ hb08).mono ?_
  rintro e w9 ⟨rfl, hb9, hb09⟩
  have ix9 := ix8.below hb9
  have iy9 := iy8.below hb9
  go_wp2_with fail
  refine (CL.out _ hb09).mono ?_
  rintro e w10 ⟨rfl, hb10, hb010⟩
  have ix10 := ix9.below hb10
  have iy10 := iy9.below hb10
  go_wp2_with fail
  refine (CEg.out _ hb010).mono ?_
  rintro e w11 ⟨rfl, hb11, hb011⟩
  have ix11 := ix10.below hb11
  have iy11 := iy10.below hb11
  go_wp2_with fail
  refine (CN.out _ hb011).mono ?_
  rintro e w12 ⟨rfl, hb12, hb012⟩
  have ix12 := ix11.below hb12
  have iy12 := iy11.below hb12
  go_wp2_with fail
  go_ret
  exact ⟨ret_bool (by simp), hb012⟩

end

theorem FlowSays_walk (n : Nat) (P : List Int) (A : Option Addr) (c : Nat) {W : World} (hn : P.length = n * 5) (hP : IntsAt W A P) (sP : n * 5 < 2 ^ 47) (bP : ∀ x ∈ P, I64 x) (L : List Int) (Al : Option Addr) (cl : Nat) (hL : IntsAt W Al L) (sL : L.length < 2 ^ 47) (bL : ∀ x ∈ L, I64 x) (M : List Int) (Am : Option Addr) (cm : Nat) (hM : IntsAt W Am M) (sM : M.length < 2 ^ 47) (bM : ∀ x ∈ M, I64 x) (w : World) (hw : w = W) (hT : Tab W) (hE : ErrT W) :
    Calls Tryd.prog 8 #[.slice A n c, .slice Al L.length cl, .slice Am M.length cm] w fun e w' => e = .returned (.bool true) ∧ Below W.heap.size W w' := by
  subst hw
  have h : NodesAt w A P n := ⟨hP, hn, by omega⟩
  by_cases hc : progCode P n = 0
  · obtain ⟨-, -, s, hs⟩ := progCode_tree hc
    by_cases hf : levCode L 0 = 0
    · by_cases hg : levCode M (-1) = 0
      · cases ho : okTo M (fromL s) 6 with
        | true => exact FlowSays_ok_ok h hL hM hT hE hc hs hf hg ho
        | false => exact FlowSays_ok_not h hL hM hT hE hc hs hf hg ho
      · exact FlowSays_ok_bad h hL hM hT hE hc hs hf rfl hg
    · by_cases hg : levCode M (-1) = 0
      · cases ho : okTo M (fromL s) 6 with
        | true => exact FlowSays_bad_ok h hL hM hT hE hc hs rfl hf hg ho
        | false => exact FlowSays_bad_not h hL hM hT hE hc hs rfl hf hg ho
      · exact FlowSays_bad_bad h hL hM hT hE hc hs rfl hf rfl hg
  · exact FlowSays_bad h hL hM hT hE rfl hc
end Go.Proofs.YthaaekpnemhjoaaDoor
