/-
  Contract: (*desk.desk).line.
-/
import Derived.Test.YtanlmfnhlldkeaaGreatDoorDkG
import Derived.Deep.RegionHeld3
namespace Go.Proofs.YtanlmfnhlldkeaaGreatDoor
open Go.RowKit
set_option maxRecDepth 100000
set_option linter.unusedVariables false

theorem eStrD : EInfo Tryz.prog 59 9 1 16 := EInfo.of (z := .string .empty) Tryz.underlying59 (by kernel_rfl) rfl (by decide)
theorem run_strs_k (g og n c k : Nat) (h1 : k ≤ n) (h2 : n ≤ c) : ∃ k' c', (k' = k ∨ n ≤ k) ∧ ∀ V : World, (Instr.sliceAt 59 (.slice (some ⟨g, og, none⟩) n c) (some (.int .i64 k)) none none).run Tryz.prog V = .ok (.slice (some ⟨g, og + k', none⟩) (n - k) c') V := by
  have e := Tryz.underlying59
  obtain ⟨i, z, hi, hz, hsize, -⟩ := eStrD.info
  have n1 : ¬ n < k := by omega
  by_cases hc : c = k
  · refine ⟨0, c - k, .inr (by omega), fun V => ?_⟩
    subst hc
    simp [Instr.sliceAt, Instr.slice, Instr.sliceBounds, run_underlying e, sizeOf, typeInfo, hi, go_sem, n1]
  · refine ⟨k, c - k, .inl rfl, fun V => ?_⟩
    simp [Instr.sliceAt, Instr.slice, Instr.sliceBounds, run_underlying e, sizeOf, typeInfo, hi, hsize, go_sem, n1, hc]
theorem run_strs_from (g n c : Nat) (h1 : 1 ≤ n) (h2 : n ≤ c) : ∃ k' c', (k' = 1 ∨ n ≤ 1) ∧ ∀ V : World, (Instr.sliceAt 59 (.slice (some ⟨g, 0, none⟩) n c) (some (.int .i64 1)) none none).run Tryz.prog V = .ok (.slice (some ⟨g, k', none⟩) (n - 1) c') V := by
  obtain ⟨k', c', hk, hV⟩ := run_strs_k g 0 n c 1 h1 h2
  refine ⟨k', c', hk, fun V => ?_⟩
  have := hV V
  rw [Nat.zero_add] at this
  exact this
theorem ltoL (x : ByteArray) : x.toList = x.data.toList := Lib.toList_data x
theorem OwnI.lowD {w : World} {base b0 : Nat} {v : Value} {xs : List Int} (h : OwnI w base v xs) (hb : b0 ≤ base) : OwnI w b0 v xs := by
  have h' : w.ownsRow base 3 1 v xs.length (xs.map (.int .i64)) := h
  refine ⟨h'.1, ?_⟩
  rcases h'.2 with h0 | ⟨g, cap, cur, hv, hg, r⟩
  · exact .inl h0
  · exact .inr ⟨g, cap, cur, hv, Nat.le_trans hb hg, r⟩
theorem numsD_length : ∀ {ls : List (List UInt8)} {l : List Nat}, numsD ls = some l → l.length = ls.length
  | [], l, h => by injection h with h; subst h; rfl
  | x :: r, l, h => by
    rw [numsD] at h
    split at h
    · cases h
    · cases hr : numsD r with
      | none => rw [hr] at h; cases h
      | some l' =>
        rw [hr] at h
        injection h with h
        subst h
        rw [List.length_cons, List.length_cons, numsD_length hr]
section
variable {b : Nat} {own : Nat → Prop} {W0 w : World} {D : DS}
set_option maxHeartbeats 8000000 in
/-- A line of numbers. -/
theorem dLine_rest {x : List UInt8} (h1 : ¬ ((cutL 32 x).length = 2 ∧ (cutL 32 x).getD 0 [] = vUser)) (h2 : ¬ ((cutL 32 x).length = 2 ∧ (cutL 32 x).getD 0 [] = vFile)) (h3 : x ≠ vStart) : dLine D x = dRest D (cutL 32 x) := by
  unfold dLine; rw [if_neg h1, if_neg h2, if_neg h3]
theorem dLine_start {x : List UInt8} (h1 : ¬ ((cutL 32 x).length = 2 ∧ (cutL 32 x).getD 0 [] = vUser)) (h2 : ¬ ((cutL 32 x).length = 2 ∧ (cutL 32 x).getD 0 [] = vFile)) (h3 : x = vStart) : dLine D x = dStart D := by
  unfold dLine; rw [if_neg h1, if_neg h2, if_pos h3]
theorem dLine_user {x : List UInt8} (h1 : (cutL 32 x).length = 2 ∧ (cutL 32 x).getD 0 [] = vUser) : dLine D x = dAddU D ((cutL 32 x).getD 1 []) := by
  unfold dLine; rw [if_pos h1]
theorem dLine_file {x : List UInt8} (h1 : ¬ ((cutL 32 x).length = 2 ∧ (cutL 32 x).getD 0 [] = vUser)) (h2 : (cutL 32 x).length = 2 ∧ (cutL 32 x).getD 0 [] = vFile) : dLine D x = dAddF D ((cutL 32 x).getD 1 []) := by
  unfold dLine; rw [if_neg h1, if_pos h2]
set_option maxHeartbeats 8000000 in
theorem Line_any (hG : Glob W0) (hbW : Below W0.heap.size W0 w) (h : DkAt W0.heap.size own w b D) (s : ByteArray) (hs : s.size ≤ 3000) :
    Calls Tryz.prog 44 #[.pointer (some ⟨b, 0, none⟩), .string s] w (DkPost W0.heap.size own w b (dLine D s.data.toList)) := by
  have CS := Lib.hid (Split_one 32 s (by omega) w)
  have hcut := cutB_map 32 s
  have hn1 : 1 ≤ (cutB 32 s).length := by rw [cutB_length]; omega
  have hnq : (cutB 32 s).length ≤ 3001 := by
    have h1 := Lib.countB_le ⟨#[32]⟩ (Nat.le_refl 1) s.size s (Nat.le_refl _)
    rw [cutB_length]; omega
  have hpc : ∀ x ∈ cutB 32 s, x.size ≤ 3000 := fun x hx => by
    have h1 : x.data.toList ∈ cutL 32 s.data.toList := by rw [← hcut]; exact List.mem_map_of_mem hx
    have h2 := cutL_le 32 _ _ h1
    rw [← ba_size, ← ba_size] at h2
    omega
  generalize cutB 32 s = ws at *
  obtain ⟨n, hn⟩ : ∃ n, ws.length = n := ⟨_, rfl⟩
  rw [hn] at hn1 hnq
  obtain ⟨w1, hw1⟩ : ∃ w1, w.alloc (.cells (ws.map Value.string).toArray 9) = w1 := ⟨_, rfl⟩
  have hb1 : Below w.heap.size w w1 := by rw [← hw1]; exact (Below.refl _ _).alloc (Nat.le_refl _) _
  have hbx : BoxN w1 w.heap.size 9 (ws.map Value.string).toArray := by rw [← hw1]; exact BoxN.new w _ _
  have hcell : ∀ j x, ws[j]? = some x → w1.cell? ⟨w.heap.size, j, none⟩ = some (.string x) := fun j x hx => hbx.cell (by simp [hx])
  obtain ⟨x0, hx0⟩ : ∃ x0, ws[0]? = some x0 := ⟨_, List.getElem?_eq_getElem (by omega)⟩
  have c0 := hcell 0 x0 hx0
  have hd0 : (cutL 32 s.data.toList).getD 0 [] = x0.data.toList := by rw [← hcut, List.getD_eq_getElem?_getD, List.getElem?_map, hx0]; rfl
  have hcl : (cutL 32 s.data.toList).length = n := by rw [← hcut, List.length_map, hn]
  have HA := Lib.hid (fun V (hV : Below w.heap.size w V) (x : ByteArray) (hx : x.size ≤ 3000) => ((AddU_any (h.below hV) (hG.err.next (hbW.trans (hV.mono hbW.size))) (Nat.le_trans hbW.size hV.size) (x := x) (by omega)).mono fun e w' hp => (DkPost.next h hV hp).said : Calls Tryz.prog 58 #[.pointer (some ⟨b, 0, none⟩), .pointer (some ⟨b, 0, none⟩), .int .i64 8, .string x] V fun e w' => e = Ending.returned (.string ⟨(dAddU D x.data.toList).2.toArray⟩) ∧ DkPost W0.heap.size own w b (dAddU D x.data.toList) (Ending.returned (.string ⟨(dAddU D x.data.toList).2.toArray⟩)) w'))
  have HF := Lib.hid (fun V (hV : Below w.heap.size w V) (x : ByteArray) (hx : x.size ≤ 3000) => ((AddF_any (h.below hV) (hG.err.next (hbW.trans (hV.mono hbW.size))) (Nat.le_trans hbW.size hV.size) (x := x) (by omega)).mono fun e w' hp => (DkPost.next h hV hp).said : Calls Tryz.prog 58 #[.pointer (some ⟨b, 0, none⟩), .pointer (some ⟨b, 1, none⟩), .int .i64 8, .string x] V fun e w' => e = Ending.returned (.string ⟨(dAddF D x.data.toList).2.toArray⟩) ∧ DkPost W0.heap.size own w b (dAddF D x.data.toList) (Ending.returned (.string ⟨(dAddF D x.data.toList).2.toArray⟩)) w'))
  have HS := Lib.hid (fun V (hV : Below w.heap.size w V) => ((Start_any (h.below hV) (Nat.le_trans hbW.size hV.size)).mono fun e w' hp => (DkPost.next h hV hp).said : Calls Tryz.prog 59 #[.pointer (some ⟨b, 0, none⟩)] V fun e w' => e = Ending.returned (.string ⟨(dStart D).2.toArray⟩) ∧ DkPost W0.heap.size own w b (dStart D) (Ending.returned (.string ⟨(dStart D).2.toArray⟩)) w'))
  have H := Lib.hid h
  have Hb1 := Lib.hid hb1
  have Hpc := Lib.hid hpc
  clear h hb1 hpc hbx hx0
  rw [hw1, hn] at CS
  go_enter Tryz.func44, Tryz.ntmps44
  go_wp2_with fail
  with_reducible refine CS.out.mono ?_
  rintro e w9 ⟨rfl, hw9⟩
  obtain rfl : w1 = w9 := hw9.symm
  clear hw9
  clear CS
  by_cases h2 : n = 2
  · obtain ⟨x1, hx1⟩ : ∃ x1, ws[1]? = some x1 := ⟨_, List.getElem?_eq_getElem (by omega)⟩
    have c1 := hcell 1 x1 hx1
    have hx1s := Hpc.out x1 (List.mem_of_getElem? hx1)
    have hd1 : (cutL 32 s.data.toList).getD 1 [] = x1.data.toList := by rw [← hcut, List.getD_eq_getElem?_getD, List.getElem?_map, hx1]; rfl
    clear hx1
    have g2 : ((n : Int) == 2) = true := by simp; omega
    have p0 : (0 : Int) < (n : Int) := by omega
    have p1 : (1 : Int) < (n : Int) := by omega
    have q0 : 0 < n := by omega
    have q1 : 1 < n := by omega
    by_cases hu : x0.data.toList = vUser
    · have HE := Lib.hid (dLine_user (D := D) ⟨hcl.trans h2, hd0.trans hu⟩)
      rw [hd1] at HE
      obtain rfl : x0 = ⟨#[117, 115, 101, 114]⟩ := ByteArray.ext (Array.toList_inj.1 hu)
      have hbd : Below w.heap.size w w1.drew := Hb1.out.drew
      have CA := HA.out w1.drew hbd x1 hx1s
      clear HA HF HS hcut hcell hcl hd0 hd1 h2
      go_wp2_with fail
      go_region_with (go_at_call 58; with_reducible refine CA.mono ?_; rintro e w2 ⟨rfl, hp⟩)
      all_goals
        go_wp2_with fail
        go_ret
        rw [HE.out]
        exact hp
    · by_cases hf : x0.data.toList = vFile
      · have HE := Lib.hid (dLine_file (D := D) (fun e => hu (hd0.symm.trans e.2)) ⟨hcl.trans h2, hd0.trans hf⟩)
        rw [hd1] at HE
        obtain rfl : x0 = ⟨#[102, 105, 108, 101]⟩ := ByteArray.ext (Array.toList_inj.1 hf)
        have hbd : Below w.heap.size w w1.drew := Hb1.out.drew
        have CA := HF.out w1.drew hbd x1 hx1s
        clear HA HF HS hcut hcell hcl hd0 hd1 h2
        go_wp2_with fail
        go_region_with (go_at_call 58; with_reducible refine CA.mono ?_; rintro e w2 ⟨rfl, hp⟩)
        all_goals
          go_wp2_with fail
          go_ret
          rw [HE.out]
          exact hp
      · have hU : ¬ ((cutL 32 s.data.toList).length = 2 ∧ (cutL 32 s.data.toList).getD 0 [] = vUser) := fun e => hu (hd0.symm.trans e.2)
        have hF : ¬ ((cutL 32 s.data.toList).length = 2 ∧ (cutL 32 s.data.toList).getD 0 [] = vFile) := fun e => hf (hd0.symm.trans e.2)
        have su0 : ¬ x0.toList = [117, 115, 101, 114] := fun e => hu (by rw [ltoL] at e; exact e)
        have su1 : (x0.toList == [117, 115, 101, 114]) = false := beq_eq_false_iff_ne.2 su0
        have sf0 : ¬ x0.toList = [102, 105, 108, 101] := fun e => hf (by rw [ltoL] at e; exact e)
        have sf1 : (x0.toList == [102, 105, 108, 101]) = false := beq_eq_false_iff_ne.2 sf0
        clear hu hf
        by_cases hst : s.data.toList = vStart
        · rw [hst] at hcl
          have h1 : (cutL 32 vStart).length = 1 := by decide
          omega
        · have HE := Lib.hid (dLine_rest (D := D) hU hF hst)
          have st0 : ¬ s.toList = [115, 116, 97, 114, 116] := fun e => hst (by rw [ltoL] at e; exact e)
          have st1 : (s.toList == [115, 116, 97, 114, 116]) = false := beq_eq_false_iff_ne.2 st0
          obtain ⟨k', c', hk', hsl⟩ := run_strs_from w.heap.size n n hn1 (Nat.le_refl _)
          have hdl : (ws.drop 1).length = n - 1 := by rw [List.length_drop, hn]
          have CN := Lib.hid (Nums_any hG (hbW.trans (Hb1.out.mono hbW.size)) (ws.drop 1) w.heap.size k' c' (fun j x hx => by
              rw [List.getElem?_drop] at hx
              have hlt := (List.getElem?_eq_some_iff.1 hx).1
              rcases hk' with hk' | hk'
              · rw [hk']; exact hcell _ _ hx
              · omega) (by omega) (fun x hx => Nat.le_trans (Hpc.out x (List.mem_of_mem_drop hx)) (by decide)))
          rw [hdl] at CN
          have hmd : (ws.drop 1).map (·.data.toList) = (cutL 32 s.data.toList).drop 1 := by rw [List.map_drop, hcut]
          rw [hmd] at CN
          have HR := Lib.hid (show dRest D (cutL 32 s.data.toList) = (match numsD ((cutL 32 s.data.toList).drop 1) with
              | none => (D, badL)
              | some l => match dAct D x0.data.toList l with
                | none => (D, badL)
                | some r => r) by unfold dRest; rw [hd0]; rfl)
          have hls : ∀ l, numsD ((cutL 32 s.data.toList).drop 1) = some l → l.length ≤ 3000 := fun l hl => by
            rw [numsD_length hl, List.length_drop, hcl]; omega
          have Hls := Lib.hid hls
          clear hls hdl hmd hk' HA HF HS hcut hcell hcl hd0 hst hU hF h2 hd1
          go_wp2_with fail
          with_reducible refine CN.out.mono ?_
          rintro e w2 ⟨hnum, hb2⟩
          have Hb2 := Lib.hid (Hb1.out.trans (hb2.mono Hb1.out.size))
          rcases hnum with ⟨l, A, c, hl, rfl, hown⟩ | ⟨hl, rfl⟩
          · have c02 := (hb2.cell (p := ⟨w.heap.size, 0, none⟩) (block_lt c0)).trans c0
            have CA := Lib.hid (show Calls Tryz.prog 61 #[.pointer (some ⟨b, 0, none⟩), .string x0, .slice A l.length c] w2 (ActPost W0.heap.size own w b (dAct D x0.data.toList l)) from Act_any hG hbW Hb2.out H.out x0.data.toList l (Hls.out l hl) (hown.lowD Hb1.out.size))
            have HR2 := Lib.hid (show dLine D s.data.toList = (match dAct D x0.data.toList l with
                | none => (D, badL)
                | some r => r) by rw [HE.out, HR.out, hl])
            clear hl hown hb2 HE HR Hls CN
            generalize l.length = ll at *
            go_wp2_with fail
            with_reducible refine CA.out.mono ?_
            intro e w3 hp
            cases hr : dAct D x0.data.toList l with
            | none =>
              rw [hr] at hp
              obtain ⟨rfl, hb3⟩ := hp
              have HR3 := Lib.hid (show dLine D s.data.toList = (D, badL) by rw [HR2.out, hr])
              clear HR2 hr
              go_wp2_with fail
              go_ret
              rw [HR3.out]
              exact DkPost.same H.out hb3 _
            | some r =>
              rw [hr] at hp
              obtain ⟨rfl, hp3⟩ := hp
              have HR3 := Lib.hid (show dLine D s.data.toList = r by rw [HR2.out, hr])
              clear HR2 hr
              go_wp2_with fail
              go_ret
              rw [HR3.out]
              exact hp3
          · have HR3 := Lib.hid (show dLine D s.data.toList = (D, badL) by rw [HE.out, HR.out, hl])
            clear hl HE HR Hls CN
            go_wp2_with fail
            go_ret
            rw [HR3.out]
            exact DkPost.same H.out Hb2.out _
  · have hU : ¬ ((cutL 32 s.data.toList).length = 2 ∧ (cutL 32 s.data.toList).getD 0 [] = vUser) := fun e => h2 (hcl.symm.trans e.1)
    have hF : ¬ ((cutL 32 s.data.toList).length = 2 ∧ (cutL 32 s.data.toList).getD 0 [] = vFile) := fun e => h2 (hcl.symm.trans e.1)
    have g2 : ((n : Int) == 2) = false := by simp; omega
    have p0 : (0 : Int) < (n : Int) := by omega
    have q0 : 0 < n := by omega
    clear h2
    by_cases hst : s.data.toList = vStart
    · have HE := Lib.hid (dLine_start (D := D) hU hF hst)
      obtain rfl : s = ⟨#[115, 116, 97, 114, 116]⟩ := ByteArray.ext (Array.toList_inj.1 hst)
      have CT := HS.out w1 Hb1.out
      rw [HE.out]
      go_wp2_with fail
      with_reducible refine CT.mono ?_
      rintro e w2 ⟨rfl, hp⟩
      go_wp2_with fail
      go_ret
      exact hp
    · have HE := Lib.hid (dLine_rest (D := D) hU hF hst)
      have st0 : ¬ s.toList = [115, 116, 97, 114, 116] := fun e => hst (by rw [ltoL] at e; exact e)
      have st1 : (s.toList == [115, 116, 97, 114, 116]) = false := beq_eq_false_iff_ne.2 st0
      obtain ⟨k', c', hk', hsl⟩ := run_strs_from w.heap.size n n hn1 (Nat.le_refl _)
      have hdl : (ws.drop 1).length = n - 1 := by rw [List.length_drop, hn]
      have CN := Lib.hid (Nums_any hG (hbW.trans (Hb1.out.mono hbW.size)) (ws.drop 1) w.heap.size k' c' (fun j x hx => by
          rw [List.getElem?_drop] at hx
          have hlt := (List.getElem?_eq_some_iff.1 hx).1
          rcases hk' with hk' | hk'
          · rw [hk']; exact hcell _ _ hx
          · omega) (by omega) (fun x hx => Nat.le_trans (Hpc.out x (List.mem_of_mem_drop hx)) (by decide)))
      rw [hdl] at CN
      have hmd : (ws.drop 1).map (·.data.toList) = (cutL 32 s.data.toList).drop 1 := by rw [List.map_drop, hcut]
      rw [hmd] at CN
      have HR := Lib.hid (show dRest D (cutL 32 s.data.toList) = (match numsD ((cutL 32 s.data.toList).drop 1) with
          | none => (D, badL)
          | some l => match dAct D x0.data.toList l with
            | none => (D, badL)
            | some r => r) by unfold dRest; rw [hd0]; rfl)
      have hls : ∀ l, numsD ((cutL 32 s.data.toList).drop 1) = some l → l.length ≤ 3000 := fun l hl => by
        rw [numsD_length hl, List.length_drop, hcl]; omega
      have Hls := Lib.hid hls
      clear hls hdl hmd hk' HA HF HS hcut hcell hcl hd0 hst hU hF
      go_wp2_with fail
      with_reducible refine CN.out.mono ?_
      rintro e w2 ⟨hnum, hb2⟩
      have Hb2 := Lib.hid (Hb1.out.trans (hb2.mono Hb1.out.size))
      rcases hnum with ⟨l, A, c, hl, rfl, hown⟩ | ⟨hl, rfl⟩
      · have c02 := (hb2.cell (p := ⟨w.heap.size, 0, none⟩) (block_lt c0)).trans c0
        have CA := Lib.hid (show Calls Tryz.prog 61 #[.pointer (some ⟨b, 0, none⟩), .string x0, .slice A l.length c] w2 (ActPost W0.heap.size own w b (dAct D x0.data.toList l)) from Act_any hG hbW Hb2.out H.out x0.data.toList l (Hls.out l hl) (hown.lowD Hb1.out.size))
        have HR2 := Lib.hid (show dLine D s.data.toList = (match dAct D x0.data.toList l with
            | none => (D, badL)
            | some r => r) by rw [HE.out, HR.out, hl])
        clear hl hown hb2 HE HR Hls CN
        generalize l.length = ll at *
        go_wp2_with fail
        with_reducible refine CA.out.mono ?_
        intro e w3 hp
        cases hr : dAct D x0.data.toList l with
        | none =>
          rw [hr] at hp
          obtain ⟨rfl, hb3⟩ := hp
          have HR3 := Lib.hid (show dLine D s.data.toList = (D, badL) by rw [HR2.out, hr])
          clear HR2 hr
          go_wp2_with fail
          go_ret
          rw [HR3.out]
          exact DkPost.same H.out hb3 _
        | some r =>
          rw [hr] at hp
          obtain ⟨rfl, hp3⟩ := hp
          have HR3 := Lib.hid (show dLine D s.data.toList = r by rw [HR2.out, hr])
          clear HR2 hr
          go_wp2_with fail
          go_ret
          rw [HR3.out]
          exact hp3
      · have HR3 := Lib.hid (show dLine D s.data.toList = (D, badL) by rw [HE.out, HR.out, hl])
        clear hl HE HR Hls CN
        go_wp2_with fail
        go_ret
        rw [HR3.out]
        exact DkPost.same H.out Hb2.out _
end
end Go.Proofs.YtanlmfnhlldkeaaGreatDoor
