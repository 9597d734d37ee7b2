/-
  Contract: desk.Run.
-/
import Derived.Test.YtanlmfnhlldkeaaGreatDoorDkI
namespace Go.Proofs.YtanlmfnhlldkeaaGreatDoor
open Go.RowKit
attribute [local go_sem] Oper.semAt_some
attribute [local simp, local go_sem] wide_fn
set_option maxRecDepth 100000
set_option linter.unusedVariables false

theorem linesL_mem : ∀ {t x : List UInt8}, x ∈ linesL t → x.length ≤ t.length
  | [], x, h => by cases h
  | c :: t, x, h => by
    unfold linesL at h
    split at h
    · rcases List.mem_cons.1 h with rfl | h
      · simp
      · exact Nat.le_succ_of_le (linesL_mem h)
    · split at h
      · rcases List.mem_cons.1 h with rfl | h
        · simp
        · cases h
      · rename_i y r e
        rcases List.mem_cons.1 h with rfl | h
        · have := linesL_mem (t := t) (x := y) (by rw [e]; exact List.mem_cons_self ..)
          simp; omega
        · exact Nat.le_succ_of_le (linesL_mem (by rw [e]; exact List.mem_cons_of_mem _ h))
theorem linesL_few : ∀ t : List UInt8, (linesL t).length ≤ t.length
  | [] => Nat.le_refl _
  | c :: t => by
    have ih := linesL_few t
    unfold linesL
    split
    · simp; omega
    · split
      · simp
      · rename_i y r e
        rw [e] at ih
        simp at ih ⊢
        omega
theorem trim_len (l p : List UInt8) : (Lib.trimSuffix l p).length ≤ l.length := by
  unfold Lib.trimSuffix
  split
  · rw [List.length_take]; exact Nat.min_le_right ..
  · exact Nat.le_refl _
theorem strB (l m : List UInt8) : Lib.byteCells l ++ Lib.strCells ⟨m.toArray⟩ = Lib.byteCells (l ++ m) := by rw [Lib.byteCells_append]; rfl
def trimB (x : ByteArray) : List UInt8 := Lib.trimSuffix x.data.toList [10]
theorem trim_lines (s : ByteArray) : (linesB s).map trimB = lineL s.data.toList := by
  unfold linesB lineL
  rw [List.map_map]
  refine List.map_congr_left fun l _ => ?_
  show Lib.trimSuffix (⟨l.toArray⟩ : ByteArray).data.toList [10] = _
  rw [ba_of]
theorem dLines_snoc (a : List (List UInt8)) (y : List UInt8) (D : DS) : dLines D (a ++ [y]) = ((dLine (dLines D a).1 y).1, ((dLines D a).2 ++ (dLine (dLines D a).1 y).2) ++ [10]) := by
  rw [dLines_append, dLines, dLines]
  simp
set_option maxHeartbeats 16000000 in
theorem Run_any {w : World} (hG : Glob w) (s : ByteArray) : Calls Tryz.prog 21 #[.string s] w fun e w' => e = .returned (.string ⟨(dRun s.data.toList).toArray⟩) ∧ Below w.heap.size w w' := by
  unfold dRun
  rw [← ba_size]
  by_cases hs : 3000 < s.size
  · rw [if_pos hs]
    have g0 : decide ((s.size : Int) > 3000) = true := by simp; omega
    clear hs
    go_enter Tryz.func21, Tryz.ntmps21
    go_wp2_with fail
    go_ret
    exact ⟨rfl, Below.refl _ _⟩
  · rw [if_neg hs]
    refine (callsIn_wide (n := 8)).1 ?_
    have g0 : decide ((s.size : Int) > 3000) = false := by simp; omega
    have hs3 : s.size ≤ 3000 := by omega
    obtain ⟨W1, hW1⟩ : ∃ W1, ((w.alloc (.cells #[.slice none 0 0, .slice none 0 0, .pointer none] 94)).alloc (.cells #[.pointer none, .slice none 0 0] 82)) = W1 := ⟨_, rfl⟩
    have hr0 : BoxN W1 w.heap.size 94 #[.slice none 0 0, .slice none 0 0, .pointer none] := by rw [← hW1]; exact (BoxN.new w _ _).alloc _
    have hr1 : BoxN W1 (w.heap.size + 1) 82 #[.pointer none, .slice none 0 0] := by rw [← hW1]; exact BoxN.new' _ _ _ _ (by simp)
    have hb1 : Below w.heap.size w W1 := by rw [← hW1]; exact ((Below.refl _ _).alloc (Nat.le_refl _) _).alloc (by simp) _
    have Hs1 := Lib.hid (show W1.heap.size = w.heap.size + 2 by rw [← hW1]; simp)
    clear hs
    refine callsIn_of_wp_marks Tryz.func21 rfl trivial ?_ rfl
    simp only [Tryz.ntmps21, List.size_toArray, List.length_cons, List.length_nil, Nat.reduceAdd, Nat.reduceSub, Array.replicate_succ, Array.replicate_zero, List.push_toArray, List.append_toArray, List.nil_append, List.cons_append]
    gi_wp2_with fail
    try rw [hW1]
    clear hW1
    refine (callsIn_wide.2 (Lines_any s W1)).mono ?_
    rintro e w4 ⟨rfl, rfl⟩
    have hs1 := Hs1.out
    have hbX : Below W1.heap.size W1 (W1.alloc (.cells #[.string s] 9)) := (Below.refl _ _).alloc (Nat.le_refl _) _
    have hxd : BoxN (W1.alloc (.cells #[.string s] 9)) W1.heap.size 9 #[.string s] := BoxN.new _ _ _
    have hsX : (W1.alloc (.cells #[.string s] 9)).heap.size = W1.heap.size + 1 := by simp
    generalize W1.alloc (.cells #[.string s] 9) = X at *
    have hbwX := hb1.trans (hbX.mono hb1.size)
    have hRun0 : RunSt w W1.heap.size w.heap.size (w.heap.size + 1) dNew [] (fun k => k = w.heap.size) (.slice none 0 0) X := by
      refine ⟨⟨.slice none 0 0, .slice none 0 0, .pointer none, fun _ => False, hr0.all hbX, OwnL.nil _ _, OwnL.nil _ _, DOk.new, rfl, fun g hg => by simp [Value.ownBlock] at hg, fun g hg => by simp [Value.ownBlock] at hg, fun g hg => hg.elim, fun g hg => by omega, fun g hg => by omega, .inl ⟨rfl, rfl, fun g hg => hg⟩⟩, ?_, .inl ⟨hr1.all hbX, ⟨rfl, .inl ⟨rfl, rfl⟩⟩⟩, by omega, by omega, by simp [Value.ownBlock], by omega, fun g hg => by simp [Value.ownBlock] at hg, by omega, fun g hg => by simp [Value.ownBlock] at hg, hbwX, by omega⟩
      rintro k rfl
      exact ⟨_, hr0.all hbX, rfl⟩
    have hX0 : w.heap.size + 2 < X.heap.size := by omega
    have hC1 : w.heap.size ≤ W1.heap.size := hb1.size
    clear hr0 hr1 hbX hsX hb1 hbwX hs1 Hs1
    generalize W1.heap.size = C at *
    gi_wp2_with fail
    refine wp_lines1 (by decide) 5 (C := C) (s := s) rfl hxd (by omega)
      (fun pre Y => ∃ own vo, RunSt w C w.heap.size (w.heap.size + 1) (dLines dNew (pre.map trimB)).1 (dLines dNew (pre.map trimB)).2 own vo Y)
      (fun cd _ Y => False)
      ?hI ?hIx ?h0 ?assign ?body ?done ?stop
    case hI =>
      rintro pre Y Y' row ⟨own, vo, h⟩ hg hr
      exact ⟨own, vo, h.but (by omega) hC1 hg hr⟩
    case hIx => rintro cd pre Y Y' row h; exact h.elim
    case h0 => exact ⟨_, _, hRun0⟩
    case assign =>
      intro l x Y K hK
      gi_wp2
      exact hK
    case body =>
      rintro l pre x Y ⟨own, vo, h⟩ hok
      clear hRun0
      have hmem : x ∈ linesB s := hok.subset (by simp)
      have hlen : (pre ++ [x]).length ≤ 3000 := by
        have h1 := hok.length_le
        have h2 := linesL_few s.data.toList
        unfold linesB at h1
        rw [List.length_map] at h1
        rw [← ba_size] at h2
        omega
      rw [List.length_append, List.length_singleton] at hlen
      have hxs : x.size ≤ 3000 := by
        unfold linesB at hmem
        obtain ⟨y, hy, rfl⟩ := List.mem_map.1 hmem
        have := linesL_mem hy
        rw [← ba_size] at this
        rw [ba_size, ba_of]
        omega
      have hsn := dLines_snoc (pre.map trimB) (trimB x) dNew
      have hout := lines_len (pre.map trimB) DOk.new
      rw [List.length_map] at hout
      have HSn := Lib.hid (show dLines dNew ((pre ++ [x]).map trimB) = ((dLine (dLines dNew (pre.map trimB)).1 (trimB x)).1, ((dLines dNew (pre.map trimB)).2 ++ (dLine (dLines dNew (pre.map trimB)).1 (trimB x)).2) ++ [10]) by rw [List.map_append]; exact hsn)
      have CT := Lib.hid (show Calls Tryz.prog 45 #[.string x, .string ⟨#[10]⟩] Y fun e w' => e = .returned (.string ⟨(trimB x).toArray⟩) ∧ w' = Y from Tryz.strings_TrimSuffix x ⟨#[10]⟩ Y (by omega))
      have hts : (⟨(trimB x).toArray⟩ : ByteArray).size ≤ 3000 := by
        rw [ba_size, ba_of]
        have := trim_len x.data.toList [10]
        rw [← ba_size] at this
        unfold trimB
        omega
      have CL := Line_any hG h.bw h.dk ⟨(trimB x).toArray⟩ hts
      rw [ba_of] at CL
      have HL := Lib.hid CL
      have Hst := Lib.hid h
      have hout2 := line_len h.dk.ok (trimB x)
      clear CL h hsn hok hmem hts hxs
      generalize dLines dNew (pre.map trimB) = DL at *
      generalize trimB x = tx at *
      gi_wp2_with fail
      refine (callsIn_wide.2 CT.out).mono ?_
      rintro e w5 ⟨rfl, hw5⟩
      obtain rfl : Y = w5 := hw5.symm
      clear hw5
      gi_wp2_with fail
      refine (callsIn_wide.2 HL.out).mono ?_
      intro e w6 hp
      obtain ⟨own6, h6, hq6⟩ := Hst.out.line hp
      obtain rfl := hp.1
      have hKF := keepsFrom_of (B := X.heap.size) hq6 Hst.out.ce
      have hKC : KeepC C Y w6 := hq6.block C Hst.out.cl Hst.out.nC
      clear hp HL CT hq6
      have hsz6 : (⟨(dLine DL.1 tx).2.toArray⟩ : ByteArray).size = (dLine DL.1 tx).2.length := by rw [ba_size, ba_of]
      have CW := Lib.hid (SbString_any ⟨(dLine DL.1 tx).2.toArray⟩ h6.sb (by rw [Lib.byteCells_length, hsz6]; omega))
      have H6 := Lib.hid h6
      clear h6 Hst
      gi_wp2_with fail
      refine (callsIn_wide.2 CW.out).mono ?_
      rintro e w7 ⟨rfl, v7, hS7, hg7, hq7⟩
      rw [strB] at hS7
      have h7 := H6.out.wrote hS7 hg7 hq7
      have hKF7 := keepsFrom_of (B := X.heap.size) hq7 H6.out.sb.cellsIn
      have hKC7 := H6.out.keepC hq7
      have CB := Lib.hid (SbByte_any 10 h7.sb (by rw [Lib.byteCells_length, List.length_append]; omega))
      have H7 := Lib.hid h7
      clear h7 CW hS7 hg7 hq7
      gi_wp2_with fail
      refine (callsIn_wide.2 CB.out).mono ?_
      rintro e w8 ⟨rfl, v8, hS8, hg8, hq8⟩
      have hb10 : Lib.byteCells (DL.2 ++ (dLine DL.1 tx).2) ++ [.int .u8 10] = Lib.byteCells ((DL.2 ++ (dLine DL.1 tx).2) ++ [10]) := by rw [Lib.byteCells_append (DL.2 ++ (dLine DL.1 tx).2) [10]]; rfl
      rw [hb10] at hS8
      have h8 := H7.out.wrote hS8 hg8 hq8
      have hKF8 := keepsFrom_of (B := X.heap.size) hq8 H7.out.sb.cellsIn
      have hKC8 := H7.out.keepC hq8
      gi_wp2_with fail
      refine ⟨(hKF.trans hKF7).trans hKF8, (hKC8.trans hKC7).trans hKC, own6, v8, ?_⟩
      rw [HSn.out]
      exact h8
    case done =>
      rintro Dm Z hD ⟨own, vo, h⟩ hK
      rw [trim_lines] at h
      have CS := Lib.hid (SbText_any h.sb)
      have H := Lib.hid h
      clear h hRun0
      gi_wp2_with fail
      refine (callsIn_wide.2 CS.out).mono ?_
      rintro e w5 ⟨rfl, hS5, hq5⟩
      gi_wp2_with fail
      have hbZ := hq5.to_below (B := w.heap.size) (w0 := w) (fun k hk => H.out.vl k hk) H.out.bw H.out.bw.size
      have hK5 : w5.heap[Dm]? = some (.deferred (some [])) := by
        rw [hq5.block Dm (Array.getElem?_eq_some_iff.1 hK).1 (fun e => by
          obtain ⟨o, ho, hy⟩ := H.out.sb.cellsIn Dm (.inr e)
          rw [hK] at ho
          injection ho with ho
          subst ho
          cases hy)]
        exact hK
      refine leaves_marks (B := w.heap.size) [Dm] _ (MarksAt.nil.cons (by omega) (by simp) hK5) fun w' hsc hb' _ => ?_
      exact ⟨_, results_tmp rfl _ _ _, rfl, hbZ.trans hb'⟩
    case stop =>
      intros
      rename_i h _
      exact h.elim
end Go.Proofs.YtanlmfnhlldkeaaGreatDoor
