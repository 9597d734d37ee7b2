/-
  Contract: take.act: a new vertex.
-/
import Derived.Test.YtpfmllpodjcldaaDoorTakeP
namespace Go.Proofs.YtpfmllpodjcldaaDoor
open Go.RowKit
set_option maxRecDepth 100000
set_option linter.unusedVariables false
theorem intInfo1 : (Tryd.prog.info? 3).map (fun i => (i.zero, i.size, i.bytes)) = some (some (.int .i64 0), 1, 8) := by kernel_rfl
theorem run_makeInts (n : Nat) (hn : n ≤ 1000) (V : World) : (Instr.makeSlice 36 (.int .i64 ((n : Int) + 1)) (.int .i64 ((n : Int) + 1))).run Tryd.prog V = .ok (.slice (some ⟨V.heap.size, 0, none⟩) (n + 1) (n + 1)) (V.alloc (.cells (madeCells #[Value.int .i64 0] (n + 1)) 3)) := by
  obtain ⟨ti, hi, hz0, hz1, hz2⟩ := info_parts intInfo1
  have := run_make (P := Tryd.prog) (w := V) 36 3 ti _ Tryd.underlying36 hi hz0 .i64 .i64 ((n : Int) + 1) ((n : Int) + 1) (by omega) (Int.le_refl _) (by rw [hz2]; omega) (by omega)
  rw [hz1, show ((n : Int) + 1).toNat = n + 1 by omega, Nat.mul_one] at this
  exact this
theorem ints_made (w w' : World) (B n : Nat) (hB : B ≤ w.heap.size) (hn : n ≤ 1000) (h : w'.heap[w.heap.size]? = some (.cells (madeCells #[Value.int .i64 0] n) 3 (0, 0))) : OwnI w' B (.slice (some ⟨w.heap.size, 0, none⟩) n n) (List.replicate n 0) := by
  unfold OwnI
  rw [List.length_replicate]
  refine ⟨by simp, .inr ⟨w.heap.size, n, _, rfl, hB, h, Nat.le_refl _, by unfold maxLen; omega, by simp [madeCells], ?_⟩⟩
  rw [toList_madeCells_one, Nat.mul_one, List.take_of_length_le (by simp), List.map_replicate]
theorem int_ne_step : (3 : TypeId) ≠ 65 := by decide
theorem rows_ne_step : (36 : TypeId) ≠ 65 := by decide

section
variable {B : Nat} {w : World} {A : Option Addr} {n c : Nat} {L : List (List Int)}
set_option maxHeartbeats 8000000 in
theorem Act_new {who : Nat} {o t r : Int} (h : GridAt B w (.slice A n c) L) (hok : GOk L) (hn : L.length = n) (hB : B ≤ w.heap.size) (hw : who < n) (h20 : n < 20) :
    Calls Tryd.prog 35 #[.slice A n c, .agg #[.int .i64 2, .int .i64 who, .int .i64 o, .int .i64 t, .int .i64 r]] w fun e w' => (∃ A' c', e = .returned (.tuple #[.slice A' (n + 1) c', .nilIface]) ∧ GridAt B w' (.slice A' (n + 1) c') (newL L who)) ∧ Below B w w' := by
  have W1 := Lib.hid (fun V => Within3_is 2 0 2 true V (by simp))
  have W2 := Lib.hid (fun V => Within3_is (who : Int) 0 ((n : Int) - 1) true V (decide_eq_true (by omega)))
  have dn : ((n : Int) == 20) = false := by simp; omega
  have hb0 := (Below.refl B w).alloc hB (.cells #[.int .i64 2, .int .i64 who, .int .i64 o, .int .i64 t, .int .i64 r] 65)
  have hg0 := h.below ((Below.refl w.heap.size w).alloc (Nat.le_refl _) (.cells #[.int .i64 2, .int .i64 who, .int .i64 o, .int .i64 t, .int .i64 r] 65))
  have hbx := BoxN.new w 65 #[.int .i64 2, .int .i64 who, .int .i64 o, .int .i64 t, .int .i64 r]
  have x0 := hbx.cell (k := 0) rfl
  have x1 := hbx.cell (k := 1) rfl
  have Hok := Lib.hid hok
  have Hmk := Lib.hid (fun V => run_makeInts n (by omega) V)
  clear h hok
  go_enter Tryd.func35, Tryd.ntmps35
  go_wp2_with (first | (with_reducible refine (W1.out _).mono ?_; rintro e w' ⟨rfl, rfl⟩) | (with_reducible refine (W2.out _).mono ?_; rintro e w' ⟨rfl, rfl⟩))
  generalize w.alloc (.cells #[.int .i64 2, .int .i64 who, .int .i64 o, .int .i64 t, .int .i64 r] 65) = w1 at *
  obtain ⟨pb, hpb⟩ : ∃ pb, w.heap.size = pb := ⟨_, rfl⟩
  rw [hpb] at hbx x0 x1 hB
  have Hpb := Lib.hid hpb
  rw [hpb]
  clear hpb x0 x1
  go_loopw [35] (fun i wr => ∃ k : Nat, k ≤ n ∧ i = .int .i64 k ∧ GridAt B wr (.slice A n c) (ext0 L k) ∧ BoxN wr pb 65 #[.int .i64 2, .int .i64 who, .int .i64 o, .int .i64 t, .int .i64 r] ∧ Below B w wr ∧ Hid (B ≤ wr.heap.size)) (fun i _ => n - (intOf i).toNat)
  case atStart => exact ⟨0, Nat.zero_le _, rfl, hg0, hbx, hb0, Lib.hid (by have := hbx.lt; omega)⟩
  case round =>
    clear hg0 hbx hb0
    obtain ⟨k, hk, rfl, hg, hbx, hbr, hsB⟩ := hrel
    have hll : (ext0 L k).length = n := by rw [length_ext0]; exact hn
    by_cases hlt : k < n
    · obtain ⟨bo, co, x, hv, hbo, hbl, cx, hfz, hox, hxo, _, hput⟩ := hg.row (i := k) (by omega)
      injection hv with hv1 hv2 hv3
      subst hv1
      have hbb : pb ≠ bo := fun e => by
        obtain ⟨xs, h1, _⟩ := hg
        exact own_ne_box h1 hbx rows_ne_step (by rw [e]; rfl)
      have hxb := own_ne_box hox hbx int_ne_step
      have hrl : ((ext0 L k).getD k []).length = n := by rw [row_ext0 L k (by omega), if_neg (by omega)]; rw [Hok.out.row k (by omega), hn]
      obtain ⟨Ax, cc, hxv, _⟩ := hox.form
      rw [hrl] at hxv
      subst hxv
      have Hput := Lib.hid hput
      have Hgx := Lib.hid hxo
      have Hxb := Lib.hid hxb
      have Hext := Lib.hid (show ext0 L (k + 1) = (ext0 L k).set k ((ext0 L k).getD k [] ++ [0]) from rfl)
      have hrl2 : ((ext0 L k).getD k [] ++ [0]).length = n + 1 := by rw [List.length_append, hrl]; rfl
      have hf := hfz k
      clear hput hg hv2 hv3 hxo hxb hfz hll
      generalize (ext0 L k).getD k [] = l at *
      have HBX := Lib.hid hbx
      have hln : l.length < 2 ^ 40 := by omega
      have hsB2 := hsB.out
      clear hbx
      go_wp2_with (at_builtin; refine wpList_push_int rfl _ _ rfl (base := B) (v := .slice Ax n cc) rfl (hox.next ((Below.refl _ wr).alloc (Nat.le_refl _) _)) wr.heap.size (0 : Int) rfl (cell_of_row _ _ 0 _ _ _ (heap_alloc_new wr _)) hln (by simp; omega) ?_; intro v2 w4 ho4 hg4 hv4 hbl4; obtain ⟨A2, c2, hv2e, _⟩ := ho4.form; rw [hrl2] at hv2e; subst hv2e; have hb4 := hbl4 _ (hbr.alloc hsB2 (.cells #[.int .i64 0] 3)); have hk4 : ∀ b, b < wr.heap.size → Value.ownBlock (.slice Ax n cc) ≠ some b → w4.heap[b]? = wr.heap[b]? := (fun b h1 h2 => (hg4.block b (by simp; omega) (fun e => h2 e.symm)).trans (Below.heap_alloc wr _ b h1)); have cx4 : w4.cell? ⟨bo, k, none⟩ = some (.slice Ax n cc) := ((World.cell?_of_block (hk4 bo hbl Hgx.out) : w4.cell? ⟨bo, k, none⟩ = wr.cell? ⟨bo, k, none⟩).trans cx); have hf4 : w4.frozen? ⟨bo, k, none⟩ = false := ((by simp only [World.frozen?, hk4 bo hbl Hgx.out] : w4.frozen? ⟨bo, k, none⟩ = wr.frozen? ⟨bo, k, none⟩).trans hf))
      refine ⟨⟨k + 1, ?ya, ?yb, ?yc, ?ye, ?yf, ?yg⟩, ?yd⟩
      case ya => omega
      case yb => go_num
      case yc =>
        rw [Hext.out]
        refine Hput.out w4 _ _ (Nat.le_trans (by simp) hg4.size) hk4 ho4 (fun g hg => ?_)
        rcases hv4 with e | e
        · exact .inl (by rw [← e]; exact hg)
        · rw [hg] at e
          injection e with e
          exact .inr (by rw [e]; simp)
      case ye => exact BoxN.other ((hk4 pb HBX.out.lt Hxb.out).trans HBX.out) (a := ⟨bo, k, none⟩) hbb _
      case yf => exact hb4.setCell (p := ⟨bo, k, none⟩) hbo _
      case yg => exact Lib.hid (by have := hg4.size; simp at this ⊢; omega)
      case yd => simp [intOf]; omega
    · obtain rfl : k = n := by omega
      obtain ⟨bo, co, x, hv, hbo, hbl, cx, hfz, hox, hxo, hst, _⟩ := hg.row (i := who) (by omega)
      injection hv with hv1 hv2 hv3
      subst hv1
      have hrl : ((ext0 L k).getD who []).length = k + 1 := by rw [row_ext0 L k (by omega), if_pos hw, List.length_append, Hok.out.row who (by omega), hn]; rfl
      obtain ⟨g, cc, hxv, hgB, hgl, cg, hfg⟩ := hox.cellAt (j := k) (by omega)
      have hHst := hst g k cc 3 hxv
      have hgp : g ≠ pb := fun e => own_ne_box hox hbx int_ne_step (by rw [hxv, e]; rfl)
      rw [hrl] at hxv
      subst hxv
      have hHst2 : GridAt B (wr.setCell ⟨g, k, none⟩ (.int .i64 3)) (.slice (some ⟨bo, 0, none⟩) k c) (setG (ext0 L k) who k 3) := hHst
      have Hst := Lib.hid hHst2
      have Hnew := Lib.hid (show newL L who = setG (ext0 L k) who k 3 ++ [List.replicate (k + 1) 0] by unfold newL; rw [hn])
      have hb5 := hbr.setCell (p := ⟨g, k, none⟩) hgB (.int .i64 3)
      have hx1 := hbx.cell (k := 1) rfl
      clear hst hHst hHst2 hox hxo hg hv2 hv3 hrl hfz
      generalize nI ((ext0 L k).getD who []) k = y at *
      have hmk := Hmk.out
      have hs5 : B ≤ (wr.setCell ⟨g, k, none⟩ (.int .i64 3)).heap.size := by simpa using hsB.out
      generalize hW5 : wr.setCell ⟨g, k, none⟩ (.int .i64 3) = w5 at *
      obtain ⟨xs, q1, q2, q3⟩ := Hst.out
      have hsl : (setG (ext0 L k) who k 3).length = k := by rw [length_setG, length_ext0, hn]
      have HQ2 := Lib.hid q2
      have hbl5 : bo < w5.heap.size := by rw [← hW5]; simpa using hbl
      have Hbl5 := Lib.hid hbl5
      have Hs5 := Lib.hid hs5
      have HQ3 := Lib.hid q3
      have Hsl := Lib.hid hsl
      rw [hsl] at q1
      have HQ1 := Lib.hid q1
      generalize hO6 : Obj.cells (madeCells #[Value.int .i64 0] (k + 1)) 3 = O6
      generalize hO7 : Obj.cells #[.slice (some ⟨w5.heap.size, 0, none⟩) (k + 1) (k + 1)] 36 = O7
      have hs6 : (w5.alloc O6).heap.size = w5.heap.size + 1 := by simp
      have c7 : ((w5.alloc O6).alloc O7).cell? ⟨w5.heap.size + 1, 0, none⟩ = some (.slice (some ⟨w5.heap.size, 0, none⟩) (k + 1) (k + 1)) := by
        rw [← hs6, ← hO7]; exact cell_of_row _ _ 0 _ _ _ (heap_alloc_new _ _)
      have hb6 := (Below.refl w5.heap.size w5).alloc (Nat.le_refl _) O6
      have hb7 := hb6.alloc (by rw [hs6]; omega) O7
      have o7 : ((w5.alloc O6).alloc O7).heap[w5.heap.size]? = some O6 := (Below.heap_alloc _ _ _ (by rw [hs6]; omega)).trans (heap_alloc_new w5 O6)
      have hs7 : ((w5.alloc O6).alloc O7).heap.size = w5.heap.size + 2 := by simp
      have hmk5 := hmk w5
      rw [hO6] at hmk5
      have q7 := ownsRow_below q1 hb7 (Nat.le_refl _)
      generalize hW7 : (w5.alloc O6).alloc O7 = w7 at *
      have Hk := Lib.hid (show k ≤ 1000 by omega)
      have Hb7 := Lib.hid hb7
      have Hb5 := Lib.hid hb5
      have Hs7 := Lib.hid hs7
      have Ho7 := Lib.hid o7
      clear hs6 hb6 hb7 o7 q2 q3 q1 hsl Hst hmk hb5 hs7 hbx hbr
      have dk : decide ((k : Int) < (k : Int)) = false := by simp
      go_wp2_with (at_builtin; refine wpList_push_one eGrid (by decide) rfl _ _ rfl rfl q7 (w5.heap.size + 1) (.slice (some ⟨w5.heap.size, 0, none⟩) (k + 1) (k + 1)) rfl rfl c7 (by have := Hk.out; omega) (by have := Hs7.out; omega) ?_; intro A9 c9 w9 ho9 hg9 hbl9)
      go_ret2
      refine ⟨⟨A9, c9, rfl, ?_⟩, hbl9 w (Hb5.out.trans (Hb7.out.mono Hs5.out))⟩
      rw [Hnew.out]
      refine grid_more Hsl.out HQ1.out HQ2.out HQ3.out ho9 (fun b h1 h2 => (hg9.block b (by have := Hs7.out; omega) (fun e => h2 e.symm)).trans (Hb7.out.block b h1)) ?_ (fun g' hg' => by
        have : w5.heap.size = g' := by simpa [Value.ownBlock] using hg'
        omega)
      refine ints_made w5 w9 B (k + 1) Hs5.out (by have := Hk.out; omega) ?_
      rw [hO6]
      exact (hg9.block w5.heap.size (by have := Hs7.out; omega) (fun e => by
        have : w5.heap.size = bo := Option.some.inj e
        have := Hbl5.out
        omega)).trans Ho7.out
end
end Go.Proofs.YtpfmllpodjcldaaDoor
