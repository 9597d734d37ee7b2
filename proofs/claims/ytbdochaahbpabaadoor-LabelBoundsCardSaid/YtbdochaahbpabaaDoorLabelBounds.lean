/-
  The walk of quietwinglaw1.LabelBounds.
-/
import Derived.Test.YtbdochaahbpabaaDoorLabFact
namespace Go.Proofs.YtbdochaahbpabaaDoor
open Go.RowKit
set_option maxRecDepth 100000

theorem labOk_join {va vb : Int} {sa sb : Nat} (ha : labOk va sa) (hb : labOk vb sb) : labOk (max va vb) ((sa ||| sb : Nat) : Int) := by
  obtain ⟨h1, h2, _, h4⟩ := ha
  obtain ⟨h5, h6, _, h8⟩ := hb
  have h := Nat.or_lt_two_pow (n := 8) (x := sa) (y := sb) (by omega) (by omega)
  exact ⟨by omega, by omega, by omega, by omega⟩
theorem labOk_meet {va vb : Int} {sa sb : Nat} (ha : labOk va sa) (hb : labOk vb sb) : labOk (min va vb) ((sa &&& sb : Nat) : Int) := by
  obtain ⟨h1, h2, _, h4⟩ := ha
  obtain ⟨h5, h6, _, h8⟩ := hb
  have h := Nat.and_lt_two_pow sa (n := 8) (y := sb) (by omega)
  exact ⟨by omega, by omega, by omega, by omega⟩
theorem box_new {w : World} {vs : Array Value} {t : TypeId} {k b : Nat} {v : Value} (hb : w.heap.size = b) (h : vs[k]? = some v) : (w.alloc (.cells vs t)).cell? ⟨b, k, none⟩ = some v := by
  subst hb
  unfold World.cell?
  rw [heap_alloc_new]
  exact h
theorem box_old {w : World} {o : Obj} {p : Addr} {v : Value} (h : w.cell? p = some v) : (w.alloc o).cell? p = some v :=
  (((Below.refl w.heap.size w).alloc (Nat.le_refl _) o).cell (block_lt h)).trans h
theorem bounds_law (va vb vc : Int) (sa sb sc : Nat) :
    (decide (va ≤ max va vb) && within sa (sa ||| sb)) = true ∧ (decide (vb ≤ max va vb) && within sb (sa ||| sb)) = true ∧
    (decide (min va vb ≤ va) && within (sa &&& sb) sa) = true ∧ (decide (min va vb ≤ vb) && within (sa &&& sb) sb) = true ∧
    (decide (max va vb ≤ vc) && within (sa ||| sb) sc) = ((decide (va ≤ vc) && within sa sc) && (decide (vb ≤ vc) && within sb sc)) ∧
    (decide (vc ≤ min va vb) && within sc (sa &&& sb)) = ((decide (vc ≤ va) && within sc sa) && (decide (vc ≤ vb) && within sc sb)) := by
  refine ⟨?_, ?_, ?_, ?_, Bool.eq_iff_iff.2 ?_, Bool.eq_iff_iff.2 ?_⟩
  all_goals simp only [Bool.and_eq_true, decide_eq_true_eq, within_iff, Nat.testBit_or, Nat.testBit_and, Bool.or_eq_true]
  · exact ⟨by omega, fun i h => .inl h⟩
  · exact ⟨by omega, fun i h => .inr h⟩
  · exact ⟨by omega, fun i h => h.1⟩
  · exact ⟨by omega, fun i h => h.2⟩
  · constructor
    · rintro ⟨h1, h2⟩; exact ⟨⟨by omega, fun i h => h2 i (.inl h)⟩, by omega, fun i h => h2 i (.inr h)⟩
    · rintro ⟨⟨h1, h2⟩, h3, h4⟩; exact ⟨by omega, fun i h => h.elim (h2 i) (h4 i)⟩
  · constructor
    · rintro ⟨h1, h2⟩; exact ⟨⟨by omega, fun i h => (h2 i h).1⟩, by omega, fun i h => (h2 i h).2⟩
    · rintro ⟨⟨h1, h2⟩, h3, h4⟩; exact ⟨by omega, fun i h => ⟨h2 i h, h4 i h⟩⟩

set_option maxHeartbeats 2000000 in
theorem LabelBounds_ok (va vb vc : Int) (sa sb sc : Nat) (ha : labOk va sa) (hb : labOk vb sb) (hc' : labOk vc sc) (w : World) (hT : Tab w) :
    Calls Tryd.prog 5 #[.agg #[.int .i64 va, .int .i64 sa], .agg #[.int .i64 vb, .int .i64 sb], .agg #[.int .i64 vc, .int .i64 sc]] w fun e w' => e = .returned (.bool true) ∧ Below w.heap.size w w' := by
  have H1 := Lib.hid (fun W => Join_ok va vb sa sb W ha hb)
  have H2 := Lib.hid (fun W => Meet_ok va vb sa sb W ha hb)
  have hj := labOk_join ha hb
  have hm := labOk_meet ha hb
  have HL := Lib.hid (bounds_law va vb vc sa sb sc)
  generalize max va vb = vj at *
  generalize (sa ||| sb) = sj at *
  generalize min va vb = vm at *
  generalize (sa &&& sb) = sm at *
  have H3 := Lib.hid (fun W => Below_ok va vj sa sj W ha hj)
  rw [HL.out.1] at H3
  have H4 := Lib.hid (fun W => Below_ok vb vj sb sj W hb hj)
  rw [HL.out.2.1] at H4
  have H5 := Lib.hid (fun W => Below_ok vm va sm sa W hm ha)
  rw [HL.out.2.2.1] at H5
  have H6 := Lib.hid (fun W => Below_ok vm vb sm sb W hm hb)
  rw [HL.out.2.2.2.1] at H6
  have H7 := Lib.hid (fun W => Below_ok va vc sa sc W ha hc')
  have H8 := Lib.hid (fun W => Below_ok vb vc sb sc W hb hc')
  have H9 := Lib.hid (fun W => Below_ok vj vc sj sc W hj hc')
  have H10 := Lib.hid (fun W => Below_ok vc va sc sa W hc' ha)
  have H11 := Lib.hid (fun W => Below_ok vc vb sc sb W hc' hb)
  have H12 := Lib.hid (fun W => Below_ok vc vm sc sm W hc' hm)
  rw [HL.out.2.2.2.2.1] at H9
  rw [HL.out.2.2.2.2.2] at H12
  clear HL ha hb hc' hj hm
  generalize (decide (va ≤ vc) && within sa sc) = p at *
  generalize (decide (vb ≤ vc) && within sb sc) = q at *
  generalize (decide (vc ≤ va) && within sc sa) = x at *
  generalize (decide (vc ≤ vb) && within sc sb) = y at *
  go_enter Tryd.func5, Tryd.ntmps5
  have hTb : Tab (((w.alloc (.cells #[.int .i64 (va), .int .i64 ((sa : Int))] 23)).alloc (.cells #[.int .i64 (vb), .int .i64 ((sb : Int))] 23)).alloc (.cells #[.int .i64 (vc), .int .i64 ((sc : Int))] 23)) := Tab.next hT ((((Below.refl _ w).alloc (by simp; try omega) _).alloc (by simp; try omega) _).alloc (by simp; try omega) _)
  clear hT
  go_wp2_with fail
  refine (labelFact_any _ hTb).mono ?_
  rintro e w1 ⟨rfl, hb⟩
  have hx : Below w.heap.size w w1 := ((((Below.refl _ w).alloc (by simp; try omega) _).alloc (by simp; try omega) _).alloc (by simp; try omega) _).trans (hb.mono (by simp; try omega))
  have k0_0 : w1.cell? ⟨w.heap.size, 0, none⟩ = some (.int .i64 (va)) := (hb.cell (p := ⟨w.heap.size, 0, none⟩) (by simp; try omega)).trans (box_old (box_old (box_new (by simp) (by rfl))))
  have k0_1 : w1.cell? ⟨w.heap.size, 1, none⟩ = some (.int .i64 ((sa : Int))) := (hb.cell (p := ⟨w.heap.size, 1, none⟩) (by simp; try omega)).trans (box_old (box_old (box_new (by simp) (by rfl))))
  have l0 : w.heap.size < w1.heap.size := block_lt k0_0
  have k1_0 : w1.cell? ⟨w.heap.size + 1, 0, none⟩ = some (.int .i64 (vb)) := (hb.cell (p := ⟨w.heap.size + 1, 0, none⟩) (by simp; try omega)).trans (box_old (box_new (by simp) (by rfl)))
  have k1_1 : w1.cell? ⟨w.heap.size + 1, 1, none⟩ = some (.int .i64 ((sb : Int))) := (hb.cell (p := ⟨w.heap.size + 1, 1, none⟩) (by simp; try omega)).trans (box_old (box_new (by simp) (by rfl)))
  have l1 : w.heap.size + 1 < w1.heap.size := block_lt k1_0
  have k2_0 : w1.cell? ⟨w.heap.size + 1 + 1, 0, none⟩ = some (.int .i64 (vc)) := (hb.cell (p := ⟨w.heap.size + 1 + 1, 0, none⟩) (by simp; try omega)).trans (box_new (by simp) (by rfl))
  have k2_1 : w1.cell? ⟨w.heap.size + 1 + 1, 1, none⟩ = some (.int .i64 ((sc : Int))) := (hb.cell (p := ⟨w.heap.size + 1 + 1, 1, none⟩) (by simp; try omega)).trans (box_new (by simp) (by rfl))
  have l2 : w.heap.size + 1 + 1 < w1.heap.size := block_lt k2_0
  have hT := hx
  clear hx hb
  clear hTb
  go_wp2_with fail
  refine (H1.out _).mono ?_
  rintro e w2 ⟨rfl, hb⟩
  have hx : Below w1.heap.size w1 w2 := (Below.refl _ w1).trans (hb.mono (by simp; try omega))
  have k0_0 : w2.cell? ⟨w.heap.size, 0, none⟩ = some (.int .i64 (va)) := (hx.cell (block_lt k0_0)).trans k0_0
  have k0_1 : w2.cell? ⟨w.heap.size, 1, none⟩ = some (.int .i64 ((sa : Int))) := (hx.cell (block_lt k0_1)).trans k0_1
  have l0 : w.heap.size < w2.heap.size := block_lt k0_0
  have k1_0 : w2.cell? ⟨w.heap.size + 1, 0, none⟩ = some (.int .i64 (vb)) := (hx.cell (block_lt k1_0)).trans k1_0
  have k1_1 : w2.cell? ⟨w.heap.size + 1, 1, none⟩ = some (.int .i64 ((sb : Int))) := (hx.cell (block_lt k1_1)).trans k1_1
  have l1 : w.heap.size + 1 < w2.heap.size := block_lt k1_0
  have k2_0 : w2.cell? ⟨w.heap.size + 1 + 1, 0, none⟩ = some (.int .i64 (vc)) := (hx.cell (block_lt k2_0)).trans k2_0
  have k2_1 : w2.cell? ⟨w.heap.size + 1 + 1, 1, none⟩ = some (.int .i64 ((sc : Int))) := (hx.cell (block_lt k2_1)).trans k2_1
  have l2 : w.heap.size + 1 + 1 < w2.heap.size := block_lt k2_0
  replace hT := hT.trans (hx.mono hT.size)
  clear hx hb
  go_wp2_with fail
  refine (H2.out _).mono ?_
  rintro e w3 ⟨rfl, hb⟩
  have hx : Below w2.heap.size w2 w3 := ((Below.refl _ w2).alloc (by simp; try omega) _).trans (hb.mono (by simp; try omega))
  have k0_0 : w3.cell? ⟨w.heap.size, 0, none⟩ = some (.int .i64 (va)) := (hx.cell (block_lt k0_0)).trans k0_0
  have k0_1 : w3.cell? ⟨w.heap.size, 1, none⟩ = some (.int .i64 ((sa : Int))) := (hx.cell (block_lt k0_1)).trans k0_1
  have l0 : w.heap.size < w3.heap.size := block_lt k0_0
  have k1_0 : w3.cell? ⟨w.heap.size + 1, 0, none⟩ = some (.int .i64 (vb)) := (hx.cell (block_lt k1_0)).trans k1_0
  have k1_1 : w3.cell? ⟨w.heap.size + 1, 1, none⟩ = some (.int .i64 ((sb : Int))) := (hx.cell (block_lt k1_1)).trans k1_1
  have l1 : w.heap.size + 1 < w3.heap.size := block_lt k1_0
  have k2_0 : w3.cell? ⟨w.heap.size + 1 + 1, 0, none⟩ = some (.int .i64 (vc)) := (hx.cell (block_lt k2_0)).trans k2_0
  have k2_1 : w3.cell? ⟨w.heap.size + 1 + 1, 1, none⟩ = some (.int .i64 ((sc : Int))) := (hx.cell (block_lt k2_1)).trans k2_1
  have l2 : w.heap.size + 1 + 1 < w3.heap.size := block_lt k2_0
  have k3_0 : w3.cell? ⟨w2.heap.size, 0, none⟩ = some (.int .i64 (vj)) := (hb.cell (p := ⟨w2.heap.size, 0, none⟩) (by simp; try omega)).trans (box_new (by simp) (by rfl))
  have k3_1 : w3.cell? ⟨w2.heap.size, 1, none⟩ = some (.int .i64 ((sj : Int))) := (hb.cell (p := ⟨w2.heap.size, 1, none⟩) (by simp; try omega)).trans (box_new (by simp) (by rfl))
  have l3 : w2.heap.size < w3.heap.size := block_lt k3_0
  replace hT := hT.trans (hx.mono hT.size)
  clear hx hb
  go_wp2_with fail
  refine (H3.out _).mono ?_
  rintro e w4 ⟨rfl, hb⟩
  have hx : Below w3.heap.size w3 w4 := ((Below.refl _ w3).alloc (by simp; try omega) _).trans (hb.mono (by simp; try omega))
  have k0_0 : w4.cell? ⟨w.heap.size, 0, none⟩ = some (.int .i64 (va)) := (hx.cell (block_lt k0_0)).trans k0_0
  have k0_1 : w4.cell? ⟨w.heap.size, 1, none⟩ = some (.int .i64 ((sa : Int))) := (hx.cell (block_lt k0_1)).trans k0_1
  have l0 : w.heap.size < w4.heap.size := block_lt k0_0
  have k1_0 : w4.cell? ⟨w.heap.size + 1, 0, none⟩ = some (.int .i64 (vb)) := (hx.cell (block_lt k1_0)).trans k1_0
  have k1_1 : w4.cell? ⟨w.heap.size + 1, 1, none⟩ = some (.int .i64 ((sb : Int))) := (hx.cell (block_lt k1_1)).trans k1_1
  have l1 : w.heap.size + 1 < w4.heap.size := block_lt k1_0
  have k2_0 : w4.cell? ⟨w.heap.size + 1 + 1, 0, none⟩ = some (.int .i64 (vc)) := (hx.cell (block_lt k2_0)).trans k2_0
  have k2_1 : w4.cell? ⟨w.heap.size + 1 + 1, 1, none⟩ = some (.int .i64 ((sc : Int))) := (hx.cell (block_lt k2_1)).trans k2_1
  have l2 : w.heap.size + 1 + 1 < w4.heap.size := block_lt k2_0
  have k3_0 : w4.cell? ⟨w2.heap.size, 0, none⟩ = some (.int .i64 (vj)) := (hx.cell (block_lt k3_0)).trans k3_0
  have k3_1 : w4.cell? ⟨w2.heap.size, 1, none⟩ = some (.int .i64 ((sj : Int))) := (hx.cell (block_lt k3_1)).trans k3_1
  have l3 : w2.heap.size < w4.heap.size := block_lt k3_0
  have k4_0 : w4.cell? ⟨w3.heap.size, 0, none⟩ = some (.int .i64 (vm)) := (hb.cell (p := ⟨w3.heap.size, 0, none⟩) (by simp; try omega)).trans (box_new (by simp) (by rfl))
  have k4_1 : w4.cell? ⟨w3.heap.size, 1, none⟩ = some (.int .i64 ((sm : Int))) := (hb.cell (p := ⟨w3.heap.size, 1, none⟩) (by simp; try omega)).trans (box_new (by simp) (by rfl))
  have l4 : w3.heap.size < w4.heap.size := block_lt k4_0
  replace hT := hT.trans (hx.mono hT.size)
  clear hx hb
  go_wp2_with fail
  refine (H4.out _).mono ?_
  rintro e w5 ⟨rfl, hb⟩
  have hx : Below w4.heap.size w4 w5 := (Below.refl _ w4).trans (hb.mono (by simp; try omega))
  have k0_0 : w5.cell? ⟨w.heap.size, 0, none⟩ = some (.int .i64 (va)) := (hx.cell (block_lt k0_0)).trans k0_0
  have k0_1 : w5.cell? ⟨w.heap.size, 1, none⟩ = some (.int .i64 ((sa : Int))) := (hx.cell (block_lt k0_1)).trans k0_1
  have l0 : w.heap.size < w5.heap.size := block_lt k0_0
  have k1_0 : w5.cell? ⟨w.heap.size + 1, 0, none⟩ = some (.int .i64 (vb)) := (hx.cell (block_lt k1_0)).trans k1_0
  have k1_1 : w5.cell? ⟨w.heap.size + 1, 1, none⟩ = some (.int .i64 ((sb : Int))) := (hx.cell (block_lt k1_1)).trans k1_1
  have l1 : w.heap.size + 1 < w5.heap.size := block_lt k1_0
  have k2_0 : w5.cell? ⟨w.heap.size + 1 + 1, 0, none⟩ = some (.int .i64 (vc)) := (hx.cell (block_lt k2_0)).trans k2_0
  have k2_1 : w5.cell? ⟨w.heap.size + 1 + 1, 1, none⟩ = some (.int .i64 ((sc : Int))) := (hx.cell (block_lt k2_1)).trans k2_1
  have l2 : w.heap.size + 1 + 1 < w5.heap.size := block_lt k2_0
  have k3_0 : w5.cell? ⟨w2.heap.size, 0, none⟩ = some (.int .i64 (vj)) := (hx.cell (block_lt k3_0)).trans k3_0
  have k3_1 : w5.cell? ⟨w2.heap.size, 1, none⟩ = some (.int .i64 ((sj : Int))) := (hx.cell (block_lt k3_1)).trans k3_1
  have l3 : w2.heap.size < w5.heap.size := block_lt k3_0
  have k4_0 : w5.cell? ⟨w3.heap.size, 0, none⟩ = some (.int .i64 (vm)) := (hx.cell (block_lt k4_0)).trans k4_0
  have k4_1 : w5.cell? ⟨w3.heap.size, 1, none⟩ = some (.int .i64 ((sm : Int))) := (hx.cell (block_lt k4_1)).trans k4_1
  have l4 : w3.heap.size < w5.heap.size := block_lt k4_0
  replace hT := hT.trans (hx.mono hT.size)
  clear hx hb
  go_wp2_with fail
  refine (H5.out _).mono ?_
  rintro e w6 ⟨rfl, hb⟩
  have hx : Below w5.heap.size w5 w6 := (Below.refl _ w5).trans (hb.mono (by simp; try omega))
  have k0_0 : w6.cell? ⟨w.heap.size, 0, none⟩ = some (.int .i64 (va)) := (hx.cell (block_lt k0_0)).trans k0_0
  have k0_1 : w6.cell? ⟨w.heap.size, 1, none⟩ = some (.int .i64 ((sa : Int))) := (hx.cell (block_lt k0_1)).trans k0_1
  have l0 : w.heap.size < w6.heap.size := block_lt k0_0
  have k1_0 : w6.cell? ⟨w.heap.size + 1, 0, none⟩ = some (.int .i64 (vb)) := (hx.cell (block_lt k1_0)).trans k1_0
  have k1_1 : w6.cell? ⟨w.heap.size + 1, 1, none⟩ = some (.int .i64 ((sb : Int))) := (hx.cell (block_lt k1_1)).trans k1_1
  have l1 : w.heap.size + 1 < w6.heap.size := block_lt k1_0
  have k2_0 : w6.cell? ⟨w.heap.size + 1 + 1, 0, none⟩ = some (.int .i64 (vc)) := (hx.cell (block_lt k2_0)).trans k2_0
  have k2_1 : w6.cell? ⟨w.heap.size + 1 + 1, 1, none⟩ = some (.int .i64 ((sc : Int))) := (hx.cell (block_lt k2_1)).trans k2_1
  have l2 : w.heap.size + 1 + 1 < w6.heap.size := block_lt k2_0
  have k3_0 : w6.cell? ⟨w2.heap.size, 0, none⟩ = some (.int .i64 (vj)) := (hx.cell (block_lt k3_0)).trans k3_0
  have k3_1 : w6.cell? ⟨w2.heap.size, 1, none⟩ = some (.int .i64 ((sj : Int))) := (hx.cell (block_lt k3_1)).trans k3_1
  have l3 : w2.heap.size < w6.heap.size := block_lt k3_0
  have k4_0 : w6.cell? ⟨w3.heap.size, 0, none⟩ = some (.int .i64 (vm)) := (hx.cell (block_lt k4_0)).trans k4_0
  have k4_1 : w6.cell? ⟨w3.heap.size, 1, none⟩ = some (.int .i64 ((sm : Int))) := (hx.cell (block_lt k4_1)).trans k4_1
  have l4 : w3.heap.size < w6.heap.size := block_lt k4_0
  replace hT := hT.trans (hx.mono hT.size)
  clear hx hb
  go_wp2_with fail
  refine (H6.out _).mono ?_
  rintro e w7 ⟨rfl, hb⟩
  have hx : Below w6.heap.size w6 w7 := (Below.refl _ w6).trans (hb.mono (by simp; try omega))
  have k0_0 : w7.cell? ⟨w.heap.size, 0, none⟩ = some (.int .i64 (va)) := (hx.cell (block_lt k0_0)).trans k0_0
  have k0_1 : w7.cell? ⟨w.heap.size, 1, none⟩ = some (.int .i64 ((sa : Int))) := (hx.cell (block_lt k0_1)).trans k0_1
  have l0 : w.heap.size < w7.heap.size := block_lt k0_0
  have k1_0 : w7.cell? ⟨w.heap.size + 1, 0, none⟩ = some (.int .i64 (vb)) := (hx.cell (block_lt k1_0)).trans k1_0
  have k1_1 : w7.cell? ⟨w.heap.size + 1, 1, none⟩ = some (.int .i64 ((sb : Int))) := (hx.cell (block_lt k1_1)).trans k1_1
  have l1 : w.heap.size + 1 < w7.heap.size := block_lt k1_0
  have k2_0 : w7.cell? ⟨w.heap.size + 1 + 1, 0, none⟩ = some (.int .i64 (vc)) := (hx.cell (block_lt k2_0)).trans k2_0
  have k2_1 : w7.cell? ⟨w.heap.size + 1 + 1, 1, none⟩ = some (.int .i64 ((sc : Int))) := (hx.cell (block_lt k2_1)).trans k2_1
  have l2 : w.heap.size + 1 + 1 < w7.heap.size := block_lt k2_0
  have k3_0 : w7.cell? ⟨w2.heap.size, 0, none⟩ = some (.int .i64 (vj)) := (hx.cell (block_lt k3_0)).trans k3_0
  have k3_1 : w7.cell? ⟨w2.heap.size, 1, none⟩ = some (.int .i64 ((sj : Int))) := (hx.cell (block_lt k3_1)).trans k3_1
  have l3 : w2.heap.size < w7.heap.size := block_lt k3_0
  have k4_0 : w7.cell? ⟨w3.heap.size, 0, none⟩ = some (.int .i64 (vm)) := (hx.cell (block_lt k4_0)).trans k4_0
  have k4_1 : w7.cell? ⟨w3.heap.size, 1, none⟩ = some (.int .i64 ((sm : Int))) := (hx.cell (block_lt k4_1)).trans k4_1
  have l4 : w3.heap.size < w7.heap.size := block_lt k4_0
  replace hT := hT.trans (hx.mono hT.size)
  clear hx hb
  go_wp2_with fail
  refine (H7.out _).mono ?_
  rintro e w8 ⟨rfl, hb⟩
  have hx : Below w7.heap.size w7 w8 := (Below.refl _ w7).trans (hb.mono (by simp; try omega))
  have k0_0 : w8.cell? ⟨w.heap.size, 0, none⟩ = some (.int .i64 (va)) := (hx.cell (block_lt k0_0)).trans k0_0
  have k0_1 : w8.cell? ⟨w.heap.size, 1, none⟩ = some (.int .i64 ((sa : Int))) := (hx.cell (block_lt k0_1)).trans k0_1
  have l0 : w.heap.size < w8.heap.size := block_lt k0_0
  have k1_0 : w8.cell? ⟨w.heap.size + 1, 0, none⟩ = some (.int .i64 (vb)) := (hx.cell (block_lt k1_0)).trans k1_0
  have k1_1 : w8.cell? ⟨w.heap.size + 1, 1, none⟩ = some (.int .i64 ((sb : Int))) := (hx.cell (block_lt k1_1)).trans k1_1
  have l1 : w.heap.size + 1 < w8.heap.size := block_lt k1_0
  have k2_0 : w8.cell? ⟨w.heap.size + 1 + 1, 0, none⟩ = some (.int .i64 (vc)) := (hx.cell (block_lt k2_0)).trans k2_0
  have k2_1 : w8.cell? ⟨w.heap.size + 1 + 1, 1, none⟩ = some (.int .i64 ((sc : Int))) := (hx.cell (block_lt k2_1)).trans k2_1
  have l2 : w.heap.size + 1 + 1 < w8.heap.size := block_lt k2_0
  have k3_0 : w8.cell? ⟨w2.heap.size, 0, none⟩ = some (.int .i64 (vj)) := (hx.cell (block_lt k3_0)).trans k3_0
  have k3_1 : w8.cell? ⟨w2.heap.size, 1, none⟩ = some (.int .i64 ((sj : Int))) := (hx.cell (block_lt k3_1)).trans k3_1
  have l3 : w2.heap.size < w8.heap.size := block_lt k3_0
  have k4_0 : w8.cell? ⟨w3.heap.size, 0, none⟩ = some (.int .i64 (vm)) := (hx.cell (block_lt k4_0)).trans k4_0
  have k4_1 : w8.cell? ⟨w3.heap.size, 1, none⟩ = some (.int .i64 ((sm : Int))) := (hx.cell (block_lt k4_1)).trans k4_1
  have l4 : w3.heap.size < w8.heap.size := block_lt k4_0
  replace hT := hT.trans (hx.mono hT.size)
  clear hx hb
  go_wp2_with fail
  refine (H8.out _).mono ?_
  rintro e w9 ⟨rfl, hb⟩
  have hx : Below w8.heap.size w8 w9 := (Below.refl _ w8).trans (hb.mono (by simp; try omega))
  have k0_0 : w9.cell? ⟨w.heap.size, 0, none⟩ = some (.int .i64 (va)) := (hx.cell (block_lt k0_0)).trans k0_0
  have k0_1 : w9.cell? ⟨w.heap.size, 1, none⟩ = some (.int .i64 ((sa : Int))) := (hx.cell (block_lt k0_1)).trans k0_1
  have l0 : w.heap.size < w9.heap.size := block_lt k0_0
  have k1_0 : w9.cell? ⟨w.heap.size + 1, 0, none⟩ = some (.int .i64 (vb)) := (hx.cell (block_lt k1_0)).trans k1_0
  have k1_1 : w9.cell? ⟨w.heap.size + 1, 1, none⟩ = some (.int .i64 ((sb : Int))) := (hx.cell (block_lt k1_1)).trans k1_1
  have l1 : w.heap.size + 1 < w9.heap.size := block_lt k1_0
  have k2_0 : w9.cell? ⟨w.heap.size + 1 + 1, 0, none⟩ = some (.int .i64 (vc)) := (hx.cell (block_lt k2_0)).trans k2_0
  have k2_1 : w9.cell? ⟨w.heap.size + 1 + 1, 1, none⟩ = some (.int .i64 ((sc : Int))) := (hx.cell (block_lt k2_1)).trans k2_1
  have l2 : w.heap.size + 1 + 1 < w9.heap.size := block_lt k2_0
  have k3_0 : w9.cell? ⟨w2.heap.size, 0, none⟩ = some (.int .i64 (vj)) := (hx.cell (block_lt k3_0)).trans k3_0
  have k3_1 : w9.cell? ⟨w2.heap.size, 1, none⟩ = some (.int .i64 ((sj : Int))) := (hx.cell (block_lt k3_1)).trans k3_1
  have l3 : w2.heap.size < w9.heap.size := block_lt k3_0
  have k4_0 : w9.cell? ⟨w3.heap.size, 0, none⟩ = some (.int .i64 (vm)) := (hx.cell (block_lt k4_0)).trans k4_0
  have k4_1 : w9.cell? ⟨w3.heap.size, 1, none⟩ = some (.int .i64 ((sm : Int))) := (hx.cell (block_lt k4_1)).trans k4_1
  have l4 : w3.heap.size < w9.heap.size := block_lt k4_0
  replace hT := hT.trans (hx.mono hT.size)
  clear hx hb
  go_wp2_with fail
  refine (H9.out _).mono ?_
  rintro e w10 ⟨rfl, hb⟩
  have hx : Below w9.heap.size w9 w10 := (Below.refl _ w9).trans (hb.mono (by simp; try omega))
  have k0_0 : w10.cell? ⟨w.heap.size, 0, none⟩ = some (.int .i64 (va)) := (hx.cell (block_lt k0_0)).trans k0_0
  have k0_1 : w10.cell? ⟨w.heap.size, 1, none⟩ = some (.int .i64 ((sa : Int))) := (hx.cell (block_lt k0_1)).trans k0_1
  have l0 : w.heap.size < w10.heap.size := block_lt k0_0
  have k1_0 : w10.cell? ⟨w.heap.size + 1, 0, none⟩ = some (.int .i64 (vb)) := (hx.cell (block_lt k1_0)).trans k1_0
  have k1_1 : w10.cell? ⟨w.heap.size + 1, 1, none⟩ = some (.int .i64 ((sb : Int))) := (hx.cell (block_lt k1_1)).trans k1_1
  have l1 : w.heap.size + 1 < w10.heap.size := block_lt k1_0
  have k2_0 : w10.cell? ⟨w.heap.size + 1 + 1, 0, none⟩ = some (.int .i64 (vc)) := (hx.cell (block_lt k2_0)).trans k2_0
  have k2_1 : w10.cell? ⟨w.heap.size + 1 + 1, 1, none⟩ = some (.int .i64 ((sc : Int))) := (hx.cell (block_lt k2_1)).trans k2_1
  have l2 : w.heap.size + 1 + 1 < w10.heap.size := block_lt k2_0
  have k3_0 : w10.cell? ⟨w2.heap.size, 0, none⟩ = some (.int .i64 (vj)) := (hx.cell (block_lt k3_0)).trans k3_0
  have k3_1 : w10.cell? ⟨w2.heap.size, 1, none⟩ = some (.int .i64 ((sj : Int))) := (hx.cell (block_lt k3_1)).trans k3_1
  have l3 : w2.heap.size < w10.heap.size := block_lt k3_0
  have k4_0 : w10.cell? ⟨w3.heap.size, 0, none⟩ = some (.int .i64 (vm)) := (hx.cell (block_lt k4_0)).trans k4_0
  have k4_1 : w10.cell? ⟨w3.heap.size, 1, none⟩ = some (.int .i64 ((sm : Int))) := (hx.cell (block_lt k4_1)).trans k4_1
  have l4 : w3.heap.size < w10.heap.size := block_lt k4_0
  replace hT := hT.trans (hx.mono hT.size)
  clear hx hb
  go_wp2_with fail
  refine (H10.out _).mono ?_
  rintro e w11 ⟨rfl, hb⟩
  have hx : Below w10.heap.size w10 w11 := (Below.refl _ w10).trans (hb.mono (by simp; try omega))
  have k0_0 : w11.cell? ⟨w.heap.size, 0, none⟩ = some (.int .i64 (va)) := (hx.cell (block_lt k0_0)).trans k0_0
  have k0_1 : w11.cell? ⟨w.heap.size, 1, none⟩ = some (.int .i64 ((sa : Int))) := (hx.cell (block_lt k0_1)).trans k0_1
  have l0 : w.heap.size < w11.heap.size := block_lt k0_0
  have k1_0 : w11.cell? ⟨w.heap.size + 1, 0, none⟩ = some (.int .i64 (vb)) := (hx.cell (block_lt k1_0)).trans k1_0
  have k1_1 : w11.cell? ⟨w.heap.size + 1, 1, none⟩ = some (.int .i64 ((sb : Int))) := (hx.cell (block_lt k1_1)).trans k1_1
  have l1 : w.heap.size + 1 < w11.heap.size := block_lt k1_0
  have k2_0 : w11.cell? ⟨w.heap.size + 1 + 1, 0, none⟩ = some (.int .i64 (vc)) := (hx.cell (block_lt k2_0)).trans k2_0
  have k2_1 : w11.cell? ⟨w.heap.size + 1 + 1, 1, none⟩ = some (.int .i64 ((sc : Int))) := (hx.cell (block_lt k2_1)).trans k2_1
  have l2 : w.heap.size + 1 + 1 < w11.heap.size := block_lt k2_0
  have k3_0 : w11.cell? ⟨w2.heap.size, 0, none⟩ = some (.int .i64 (vj)) := (hx.cell (block_lt k3_0)).trans k3_0
  have k3_1 : w11.cell? ⟨w2.heap.size, 1, none⟩ = some (.int .i64 ((sj : Int))) := (hx.cell (block_lt k3_1)).trans k3_1
  have l3 : w2.heap.size < w11.heap.size := block_lt k3_0
  have k4_0 : w11.cell? ⟨w3.heap.size, 0, none⟩ = some (.int .i64 (vm)) := (hx.cell (block_lt k4_0)).trans k4_0
  have k4_1 : w11.cell? ⟨w3.heap.size, 1, none⟩ = some (.int .i64 ((sm : Int))) := (hx.cell (block_lt k4_1)).trans k4_1
  have l4 : w3.heap.size < w11.heap.size := block_lt k4_0
  replace hT := hT.trans (hx.mono hT.size)
  clear hx hb
  go_wp2_with fail
  refine (H11.out _).mono ?_
  rintro e w12 ⟨rfl, hb⟩
  have hx : Below w11.heap.size w11 w12 := (Below.refl _ w11).trans (hb.mono (by simp; try omega))
  have k0_0 : w12.cell? ⟨w.heap.size, 0, none⟩ = some (.int .i64 (va)) := (hx.cell (block_lt k0_0)).trans k0_0
  have k0_1 : w12.cell? ⟨w.heap.size, 1, none⟩ = some (.int .i64 ((sa : Int))) := (hx.cell (block_lt k0_1)).trans k0_1
  have l0 : w.heap.size < w12.heap.size := block_lt k0_0
  have k1_0 : w12.cell? ⟨w.heap.size + 1, 0, none⟩ = some (.int .i64 (vb)) := (hx.cell (block_lt k1_0)).trans k1_0
  have k1_1 : w12.cell? ⟨w.heap.size + 1, 1, none⟩ = some (.int .i64 ((sb : Int))) := (hx.cell (block_lt k1_1)).trans k1_1
  have l1 : w.heap.size + 1 < w12.heap.size := block_lt k1_0
  have k2_0 : w12.cell? ⟨w.heap.size + 1 + 1, 0, none⟩ = some (.int .i64 (vc)) := (hx.cell (block_lt k2_0)).trans k2_0
  have k2_1 : w12.cell? ⟨w.heap.size + 1 + 1, 1, none⟩ = some (.int .i64 ((sc : Int))) := (hx.cell (block_lt k2_1)).trans k2_1
  have l2 : w.heap.size + 1 + 1 < w12.heap.size := block_lt k2_0
  have k3_0 : w12.cell? ⟨w2.heap.size, 0, none⟩ = some (.int .i64 (vj)) := (hx.cell (block_lt k3_0)).trans k3_0
  have k3_1 : w12.cell? ⟨w2.heap.size, 1, none⟩ = some (.int .i64 ((sj : Int))) := (hx.cell (block_lt k3_1)).trans k3_1
  have l3 : w2.heap.size < w12.heap.size := block_lt k3_0
  have k4_0 : w12.cell? ⟨w3.heap.size, 0, none⟩ = some (.int .i64 (vm)) := (hx.cell (block_lt k4_0)).trans k4_0
  have k4_1 : w12.cell? ⟨w3.heap.size, 1, none⟩ = some (.int .i64 ((sm : Int))) := (hx.cell (block_lt k4_1)).trans k4_1
  have l4 : w3.heap.size < w12.heap.size := block_lt k4_0
  replace hT := hT.trans (hx.mono hT.size)
  clear hx hb
  go_wp2_with fail
  refine (H12.out _).mono ?_
  rintro e w13 ⟨rfl, hb⟩
  have hx : Below w12.heap.size w12 w13 := (Below.refl _ w12).trans (hb.mono (by simp; try omega))
  have k0_0 : w13.cell? ⟨w.heap.size, 0, none⟩ = some (.int .i64 (va)) := (hx.cell (block_lt k0_0)).trans k0_0
  have k0_1 : w13.cell? ⟨w.heap.size, 1, none⟩ = some (.int .i64 ((sa : Int))) := (hx.cell (block_lt k0_1)).trans k0_1
  have l0 : w.heap.size < w13.heap.size := block_lt k0_0
  have k1_0 : w13.cell? ⟨w.heap.size + 1, 0, none⟩ = some (.int .i64 (vb)) := (hx.cell (block_lt k1_0)).trans k1_0
  have k1_1 : w13.cell? ⟨w.heap.size + 1, 1, none⟩ = some (.int .i64 ((sb : Int))) := (hx.cell (block_lt k1_1)).trans k1_1
  have l1 : w.heap.size + 1 < w13.heap.size := block_lt k1_0
  have k2_0 : w13.cell? ⟨w.heap.size + 1 + 1, 0, none⟩ = some (.int .i64 (vc)) := (hx.cell (block_lt k2_0)).trans k2_0
  have k2_1 : w13.cell? ⟨w.heap.size + 1 + 1, 1, none⟩ = some (.int .i64 ((sc : Int))) := (hx.cell (block_lt k2_1)).trans k2_1
  have l2 : w.heap.size + 1 + 1 < w13.heap.size := block_lt k2_0
  have k3_0 : w13.cell? ⟨w2.heap.size, 0, none⟩ = some (.int .i64 (vj)) := (hx.cell (block_lt k3_0)).trans k3_0
  have k3_1 : w13.cell? ⟨w2.heap.size, 1, none⟩ = some (.int .i64 ((sj : Int))) := (hx.cell (block_lt k3_1)).trans k3_1
  have l3 : w2.heap.size < w13.heap.size := block_lt k3_0
  have k4_0 : w13.cell? ⟨w3.heap.size, 0, none⟩ = some (.int .i64 (vm)) := (hx.cell (block_lt k4_0)).trans k4_0
  have k4_1 : w13.cell? ⟨w3.heap.size, 1, none⟩ = some (.int .i64 ((sm : Int))) := (hx.cell (block_lt k4_1)).trans k4_1
  have l4 : w3.heap.size < w13.heap.size := block_lt k4_0
  replace hT := hT.trans (hx.mono hT.size)
  clear hx hb
  go_wp2_with fail
  all_goals
    go_ret
    refine ⟨ret_bool ?_, hT⟩
    simp_all

set_option maxHeartbeats 2000000 in
theorem LabelBounds_bad2 (va vb : Int) (sa sb : Nat) (vc sc : Int) (ha : labOk va sa) (hb : labOk vb sb) (h : ¬ labOk vc sc) (w : World) (hT : Tab w) :
    Calls Tryd.prog 5 #[.agg #[.int .i64 va, .int .i64 sa], .agg #[.int .i64 vb, .int .i64 sb], .agg #[.int .i64 vc, .int .i64 sc]] w fun e w' => e = .returned (.bool true) ∧ Below w.heap.size w w' := by
  have H1 := Lib.hid (fun W => Join_ok va vb sa sb W ha hb)
  have H2 := Lib.hid (fun W => Meet_ok va vb sa sb W ha hb)
  have hj := labOk_join ha hb
  have hm := labOk_meet ha hb
  have HL := Lib.hid (bounds_law va vb vb sa sb sb)
  generalize max va vb = vj at *
  generalize (sa ||| sb) = sj at *
  generalize min va vb = vm at *
  generalize (sa &&& sb) = sm at *
  have H3 := Lib.hid (fun W => Below_ok va vj sa sj W ha hj)
  rw [HL.out.1] at H3
  have H4 := Lib.hid (fun W => Below_ok vb vj sb sj W hb hj)
  rw [HL.out.2.1] at H4
  have H5 := Lib.hid (fun W => Below_ok vm va sm sa W hm ha)
  rw [HL.out.2.2.1] at H5
  have H6 := Lib.hid (fun W => Below_ok vm vb sm sb W hm hb)
  rw [HL.out.2.2.2.1] at H6
  have H7 := Lib.hid (fun W => Below_bad va sa vc sc W (fun k => h k.2))
  have H8 := Lib.hid (fun W => Below_bad vb sb vc sc W (fun k => h k.2))
  have H9 := Lib.hid (fun W => Below_bad vj sj vc sc W (fun k => h k.2))
  clear HL ha hb h hj hm
  go_enter Tryd.func5, Tryd.ntmps5
  have hTb : Tab (((w.alloc (.cells #[.int .i64 (va), .int .i64 ((sa : Int))] 23)).alloc (.cells #[.int .i64 (vb), .int .i64 ((sb : Int))] 23)).alloc (.cells #[.int .i64 (vc), .int .i64 ((sc : Int))] 23)) := Tab.next hT ((((Below.refl _ w).alloc (by simp; try omega) _).alloc (by simp; try omega) _).alloc (by simp; try omega) _)
  clear hT
  go_wp2_with fail
  refine (labelFact_any _ hTb).mono ?_
  rintro e w1 ⟨rfl, hb⟩
  have hx : Below w.heap.size w w1 := ((((Below.refl _ w).alloc (by simp; try omega) _).alloc (by simp; try omega) _).alloc (by simp; try omega) _).trans (hb.mono (by simp; try omega))
  have k0_0 : w1.cell? ⟨w.heap.size, 0, none⟩ = some (.int .i64 (va)) := (hb.cell (p := ⟨w.heap.size, 0, none⟩) (by simp; try omega)).trans (box_old (box_old (box_new (by simp) (by rfl))))
  have k0_1 : w1.cell? ⟨w.heap.size, 1, none⟩ = some (.int .i64 ((sa : Int))) := (hb.cell (p := ⟨w.heap.size, 1, none⟩) (by simp; try omega)).trans (box_old (box_old (box_new (by simp) (by rfl))))
  have l0 : w.heap.size < w1.heap.size := block_lt k0_0
  have k1_0 : w1.cell? ⟨w.heap.size + 1, 0, none⟩ = some (.int .i64 (vb)) := (hb.cell (p := ⟨w.heap.size + 1, 0, none⟩) (by simp; try omega)).trans (box_old (box_new (by simp) (by rfl)))
  have k1_1 : w1.cell? ⟨w.heap.size + 1, 1, none⟩ = some (.int .i64 ((sb : Int))) := (hb.cell (p := ⟨w.heap.size + 1, 1, none⟩) (by simp; try omega)).trans (box_old (box_new (by simp) (by rfl)))
  have l1 : w.heap.size + 1 < w1.heap.size := block_lt k1_0
  have k2_0 : w1.cell? ⟨w.heap.size + 1 + 1, 0, none⟩ = some (.int .i64 (vc)) := (hb.cell (p := ⟨w.heap.size + 1 + 1, 0, none⟩) (by simp; try omega)).trans (box_new (by simp) (by rfl))
  have k2_1 : w1.cell? ⟨w.heap.size + 1 + 1, 1, none⟩ = some (.int .i64 ((sc : Int))) := (hb.cell (p := ⟨w.heap.size + 1 + 1, 1, none⟩) (by simp; try omega)).trans (box_new (by simp) (by rfl))
  have l2 : w.heap.size + 1 + 1 < w1.heap.size := block_lt k2_0
  have hT := hx
  clear hx hb
  clear hTb
  go_wp2_with fail
  refine (H1.out _).mono ?_
  rintro e w2 ⟨rfl, hb⟩
  have hx : Below w1.heap.size w1 w2 := (Below.refl _ w1).trans (hb.mono (by simp; try omega))
  have k0_0 : w2.cell? ⟨w.heap.size, 0, none⟩ = some (.int .i64 (va)) := (hx.cell (block_lt k0_0)).trans k0_0
  have k0_1 : w2.cell? ⟨w.heap.size, 1, none⟩ = some (.int .i64 ((sa : Int))) := (hx.cell (block_lt k0_1)).trans k0_1
  have l0 : w.heap.size < w2.heap.size := block_lt k0_0
  have k1_0 : w2.cell? ⟨w.heap.size + 1, 0, none⟩ = some (.int .i64 (vb)) := (hx.cell (block_lt k1_0)).trans k1_0
  have k1_1 : w2.cell? ⟨w.heap.size + 1, 1, none⟩ = some (.int .i64 ((sb : Int))) := (hx.cell (block_lt k1_1)).trans k1_1
  have l1 : w.heap.size + 1 < w2.heap.size := block_lt k1_0
  have k2_0 : w2.cell? ⟨w.heap.size + 1 + 1, 0, none⟩ = some (.int .i64 (vc)) := (hx.cell (block_lt k2_0)).trans k2_0
  have k2_1 : w2.cell? ⟨w.heap.size + 1 + 1, 1, none⟩ = some (.int .i64 ((sc : Int))) := (hx.cell (block_lt k2_1)).trans k2_1
  have l2 : w.heap.size + 1 + 1 < w2.heap.size := block_lt k2_0
  replace hT := hT.trans (hx.mono hT.size)
  clear hx hb
  go_wp2_with fail
  refine (H2.out _).mono ?_
  rintro e w3 ⟨rfl, hb⟩
  have hx : Below w2.heap.size w2 w3 := ((Below.refl _ w2).alloc (by simp; try omega) _).trans (hb.mono (by simp; try omega))
  have k0_0 : w3.cell? ⟨w.heap.size, 0, none⟩ = some (.int .i64 (va)) := (hx.cell (block_lt k0_0)).trans k0_0
  have k0_1 : w3.cell? ⟨w.heap.size, 1, none⟩ = some (.int .i64 ((sa : Int))) := (hx.cell (block_lt k0_1)).trans k0_1
  have l0 : w.heap.size < w3.heap.size := block_lt k0_0
  have k1_0 : w3.cell? ⟨w.heap.size + 1, 0, none⟩ = some (.int .i64 (vb)) := (hx.cell (block_lt k1_0)).trans k1_0
  have k1_1 : w3.cell? ⟨w.heap.size + 1, 1, none⟩ = some (.int .i64 ((sb : Int))) := (hx.cell (block_lt k1_1)).trans k1_1
  have l1 : w.heap.size + 1 < w3.heap.size := block_lt k1_0
  have k2_0 : w3.cell? ⟨w.heap.size + 1 + 1, 0, none⟩ = some (.int .i64 (vc)) := (hx.cell (block_lt k2_0)).trans k2_0
  have k2_1 : w3.cell? ⟨w.heap.size + 1 + 1, 1, none⟩ = some (.int .i64 ((sc : Int))) := (hx.cell (block_lt k2_1)).trans k2_1
  have l2 : w.heap.size + 1 + 1 < w3.heap.size := block_lt k2_0
  have k3_0 : w3.cell? ⟨w2.heap.size, 0, none⟩ = some (.int .i64 (vj)) := (hb.cell (p := ⟨w2.heap.size, 0, none⟩) (by simp; try omega)).trans (box_new (by simp) (by rfl))
  have k3_1 : w3.cell? ⟨w2.heap.size, 1, none⟩ = some (.int .i64 ((sj : Int))) := (hb.cell (p := ⟨w2.heap.size, 1, none⟩) (by simp; try omega)).trans (box_new (by simp) (by rfl))
  have l3 : w2.heap.size < w3.heap.size := block_lt k3_0
  replace hT := hT.trans (hx.mono hT.size)
  clear hx hb
  go_wp2_with fail
  refine (H3.out _).mono ?_
  rintro e w4 ⟨rfl, hb⟩
  have hx : Below w3.heap.size w3 w4 := ((Below.refl _ w3).alloc (by simp; try omega) _).trans (hb.mono (by simp; try omega))
  have k0_0 : w4.cell? ⟨w.heap.size, 0, none⟩ = some (.int .i64 (va)) := (hx.cell (block_lt k0_0)).trans k0_0
  have k0_1 : w4.cell? ⟨w.heap.size, 1, none⟩ = some (.int .i64 ((sa : Int))) := (hx.cell (block_lt k0_1)).trans k0_1
  have l0 : w.heap.size < w4.heap.size := block_lt k0_0
  have k1_0 : w4.cell? ⟨w.heap.size + 1, 0, none⟩ = some (.int .i64 (vb)) := (hx.cell (block_lt k1_0)).trans k1_0
  have k1_1 : w4.cell? ⟨w.heap.size + 1, 1, none⟩ = some (.int .i64 ((sb : Int))) := (hx.cell (block_lt k1_1)).trans k1_1
  have l1 : w.heap.size + 1 < w4.heap.size := block_lt k1_0
  have k2_0 : w4.cell? ⟨w.heap.size + 1 + 1, 0, none⟩ = some (.int .i64 (vc)) := (hx.cell (block_lt k2_0)).trans k2_0
  have k2_1 : w4.cell? ⟨w.heap.size + 1 + 1, 1, none⟩ = some (.int .i64 ((sc : Int))) := (hx.cell (block_lt k2_1)).trans k2_1
  have l2 : w.heap.size + 1 + 1 < w4.heap.size := block_lt k2_0
  have k3_0 : w4.cell? ⟨w2.heap.size, 0, none⟩ = some (.int .i64 (vj)) := (hx.cell (block_lt k3_0)).trans k3_0
  have k3_1 : w4.cell? ⟨w2.heap.size, 1, none⟩ = some (.int .i64 ((sj : Int))) := (hx.cell (block_lt k3_1)).trans k3_1
  have l3 : w2.heap.size < w4.heap.size := block_lt k3_0
  have k4_0 : w4.cell? ⟨w3.heap.size, 0, none⟩ = some (.int .i64 (vm)) := (hb.cell (p := ⟨w3.heap.size, 0, none⟩) (by simp; try omega)).trans (box_new (by simp) (by rfl))
  have k4_1 : w4.cell? ⟨w3.heap.size, 1, none⟩ = some (.int .i64 ((sm : Int))) := (hb.cell (p := ⟨w3.heap.size, 1, none⟩) (by simp; try omega)).trans (box_new (by simp) (by rfl))
  have l4 : w3.heap.size < w4.heap.size := block_lt k4_0
  replace hT := hT.trans (hx.mono hT.size)
  clear hx hb
  go_wp2_with fail
  refine (H4.out _).mono ?_
  rintro e w5 ⟨rfl, hb⟩
  have hx : Below w4.heap.size w4 w5 := (Below.refl _ w4).trans (hb.mono (by simp; try omega))
  have k0_0 : w5.cell? ⟨w.heap.size, 0, none⟩ = some (.int .i64 (va)) := (hx.cell (block_lt k0_0)).trans k0_0
  have k0_1 : w5.cell? ⟨w.heap.size, 1, none⟩ = some (.int .i64 ((sa : Int))) := (hx.cell (block_lt k0_1)).trans k0_1
  have l0 : w.heap.size < w5.heap.size := block_lt k0_0
  have k1_0 : w5.cell? ⟨w.heap.size + 1, 0, none⟩ = some (.int .i64 (vb)) := (hx.cell (block_lt k1_0)).trans k1_0
  have k1_1 : w5.cell? ⟨w.heap.size + 1, 1, none⟩ = some (.int .i64 ((sb : Int))) := (hx.cell (block_lt k1_1)).trans k1_1
  have l1 : w.heap.size + 1 < w5.heap.size := block_lt k1_0
  have k2_0 : w5.cell? ⟨w.heap.size + 1 + 1, 0, none⟩ = some (.int .i64 (vc)) := (hx.cell (block_lt k2_0)).trans k2_0
  have k2_1 : w5.cell? ⟨w.heap.size + 1 + 1, 1, none⟩ = some (.int .i64 ((sc : Int))) := (hx.cell (block_lt k2_1)).trans k2_1
  have l2 : w.heap.size + 1 + 1 < w5.heap.size := block_lt k2_0
  have k3_0 : w5.cell? ⟨w2.heap.size, 0, none⟩ = some (.int .i64 (vj)) := (hx.cell (block_lt k3_0)).trans k3_0
  have k3_1 : w5.cell? ⟨w2.heap.size, 1, none⟩ = some (.int .i64 ((sj : Int))) := (hx.cell (block_lt k3_1)).trans k3_1
  have l3 : w2.heap.size < w5.heap.size := block_lt k3_0
  have k4_0 : w5.cell? ⟨w3.heap.size, 0, none⟩ = some (.int .i64 (vm)) := (hx.cell (block_lt k4_0)).trans k4_0
  have k4_1 : w5.cell? ⟨w3.heap.size, 1, none⟩ = some (.int .i64 ((sm : Int))) := (hx.cell (block_lt k4_1)).trans k4_1
  have l4 : w3.heap.size < w5.heap.size := block_lt k4_0
  replace hT := hT.trans (hx.mono hT.size)
  clear hx hb
  go_wp2_with fail
  refine (H5.out _).mono ?_
  rintro e w6 ⟨rfl, hb⟩
  have hx : Below w5.heap.size w5 w6 := (Below.refl _ w5).trans (hb.mono (by simp; try omega))
  have k0_0 : w6.cell? ⟨w.heap.size, 0, none⟩ = some (.int .i64 (va)) := (hx.cell (block_lt k0_0)).trans k0_0
  have k0_1 : w6.cell? ⟨w.heap.size, 1, none⟩ = some (.int .i64 ((sa : Int))) := (hx.cell (block_lt k0_1)).trans k0_1
  have l0 : w.heap.size < w6.heap.size := block_lt k0_0
  have k1_0 : w6.cell? ⟨w.heap.size + 1, 0, none⟩ = some (.int .i64 (vb)) := (hx.cell (block_lt k1_0)).trans k1_0
  have k1_1 : w6.cell? ⟨w.heap.size + 1, 1, none⟩ = some (.int .i64 ((sb : Int))) := (hx.cell (block_lt k1_1)).trans k1_1
  have l1 : w.heap.size + 1 < w6.heap.size := block_lt k1_0
  have k2_0 : w6.cell? ⟨w.heap.size + 1 + 1, 0, none⟩ = some (.int .i64 (vc)) := (hx.cell (block_lt k2_0)).trans k2_0
  have k2_1 : w6.cell? ⟨w.heap.size + 1 + 1, 1, none⟩ = some (.int .i64 ((sc : Int))) := (hx.cell (block_lt k2_1)).trans k2_1
  have l2 : w.heap.size + 1 + 1 < w6.heap.size := block_lt k2_0
  have k3_0 : w6.cell? ⟨w2.heap.size, 0, none⟩ = some (.int .i64 (vj)) := (hx.cell (block_lt k3_0)).trans k3_0
  have k3_1 : w6.cell? ⟨w2.heap.size, 1, none⟩ = some (.int .i64 ((sj : Int))) := (hx.cell (block_lt k3_1)).trans k3_1
  have l3 : w2.heap.size < w6.heap.size := block_lt k3_0
  have k4_0 : w6.cell? ⟨w3.heap.size, 0, none⟩ = some (.int .i64 (vm)) := (hx.cell (block_lt k4_0)).trans k4_0
  have k4_1 : w6.cell? ⟨w3.heap.size, 1, none⟩ = some (.int .i64 ((sm : Int))) := (hx.cell (block_lt k4_1)).trans k4_1
  have l4 : w3.heap.size < w6.heap.size := block_lt k4_0
  replace hT := hT.trans (hx.mono hT.size)
  clear hx hb
  go_wp2_with fail
  refine (H6.out _).mono ?_
  rintro e w7 ⟨rfl, hb⟩
  have hx : Below w6.heap.size w6 w7 := (Below.refl _ w6).trans (hb.mono (by simp; try omega))
  have k0_0 : w7.cell? ⟨w.heap.size, 0, none⟩ = some (.int .i64 (va)) := (hx.cell (block_lt k0_0)).trans k0_0
  have k0_1 : w7.cell? ⟨w.heap.size, 1, none⟩ = some (.int .i64 ((sa : Int))) := (hx.cell (block_lt k0_1)).trans k0_1
  have l0 : w.heap.size < w7.heap.size := block_lt k0_0
  have k1_0 : w7.cell? ⟨w.heap.size + 1, 0, none⟩ = some (.int .i64 (vb)) := (hx.cell (block_lt k1_0)).trans k1_0
  have k1_1 : w7.cell? ⟨w.heap.size + 1, 1, none⟩ = some (.int .i64 ((sb : Int))) := (hx.cell (block_lt k1_1)).trans k1_1
  have l1 : w.heap.size + 1 < w7.heap.size := block_lt k1_0
  have k2_0 : w7.cell? ⟨w.heap.size + 1 + 1, 0, none⟩ = some (.int .i64 (vc)) := (hx.cell (block_lt k2_0)).trans k2_0
  have k2_1 : w7.cell? ⟨w.heap.size + 1 + 1, 1, none⟩ = some (.int .i64 ((sc : Int))) := (hx.cell (block_lt k2_1)).trans k2_1
  have l2 : w.heap.size + 1 + 1 < w7.heap.size := block_lt k2_0
  have k3_0 : w7.cell? ⟨w2.heap.size, 0, none⟩ = some (.int .i64 (vj)) := (hx.cell (block_lt k3_0)).trans k3_0
  have k3_1 : w7.cell? ⟨w2.heap.size, 1, none⟩ = some (.int .i64 ((sj : Int))) := (hx.cell (block_lt k3_1)).trans k3_1
  have l3 : w2.heap.size < w7.heap.size := block_lt k3_0
  have k4_0 : w7.cell? ⟨w3.heap.size, 0, none⟩ = some (.int .i64 (vm)) := (hx.cell (block_lt k4_0)).trans k4_0
  have k4_1 : w7.cell? ⟨w3.heap.size, 1, none⟩ = some (.int .i64 ((sm : Int))) := (hx.cell (block_lt k4_1)).trans k4_1
  have l4 : w3.heap.size < w7.heap.size := block_lt k4_0
  replace hT := hT.trans (hx.mono hT.size)
  clear hx hb
  go_wp2_with fail
  refine (H7.out _).mono ?_
  rintro e w8 ⟨rfl, hb⟩
  have hx : Below w7.heap.size w7 w8 := (Below.refl _ w7).trans (hb.mono (by simp; try omega))
  have k0_0 : w8.cell? ⟨w.heap.size, 0, none⟩ = some (.int .i64 (va)) := (hx.cell (block_lt k0_0)).trans k0_0
  have k0_1 : w8.cell? ⟨w.heap.size, 1, none⟩ = some (.int .i64 ((sa : Int))) := (hx.cell (block_lt k0_1)).trans k0_1
  have l0 : w.heap.size < w8.heap.size := block_lt k0_0
  have k1_0 : w8.cell? ⟨w.heap.size + 1, 0, none⟩ = some (.int .i64 (vb)) := (hx.cell (block_lt k1_0)).trans k1_0
  have k1_1 : w8.cell? ⟨w.heap.size + 1, 1, none⟩ = some (.int .i64 ((sb : Int))) := (hx.cell (block_lt k1_1)).trans k1_1
  have l1 : w.heap.size + 1 < w8.heap.size := block_lt k1_0
  have k2_0 : w8.cell? ⟨w.heap.size + 1 + 1, 0, none⟩ = some (.int .i64 (vc)) := (hx.cell (block_lt k2_0)).trans k2_0
  have k2_1 : w8.cell? ⟨w.heap.size + 1 + 1, 1, none⟩ = some (.int .i64 ((sc : Int))) := (hx.cell (block_lt k2_1)).trans k2_1
  have l2 : w.heap.size + 1 + 1 < w8.heap.size := block_lt k2_0
  have k3_0 : w8.cell? ⟨w2.heap.size, 0, none⟩ = some (.int .i64 (vj)) := (hx.cell (block_lt k3_0)).trans k3_0
  have k3_1 : w8.cell? ⟨w2.heap.size, 1, none⟩ = some (.int .i64 ((sj : Int))) := (hx.cell (block_lt k3_1)).trans k3_1
  have l3 : w2.heap.size < w8.heap.size := block_lt k3_0
  have k4_0 : w8.cell? ⟨w3.heap.size, 0, none⟩ = some (.int .i64 (vm)) := (hx.cell (block_lt k4_0)).trans k4_0
  have k4_1 : w8.cell? ⟨w3.heap.size, 1, none⟩ = some (.int .i64 ((sm : Int))) := (hx.cell (block_lt k4_1)).trans k4_1
  have l4 : w3.heap.size < w8.heap.size := block_lt k4_0
  replace hT := hT.trans (hx.mono hT.size)
  clear hx hb
  go_wp2_with fail
  refine (H8.out _).mono ?_
  rintro e w9 ⟨rfl, hb⟩
  have hx : Below w8.heap.size w8 w9 := (Below.refl _ w8).trans (hb.mono (by simp; try omega))
  have k0_0 : w9.cell? ⟨w.heap.size, 0, none⟩ = some (.int .i64 (va)) := (hx.cell (block_lt k0_0)).trans k0_0
  have k0_1 : w9.cell? ⟨w.heap.size, 1, none⟩ = some (.int .i64 ((sa : Int))) := (hx.cell (block_lt k0_1)).trans k0_1
  have l0 : w.heap.size < w9.heap.size := block_lt k0_0
  have k1_0 : w9.cell? ⟨w.heap.size + 1, 0, none⟩ = some (.int .i64 (vb)) := (hx.cell (block_lt k1_0)).trans k1_0
  have k1_1 : w9.cell? ⟨w.heap.size + 1, 1, none⟩ = some (.int .i64 ((sb : Int))) := (hx.cell (block_lt k1_1)).trans k1_1
  have l1 : w.heap.size + 1 < w9.heap.size := block_lt k1_0
  have k2_0 : w9.cell? ⟨w.heap.size + 1 + 1, 0, none⟩ = some (.int .i64 (vc)) := (hx.cell (block_lt k2_0)).trans k2_0
  have k2_1 : w9.cell? ⟨w.heap.size + 1 + 1, 1, none⟩ = some (.int .i64 ((sc : Int))) := (hx.cell (block_lt k2_1)).trans k2_1
  have l2 : w.heap.size + 1 + 1 < w9.heap.size := block_lt k2_0
  have k3_0 : w9.cell? ⟨w2.heap.size, 0, none⟩ = some (.int .i64 (vj)) := (hx.cell (block_lt k3_0)).trans k3_0
  have k3_1 : w9.cell? ⟨w2.heap.size, 1, none⟩ = some (.int .i64 ((sj : Int))) := (hx.cell (block_lt k3_1)).trans k3_1
  have l3 : w2.heap.size < w9.heap.size := block_lt k3_0
  have k4_0 : w9.cell? ⟨w3.heap.size, 0, none⟩ = some (.int .i64 (vm)) := (hx.cell (block_lt k4_0)).trans k4_0
  have k4_1 : w9.cell? ⟨w3.heap.size, 1, none⟩ = some (.int .i64 ((sm : Int))) := (hx.cell (block_lt k4_1)).trans k4_1
  have l4 : w3.heap.size < w9.heap.size := block_lt k4_0
  replace hT := hT.trans (hx.mono hT.size)
  clear hx hb
  go_wp2_with fail
  refine (H9.out _).mono ?_
  rintro e w10 ⟨rfl, hb⟩
  have hx : Below w9.heap.size w9 w10 := (Below.refl _ w9).trans (hb.mono (by simp; try omega))
  have k0_0 : w10.cell? ⟨w.heap.size, 0, none⟩ = some (.int .i64 (va)) := (hx.cell (block_lt k0_0)).trans k0_0
  have k0_1 : w10.cell? ⟨w.heap.size, 1, none⟩ = some (.int .i64 ((sa : Int))) := (hx.cell (block_lt k0_1)).trans k0_1
  have l0 : w.heap.size < w10.heap.size := block_lt k0_0
  have k1_0 : w10.cell? ⟨w.heap.size + 1, 0, none⟩ = some (.int .i64 (vb)) := (hx.cell (block_lt k1_0)).trans k1_0
  have k1_1 : w10.cell? ⟨w.heap.size + 1, 1, none⟩ = some (.int .i64 ((sb : Int))) := (hx.cell (block_lt k1_1)).trans k1_1
  have l1 : w.heap.size + 1 < w10.heap.size := block_lt k1_0
  have k2_0 : w10.cell? ⟨w.heap.size + 1 + 1, 0, none⟩ = some (.int .i64 (vc)) := (hx.cell (block_lt k2_0)).trans k2_0
  have k2_1 : w10.cell? ⟨w.heap.size + 1 + 1, 1, none⟩ = some (.int .i64 ((sc : Int))) := (hx.cell (block_lt k2_1)).trans k2_1
  have l2 : w.heap.size + 1 + 1 < w10.heap.size := block_lt k2_0
  have k3_0 : w10.cell? ⟨w2.heap.size, 0, none⟩ = some (.int .i64 (vj)) := (hx.cell (block_lt k3_0)).trans k3_0
  have k3_1 : w10.cell? ⟨w2.heap.size, 1, none⟩ = some (.int .i64 ((sj : Int))) := (hx.cell (block_lt k3_1)).trans k3_1
  have l3 : w2.heap.size < w10.heap.size := block_lt k3_0
  have k4_0 : w10.cell? ⟨w3.heap.size, 0, none⟩ = some (.int .i64 (vm)) := (hx.cell (block_lt k4_0)).trans k4_0
  have k4_1 : w10.cell? ⟨w3.heap.size, 1, none⟩ = some (.int .i64 ((sm : Int))) := (hx.cell (block_lt k4_1)).trans k4_1
  have l4 : w3.heap.size < w10.heap.size := block_lt k4_0
  replace hT := hT.trans (hx.mono hT.size)
  clear hx hb
  go_wp2_with fail
  all_goals
    go_ret
    exact ⟨rfl, hT⟩

set_option maxHeartbeats 2000000 in
theorem LabelBounds_bad1 (va sa vb sb vc sc : Int) (h : ¬ (labOk va sa ∧ labOk vb sb)) (w : World) (hT : Tab w) :
    Calls Tryd.prog 5 #[.agg #[.int .i64 va, .int .i64 sa], .agg #[.int .i64 vb, .int .i64 sb], .agg #[.int .i64 vc, .int .i64 sc]] w fun e w' => e = .returned (.bool true) ∧ Below w.heap.size w w' := by
  have H1 := Lib.hid (fun W => Join_bad va sa vb sb W h)
  have H2 := Lib.hid (fun W => Meet_bad va sa vb sb W h)
  clear h
  go_enter Tryd.func5, Tryd.ntmps5
  have hTb : Tab (((w.alloc (.cells #[.int .i64 (va), .int .i64 ((sa : Int))] 23)).alloc (.cells #[.int .i64 (vb), .int .i64 ((sb : Int))] 23)).alloc (.cells #[.int .i64 (vc), .int .i64 ((sc : Int))] 23)) := Tab.next hT ((((Below.refl _ w).alloc (by simp; try omega) _).alloc (by simp; try omega) _).alloc (by simp; try omega) _)
  clear hT
  go_wp2_with fail
  refine (labelFact_any _ hTb).mono ?_
  rintro e w1 ⟨rfl, hb⟩
  have hx : Below w.heap.size w w1 := ((((Below.refl _ w).alloc (by simp; try omega) _).alloc (by simp; try omega) _).alloc (by simp; try omega) _).trans (hb.mono (by simp; try omega))
  have k0_0 : w1.cell? ⟨w.heap.size, 0, none⟩ = some (.int .i64 (va)) := (hb.cell (p := ⟨w.heap.size, 0, none⟩) (by simp; try omega)).trans (box_old (box_old (box_new (by simp) (by rfl))))
  have k0_1 : w1.cell? ⟨w.heap.size, 1, none⟩ = some (.int .i64 ((sa : Int))) := (hb.cell (p := ⟨w.heap.size, 1, none⟩) (by simp; try omega)).trans (box_old (box_old (box_new (by simp) (by rfl))))
  have l0 : w.heap.size < w1.heap.size := block_lt k0_0
  have k1_0 : w1.cell? ⟨w.heap.size + 1, 0, none⟩ = some (.int .i64 (vb)) := (hb.cell (p := ⟨w.heap.size + 1, 0, none⟩) (by simp; try omega)).trans (box_old (box_new (by simp) (by rfl)))
  have k1_1 : w1.cell? ⟨w.heap.size + 1, 1, none⟩ = some (.int .i64 ((sb : Int))) := (hb.cell (p := ⟨w.heap.size + 1, 1, none⟩) (by simp; try omega)).trans (box_old (box_new (by simp) (by rfl)))
  have l1 : w.heap.size + 1 < w1.heap.size := block_lt k1_0
  have k2_0 : w1.cell? ⟨w.heap.size + 1 + 1, 0, none⟩ = some (.int .i64 (vc)) := (hb.cell (p := ⟨w.heap.size + 1 + 1, 0, none⟩) (by simp; try omega)).trans (box_new (by simp) (by rfl))
  have k2_1 : w1.cell? ⟨w.heap.size + 1 + 1, 1, none⟩ = some (.int .i64 ((sc : Int))) := (hb.cell (p := ⟨w.heap.size + 1 + 1, 1, none⟩) (by simp; try omega)).trans (box_new (by simp) (by rfl))
  have l2 : w.heap.size + 1 + 1 < w1.heap.size := block_lt k2_0
  have hT := hx
  clear hx hb
  clear hTb
  go_wp2_with fail
  refine (H1.out _).mono ?_
  rintro e w2 ⟨rfl, hb⟩
  have hx : Below w1.heap.size w1 w2 := (Below.refl _ w1).trans (hb.mono (by simp; try omega))
  have k0_0 : w2.cell? ⟨w.heap.size, 0, none⟩ = some (.int .i64 (va)) := (hx.cell (block_lt k0_0)).trans k0_0
  have k0_1 : w2.cell? ⟨w.heap.size, 1, none⟩ = some (.int .i64 ((sa : Int))) := (hx.cell (block_lt k0_1)).trans k0_1
  have l0 : w.heap.size < w2.heap.size := block_lt k0_0
  have k1_0 : w2.cell? ⟨w.heap.size + 1, 0, none⟩ = some (.int .i64 (vb)) := (hx.cell (block_lt k1_0)).trans k1_0
  have k1_1 : w2.cell? ⟨w.heap.size + 1, 1, none⟩ = some (.int .i64 ((sb : Int))) := (hx.cell (block_lt k1_1)).trans k1_1
  have l1 : w.heap.size + 1 < w2.heap.size := block_lt k1_0
  have k2_0 : w2.cell? ⟨w.heap.size + 1 + 1, 0, none⟩ = some (.int .i64 (vc)) := (hx.cell (block_lt k2_0)).trans k2_0
  have k2_1 : w2.cell? ⟨w.heap.size + 1 + 1, 1, none⟩ = some (.int .i64 ((sc : Int))) := (hx.cell (block_lt k2_1)).trans k2_1
  have l2 : w.heap.size + 1 + 1 < w2.heap.size := block_lt k2_0
  replace hT := hT.trans (hx.mono hT.size)
  clear hx hb
  go_wp2_with fail
  refine (H2.out _).mono ?_
  rintro e w3 ⟨rfl, hb⟩
  have hx : Below w2.heap.size w2 w3 := ((Below.refl _ w2).alloc (by simp; try omega) _).trans (hb.mono (by simp; try omega))
  have k0_0 : w3.cell? ⟨w.heap.size, 0, none⟩ = some (.int .i64 (va)) := (hx.cell (block_lt k0_0)).trans k0_0
  have k0_1 : w3.cell? ⟨w.heap.size, 1, none⟩ = some (.int .i64 ((sa : Int))) := (hx.cell (block_lt k0_1)).trans k0_1
  have l0 : w.heap.size < w3.heap.size := block_lt k0_0
  have k1_0 : w3.cell? ⟨w.heap.size + 1, 0, none⟩ = some (.int .i64 (vb)) := (hx.cell (block_lt k1_0)).trans k1_0
  have k1_1 : w3.cell? ⟨w.heap.size + 1, 1, none⟩ = some (.int .i64 ((sb : Int))) := (hx.cell (block_lt k1_1)).trans k1_1
  have l1 : w.heap.size + 1 < w3.heap.size := block_lt k1_0
  have k2_0 : w3.cell? ⟨w.heap.size + 1 + 1, 0, none⟩ = some (.int .i64 (vc)) := (hx.cell (block_lt k2_0)).trans k2_0
  have k2_1 : w3.cell? ⟨w.heap.size + 1 + 1, 1, none⟩ = some (.int .i64 ((sc : Int))) := (hx.cell (block_lt k2_1)).trans k2_1
  have l2 : w.heap.size + 1 + 1 < w3.heap.size := block_lt k2_0
  have k3_0 : w3.cell? ⟨w2.heap.size, 0, none⟩ = some (.int .i64 (0)) := (hb.cell (p := ⟨w2.heap.size, 0, none⟩) (by simp; try omega)).trans (box_new (by simp) (by rfl))
  have k3_1 : w3.cell? ⟨w2.heap.size, 1, none⟩ = some (.int .i64 (0)) := (hb.cell (p := ⟨w2.heap.size, 1, none⟩) (by simp; try omega)).trans (box_new (by simp) (by rfl))
  have l3 : w2.heap.size < w3.heap.size := block_lt k3_0
  replace hT := hT.trans (hx.mono hT.size)
  clear hx hb
  go_wp2_with fail
  all_goals
    go_ret
    exact ⟨rfl, hT.trans ((((Below.refl _ w3).alloc (Nat.le_refl _) _)).mono hT.size)⟩

theorem LabelBounds_walk (va sa vb sb vc sc : Int) {W : World} (w : World) (hw : w = W) (hT : Tab W) :
    Calls Tryd.prog 5 #[.agg #[.int .i64 va, .int .i64 sa], .agg #[.int .i64 vb, .int .i64 sb], .agg #[.int .i64 vc, .int .i64 sc]] w fun e w' => e = .returned (.bool true) ∧ Below w.heap.size w w' := by
  subst hw
  by_cases h : labOk va sa ∧ labOk vb sb
  · obtain ⟨na, rfl⟩ := Int.eq_ofNat_of_zero_le h.1.2.2.1
    obtain ⟨nb, rfl⟩ := Int.eq_ofNat_of_zero_le h.2.2.2.1
    by_cases hc : labOk vc sc
    · obtain ⟨nc, rfl⟩ := Int.eq_ofNat_of_zero_le hc.2.2.1
      exact LabelBounds_ok va vb vc na nb nc h.1 h.2 hc w hT
    · exact LabelBounds_bad2 va vb na nb vc sc h.1 h.2 hc w hT
  · exact LabelBounds_bad1 va sa vb sb vc sc h w hT
end Go.Proofs.YtbdochaahbpabaaDoor

