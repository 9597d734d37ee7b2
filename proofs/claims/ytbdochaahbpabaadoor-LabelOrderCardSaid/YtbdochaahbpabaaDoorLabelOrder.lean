/-
  The walk of quietwinglaw1.LabelOrder.
-/
import Derived.Test.YtbdochaahbpabaaDoorLabFact
namespace Go.Proofs.YtbdochaahbpabaaDoor
open Go.RowKit
set_option maxRecDepth 100000

/-- Two labels are below each other just if they are one; and from one to the next. -/
theorem order_law (va vb vc : Int) (sa sb sc : Nat) :
    ((decide (va ≤ vb) && within sa sb) && (decide (vb ≤ va) && within sb sa)) = (decide (va = vb) && decide ((sa : Int) = (sb : Int))) ∧
    ((decide (va ≤ vb) && within sa sb) = true → (decide (vb ≤ vc) && within sb sc) = true → (decide (va ≤ vc) && within sa sc) = true) ∧ within sa sa = true := by
  refine ⟨?_, ?_, ?_⟩
  · rw [Bool.eq_iff_iff]
    simp only [Bool.and_eq_true, decide_eq_true_eq]
    constructor
    · rintro ⟨⟨h1, h2⟩, h3, h4⟩
      refine ⟨by omega, ?_⟩
      have : sa = sb := Nat.eq_of_testBit_eq fun i => by
        rw [Bool.eq_iff_iff]; exact ⟨(within_iff sa sb).1 h2 i, (within_iff sb sa).1 h4 i⟩
      omega
    · rintro ⟨rfl, h2⟩
      have : sa = sb := by omega
      subst this
      exact ⟨⟨by omega, (within_iff _ _).2 fun _ h => h⟩, by omega, (within_iff _ _).2 fun _ h => h⟩
  · simp only [Bool.and_eq_true, decide_eq_true_eq]
    rintro ⟨h1, h2⟩ ⟨h3, h4⟩
    exact ⟨by omega, (within_iff _ _).2 fun i hi => (within_iff _ _).1 h4 i ((within_iff _ _).1 h2 i hi)⟩
  · exact (within_iff _ _).2 fun _ h => h

set_option maxHeartbeats 2000000 in
theorem LabelOrder_ok (va vb vc : Int) (sa sb sc : Nat) (ha : labOk va sa) (hb : labOk vb sb) (hc' : labOk vc sc) (w : World) (hT : Tab w) :
    Calls Tryd.prog 3 #[.agg #[.int .i64 va, .int .i64 sa], .agg #[.int .i64 vb, .int .i64 sb], .agg #[.int .i64 vc, .int .i64 sc]] w fun e w' => e = .returned (.bool true) ∧ Below w.heap.size w w' := by
  have H1 := Lib.hid (fun W => Below_ok va va sa sa W ha ha)
  have H2 := Lib.hid (fun W => Below_ok va vb sa sb W ha hb)
  have H3 := Lib.hid (fun W => Below_ok vb va sb sa W hb ha)
  have H4 := Lib.hid (fun W => Below_ok vb vc sb sc W hb hc')
  have H5 := Lib.hid (fun W => Below_ok va vc sa sc W ha hc')
  have HL := Lib.hid (order_law va vb vc sa sb sc)
  clear ha hb hc'
  have e1 : (decide (va ≤ va) && within sa sa) = true := by rw [HL.out.2.2]; simp
  rw [e1] at H1
  clear e1
  have heq : ((decide (va ≤ vb) && within sa sb) && (decide (vb ≤ va) && within sb sa)) = (va == vb && (sa : Int) == (sb : Int)) := HL.out.1
  have htr := HL.out.2.1
  have Heq := Lib.hid heq
  have Htr := Lib.hid htr
  clear heq htr HL
  generalize (decide (va ≤ vb) && within sa sb) = x at *
  generalize (decide (vb ≤ va) && within sb sa) = y at *
  generalize (decide (vb ≤ vc) && within sb sc) = z at *
  generalize (decide (va ≤ vc) && within sa sc) = t at *
  go_enter Tryd.func3, Tryd.ntmps3
  go_wp2_with fail
  have hTb : Tab (((w.alloc (.cells #[.int .i64 va, .int .i64 sa] 23)).alloc (.cells #[.int .i64 vb, .int .i64 sb] 23)).alloc (.cells #[.int .i64 vc, .int .i64 sc] 23)) :=
    Tab.next hT ((((Below.refl _ w).alloc (Nat.le_refl _) _).alloc (by simp) _).alloc (by simp; omega) _)
  refine (labelFact_any _ hTb).mono ?_
  rintro e w1 ⟨rfl, hb1⟩
  have hB : Below (w.heap.size + 1 + 1 + 1) (((w.alloc (.cells #[.int .i64 va, .int .i64 sa] 23)).alloc (.cells #[.int .i64 vb, .int .i64 sb] 23)).alloc (.cells #[.int .i64 vc, .int .i64 sc] 23)) w1 := hb1.mono (by simp)
  clear hTb hb1 hT
  obtain ⟨hc, hf⟩ := bcell2 hB
  go_wp2_with fail
  refine (H1.out _).mono ?_
  rintro e w2 ⟨rfl, hb2⟩
  replace hB := hB.trans (hb2.mono (Nat.le_trans (by simp) hB.size))
  clear hb2 hc hf
  obtain ⟨hc, hf⟩ := bcell2 hB
  go_wp2_with fail
  refine (H2.out _).mono ?_
  rintro e w3 ⟨rfl, hb3⟩
  replace hB := hB.trans (hb3.mono (Nat.le_trans (by simp) hB.size))
  clear hb3 hc hf
  obtain ⟨hc, hf⟩ := bcell2 hB
  go_wp2_with fail
  refine (H3.out _).mono ?_
  rintro e w4 ⟨rfl, hb4⟩
  replace hB := hB.trans (hb4.mono (Nat.le_trans (by simp) hB.size))
  clear hb4 hc hf
  obtain ⟨hc, hf⟩ := bcell2 hB
  go_wp2_with fail
  refine (H4.out _).mono ?_
  rintro e w5 ⟨rfl, hb5⟩
  replace hB := hB.trans (hb5.mono (Nat.le_trans (by simp) hB.size))
  clear hb5 hc hf
  obtain ⟨hc, hf⟩ := bcell2 hB
  go_wp2_with fail
  refine (H5.out _).mono ?_
  rintro e w6 ⟨rfl, hb6⟩
  replace hB := hB.trans (hb6.mono (Nat.le_trans (by simp) hB.size))
  clear hb6 hc hf
  obtain ⟨hc, hf⟩ := bcell2 hB
  go_wp2_with fail
  all_goals
    go_ret
    refine ⟨ret_bool ?_, ((((Below.refl _ w).alloc (Nat.le_refl _) _).alloc (by simp) _).alloc (by simp; omega) _).trans (hB.mono (by omega))⟩
    have h1 := Heq.out
    have h2 := Htr.out
    simp_all

set_option maxHeartbeats 2000000 in
theorem LabelOrder_bad1 (va sa vb sb vc sc : Int) (h : ¬ (labOk va sa ∧ labOk vb sb)) (w : World) (hT : Tab w) :
    Calls Tryd.prog 3 #[.agg #[.int .i64 va, .int .i64 sa], .agg #[.int .i64 vb, .int .i64 sb], .agg #[.int .i64 vc, .int .i64 sc]] w fun e w' => e = .returned (.bool true) ∧ Below w.heap.size w w' := by
  have H2 := Lib.hid (fun W => Below_bad va sa vb sb W h)
  have H3 := Lib.hid (fun W => Below_bad vb sb va sa W (fun k => h ⟨k.2, k.1⟩))
  clear h
  by_cases ha : labOk va sa
  · obtain ⟨n, rfl⟩ := Int.eq_ofNat_of_zero_le ha.2.2.1
    have H1 := Lib.hid (fun W => Below_ok va va n n W ha ha)
    generalize (decide (va ≤ va) && within n n) = x at *
    clear ha
    go_enter Tryd.func3, Tryd.ntmps3
    go_wp2_with fail
    have hTb : Tab (((w.alloc (.cells #[.int .i64 va, .int .i64 n] 23)).alloc (.cells #[.int .i64 vb, .int .i64 sb] 23)).alloc (.cells #[.int .i64 vc, .int .i64 sc] 23)) :=
      Tab.next hT ((((Below.refl _ w).alloc (Nat.le_refl _) _).alloc (by simp) _).alloc (by simp; omega) _)
    refine (labelFact_any _ hTb).mono ?_
    rintro e w1 ⟨rfl, hb1⟩
    have hB : Below (w.heap.size + 1 + 1 + 1) (((w.alloc (.cells #[.int .i64 va, .int .i64 n] 23)).alloc (.cells #[.int .i64 vb, .int .i64 sb] 23)).alloc (.cells #[.int .i64 vc, .int .i64 sc] 23)) w1 := hb1.mono (by simp)
    clear hTb hb1 hT
    obtain ⟨hc, hf⟩ := bcell2 hB
    go_wp2_with fail
    refine (H1.out _).mono ?_
    rintro e w2 ⟨rfl, hb2⟩
    replace hB := hB.trans (hb2.mono (Nat.le_trans (by simp) hB.size))
    clear hb2 hc hf
    obtain ⟨hc, hf⟩ := bcell2 hB
    go_wp2_with fail
    refine (H2.out _).mono ?_
    rintro e w3 ⟨rfl, hb3⟩
    replace hB := hB.trans (hb3.mono (Nat.le_trans (by simp) hB.size))
    clear hb3 hc hf
    obtain ⟨hc, hf⟩ := bcell2 hB
    go_wp2_with fail
    refine (H3.out _).mono ?_
    rintro e w4 ⟨rfl, hb4⟩
    replace hB := hB.trans (hb4.mono (Nat.le_trans (by simp) hB.size))
    clear hb4 hc hf
    obtain ⟨hc, hf⟩ := bcell2 hB
    go_wp2_with fail
    go_ret
    exact ⟨rfl, ((((Below.refl _ w).alloc (Nat.le_refl _) _).alloc (by simp) _).alloc (by simp; omega) _).trans (hB.mono (by omega))⟩
  · have H1 := Lib.hid (fun W => Below_bad va sa va sa W (fun k => ha k.1))
    clear ha
    go_enter Tryd.func3, Tryd.ntmps3
    go_wp2_with fail
    have hTb : Tab (((w.alloc (.cells #[.int .i64 va, .int .i64 sa] 23)).alloc (.cells #[.int .i64 vb, .int .i64 sb] 23)).alloc (.cells #[.int .i64 vc, .int .i64 sc] 23)) :=
      Tab.next hT ((((Below.refl _ w).alloc (Nat.le_refl _) _).alloc (by simp) _).alloc (by simp; omega) _)
    refine (labelFact_any _ hTb).mono ?_
    rintro e w1 ⟨rfl, hb1⟩
    have hB : Below (w.heap.size + 1 + 1 + 1) (((w.alloc (.cells #[.int .i64 va, .int .i64 sa] 23)).alloc (.cells #[.int .i64 vb, .int .i64 sb] 23)).alloc (.cells #[.int .i64 vc, .int .i64 sc] 23)) w1 := hb1.mono (by simp)
    clear hTb hb1 hT
    obtain ⟨hc, hf⟩ := bcell2 hB
    go_wp2_with fail
    refine (H1.out _).mono ?_
    rintro e w2 ⟨rfl, hb2⟩
    replace hB := hB.trans (hb2.mono (Nat.le_trans (by simp) hB.size))
    clear hb2 hc hf
    obtain ⟨hc, hf⟩ := bcell2 hB
    go_wp2_with fail
    refine (H2.out _).mono ?_
    rintro e w3 ⟨rfl, hb3⟩
    replace hB := hB.trans (hb3.mono (Nat.le_trans (by simp) hB.size))
    clear hb3 hc hf
    obtain ⟨hc, hf⟩ := bcell2 hB
    go_wp2_with fail
    refine (H3.out _).mono ?_
    rintro e w4 ⟨rfl, hb4⟩
    replace hB := hB.trans (hb4.mono (Nat.le_trans (by simp) hB.size))
    clear hb4 hc hf
    obtain ⟨hc, hf⟩ := bcell2 hB
    go_wp2_with fail
    go_ret
    exact ⟨rfl, ((((Below.refl _ w).alloc (Nat.le_refl _) _).alloc (by simp) _).alloc (by simp; omega) _).trans (hB.mono (by omega))⟩

set_option maxHeartbeats 2000000 in
theorem LabelOrder_bad2 (va vb : Int) (sa sb : Nat) (vc sc : Int) (ha : labOk va sa) (hb : labOk vb sb) (h : ¬ labOk vc sc) (w : World) (hT : Tab w) :
    Calls Tryd.prog 3 #[.agg #[.int .i64 va, .int .i64 sa], .agg #[.int .i64 vb, .int .i64 sb], .agg #[.int .i64 vc, .int .i64 sc]] w fun e w' => e = .returned (.bool true) ∧ Below w.heap.size w w' := by
  have H1 := Lib.hid (fun W => Below_ok va va sa sa W ha ha)
  have H2 := Lib.hid (fun W => Below_ok va vb sa sb W ha hb)
  have H3 := Lib.hid (fun W => Below_ok vb va sb sa W hb ha)
  have H4 := Lib.hid (fun W => Below_bad vb sb vc sc W (fun k => h k.2))
  have H5 := Lib.hid (fun W => Below_bad va sa vc sc W (fun k => h k.2))
  have HL := Lib.hid (order_law va vb vc sa sb sb)
  clear ha hb h
  have e1 : (decide (va ≤ va) && within sa sa) = true := by rw [HL.out.2.2]; simp
  rw [e1] at H1
  clear e1 HL
  generalize (decide (va ≤ vb) && within sa sb) = x at *
  generalize (decide (vb ≤ va) && within sb sa) = y at *
  go_enter Tryd.func3, Tryd.ntmps3
  go_wp2_with fail
  have hTb : Tab (((w.alloc (.cells #[.int .i64 va, .int .i64 sa] 23)).alloc (.cells #[.int .i64 vb, .int .i64 sb] 23)).alloc (.cells #[.int .i64 vc, .int .i64 sc] 23)) :=
    Tab.next hT ((((Below.refl _ w).alloc (Nat.le_refl _) _).alloc (by simp) _).alloc (by simp; omega) _)
  refine (labelFact_any _ hTb).mono ?_
  rintro e w1 ⟨rfl, hb1⟩
  have hB : Below (w.heap.size + 1 + 1 + 1) (((w.alloc (.cells #[.int .i64 va, .int .i64 sa] 23)).alloc (.cells #[.int .i64 vb, .int .i64 sb] 23)).alloc (.cells #[.int .i64 vc, .int .i64 sc] 23)) w1 := hb1.mono (by simp)
  clear hTb hb1 hT
  obtain ⟨hc, hf⟩ := bcell2 hB
  go_wp2_with fail
  refine (H1.out _).mono ?_
  rintro e w2 ⟨rfl, hb2⟩
  replace hB := hB.trans (hb2.mono (Nat.le_trans (by simp) hB.size))
  clear hb2 hc hf
  obtain ⟨hc, hf⟩ := bcell2 hB
  go_wp2_with fail
  refine (H2.out _).mono ?_
  rintro e w3 ⟨rfl, hb3⟩
  replace hB := hB.trans (hb3.mono (Nat.le_trans (by simp) hB.size))
  clear hb3 hc hf
  obtain ⟨hc, hf⟩ := bcell2 hB
  go_wp2_with fail
  refine (H3.out _).mono ?_
  rintro e w4 ⟨rfl, hb4⟩
  replace hB := hB.trans (hb4.mono (Nat.le_trans (by simp) hB.size))
  clear hb4 hc hf
  obtain ⟨hc, hf⟩ := bcell2 hB
  go_wp2_with fail
  refine (H4.out _).mono ?_
  rintro e w5 ⟨rfl, hb5⟩
  replace hB := hB.trans (hb5.mono (Nat.le_trans (by simp) hB.size))
  clear hb5 hc hf
  obtain ⟨hc, hf⟩ := bcell2 hB
  go_wp2_with fail
  refine (H5.out _).mono ?_
  rintro e w6 ⟨rfl, hb6⟩
  replace hB := hB.trans (hb6.mono (Nat.le_trans (by simp) hB.size))
  clear hb6 hc hf
  obtain ⟨hc, hf⟩ := bcell2 hB
  go_wp2_with fail
  go_ret
  exact ⟨rfl, ((((Below.refl _ w).alloc (Nat.le_refl _) _).alloc (by simp) _).alloc (by simp; omega) _).trans (hB.mono (by omega))⟩

theorem LabelOrder_walk (va sa vb sb vc sc : Int) {W : World} (w : World) (hw : w = W) (hT : Tab W) :
    Calls Tryd.prog 3 #[.agg #[.int .i64 va, .int .i64 sa], .agg #[.int .i64 vb, .int .i64 sb], .agg #[.int .i64 vc, .int .i64 sc]] w fun e w' => e = .returned (.bool true) ∧ Below w.heap.size w w' := by
  subst hw
  by_cases h : labOk va sa ∧ labOk vb sb
  · obtain ⟨na, rfl⟩ := Int.eq_ofNat_of_zero_le h.1.2.2.1
    obtain ⟨nb, rfl⟩ := Int.eq_ofNat_of_zero_le h.2.2.2.1
    by_cases hc : labOk vc sc
    · obtain ⟨nc, rfl⟩ := Int.eq_ofNat_of_zero_le hc.2.2.1
      exact LabelOrder_ok va vb vc na nb nc h.1 h.2 hc w hT
    · exact LabelOrder_bad2 va vb na nb vc sc h.1 h.2 hc w hT
  · exact LabelOrder_bad1 va sa vb sb vc sc h w hT
end Go.Proofs.YtbdochaahbpabaaDoor

