/-
  Contract: label.Write.
-/
import Derived.Test.YtndeplakkhfmlaaDoorBits
import Derived.Test.YtndeplakkhfmlaaDoorBuilder
import Derived.Test.YtndeplakkhfmlaaDoorMarks
import Derived.Test.YtndeplakkhfmlaaDoorLabelB
namespace Go.Proofs.YtndeplakkhfmlaaDoor
open Go.RowKit Go.Shelf
attribute [local go_sem] Oper.semAt_some
set_option maxRecDepth 100000

/-- The text of a label. -/
def labText (v s : Nat) : List UInt8 := UInt8.ofNat (48 + v) :: (bitsOf s).map fun i => UInt8.ofNat (97 + i)

theorem fresh_built (w : World) : Built w.heap.size w.heap.size [] (w.alloc (.cells #[.pointer none, .slice none 0 0] 74)) :=
  .inl ⟨Nat.le_refl _, .slice none 0 0, heap_alloc_new w _, World.ownsRowF_nil _ _ _ _, by simp [Value.ownBlock]⟩

theorem bit_lt {s n x : Nat} (hs : s < 2 ^ n) (hx : s.testBit x = true) : x < n := by
  rcases Nat.lt_or_ge x n with h | h
  · exact h
  · rw [Nat.testBit_lt_two_pow (Nat.lt_of_lt_of_le hs (Nat.pow_le_pow_right (by decide) h))] at hx; cases hx
theorem u8_nat (n : Nat) (h : n < 256) : ((UInt8.ofNat n).toNat : Int) = (n : Int) := by
  rw [UInt8.toNat_ofNat']; omega

set_option maxHeartbeats 4000000 in
theorem Write_ok (v s : Nat) (w : World) (h : labOk v s) (hT : Tab w) :
    Calls Tryd.prog 20 #[.agg #[.int .i64 v, .int .i64 s]] w fun e w' => e = .returned (.tuple #[.string ⟨(labText v s).toArray⟩, .nilIface]) ∧ Below w.heap.size w w' := by
  refine (callsIn_wide (n := 8)).1 ?_
  have H1 := Lib.hid (fun W => LabCheck_ok v s W h)
  have hv : v ≤ 7 := by have := h.2.1; omega
  have hs : s < 256 := by have := h.2.2.2; omega
  clear h
  refine callsIn_of_wp_marks Tryd.func20 rfl trivial ?_ rfl
  simp only [Tryd.ntmps20, List.size_toArray, List.length_cons, List.length_nil, Nat.reduceAdd, Nat.reduceSub, Array.replicate_succ, Array.replicate_zero, List.push_toArray, List.append_toArray, List.nil_append, List.cons_append]
  gi_wp2_with fail
  refine ⟨trivial, (callsIn_wide.2 (H1.out _)).mono ?_⟩
  rintro e w1 ⟨rfl, hb1⟩
  obtain ⟨hc, hf⟩ := bcell2 hb1
  have hz : w.heap.size < w1.heap.size := by have := hb1.size; simp at this; omega
  have hT1 : Tab w1 := Tab.below hT (((Below.refl _ w).alloc (Nat.le_refl _) _).trans (hb1.mono (by simp))) hT.lt
  have hcv : w1.cell? ⟨w.heap.size, 0, none⟩ = some (.int .i64 v) := by rw [hc _ _ (by simp)]; simp [go_sem]
  have hcs : w1.cell? ⟨w.heap.size, 1, none⟩ = some (.int .i64 s) := by rw [hc _ _ (by simp)]; simp [go_sem]
  have hbl : Below w.heap.size w w1 := ((Below.refl _ w).alloc (Nat.le_refl _) _).trans (hb1.mono (by simp))
  clear hc hf hb1 hT
  gi_wp2_with fail
  have hbw := fresh_built w1
  refine ⟨trivial, (callsIn_wide.2 (WriteByte_any w1.heap.size w1.heap.size [] (48 + (v : Int)) _ hbw (by simp) (by simp))).mono ?_⟩
  rintro e w3 ⟨rfl, hbw3, hb3, hk3⟩
  have hcs3 : w3.cell? ⟨w.heap.size, 1, none⟩ = some (.int .i64 s) := by rw [hb3.cell (p := ⟨w.heap.size, 1, none⟩) hz, World.cell?_alloc_lt w1 _ _ hz]; exact hcs
  have hz3 : w1.heap.size < w3.heap.size := by have := hb3.size; simp at this; omega
  have hT3 : Tab w3 := Tab.below (Tab.below hT1 ((Below.refl _ w1).alloc (Nat.le_refl _) _) hT1.lt) hb3 hT1.lt
  have hbl3 : Below w.heap.size w w3 := (hbl.alloc (by omega) _).trans (hb3.mono (by omega))
  have hg1 := hT1.lt
  clear hcv hcs hbw hk3 hb3 hT1 hbl
  gi_wp2_with fail
  refine ⟨trivial, (callsIn_wide.2 (Bits_any s _)).mono ?_⟩
  rintro e w4 ⟨rfl, rfl⟩
  gi_wp2_with fail
  have hb5 := cell_new w3 (.int .i64 s) 3
  have hT5 : Tab (w3.alloc (.cells #[.int .i64 s] 3)) := Tab.next hT3 ((Below.refl _ w3).alloc (Nat.le_refl _) _)
  refine wp_bits1 (by decide) 6 (B := w3.heap.size) (s := s) rfl hb5.1 (by omega) hT5
    (fun pre W => Built w1.heap.size w1.heap.size (.int .u8 (48 + (v : Int)) :: pre.map (fun i : Nat => Value.int .u8 (97 + (i : Int)))) W ∧ Below w.heap.size w W)
    (fun _ _ _ => False)
    (fun _ _ _ _ hs hg hr => ⟨builder_kept hs.1 hg (fun r e => (hr r e).2), below_own hs.2 (Nat.le_refl _) (by simp; omega) hg hr⟩)
    (fun _ _ _ _ _ hs _ _ => hs)
    ⟨Lib.IsBuilderF.alloc (by simpa using hbw3) _, hbl3.alloc (by omega) _⟩ ?assign ?body ?done ?stop
  case assign =>
    intro l x W K hK
    gi_wp2
    exact hK
  case body =>
    rintro l pre x W hx hlen ⟨hbW, hblW⟩
    have hx8 : x < 8 := bit_lt (n := 8) hs hx
    have hb1 : w1.heap.size < W.heap.size := by
      obtain ⟨_, c, t, f, hc⟩ := built_cells hbW
      exact (Array.getElem?_eq_some_iff.1 hc).1
    have Hbw := Lib.hid (WriteByte_any w1.heap.size w1.heap.size _ (97 + (x : Int)) W hbW (by simp; omega) (by omega))
    clear H1
    simp only [List.setIfInBounds_toArray, List.set_cons_succ, List.set_cons_zero]
    gi_wp2_with fail
    refine ⟨trivial, (CallsIn.inRound l (callsIn_wide.2 Hbw.out)).mono ?_⟩
    rintro e W2 ⟨rfl, hbw2, hb2, hk2⟩
    gi_wp2_with fail
    refine ⟨(keepsOthers_kept hk2 hb2.size (built_cells hbW).2).from _, hb2.mono (by omega), by simpa using hbw2, hblW.trans (hb2.mono (by omega))⟩
  case done =>
    rintro D W hD ⟨hbW, hblW⟩ hK
    have hb1 : w1.heap.size < W.heap.size := by
      obtain ⟨_, c, t, f, hc⟩ := built_cells hbW
      exact (Array.getElem?_eq_some_iff.1 hc).1
    have hbc : Built w1.heap.size w1.heap.size (Lib.byteCells (labText v s)) W := by
      have e : Lib.byteCells (labText v s) = .int .u8 (48 + (v : Int)) :: (bitsOf s).map (fun i : Nat => Value.int .u8 (97 + (i : Int))) := by
        unfold Lib.byteCells labText
        rw [List.map_cons, List.map_map]
        congr 1
        · rw [u8_nat (48 + v) (by omega)]; simp
        · refine List.map_congr_left fun i hi => ?_
          have : i < 64 := by unfold bitsOf at hi; exact List.mem_range.1 (List.mem_filter.1 hi).1
          simp only [Function.comp]
          rw [u8_nat (97 + i) (by omega)]; simp
      rw [e]; exact hbW
    have Hst := Lib.hid (Tryd.Builder_String_any_k w1.heap.size w1.heap.size (labText v s) W hbc (by omega))
    gi_wp2_with fail
    refine ⟨trivial, (callsIn_wide.2 Hst.out).mono ?_⟩
    rintro e W2 ⟨rfl, hbw2, hb2, hk2⟩
    gi_wp2_with fail
    refine leaves_marks (B := w3.heap.size) [D] W2 ⟨by simp, ?_⟩ ?_
    · intro D' hD'
      obtain rfl : D' = D := by simpa using hD'
      exact ⟨by simp at hD; omega, (keepsOthers_kept hk2 hb2.size (built_cells hbW).2).same _ _ hK rfl⟩
    · intro w' _ hb' _
      exact ⟨_, results_tmp2 rfl _ _ _, rfl, (hblW.trans (hb2.mono (by omega))).trans (hb'.mono (by omega))⟩
  case stop =>
    rintro D c pre W _ _ h _
    exact h.elim
end Go.Proofs.YtndeplakkhfmlaaDoor
