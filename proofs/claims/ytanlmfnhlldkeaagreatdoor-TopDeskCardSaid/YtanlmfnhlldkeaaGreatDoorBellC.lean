/-
  Contracts: slices.Clone at labels; bell.labels.
-/
import Derived.Test.YtanlmfnhlldkeaaGreatDoorBellM
import Derived.Test.YtanlmfnhlldkeaaGreatDoorRowsA
namespace Go.Proofs.YtanlmfnhlldkeaaGreatDoor
open Go.RowKit
set_option maxRecDepth 100000
set_option linter.unusedVariables false

theorem eLabs : EInfo Tryz.prog 91 144 2 16 := EInfo.of (z := .agg #[.int .i64 0, .int .i64 0]) Tryz.underlying91 (by kernel_rfl) rfl (by decide)

theorem OwnAt.of_owns2 {w : World} {e : TypeId} {base n c size : Nat} {A : Option Addr} {l : List Value} (h : w.ownsRow base e size (.slice A n c) n l) (hl : l ≠ []) : ∃ g, A = some ⟨g, 0, none⟩ ∧ base ≤ g ∧ OwnAt w g e l := by
  rcases h.2 with ⟨_, h0⟩ | ⟨g, cap, cur, hv, hb, hg, hnc, _, hs, ht⟩
  · have := h.1; rw [h0, Nat.zero_mul] at this; exact absurd (List.length_eq_zero_iff.1 this) hl
  · refine ⟨g, by injection hv, hb, cur, hg, ?_, ?_⟩
    · have h1 := h.1
      rw [hs, h1]
      exact Nat.mul_le_mul_right _ hnc
    · intro j v hj
      rw [← ht, List.getElem?_take] at hj
      split at hj
      · simpa using hj
      · cases hj

set_option maxHeartbeats 400000 in
theorem CloneL_any (L : List Int) (n : Nat) (hL : L.length = n * 2) (A : Option Addr) (c : Nat) (w : World) (h : IntsAt w A L) (hn : n ≤ 100) :
    Calls Tryz.prog 142 #[.slice A n c] w fun e w' => (∃ A' c', e = .returned (.slice A' n c') ∧ IntsAt w' A' L ∧ (L ≠ [] → ∃ g, A' = some ⟨g, 0, none⟩ ∧ w.heap.size ≤ g ∧ OwnAt w' g 144 (vI L))) ∧ Below w.heap.size w w' := by
  have q22 := fun (w : World) (a : Option Addr) (n c n' c' : Nat) => Lib.run_eql_slice_nil w _ _ a n c n' c' Tryz.underlying91
  cases A with
  | none =>
    have hL0 : L = [] := Classical.byContradiction fun e => by obtain ⟨b, off, hA, _⟩ := h e; cases hA
    subst hL0
    obtain rfl : n = 0 := by simp at hL; omega
    go_enter Tryz.func142, Tryz.ntmps142
    go_wp2
    go_ret
    exact ⟨⟨none, 0, rfl, IntsAt.nil, fun e => absurd rfl e⟩, Below.refl _ _⟩
  | some a =>
    have hown : (w.alloc (.cells #[] 144)).ownsRow w.heap.size 144 2 (.slice (some ⟨w.heap.size, 0, none⟩) 0 0) 0 [] := ⟨rfl, .inr ⟨w.heap.size, 0, #[], rfl, Nat.le_refl _, heap_alloc_new w _, Nat.le_refl _, by unfold maxLen; omega, rfl, rfl⟩⟩
    have hcells : CellsAt (w.alloc (.cells #[] 144)) (some a) (vI L) := (h.below ((Below.refl _ w).alloc (Nat.le_refl _) _)).cells
    have Hc := Lib.hid h
    go_enter Tryz.func142, Tryz.ntmps142
    go_wp2_with (at_builtin; refine wpList_append_cells rfl _ _ rfl eLabs rfl hown (some a) n c (vI L) rfl hcells (by simp [vI, hL]) (fun u hu => by obtain ⟨x, _, rfl⟩ := List.mem_map.1 hu; rfl) (by omega) (by omega) (by simp) ?_; intro v' w1 hp)
    have hbl : Below w.heap.size w w1 := hp.below hown ((Below.refl _ w).alloc (Nat.le_refl _) _) (by simp)
    have hown1 := hp.own
    rw [Nat.zero_add, List.nil_append] at hown1
    obtain ⟨A', c', rfl⟩ := ownsRow_form hown1
    clear hp
    go_wp2
    go_ret
    refine ⟨⟨A', c', rfl, (CellsAt.own hown1).ints, fun hne => ?_⟩, hbl⟩
    exact OwnAt.of_owns2 hown1 (by simpa [vI] using hne)

set_option maxHeartbeats 1000000 in
theorem labels_any (L : List Int) (n most : Nat) (hL : L.length = n * 2) (hm : most ≤ 100) (A : Option Addr) (c : Nat) (w : World) (h : IntsAt w A L) (hl : n < 2 ^ 60) :
    Calls Tryz.prog 141 #[.slice A n c, .int .i64 most] w fun e w' => e = .returned (errVal (labsCode L n most)) ∧ Below w.heap.size w w' := by
  by_cases h12 : most < n
  · have Hc := Lib.hid (show labsCode L n most = 4 by unfold labsCode; rw [if_pos h12])
    clear hL
    go_enter Tryz.func141, Tryz.ntmps141
    go_wp2
    go_ret
    exact ⟨by rw [Hc.out]; rfl, Below.refl _ _⟩
  · have Hc := Lib.hid (show labsCode L n most = if (List.range n).all (labOkB L) then 0 else 1 by unfold labsCode; rw [if_neg h12])
    have HL := Lib.hid hL
    clear hL
    go_enter Tryz.func141, Tryz.ntmps141
    go_wp2
    go_loopw [15] (fun i wr => ∃ k : Nat, k ≤ n ∧ i = .int .i64 k ∧ Hid (∀ x, x < k → labOkB L x = true) ∧ Below w.heap.size w wr) (fun i _ => n - (intOf i).toNat)
    case atStart => exact ⟨0, Nat.zero_le _, rfl, Lib.hid (fun x hx => by omega), Below.refl _ _⟩
    case round =>
      obtain ⟨k, hk, rfl, hall, hbw⟩ := hrel
      by_cases hlt : k < n
      · have hA := h.below hbw
        have hL := HL.out
        obtain ⟨b, off, rfl, hc⟩ := hA (by intro e; simp [e] at hL; omega)
        have p0 := hc (k * 2) _ (get_gI (by omega))
        have p1 : wr.cell? ⟨b, off + k * 2 + 1, none⟩ = some (.int .i64 (gI L (k * 2 + 1))) := hc (k * 2 + 1) _ (get_gI (by omega))
        have hbl := block_lt p0
        have hbz : Below wr.heap.size wr (wr.alloc (.cells #[.int .i64 (gI L (k * 2)), .int .i64 (gI L (k * 2 + 1))] 144)) := (Below.refl _ _).alloc (Nat.le_refl _) _
        clear hc hL hA
        cases hb : labOkB L k with
        | true =>
          have hok : labOk (gI L (k * 2)) (gI L (k * 2 + 1)) := by unfold labOkB at hb; exact of_decide_eq_true hb
          have Hb := Lib.hid (fun V => LabCheck_ok _ _ V hok)
          have Hnew := Lib.hid (show ∀ y, y < k + 1 → labOkB L y = true from fun y hy => by
            rcases Nat.lt_or_ge y k with h1 | h1
            · exact hall.out y h1
            · obtain rfl : y = k := by omega
              exact hb)
          clear hb hall hok
          generalize gI L (k * 2) = v0 at *
          generalize gI L (k * 2 + 1) = v1 at *
          go_wp2_with (go_at_call 167; with_reducible refine (Hb.out _).mono ?_; rintro e w5 ⟨rfl, hb5⟩)
          refine ⟨⟨k + 1, ?xa, ?xb, Hnew, ?xc⟩, ?xd⟩
          case xa => omega
          case xb => go_num
          case xc => exact hbw.trans ((hbz.trans (hb5.mono hbz.size)).mono hbw.size)
          case xd => simp [intOf]; omega
        | false =>
          have hok : ¬ labOk (gI L (k * 2)) (gI L (k * 2 + 1)) := by unfold labOkB at hb; exact of_decide_eq_false hb
          have Hb := Lib.hid (fun V => LabCheck_bad _ _ V hok)
          have Hno := Lib.hid (show (List.range n).all (labOkB L) = false from by
            rw [List.all_eq_false]; exact ⟨k, List.mem_range.2 hlt, by rw [hb]; decide⟩)
          clear hb hall hok
          generalize gI L (k * 2) = v0 at *
          generalize gI L (k * 2 + 1) = v1 at *
          go_wp2_with (go_at_call 167; with_reducible refine (Hb.out _).mono ?_; rintro e w5 ⟨rfl, hb5⟩)
          go_ret
          exact ⟨by rw [Hc.out, Hno.out]; rfl, hbw.trans ((hbz.trans (hb5.mono hbz.size)).mono hbw.size)⟩
      · obtain rfl : k = n := by omega
        have Hyes := Lib.hid (show (List.range k).all (labOkB L) = true from by
          rw [List.all_eq_true]
          intro x hx
          exact hall.out x (List.mem_range.1 hx))
        clear hall
        go_wp2
        go_ret
        exact ⟨by rw [Hc.out, Hyes.out]; rfl, hbw⟩
end Go.Proofs.YtanlmfnhlldkeaaGreatDoor
