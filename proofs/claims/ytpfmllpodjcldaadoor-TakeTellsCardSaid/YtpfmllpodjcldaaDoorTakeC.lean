/-
  Contract: take.Check. A graph of rights as a list of lists.
-/
import Derived.Test.YtpfmllpodjcldaaDoorKernB
import Derived.Test.YtpfmllpodjcldaaDoorGrid
import Derived.Test.YtpfmllpodjcldaaDoorWithin
import Derived.Test.YtpfmllpodjcldaaDoorErr
import Derived.Test.YtpfmllpodjcldaaDoorOver
namespace Go.Proofs.YtpfmllpodjcldaaDoor
open Go.RowKit
set_option maxRecDepth 100000
set_option linter.unusedVariables false

/-- One cell. -/
def gAt (L : List (List Int)) (i j : Nat) : Int := nI (L.getD i []) j
def cellF (i j : Nat) (x : Int) : Nat := if ¬ (0 ≤ x ∧ x ≤ 7) then 1 else if i = j ∧ x ≠ 0 then 6 else 0
def gCellF (i : Nat) (l : List Int) (j : Nat) : Nat := cellF i j (nI l j)
def gRowF (n i : Nat) (l : List Int) : Nat := if l.length ≠ n then 3 else firstC (gCellF i l) n 0
def gRows (L : List (List Int)) (i : Nat) : Nat := gRowF L.length i (L.getD i [])
/-- What is wrong with a graph. -/
def gCode (L : List (List Int)) : Nat := if 20 < L.length then 4 else firstC (gRows L) L.length 0
/-- A graph of which nothing is wrong. -/
structure GOk (L : List (List Int)) : Prop where
  few : L.length ≤ 20
  row : ∀ i, i < L.length → (L.getD i []).length = L.length
  cell : ∀ i j, i < L.length → j < L.length → 0 ≤ gAt L i j ∧ gAt L i j ≤ 7
  self : ∀ i, i < L.length → gAt L i i = 0
theorem gOk {L : List (List Int)} (h : gCode L = 0) : GOk L := by
  unfold gCode at h
  split at h
  · cases h
  · rename_i h20
    have hr := fun i (hi : i < L.length) => firstC_zero h i (Nat.zero_le _) (by omega)
    have hrow : ∀ i, i < L.length → (L.getD i []).length = L.length := fun i hi => by
      have := hr i hi
      unfold gRows gRowF at this
      split at this
      · cases this
      · rename_i h; exact Classical.not_not.1 h
    have hc : ∀ i j, i < L.length → j < L.length → cellF i j (gAt L i j) = 0 := fun i j hi hj => by
      have := hr i hi
      unfold gRows gRowF at this
      rw [if_neg (fun h => h (hrow i hi))] at this
      exact firstC_zero this j (Nat.zero_le _) (by omega)
    refine ⟨by omega, hrow, fun i j hi hj => ?_, fun i hi => ?_⟩
    · have := hc i j hi hj
      unfold cellF at this
      split at this
      · cases this
      · rename_i h; exact Classical.not_not.1 h
    · have := hc i i hi hi
      unfold cellF at this
      split at this
      · cases this
      · split at this
        · cases this
        · rename_i h; exact Classical.byContradiction fun e => h ⟨rfl, e⟩
theorem gCode_ok {L : List (List Int)} (h : GOk L) : gCode L = 0 := by
  unfold gCode
  rw [if_neg (by have := h.few; omega)]
  have firstZ : ∀ (f : Nat → Nat) (m i : Nat), (∀ j, i ≤ j → j < i + m → f j = 0) → firstC f m i = 0 := fun f m => by
    induction m with
    | zero => intro i _; rfl
    | succ m ih => intro i h; rw [firstC, if_pos (h i (Nat.le_refl _) (by omega))]; exact ih (i + 1) fun j h1 h2 => h j (by omega) (by omega)
  refine firstZ _ _ _ fun i _ hi => ?_
  unfold gRows gRowF
  rw [if_neg (fun e => e (h.row i (by omega)))]
  refine firstZ _ _ _ fun j _ hj => ?_
  show cellF i j (gAt L i j) = 0
  unfold cellF
  rw [if_neg (fun e => e (h.cell i j (by omega) (by omega)))]
  rw [if_neg]
  rintro ⟨rfl, e⟩
  exact e (h.self i (by omega))
theorem int_cell {ok : Nat → Prop} {w : World} {A : Option Addr} {l : List Int} (h : IntsIn ok w A l) {i : Nat} (hi : i < l.length) : ∃ b off, A = some ⟨b, off, none⟩ ∧ w.cell? ⟨b, off + i, none⟩ = some (.int .i64 (nI l i)) := by
  obtain ⟨b, off, hA, _, hc⟩ := h (by rintro rfl; simp at hi)
  exact ⟨b, off, hA, hc i _ (by unfold nI; rw [List.getD_eq_getElem?_getD, List.getElem?_eq_getElem hi]; rfl)⟩

set_option maxHeartbeats 4000000 in
theorem TCheck_any {ok : Nat → Prop} {w : World} {A : Option Addr} {c n : Nat} {L : List (List Int)} (hL : RowsIn ok 1 w A L) (hn : L.length = n) (nm : n ≤ maxLen) :
    Calls Tryd.prog 8 #[.slice A n c] w fun e w' => e = .returned (errVal (gCode L)) ∧ w = w' := by
  have nm2 : n ≤ 9223372036854775807 := by unfold maxLen at nm; omega
  by_cases h20 : 20 < n
  · have e1 : decide ((n : Int) > 20) = true := by simp; omega
    have Hr := Lib.hid (show gCode L = 4 by unfold gCode; rw [if_pos (by rw [hn]; exact h20)])
    clear hL hn
    go_enter Tryd.func8, Tryd.ntmps8
    go_wp2_with fail
    go_ret
    exact ⟨by rw [Hr.out]; rfl, rfl⟩
  have e1 : decide ((n : Int) > 20) = false := by simp; omega
  have Hc := Lib.hid (show gCode L = firstC (gRows L) n 0 by unfold gCode; rw [if_neg (by rw [hn]; exact h20), hn])
  have HL := Lib.hid hL
  clear hL
  go_enter Tryd.func8, Tryd.ntmps8
  go_wp2_with fail
  go_loopw [13] (fun i wr => ∃ k : Nat, k ≤ n ∧ i = .int .i64 k ∧ Hid (firstC (gRows L) n 0 = firstC (gRows L) (n - k) k) ∧ w = wr) (fun i _ => n - (intOf i).toNat)
  case atStart => exact ⟨0, Nat.zero_le _, rfl, Lib.hid rfl, rfl⟩
  case round =>
    obtain ⟨k, hk, rfl, hfc, hwr⟩ := hrel
    subst hwr
    by_cases hlt : k < n
    · obtain ⟨b, off, Ai, ni, ci, rfl, c0, hli, hni, hi⟩ := HL.out.get (i := k) (by omega)
      rw [Nat.mul_one] at hli
      have hrow : gRows L k = gRowF n k (L.getD k []) := by unfold gRows; rw [hn]
      generalize L.getD k [] = l at *
      by_cases hsz : ni = n
      · subst hsz
        have dz : ((ni : Int) != (ni : Int)) = false := by simp
        rw [gRowF, if_neg (fun h => h hli)] at hrow
        have Hrow := Lib.hid hrow
        have HI := Lib.hid hi
        have hlen := Lib.hid hli
        have Hk := Lib.hid hlt
        clear hrow hi hli
        go_wp2_with fail
        go_loopw [26] (fun i wo => ∃ j : Nat, j ≤ ni ∧ i = .int .i64 j ∧ Hid (firstC (gCellF k l) ni 0 = firstC (gCellF k l) (ni - j) j) ∧ w = wo) (fun i _ => ni - (intOf i).toNat)
        case atStart => exact ⟨0, Nat.zero_le _, rfl, Lib.hid rfl, rfl⟩
        case round =>
          obtain ⟨j, hj, rfl, hfo, hwo⟩ := hrel
          subst hwo
          by_cases hjl : j < ni
          · obtain ⟨b3, off3, rfl, o0⟩ := int_cell HI.out (i := j) (by rw [hlen.out]; exact hjl)
            have hcf : gCellF k l j = cellF k j (nI l j) := rfl
            generalize nI l j = x at *
            have HF := Lib.hid (fun (hne : cellF k j x ≠ 0) => show gCode L = cellF k j x by
              have h6 : gRows L k = cellF k j x := by rw [Hrow.out, hfo.out, firstC_bad hjl (by rw [hcf]; exact hne), hcf]
              rw [Hc.out, hfc.out, firstC_bad Hk.out (by rw [h6]; exact hne), h6])
            have HG := Lib.hid (fun (he : cellF k j x = 0) => show firstC (gCellF k l) ni 0 = firstC (gCellF k l) (ni - (j + 1)) (j + 1) by
              rw [hfo.out, firstC_next hjl (by rw [hcf]; exact he)])
            clear hfo hcf
            by_cases hx : 0 ≤ x ∧ x ≤ 7
            · have W0 := Lib.hid (fun V => Within3_is x 0 7 true V (decide_eq_true hx))
              by_cases he : k = j
              · subst he
                have dk : ((k : Int) == (k : Int)) = true := by simp
                by_cases hz : x = 0
                · subst hz
                  have Hn := Lib.hid (HG.out (by unfold cellF; rw [if_neg (fun h => h hx), if_neg (fun h => h.2 rfl)]))
                  clear HF HG hx
                  go_wp2_with (with_reducible refine (W0.out _).mono ?_; rintro e w' ⟨rfl, rfl⟩)
                  refine ⟨⟨k + 1, ?ya, ?yb, Hn, trivial⟩, ?yd⟩
                  case ya => omega
                  case yb => go_num
                  case yd => simp [intOf]; omega
                · have dx : (x != 0) = true := by simpa using hz
                  have Hr := Lib.hid (show gCode L = 6 by
                    have h6 : cellF k k x = 6 := by unfold cellF; rw [if_neg (fun h => h hx), if_pos ⟨rfl, hz⟩]
                    rw [HF.out (by rw [h6]; decide), h6])
                  clear HF HG hx hz
                  go_wp2_with (with_reducible refine (W0.out _).mono ?_; rintro e w' ⟨rfl, rfl⟩)
                  go_ret
                  exact ⟨by rw [Hr.out]; rfl, rfl⟩
              · have dk : ((k : Int) == (j : Int)) = false := by simp; omega
                have Hn := Lib.hid (HG.out (by unfold cellF; rw [if_neg (fun h => h hx), if_neg (fun h => he h.1)]))
                clear HF HG hx he
                go_wp2_with (with_reducible refine (W0.out _).mono ?_; rintro e w' ⟨rfl, rfl⟩)
                refine ⟨⟨j + 1, ?ya, ?yb, Hn, trivial⟩, ?yd⟩
                case ya => omega
                case yb => go_num
                case yd => simp [intOf]; omega
            · have W0 := Lib.hid (fun V => Within3_is x 0 7 false V (decide_eq_false hx))
              have Hr := Lib.hid (show gCode L = 1 by
                have h6 : cellF k j x = 1 := by unfold cellF; rw [if_pos hx]
                rw [HF.out (by rw [h6]; decide), h6])
              clear HF HG hx
              go_wp2_with (with_reducible refine (W0.out _).mono ?_; rintro e w' ⟨rfl, rfl⟩)
              go_ret
              exact ⟨by rw [Hr.out]; rfl, rfl⟩
          · obtain rfl : j = ni := by omega
            have Hn := Lib.hid (show firstC (gRows L) j 0 = firstC (gRows L) (j - (k + 1)) (k + 1) by
              rw [hfc.out, firstC_next Hk.out (by rw [Hrow.out, hfo.out, firstC_end])])
            clear hfo hfc
            go_wp2_with fail
            refine ⟨⟨k + 1, ?ya, ?yb, Hn, trivial⟩, ?yd⟩
            case ya => have := Hk.out; omega
            case yb => go_num
            case yd => have := Hk.out; simp [intOf]; omega
      · have dz : ((ni : Int) != (n : Int)) = true := by simp; omega
        have Hr := Lib.hid (show gCode L = 3 by
          have h6 : gRows L k = 3 := by rw [hrow]; unfold gRowF; rw [if_pos (by omega)]
          rw [Hc.out, hfc.out, firstC_bad hlt (by rw [h6]; decide), h6])
        clear hrow hfc hi hsz
        go_wp2_with fail
        go_ret
        exact ⟨by rw [Hr.out]; rfl, rfl⟩
    · obtain rfl : k = n := by omega
      have Hr := Lib.hid (show gCode L = 0 by rw [Hc.out, hfc.out, firstC_end])
      clear hfc
      go_wp2_with fail
      go_ret
      exact ⟨by rw [Hr.out]; rfl, rfl⟩
end Go.Proofs.YtpfmllpodjcldaaDoor
