/-
  Contract: kernel.Check.
-/
import Derived.Test.YtgkanbaboeppfaaDoorKernC
namespace Go.Proofs.YtgkanbaboeppfaaDoor
open Go.RowKit
set_option maxRecDepth 100000
set_option linter.unusedVariables false

theorem IntsIn.below {ok : Nat → Prop} {w w' : World} {A : Option Addr} {l : List Int} (h : IntsIn ok w A l) (hb : Below w.heap.size w w') : IntsIn ok w' A l := h.keep fun b h1 _ => hb.block b h1
/-- An op's three numbers, as they lie. -/
theorem op_cells {ok : Nat → Prop} {w : World} {A : Option Addr} {l : List Int} {m : Nat} (h : IntsIn ok w A l) (hl : l.length = m * 3) {i : Nat} (hi : i < m) :
    ∃ b off, A = some ⟨b, off, none⟩ ∧ w.cell? ⟨b, off + i * 3, none⟩ = some (.int .i64 (nI l (3 * i))) ∧ w.cell? ⟨b, off + i * 3 + 1, none⟩ = some (.int .i64 (nI l (3 * i + 1))) ∧ w.cell? ⟨b, off + i * 3 + 2, none⟩ = some (.int .i64 (nI l (3 * i + 2))) := by
  obtain ⟨b, off, e, _, hc⟩ := h (by rintro rfl; simp at hl; omega)
  have hg : ∀ j, j < l.length → l[j]? = some (nI l j) := fun j hj => by unfold nI; rw [List.getD_eq_getElem?_getD, List.getElem?_eq_getElem hj]; rfl
  refine ⟨b, off, e, ?_, ?_, ?_⟩
  · have := hc (3 * i) _ (hg _ (by omega))
    rwa [show off + 3 * i = off + i * 3 by omega] at this
  · have := hc (3 * i + 1) _ (hg _ (by omega))
    rwa [show off + (3 * i + 1) = off + i * 3 + 1 by omega] at this
  · have := hc (3 * i + 2) _ (hg _ (by omega))
    rwa [show off + (3 * i + 2) = off + i * 3 + 2 by omega] at this
theorem turn_cell {ok : Nat → Prop} {w : World} {A : Option Addr} {T : List Int} (h : IntsIn ok w A T) {i : Nat} (hi : i < T.length) : ∃ b off, A = some ⟨b, off, none⟩ ∧ w.cell? ⟨b, off + i, none⟩ = some (.int .i64 (nI T i)) := by
  obtain ⟨b, off, e, _, hc⟩ := h (by rintro rfl; simp at hi)
  exact ⟨b, off, e, hc i _ (by unfold nI; rw [List.getD_eq_getElem?_getD, List.getElem?_eq_getElem hi]; rfl)⟩
def portF (P : List Int) (n : Nat) (i : Nat) : Nat := portCode n (nI P (2 * i)) (nI P (2 * i + 1))
def turnF (T : List Int) (n : Nat) (i : Nat) : Nat := turnCode n (nI T i)
def rowF (L : List (List Int)) (P : List Int) (q : Nat) (i : Nat) : Nat := rowCode P q i (L.getD i [])
def opF (P : List Int) (q p : Nat) (l : List Int) (i : Nat) : Nat := opCode P q p (nI l (3 * i)) (nI l (3 * i + 1)) (nI l (3 * i + 2))
theorem sysCode_rest {L : List (List Int)} {P : List Int} {q : Nat} {T : List Int} (h1 : ¬ (L.length = 0 ∨ T.length = 0)) (h2 : ¬ (5 < L.length ∨ 6 < q ∨ 12 < T.length)) :
    sysCode L P q T = if firstC (portF P L.length) q 0 ≠ 0 then firstC (portF P L.length) q 0 else if firstC (turnF T L.length) T.length 0 ≠ 0 then firstC (turnF T L.length) T.length 0 else firstC (rowF L P q) L.length 0 := by
  unfold sysCode
  dsimp only
  rw [if_neg h1, if_neg h2]
  rfl
theorem rowF_eq {L : List (List Int)} {P : List Int} {q i m : Nat} {l : List Int} (hl : L.getD i [] = l) (hm : l.length = m * 3) : rowF L P q i = if 12 < m then 4 else firstC (opF P q i l) m 0 := by
  unfold rowF rowCode
  rw [hl, hm, Nat.mul_div_cancel _ (by decide)]
  rfl

set_option maxHeartbeats 8000000 in
theorem KCheck_any {ok : Nat → Prop} {w : World} {Ap Ao At : Option Addr} {L : List (List Int)} {P T : List Int} {q n m cp co ct : Nat} (hL : RowsIn ok 3 w Ap L) (hP : IntsIn ok w Ao P) (hl : P.length = q * 2) (hT : IntsIn ok w At T)
    (hn : L.length = n) (hm : T.length = m) (nm : n ≤ maxLen) (hq : q ≤ maxLen) (tm : m ≤ maxLen) :
    Calls Tryd.prog 14 #[.agg #[.slice Ap n cp, .slice Ao q co, .slice At m ct]] w
      fun e w' => e = .returned (errVal (sysCode L P q T)) ∧ Below w.heap.size w w' := by
  have hB0 := (Below.refl w.heap.size w).alloc (Nat.le_refl _) (Obj.cells #[.slice Ap n cp, .slice Ao q co, .slice At m ct] 26)
  have nm2 : n ≤ 9223372036854775807 := by unfold maxLen at nm; omega
  have qm2 : q ≤ 9223372036854775807 := by unfold maxLen at hq; omega
  have tm2 : m ≤ 9223372036854775807 := by unfold maxLen at tm; omega
  by_cases h1 : n = 0 ∨ m = 0
  · have Hr := Lib.hid (show sysCode L P q T = 5 by unfold sysCode; dsimp only; rw [if_pos (by rw [hn, hm]; exact h1)])
    have HB := Lib.hid hB0
    clear hL hP hT hB0
    by_cases h0 : n = 0
    · subst h0
      go_enter Tryd.func14, Tryd.ntmps14
      go_wp2_with fail
      go_ret
      exact ⟨by rw [Hr.out]; rfl, HB.out⟩
    · have hm0 : m = 0 := by omega
      subst hm0
      have d0 : ((n : Int) == 0) = false := by simp; omega
      clear h1 h0
      go_enter Tryd.func14, Tryd.ntmps14
      go_wp2_with fail
      go_ret
      exact ⟨by rw [Hr.out]; rfl, HB.out⟩
  have d0 : ((n : Int) == 0) = false := by simp; omega
  have d1 : ((m : Int) == 0) = false := by simp; omega
  by_cases h2 : 5 < n ∨ 6 < q ∨ 12 < m
  · have Hr := Lib.hid (show sysCode L P q T = 4 by unfold sysCode; dsimp only; rw [if_neg (by rw [hn, hm]; exact h1), if_pos (by rw [hn, hm]; exact h2)])
    have HB := Lib.hid hB0
    clear hL hP hT hB0 h1
    by_cases h5 : 5 < n
    · have e1 : decide ((n : Int) > 5) = true := by simp; omega
      clear h2 h5
      go_enter Tryd.func14, Tryd.ntmps14
      go_wp2_with fail
      go_ret
      exact ⟨by rw [Hr.out]; rfl, HB.out⟩
    have e1 : decide ((n : Int) > 5) = false := by simp; omega
    by_cases h6 : 6 < q
    · have e2 : decide ((q : Int) > 6) = true := by simp; omega
      clear h2 h5 h6
      go_enter Tryd.func14, Tryd.ntmps14
      go_wp2_with fail
      go_ret
      exact ⟨by rw [Hr.out]; rfl, HB.out⟩
    · have e2 : decide ((q : Int) > 6) = false := by simp; omega
      have e3 : decide ((m : Int) > 12) = true := by simp; omega
      clear h2 h5 h6
      go_enter Tryd.func14, Tryd.ntmps14
      go_wp2_with fail
      go_ret
      exact ⟨by rw [Hr.out]; rfl, HB.out⟩
  have e1 : decide ((n : Int) > 5) = false := by simp; omega
  have e2 : decide ((q : Int) > 6) = false := by simp; omega
  have e3 : decide ((m : Int) > 12) = false := by simp; omega
  have Hc := Lib.hid (sysCode_rest (L := L) (P := P) (q := q) (T := T) (by rw [hn, hm]; exact h1) (by rw [hn, hm]; exact h2))
  have hbx := BoxN.new w 26 #[.slice Ap n cp, .slice Ao q co, .slice At m ct]
  have bn : 1 ≤ n ∧ n ≤ 5 := by omega
  have bm : 1 ≤ m ∧ m ≤ 12 := by omega
  have bq : q ≤ 6 := by omega
  clear h1 h2 nm2 qm2 tm2
  go_enter Tryd.func14, Tryd.ntmps14
  go_wp2_with fail
  go_loopw [43] (fun i wr => ∃ k : Nat, k ≤ q ∧ i = .int .i64 k ∧ Hid (firstC (portF P L.length) q 0 = firstC (portF P L.length) (q - k) k) ∧ Below w.heap.size w wr ∧ BoxN wr w.heap.size 26 #[.slice Ap n cp, .slice Ao q co, .slice At m ct]) (fun i _ => q - (intOf i).toNat)
  case atStart => exact ⟨0, Nat.zero_le _, rfl, Lib.hid rfl, hB0, hbx⟩
  case round =>
    clear hB0 hbx
    obtain ⟨k, hk, rfl, hfc, hbr, hbx⟩ := hrel
    have hsz : w.heap.size < wr.heap.size := hbx.lt
    by_cases hlt : k < q
    · obtain ⟨b, off, rfl, c0, c1⟩ := port_cells (hP.below hbr) hl hlt
      have hpc : portF P L.length k = portCode n (nI P (2 * k)) (nI P (2 * k + 1)) := by unfold portF; rw [hn]
      have hbb := block_lt c0
      generalize nI P (2 * k) = x0 at *
      generalize nI P (2 * k + 1) = x1 at *
      have hba := hbr.alloc (Nat.le_of_lt hsz) (Obj.cells #[.int .i64 x0, .int .i64 x1] 68)
      have hxa := hbx.alloc (Obj.cells #[.int .i64 x0, .int .i64 x1] 68)
      have HF := Lib.hid (fun (hne : portCode n x0 x1 ≠ 0) => show sysCode L P q T = portCode n x0 x1 by
        rw [Hc.out, hfc.out, firstC_bad hlt (by rw [hpc]; exact hne), hpc, if_pos hne])
      have HG := Lib.hid (fun (he : portCode n x0 x1 = 0) => show firstC (portF P L.length) q 0 = firstC (portF P L.length) (q - (k + 1)) (k + 1) by
        rw [hfc.out, firstC_next hlt (by rw [hpc]; exact he)])
      clear hfc hpc
      by_cases hx0 : 0 ≤ x0 ∧ x0 ≤ (n : Int) - 1
      · have W0 := Lib.hid (fun V => Within3_is x0 0 ((n : Int) - 1) true V (decide_eq_true hx0))
        by_cases hx1 : 0 ≤ x1 ∧ x1 ≤ (n : Int) - 1
        · have W1 := Lib.hid (fun V => Within3_is x1 0 ((n : Int) - 1) true V (decide_eq_true hx1))
          by_cases he : x0 = x1
          · have dx : (x0 == x1) = true := by simpa using he
            have Hr := Lib.hid (show sysCode L P q T = 6 by
              have h6 : portCode n x0 x1 = 6 := by unfold portCode; rw [if_neg (by omega), if_pos he]
              rw [HF.out (by rw [h6]; decide), h6])
            clear HF HG hx0 hx1 he
            go_wp2_with (first | (with_reducible refine (W0.out _).mono ?_; rintro e w' ⟨rfl, rfl⟩) | (with_reducible refine (W1.out _).mono ?_; rintro e w' ⟨rfl, rfl⟩))
            go_ret
            exact ⟨by rw [Hr.out]; rfl, hba⟩
          · have dx : (x0 == x1) = false := by simpa using he
            have Hn := Lib.hid (HG.out (by unfold portCode; rw [if_neg (by omega), if_neg he]))
            clear HF HG hx0 hx1 he
            go_wp2_with (first | (with_reducible refine (W0.out _).mono ?_; rintro e w' ⟨rfl, rfl⟩) | (with_reducible refine (W1.out _).mono ?_; rintro e w' ⟨rfl, rfl⟩))
            refine ⟨⟨k + 1, ?ya, ?yb, Hn, hba, hxa⟩, ?yd⟩
            case ya => omega
            case yb => go_num
            case yd => simp [intOf]; omega
        · have W1 := Lib.hid (fun V => Within3_is x1 0 ((n : Int) - 1) false V (decide_eq_false hx1))
          have Hr := Lib.hid (show sysCode L P q T = 1 by
            have h6 : portCode n x0 x1 = 1 := by unfold portCode; rw [if_pos (.inr hx1)]
            rw [HF.out (by rw [h6]; decide), h6])
          clear HF HG hx0 hx1
          go_wp2_with (first | (with_reducible refine (W0.out _).mono ?_; rintro e w' ⟨rfl, rfl⟩) | (with_reducible refine (W1.out _).mono ?_; rintro e w' ⟨rfl, rfl⟩))
          go_ret
          exact ⟨by rw [Hr.out]; rfl, hba⟩
      · have W0 := Lib.hid (fun V => Within3_is x0 0 ((n : Int) - 1) false V (decide_eq_false hx0))
        have Hr := Lib.hid (show sysCode L P q T = 1 by
          have h6 : portCode n x0 x1 = 1 := by unfold portCode; rw [if_pos (.inl hx0)]
          rw [HF.out (by rw [h6]; decide), h6])
        clear HF HG hx0
        go_wp2_with (with_reducible refine (W0.out _).mono ?_; rintro e w' ⟨rfl, rfl⟩)
        go_ret
        exact ⟨by rw [Hr.out]; rfl, hba⟩
    · obtain rfl : k = q := by omega
      have Hc2 := Lib.hid (show sysCode L P k T = if firstC (turnF T L.length) T.length 0 ≠ 0 then firstC (turnF T L.length) T.length 0 else firstC (rowF L P k) L.length 0 by
        rw [Hc.out, if_neg (by rw [hfc.out, firstC_end]; exact fun h => h rfl)])
      clear Hc hfc
      have s2 := hbx.cell (k := 2) rfl
      go_wp2_with fail
      clear s2
      go_loopw [72] (fun i wt => ∃ k2 : Nat, k2 ≤ m ∧ i = .int .i64 k2 ∧ Hid (firstC (turnF T L.length) T.length 0 = firstC (turnF T L.length) (T.length - k2) k2) ∧ Below w.heap.size w wt ∧ BoxN wt w.heap.size 26 #[.slice Ap n cp, .slice Ao k co, .slice At m ct]) (fun i _ => m - (intOf i).toNat)
      case atStart => exact ⟨0, Nat.zero_le _, rfl, Lib.hid rfl, hbr, hbx⟩
      case round =>
        clear hbr hbx hsz
        obtain ⟨wt, rfl⟩ : ∃ wt : World, wt = wr := ⟨_, rfl⟩
        obtain ⟨k2, hk2, rfl, hfc, hbr, hbx⟩ := hrel
        have hsz : w.heap.size < wt.heap.size := hbx.lt
        by_cases hlt : k2 < m
        · obtain ⟨b, off, rfl, c0⟩ := turn_cell (hT.below hbr) (i := k2) (by omega)
          have hbb := block_lt c0
          have hpc : turnF T L.length k2 = turnCode n (nI T k2) := by unfold turnF; rw [hn]
          generalize nI T k2 = x0 at *
          by_cases hx0 : 0 ≤ x0 ∧ x0 ≤ (n : Int) - 1
          · have W0 := Lib.hid (fun V => Within3_is x0 0 ((n : Int) - 1) true V (decide_eq_true hx0))
            have Hn := Lib.hid (show firstC (turnF T L.length) T.length 0 = firstC (turnF T L.length) (T.length - (k2 + 1)) (k2 + 1) by
              rw [hfc.out, firstC_next (by omega) (by rw [hpc]; unfold turnCode; rw [if_neg (fun h => h hx0)])])
            clear hfc hpc hx0
            go_wp2_with (with_reducible refine (W0.out _).mono ?_; rintro e w' ⟨rfl, rfl⟩)
            refine ⟨⟨k2 + 1, ?ya, ?yb, Hn, hbr, hbx⟩, ?yd⟩
            case ya => omega
            case yb => go_num
            case yd => simp [intOf]; omega
          · have W0 := Lib.hid (fun V => Within3_is x0 0 ((n : Int) - 1) false V (decide_eq_false hx0))
            have Hr := Lib.hid (show sysCode L P k T = 1 by
              have h6 : turnF T L.length k2 = 1 := by rw [hpc]; unfold turnCode; rw [if_pos hx0]
              rw [Hc2.out, hfc.out, firstC_bad (by omega) (by rw [h6]; decide), h6, if_pos (by decide)])
            clear hfc hpc hx0
            go_wp2_with (with_reducible refine (W0.out _).mono ?_; rintro e w' ⟨rfl, rfl⟩)
            go_ret
            exact ⟨by rw [Hr.out]; rfl, hbr⟩
        · obtain rfl : k2 = m := by omega
          have Hc3 := Lib.hid (show sysCode L P k T = firstC (rowF L P k) L.length 0 by
            rw [Hc2.out, if_neg (by rw [hfc.out, hm, firstC_end]; exact fun h => h rfl)])
          clear Hc2 hfc
          have s0 := hbx.cell (k := 0) rfl
          go_wp2_with fail
          clear s0
          go_loopw [86] (fun i wp => ∃ k3 : Nat, k3 ≤ n ∧ i = .int .i64 k3 ∧ Hid (firstC (rowF L P k) L.length 0 = firstC (rowF L P k) (L.length - k3) k3) ∧ Below w.heap.size w wp ∧ BoxN wp w.heap.size 26 #[.slice Ap n cp, .slice Ao k co, .slice At k2 ct]) (fun i _ => n - (intOf i).toNat)
          case atStart => exact ⟨0, Nat.zero_le _, rfl, Lib.hid rfl, hbr, hbx⟩
          case round =>
            clear hbr hbx hsz
            obtain ⟨wp, rfl⟩ : ∃ wp : World, wp = wr := ⟨_, rfl⟩
            obtain ⟨k3, hk3, rfl, hfc, hbr, hbx⟩ := hrel
            have hsz : w.heap.size < wp.heap.size := hbx.lt
            by_cases hlt : k3 < n
            · obtain ⟨b, off, Ai, ni, ci, rfl, c0, hli, hni, hi⟩ := (hL.below hbr).get (i := k3) (by omega)
              have ni2 : ni ≤ 9223372036854775807 := by unfold maxLen at hni; omega
              have hrow := rowF_eq (P := P) (q := k) (L := L) (i := k3) rfl hli
              generalize L.getD k3 [] = l at *
              by_cases h12 : 12 < ni
              · have e4 : decide ((ni : Int) > 12) = true := by simp; omega
                have Hr := Lib.hid (show sysCode L P k T = 4 by
                  have h6 : rowF L P k k3 = 4 := by rw [hrow, if_pos h12]
                  rw [Hc3.out, hfc.out, firstC_bad (by omega) (by rw [h6]; decide), h6])
                clear hfc hrow h12 hi
                go_wp2_with fail
                go_ret
                exact ⟨by rw [Hr.out]; rfl, hbr⟩
              · have e4 : decide ((ni : Int) > 12) = false := by simp; omega
                rw [if_neg h12] at hrow
                have Hrow := Lib.hid hrow
                have HI := Lib.hid hi
                have Hsz := Lib.hid (Nat.le_refl wp.heap.size)
                obtain ⟨wz, hwz⟩ : ∃ wz : World, wz = wp := ⟨_, rfl⟩
                have hbz : Below wz.heap.size wz wp := by rw [hwz]; exact Below.refl _ _
                have HI : Hid (IntsIn ok wz Ai l) := by rw [hwz]; exact HI
                have hwz0 : Below w.heap.size w wz := by rw [hwz]; exact hbr
                clear hwz Hsz hi hrow
                go_wp2_with fail
                go_loopw [97] (fun i wo => ∃ j : Nat, j ≤ ni ∧ i = .int .i64 j ∧ Hid (firstC (opF P k k3 l) ni 0 = firstC (opF P k k3 l) (ni - j) j) ∧ Below wz.heap.size wz wo ∧ BoxN wo w.heap.size 26 #[.slice (some ⟨b, off, none⟩) n cp, .slice Ao k co, .slice At k2 ct]) (fun i _ => ni - (intOf i).toNat)
                case atStart => exact ⟨0, Nat.zero_le _, rfl, Lib.hid rfl, hbz, hbx⟩
                case round =>
                  clear hbr hbx hsz hbz
                  obtain ⟨wo, rfl⟩ : ∃ wo : World, wo = wr := ⟨_, rfl⟩
                  obtain ⟨j, hj, rfl, hfo, hbo, hbx⟩ := hrel
                  have hsz : w.heap.size < wo.heap.size := hbx.lt
                  have hbr := hwz0.trans (hbo.mono hwz0.size)
                  by_cases hjl : j < ni
                  · obtain ⟨b3, off3, rfl, o0, o1, o2⟩ := op_cells (HI.out.below hbo) hli hjl
                    have hbb := block_lt o0
                    have hop : opF P k k3 l j = opCode P k k3 (nI l (3 * j)) (nI l (3 * j + 1)) (nI l (3 * j + 2)) := rfl
                    have HO := Lib.hid (fun V (hV : Below w.heap.size w V) => operation_any (Ap := some ⟨b, off, none⟩) (At := At) (n := n) (m := k2) (cp := cp) (co := co) (ct := ct) (hP.below hV) hl hq k3 (nI l (3 * j)) (nI l (3 * j + 1)) (nI l (3 * j + 2)))
                    generalize nI l (3 * j) = x0 at *
                    generalize nI l (3 * j + 1) = x1 at *
                    generalize nI l (3 * j + 2) = x2 at *
                    have hba := hbr.alloc (Nat.le_of_lt hsz) (Obj.cells #[.int .i64 x0, .int .i64 x1, .int .i64 x2] 72)
                    have hbo2 := hbo.alloc hbo.size (Obj.cells #[.int .i64 x0, .int .i64 x1, .int .i64 x2] 72)
                    have hxa := hbx.alloc (Obj.cells #[.int .i64 x0, .int .i64 x1, .int .i64 x2] 72)
                    have HO2 := Lib.hid (HO.out _ hba)
                    have s0 := hxa.cell (k := 0) rfl
                    have s1 := hxa.cell (k := 1) rfl
                    have s2 := hxa.cell (k := 2) rfl
                    by_cases hz : opCode P k k3 x0 x1 x2 = 0
                    · have Hn := Lib.hid (show firstC (opF P k k3 l) ni 0 = firstC (opF P k k3 l) (ni - (j + 1)) (j + 1) by
                        rw [hfo.out, firstC_next hjl (by rw [hop]; exact hz)])
                      have HO3 := HO2.out
                      rw [hz, errVal_zero] at HO3
                      have HO3 := Lib.hid HO3
                      clear hfo hop hz HO HO2
                      have hbxc := hbx
                      clear hbx
                      have s0' := hbxc.cell (k := 0) rfl
                      have s1' := hbxc.cell (k := 1) rfl
                      have s2' := hbxc.cell (k := 2) rfl
                      go_wp2_with (with_reducible refine HO3.out.mono ?_; rintro e w3 ⟨rfl, hb3⟩)
                      refine ⟨⟨j + 1, ?ya, ?yb, Hn, ?yc, ?ye⟩, ?yd⟩
                      case ya => omega
                      case yb => go_num
                      case yc => exact hbo2.trans (hb3.mono hbo2.size)
                      case ye => exact hxa.all hb3
                      case yd => simp [intOf]; omega
                    · have Hr := Lib.hid (show sysCode L P k T = opCode P k k3 x0 x1 x2 by
                        have h6 : rowF L P k k3 = opCode P k k3 x0 x1 x2 := by rw [Hrow.out, hfo.out, firstC_bad hjl (by rw [hop]; exact hz), hop]
                        rw [Hc3.out, hfc.out, firstC_bad (by omega) (by rw [h6]; exact hz), h6])
                      generalize opCode P k k3 x0 x1 x2 = cd at *
                      have HO3 := HO2.out
                      rw [errVal_pos hz] at HO3
                      have HO3 := Lib.hid HO3
                      clear hfo hop HO HO2
                      have hbxc := hbx
                      clear hbx
                      have s0' := hbxc.cell (k := 0) rfl
                      have s1' := hbxc.cell (k := 1) rfl
                      have s2' := hbxc.cell (k := 2) rfl
                      go_wp2_with (with_reducible refine HO3.out.mono ?_; rintro e w3 ⟨rfl, hb3⟩)
                      go_ret
                      exact ⟨by rw [Hr.out, errVal_pos hz]; rfl, hba.trans (hb3.mono hba.size)⟩
                  · obtain rfl : j = ni := by omega
                    have Hn := Lib.hid (show firstC (rowF L P k) L.length 0 = firstC (rowF L P k) (L.length - (k3 + 1)) (k3 + 1) by
                      rw [hfc.out, firstC_next (by omega) (by rw [Hrow.out, hfo.out, firstC_end])])
                    clear hfo hfc
                    go_wp2_with fail
                    refine ⟨⟨k3 + 1, ?ya, ?yb, Hn, hbr, hbx⟩, ?yd⟩
                    case ya => omega
                    case yb => go_num
                    case yd => simp [intOf]; omega
            · obtain rfl : k3 = n := by omega
              have Hr := Lib.hid (show sysCode L P k T = 0 by rw [Hc3.out, hfc.out, hn, firstC_end])
              clear hfc
              go_wp2_with fail
              go_ret
              exact ⟨by rw [Hr.out]; rfl, hbr⟩
end Go.Proofs.YtgkanbaboeppfaaDoor
