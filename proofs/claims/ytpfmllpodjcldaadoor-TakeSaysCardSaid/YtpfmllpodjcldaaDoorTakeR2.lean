/-
  Contract: quietwingref1.DoStep.
-/
import Derived.Test.YtpfmllpodjcldaaDoorTakeR
import Derived.Test.YtpfmllpodjcldaaDoorTakeQ
import Derived.Test.YtpfmllpodjcldaaDoorEither
import Derived.Test.YtpfmllpodjcldaaDoorLeafN
import Derived.Test.YtpfmllpodjcldaaDoorLeafW
namespace Go.Proofs.YtpfmllpodjcldaaDoor
open Go.RowKit
set_option maxRecDepth 100000
set_option linter.unusedVariables false

def mkRow (F : Nat → Nat → Int) (i q : Nat) : List Int := (List.range q).map (F i)
def mkRows (F : Nat → Nat → Int) (m p : Nat) : List (List Int) := (List.range p).map fun i => mkRow F i m
theorem length_mkRow (F : Nat → Nat → Int) (i q : Nat) : (mkRow F i q).length = q := by simp [mkRow]
theorem length_mkRows (F : Nat → Nat → Int) (m p : Nat) : (mkRows F m p).length = p := by simp [mkRows]
theorem mkRow_next (F : Nat → Nat → Int) (i q : Nat) : mkRow F i (q + 1) = mkRow F i q ++ [F i q] := by unfold mkRow; rw [List.range_succ, List.map_append]; rfl
theorem mkRows_next (F : Nat → Nat → Int) (m p : Nat) : mkRows F m (p + 1) = mkRows F m p ++ [mkRow F p m] := by unfold mkRows; rw [List.range_succ, List.map_append]; rfl
theorem mkRows_mem {F : Nat → Nat → Int} {m p : Nat} {l : List Int} (h : l ∈ mkRows F m p) : l.length = m := by
  unfold mkRows at h
  obtain ⟨i, _, rfl⟩ := List.mem_map.1 h
  exact length_mkRow _ _ _
theorem mkRows_is {F : Nat → Nat → Int} {G : List (List Int)} {m : Nat} (hl : G.length = m) (hr : ∀ i, i < m → (G.getD i []).length = m) (hc : ∀ i j, i < m → j < m → F i j = gAt G i j) : mkRows F m m = G := by
  refine List.ext_getElem? fun i => ?_
  rcases Nat.lt_or_ge i m with h | h
  · unfold mkRows
    rw [List.getElem?_map, List.getElem?_range h, getD_lt (d := ([] : List Int)) (l := G) (by omega)]
    show some (mkRow F i m) = _
    congr 1
    refine List.ext_getElem? fun j => ?_
    rcases Nat.lt_or_ge j m with h2 | h2
    · unfold mkRow
      rw [List.getElem?_map, List.getElem?_range h2, getD_lt (d := (0 : Int)) (l := G.getD i []) (by rw [hr i h]; exact h2)]
      show some (F i j) = _
      rw [hc i j h h2]; rfl
    · rw [List.getElem?_eq_none (by rw [length_mkRow]; exact h2), List.getElem?_eq_none (by rw [hr i h]; exact h2)]
  · rw [List.getElem?_eq_none (by rw [length_mkRows]; exact h), List.getElem?_eq_none (by rw [hl]; exact h)]

section
variable {w : World} {A : Option Addr} {n c : Nat} {L : List (List Int)}

set_option maxHeartbeats 16000000 in
theorem RDo_new {who : Nat} {of_ t r : Int} (hL : RowsIn anyB 1 w A L) (hok : GOk L) (hn : L.length = n) (hw : who < n) (h20 : n < 20) :
    Calls Tryd.prog 33 #[.slice A n c, .agg #[.int .i64 2, .int .i64 who, .int .i64 of_, .int .i64 t, .int .i64 r]] w fun e w' => (∃ A' c', e = .returned (.tuple #[.slice A' (n + 1) c', .int .i64 0]) ∧ RowsIn anyB 1 w' A' (newL L who)) ∧ Below w.heap.size w w' := by
  obtain ⟨b, off, _, _, _, rfl, _⟩ := row_int hok hL hn hw
  have W1 := Lib.hid (fun V => RinD_is 2 0 2 true V (by simp))
  have W2 := Lib.hid (fun V => RinD_is (who : Int) 0 ((n : Int) - 1) true V (decide_eq_true (by omega)))
  have dn : ((n : Int) == 20) = false := by simp; omega
  have hb0 := (Below.refl w.heap.size w).alloc (Nat.le_refl _) (.cells #[.int .i64 2, .int .i64 who, .int .i64 of_, .int .i64 t, .int .i64 r] 65)
  have hbx := BoxN.new w 65 #[.int .i64 2, .int .i64 who, .int .i64 of_, .int .i64 t, .int .i64 r]
  have y0 := hbx.cell (k := 0) rfl
  have y1 := hbx.cell (k := 1) rfl
  have y2 := hbx.cell (k := 2) rfl
  have y3 := hbx.cell (k := 3) rfl
  have y4 := hbx.cell (k := 4) rfl
  obtain ⟨F, hFd⟩ : ∃ F : Nat → Nat → Int, F = fun i j => if i = who ∧ j = n then 3 else if i < n ∧ j < n then ((gN L i j : Nat) : Int) else 0 := ⟨_, rfl⟩
  have hf := hok.fresh (who := who) (by omega) (by omega)
  have Hmk := Lib.hid (show mkRows F (n + 1) (n + 1) = newL L who from mkRows_is (by rw [length_newL, hn]) (fun i hi => by rw [hf.1.row i (by rw [length_newL]; omega), length_newL, hn]) (fun i j hi hj => by
    rw [gAt_newL hok (by omega), hFd, hn]
    show (if i = who ∧ j = n then (3 : Int) else _) = _
    split
    · rfl
    · split
      · rename_i h2; rw [hok.nat (by omega) (by omega)]
      · rfl))
  have HF := Lib.hid hFd
  have HL := Lib.hid hL
  have Hg := Lib.hid hok
  clear hL hok hFd hf
  go_enter Tryd.func33, Tryd.ntmps33
  go_wp2_with (first | (with_reducible refine (W1.out _).mono ?_; rintro e w' ⟨rfl, rfl⟩) | (with_reducible refine (W2.out _).mono ?_; rintro e w' ⟨rfl, rfl⟩))
  generalize w.alloc (.cells #[.int .i64 2, .int .i64 who, .int .i64 of_, .int .i64 t, .int .i64 r] 65) = w1 at *
  go_loopw [11, 12] (fun out i wr => ∃ (p : Nat) (A9 : Option Addr) (c9 : Nat), p ≤ n + 1 ∧ i = .int .i64 p ∧ out = .slice A9 p c9 ∧ GridAt w1.heap.size wr (.slice A9 p c9) (mkRows F (n + 1) p) ∧ Below w1.heap.size w1 wr) (fun _ i _ => (n + 1) - (intOf i).toNat)
  case atStart => exact ⟨0, none, 0, Nat.zero_le _, rfl, rfl, GridAt.nil _ _, Below.refl _ _⟩
  case round =>
    clear y0 y1 y2 y3 y4
    obtain ⟨p, A9, c9, hp, rfl, rfl, hg, hbr⟩ := hrel
    have hsz := hbr.size
    obtain ⟨wz, hwz⟩ : ∃ wz, wz = wr := ⟨wr, rfl⟩
    subst hwz
    by_cases hlt : p < n + 1
    · have dlt : decide ((p : Int) < ((n : Int) + 1)) = true := decide_eq_true (by omega)
      go_wp2_with fail
      go_loopw [13, 14] (fun row j wi => ∃ (q : Nat), q ≤ n + 1 ∧ j = .int .i64 q ∧ OwnI wi wz.heap.size row (mkRow F p q) ∧ Below wz.heap.size wz wi) (fun _ j _ => (n + 1) - (intOf j).toNat)
      case atStart => exact ⟨0, Nat.zero_le _, rfl, OwnI.nil _ _, Below.refl _ _⟩
      case round =>
        obtain ⟨q, hq, rfl, hown, hbi⟩ := hrel
        have hbw := hbr.trans (hbi.mono hsz)
        have hrl : (mkRow F p q).length < 2 ^ 40 := by rw [length_mkRow]; omega
        have hsi := hbi.size
        have hbx2 := hbx.below hbw hbx.lt
        have x0 := hbx2.cell (k := 0) rfl
        have x1 := hbx2.cell (k := 1) rfl
        have x3 := hbx2.cell (k := 3) rfl
        have x4 := hbx2.cell (k := 4) rfl
        by_cases hltq : q < n + 1
        · have dlq : decide ((q : Int) < ((n : Int) + 1)) = true := decide_eq_true (by omega)
          by_cases hpn : p < n
          · have dp : decide ((p : Int) < (n : Int)) = true := decide_eq_true (by omega)
            have dt : ((p : Int) == -1) = false := beq_eq_false_iff_ne.2 (by omega)
            by_cases hqn : q < n
            · have dq : decide ((q : Int) < (n : Int)) = true := decide_eq_true (by omega)
              have dqn : ((q : Int) == (n : Int)) = false := beq_eq_false_iff_ne.2 (by omega)
              obtain ⟨b1, off1, c2, r0, r1⟩ := row_int2 Hg.out (HL.out.below (hb0.trans (hbw.mono hb0.size))) hn hpn
              have r2 := r1 q hqn
              have hF := Lib.hid (show F p q = ((gN L p q : Nat) : Int) by rw [HF.out]; show (if p = who ∧ q = n then (3 : Int) else _) = _; rw [if_neg (by omega), if_pos ⟨hpn, hqn⟩])
              clear r1
              generalize gN L p q = g2 at *
              by_cases hpw : p = who
              · subst hpw
                have dw : ((p : Int) == (p : Int)) = true := by simp
                clear hg hbr
                go_wp2_with (at_builtin; refine wpList_push_int rfl _ _ rfl (base := wz.heap.size) (v := u13) rfl (hown.next ((Below.refl _ wr).alloc (Nat.le_refl _) _)) wr.heap.size (g2 : Int) rfl (cell_of_row _ _ 0 _ _ _ (heap_alloc_new wr _)) hrl (by simp; omega) ?_; intro v2 w4 ho4 hg4 hv4 hbl4; have hb4 := hbl4 _ (hbi.alloc hsi (.cells #[.int .i64 (g2 : Int)] 3)))
                refine ⟨⟨q + 1, ?ya, ?yb, ?yc, hb4⟩, ?yd⟩
                case ya => omega
                case yb => go_num
                case yc => rw [mkRow_next, hF.out]; exact ho4
                case yd => simp [intOf] <;> omega
              · have dw : ((p : Int) == (who : Int)) = false := beq_eq_false_iff_ne.2 (by omega)
                clear hg hbr
                go_wp2_with (at_builtin; refine wpList_push_int rfl _ _ rfl (base := wz.heap.size) (v := u13) rfl (hown.next ((Below.refl _ wr).alloc (Nat.le_refl _) _)) wr.heap.size (g2 : Int) rfl (cell_of_row _ _ 0 _ _ _ (heap_alloc_new wr _)) hrl (by simp; omega) ?_; intro v2 w4 ho4 hg4 hv4 hbl4; have hb4 := hbl4 _ (hbi.alloc hsi (.cells #[.int .i64 (g2 : Int)] 3)))
                refine ⟨⟨q + 1, ?ya, ?yb, ?yc, hb4⟩, ?yd⟩
                case ya => omega
                case yb => go_num
                case yc => rw [mkRow_next, hF.out]; exact ho4
                case yd => simp [intOf] <;> omega
            · have hqe : n = q := by omega
              subst hqe
              have dq : decide ((n : Int) < (n : Int)) = false := by simp
              have dqn : ((n : Int) == (n : Int)) = true := by simp
              by_cases hpw : p = who
              · have hF := Lib.hid (show F p n = 3 by rw [HF.out]; show (if p = who ∧ n = n then (3 : Int) else _) = _; rw [if_pos ⟨hpw, rfl⟩])
                subst hpw
                have dw : ((p : Int) == (p : Int)) = true := by simp
                clear hg hbr
                go_wp2_with (at_builtin; refine wpList_push_int rfl _ _ rfl (base := wz.heap.size) (v := u13) rfl (hown.next ((Below.refl _ wr).alloc (Nat.le_refl _) _)) wr.heap.size (3 : Int) rfl (cell_of_row _ _ 0 _ _ _ (heap_alloc_new wr _)) hrl (by simp; omega) ?_; intro v2 w4 ho4 hg4 hv4 hbl4; have hb4 := hbl4 _ (hbi.alloc hsi (.cells #[.int .i64 (3 : Int)] 3)))
                refine ⟨⟨n + 1, ?ya, ?yb, ?yc, hb4⟩, ?yd⟩
                case ya => omega
                case yb => go_num
                case yc => rw [mkRow_next, hF.out]; exact ho4
                case yd => simp [intOf] <;> omega
              · have dw : ((p : Int) == (who : Int)) = false := beq_eq_false_iff_ne.2 (by omega)
                have hF := Lib.hid (show F p n = 0 by rw [HF.out]; show (if p = who ∧ n = n then (3 : Int) else _) = _; rw [if_neg (by omega), if_neg (by omega)])
                clear hg hbr
                go_wp2_with (at_builtin; refine wpList_push_int rfl _ _ rfl (base := wz.heap.size) (v := u13) rfl (hown.next ((Below.refl _ wr).alloc (Nat.le_refl _) _)) wr.heap.size (0 : Int) rfl (cell_of_row _ _ 0 _ _ _ (heap_alloc_new wr _)) hrl (by simp; omega) ?_; intro v2 w4 ho4 hg4 hv4 hbl4; have hb4 := hbl4 _ (hbi.alloc hsi (.cells #[.int .i64 (0 : Int)] 3)))
                refine ⟨⟨n + 1, ?ya, ?yb, ?yc, hb4⟩, ?yd⟩
                case ya => omega
                case yb => go_num
                case yc => rw [mkRow_next, hF.out]; exact ho4
                case yd => simp [intOf] <;> omega
          · have dp : decide ((p : Int) < (n : Int)) = false := decide_eq_false (by omega)
            have dt : ((p : Int) == -1) = false := beq_eq_false_iff_ne.2 (by omega)
            have dw : ((p : Int) == (who : Int)) = false := beq_eq_false_iff_ne.2 (by omega)
            have hF := Lib.hid (show F p q = 0 by rw [HF.out]; show (if p = who ∧ q = n then (3 : Int) else _) = _; rw [if_neg (by omega), if_neg (by omega)])
            clear hg hbr
            go_wp2_with (at_builtin; refine wpList_push_int rfl _ _ rfl (base := wz.heap.size) (v := u13) rfl (hown.next ((Below.refl _ wr).alloc (Nat.le_refl _) _)) wr.heap.size (0 : Int) rfl (cell_of_row _ _ 0 _ _ _ (heap_alloc_new wr _)) hrl (by simp; omega) ?_; intro v2 w4 ho4 hg4 hv4 hbl4; have hb4 := hbl4 _ (hbi.alloc hsi (.cells #[.int .i64 (0 : Int)] 3)))
            refine ⟨⟨q + 1, ?ya, ?yb, ?yc, hb4⟩, ?yd⟩
            case ya => omega
            case yb => go_num
            case yc => rw [mkRow_next, hF.out]; exact ho4
            case yd => simp [intOf] <;> omega
        · have hqm := Lib.hid (show q = n + 1 by omega)
          have dlq : decide ((q : Int) < ((n : Int) + 1)) = false := decide_eq_false (by omega)
          obtain ⟨xs, k1, k2, k3⟩ := hg
          rw [length_mkRows] at k1
          have q1 := ownsRow_below k1 hbi (Nat.le_refl _)
          obtain ⟨Ar, cr, hrv, _⟩ := hown.form
          rw [length_mkRow] at hrv
          subst hrv
          have c7 : (wr.alloc (.cells #[.slice Ar q cr] 36)).cell? ⟨wr.heap.size, 0, none⟩ = some (.slice Ar q cr) := cell_of_row _ _ 0 _ _ _ (heap_alloc_new wr _)
          have q7 := ownsRow_below q1 ((Below.refl wr.heap.size wr).alloc (Nat.le_refl _) (.cells #[.slice Ar q cr] 36)) (Nat.le_refl _)
          have K1 := Lib.hid k1
          have K2 := Lib.hid k2
          have K3 := Lib.hid k3
          have Hown := Lib.hid hown
          have Hbw := Lib.hid hbw
          have Hrow := Lib.hid (show mkRows F (n + 1) (p + 1) = mkRows F (n + 1) p ++ [mkRow F p q] by rw [mkRows_next, hqm.out])
          clear k1 k2 k3 q1 hown hbx2 x0 x1 x3 x4
          go_wp2_with (at_builtin; refine wpList_push_one eGrid (by decide) rfl _ _ rfl (v := .slice A9 p c9) rfl q7 wr.heap.size (.slice Ar q cr) rfl rfl c7 (by omega) (by have := hbw.size; simp; omega) ?_; intro A8 c8 w9 ho9 hg9 hbl9)
          have hb9 := hbl9 w1 (hbw.alloc hbw.size (.cells #[.slice Ar q cr] 36))
          have hvo : ∀ g, (Value.slice Ar q cr).ownBlock = some g → wz.heap.size ≤ g ∧ g < wr.heap.size := fun g hg' => Hown.out.lt g hg'
          have hk9 : ∀ b, b < wr.heap.size → (Value.slice A9 p c9).ownBlock ≠ some b → w9.heap[b]? = wr.heap[b]? := fun b h1 h2 => (hg9.block b (by simp; omega) (fun e => h2 e.symm)).trans (Below.heap_alloc wr _ b h1)
          refine ⟨⟨p + 1, A8, c8, ?za, ?zb, rfl, ?zc, hb9⟩, ?zd⟩
          case za => omega
          case zb => go_num
          case zc =>
            rw [Hrow.out]
            refine grid_more (length_mkRows _ _ _) K1.out K2.out K3.out ho9 (fun b h1 h2 => (hk9 b (by omega) h2).trans (hbi.block b h1)) ?_ (fun g hg' => (hvo g hg').1)
            have h5 := Hown.out
            refine ⟨h5.1, ?_⟩
            rcases h5.2 with h0 | ⟨g, cap, cur, e1, e2, e3, e4⟩
            · exact .inl h0
            · refine .inr ⟨g, cap, cur, e1, by omega, (hk9 g (Array.getElem?_eq_some_iff.1 e3).1 (fun e => ?_)).trans e3, e4⟩
              have := (K1.out.lt g e).2
              omega
          case zd => simp [intOf]; omega
    · have hpm := Lib.hid (show p = n + 1 by omega)
      have dlt : decide ((p : Int) < ((n : Int) + 1)) = false := decide_eq_false (by omega)
      have Hrows := Lib.hid (hg.rows (fun l hl => by
        obtain ⟨i, hi, e⟩ := List.getElem_of_mem hl
        have : l.length = n + 1 := mkRows_mem hl
        unfold maxLen; omega))
      clear hg
      go_wp2_with fail
      go_ret2
      have hrr := Hrows.out
      rw [hpm.out, Hmk.out] at hrr
      exact ⟨⟨A9, c9, by rw [hpm.out]; rfl, hrr⟩, hb0.trans (hbr.mono hb0.size)⟩

set_option maxHeartbeats 16000000 in
theorem RDo_Take_bad {who of_ t r : Nat} (hL : RowsIn anyB 1 w A L) (hok : GOk L) (hn : L.length = n) (hw : who < n) (ho : of_ < n) (ht : t < n) (hr : 1 ≤ r ∧ r ≤ 7) (hcond : who = t ∨ gN L who of_ &&& 1 = 0 ∨ r &&& gN L of_ t ≠ r) :
    Calls Tryd.prog 33 #[.slice A n c, .agg #[.int .i64 0, .int .i64 who, .int .i64 of_, .int .i64 t, .int .i64 r]] w fun e w' => e = .returned (.tuple #[.slice A n c, .int .i64 7]) ∧ Below w.heap.size w w' := by
  have hn20 : n ≤ 20 := by have := hok.few; omega
  obtain ⟨b, off, _, _, _, rfl, _⟩ := row_int hok hL hn hw
  have W1 := Lib.hid (fun V => RinD_is 0 0 2 true V (by simp))
  have W2 := Lib.hid (fun V => RinD_is (who : Int) 0 ((n : Int) - 1) true V (decide_eq_true (by omega)))
  have W3 := Lib.hid (fun V => RinD_is (of_ : Int) 0 ((n : Int) - 1) true V (decide_eq_true (by omega)))
  have W4 := Lib.hid (fun V => RinD_is (t : Int) 0 ((n : Int) - 1) true V (decide_eq_true (by omega)))
  have W5 := Lib.hid (fun V => RinD_is (r : Int) 1 7 true V (decide_eq_true (by omega)))
  have hb0 := (Below.refl w.heap.size w).alloc (Nat.le_refl _) (.cells #[.int .i64 0, .int .i64 who, .int .i64 of_, .int .i64 t, .int .i64 r] 65)
  have hbx := BoxN.new w 65 #[.int .i64 0, .int .i64 who, .int .i64 of_, .int .i64 t, .int .i64 r]
  have y0 := hbx.cell (k := 0) rfl
  have y1 := hbx.cell (k := 1) rfl
  have y2 := hbx.cell (k := 2) rfl
  have y3 := hbx.cell (k := 3) rfl
  have y4 := hbx.cell (k := 4) rfl
  have hL1 := hL.below hb0
  obtain ⟨b1, off1, c1, g1, g1'⟩ := row_int2 hok hL1 hn hw
  have g2 := g1' of_ ho
  obtain ⟨b3, off3, c3, g3, g3'⟩ := row_int2 hok hL1 hn (x := of_) ho
  have g4 := g3' t ht
  have l1 := hok.lt (x := who) (y := of_) (by omega) (by omega)
  have l2 := hok.lt (x := of_) (y := t) (by omega) (by omega)
  have hb0 := Lib.hid hb0
  clear g1' g3' hL1 hL hbx
  by_cases ha : who = t
  · have da : (((who : Nat) : Int) == ((t : Nat) : Int)) = true := by simp [ha]
    generalize gN L who of_ = v1 at *
    generalize gN L of_ t = v2 at *
    clear hcond ha l1 l2 hok
    go_enter Tryd.func33, Tryd.ntmps33
    go_wp2_with (first | (with_reducible refine (W1.out _).mono ?_; rintro e w' ⟨rfl, rfl⟩) | (with_reducible refine (W2.out _).mono ?_; rintro e w' ⟨rfl, rfl⟩) | (with_reducible refine (W3.out _).mono ?_; rintro e w' ⟨rfl, rfl⟩) | (with_reducible refine (W4.out _).mono ?_; rintro e w' ⟨rfl, rfl⟩) | (with_reducible refine (W5.out _).mono ?_; rintro e w' ⟨rfl, rfl⟩))
    go_quiet (fail)
    obtain ⟨n1, hn1⟩ : ∃ n1, n1 = nq := ⟨nq, rfl⟩
    subst hn1
    go_wp2_with fail
    go_quiet (fail)
    go_wp2_with fail
    go_ret2
    exact ⟨rfl, by first | exact belowD hb0.out _ | exact belowD (belowD hb0.out _) _ | exact belowD (belowD (belowD hb0.out _) _) _⟩
  have da : (((who : Nat) : Int) == ((t : Nat) : Int)) = false := by simp; omega
  by_cases hb : gN L who of_ &&& 1 = 0
  · have B1 := Lib.hid (fun V => Bit_is (gN L who of_) 0 false V (by omega) (by omega) (by
      have := and_bit (gN L who of_) l1 0 (by decide)
      exact this.1 hb))
    generalize gN L who of_ = v1 at *
    generalize gN L of_ t = v2 at *
    clear hcond ha hb l1 l2 hok
    go_enter Tryd.func33, Tryd.ntmps33
    go_wp2_with (first | (with_reducible refine (W1.out _).mono ?_; rintro e w' ⟨rfl, rfl⟩) | (with_reducible refine (W2.out _).mono ?_; rintro e w' ⟨rfl, rfl⟩) | (with_reducible refine (W3.out _).mono ?_; rintro e w' ⟨rfl, rfl⟩) | (with_reducible refine (W4.out _).mono ?_; rintro e w' ⟨rfl, rfl⟩) | (with_reducible refine (W5.out _).mono ?_; rintro e w' ⟨rfl, rfl⟩))
    go_quiet (fail)
    obtain ⟨n1, hn1⟩ : ∃ n1, n1 = nq := ⟨nq, rfl⟩
    subst hn1
    go_wp2_with fail
    go_quiet (first | (with_reducible exact quiet2 (B1.out _)) | (with_reducible exact quiet1 (B1.out _)))
    go_wp2_with fail
    go_ret2
    exact ⟨rfl, by first | exact belowD hb0.out _ | exact belowD (belowD hb0.out _) _ | exact belowD (belowD (belowD hb0.out _) _) _⟩
  · have B1 := Lib.hid (fun V => Bit_is (gN L who of_) 0 true V (by omega) (by omega) (by
      have := and_bit (gN L who of_) l1 0 (by decide)
      cases h : (gN L who of_).testBit 0 with
      | true => rfl
      | false => exact absurd (this.2 h) hb))
    have hc : ¬ (r &&& gN L of_ t = r) := fun e => by rcases hcond with h | h | h; exact ha h; exact hb h; exact h e
    have B2 := Lib.hid (fun V => Within_is r (gN L of_ t) false V (by omega) (by omega) (by unfold within; simpa using hc))
    generalize gN L who of_ = v1 at *
    generalize gN L of_ t = v2 at *
    clear hcond ha hb hc l1 l2 hok
    go_enter Tryd.func33, Tryd.ntmps33
    go_wp2_with (first | (with_reducible refine (W1.out _).mono ?_; rintro e w' ⟨rfl, rfl⟩) | (with_reducible refine (W2.out _).mono ?_; rintro e w' ⟨rfl, rfl⟩) | (with_reducible refine (W3.out _).mono ?_; rintro e w' ⟨rfl, rfl⟩) | (with_reducible refine (W4.out _).mono ?_; rintro e w' ⟨rfl, rfl⟩) | (with_reducible refine (W5.out _).mono ?_; rintro e w' ⟨rfl, rfl⟩))
    go_quiet (fail)
    obtain ⟨n1, hn1⟩ : ∃ n1, n1 = nq := ⟨nq, rfl⟩
    subst hn1
    go_wp2_with fail
    go_quiet (first | (with_reducible exact quiet2 (B1.out _)) | (with_reducible exact quiet1 (B1.out _)) | (with_reducible exact quiet2 (B2.out _)) | (with_reducible exact quiet1 (B2.out _)))
    go_wp2_with fail
    go_ret2
    exact ⟨rfl, by first | exact belowD hb0.out _ | exact belowD (belowD hb0.out _) _ | exact belowD (belowD (belowD hb0.out _) _) _⟩

set_option maxHeartbeats 16000000 in
theorem RDo_Take_ok {who of_ t r : Nat} (hL : RowsIn anyB 1 w A L) (hok : GOk L) (hn : L.length = n) (hw : who < n) (ho : of_ < n) (ht : t < n) (hr : 1 ≤ r ∧ r ≤ 7) (hcond : ¬ (who = t ∨ gN L who of_ &&& 1 = 0 ∨ r &&& gN L of_ t ≠ r)) :
    Calls Tryd.prog 33 #[.slice A n c, .agg #[.int .i64 0, .int .i64 who, .int .i64 of_, .int .i64 t, .int .i64 r]] w fun e w' => (∃ A' c', e = .returned (.tuple #[.slice A' n c', .int .i64 0]) ∧ RowsIn anyB 1 w' A' (setG L who t ((gN L who t ||| r : Nat) : Int))) ∧ Below w.heap.size w w' := by
  have hn20 : n ≤ 20 := by have := hok.few; omega
  obtain ⟨b, off, _, _, _, rfl, _⟩ := row_int hok hL hn hw
  have W1 := Lib.hid (fun V => RinD_is 0 0 2 true V (by simp))
  have W2 := Lib.hid (fun V => RinD_is (who : Int) 0 ((n : Int) - 1) true V (decide_eq_true (by omega)))
  have W3 := Lib.hid (fun V => RinD_is (of_ : Int) 0 ((n : Int) - 1) true V (decide_eq_true (by omega)))
  have W4 := Lib.hid (fun V => RinD_is (t : Int) 0 ((n : Int) - 1) true V (decide_eq_true (by omega)))
  have W5 := Lib.hid (fun V => RinD_is (r : Int) 1 7 true V (decide_eq_true (by omega)))
  have hb0 := (Below.refl w.heap.size w).alloc (Nat.le_refl _) (.cells #[.int .i64 0, .int .i64 who, .int .i64 of_, .int .i64 t, .int .i64 r] 65)
  have hbx := BoxN.new w 65 #[.int .i64 0, .int .i64 who, .int .i64 of_, .int .i64 t, .int .i64 r]
  have y0 := hbx.cell (k := 0) rfl
  have y1 := hbx.cell (k := 1) rfl
  have y2 := hbx.cell (k := 2) rfl
  have y3 := hbx.cell (k := 3) rfl
  have y4 := hbx.cell (k := 4) rfl
  have hL1 := hL.below hb0
  obtain ⟨b1, off1, c1, g1, g1'⟩ := row_int2 hok hL1 hn hw
  have g2 := g1' of_ ho
  obtain ⟨b3, off3, c3, g3, g3'⟩ := row_int2 hok hL1 hn (x := of_) ho
  have g4 := g3' t ht
  have l1 := hok.lt (x := who) (y := of_) (by omega) (by omega)
  have l2 := hok.lt (x := of_) (y := t) (by omega) (by omega)
  have ha : who ≠ t := fun e => hcond (.inl e)
  have hb : ¬ (gN L who of_ &&& 1 = 0) := fun e => hcond (.inr (.inl e))
  have hc : r &&& gN L of_ t = r := Classical.byContradiction fun e => hcond (.inr (.inr e))
  have da : (((who : Nat) : Int) == ((t : Nat) : Int)) = false := by simp; omega
  have B1 := Lib.hid (fun V => Bit_is (gN L who of_) 0 true V (by omega) (by omega) (by
    have := and_bit (gN L who of_) l1 0 (by decide)
    cases h : (gN L who of_).testBit 0 with
    | true => rfl
    | false => exact absurd (this.2 h) hb))
  have B2 := Lib.hid (fun V => Within_is r (gN L of_ t) true V (by omega) (by omega) (by unfold within; simpa using hc))
  obtain ⟨F, hFd⟩ : ∃ F : Nat → Nat → Int, F = fun i j => if i = who ∧ j = t then ((gN L who t ||| r : Nat) : Int) else ((gN L i j : Nat) : Int) := ⟨_, rfl⟩
  have hf := hok.add (a := who) (t := t) (r := r) (by omega) (by omega) (by omega) ha
  have Hmk := Lib.hid (show mkRows F n n = setG L who t ((gN L who t ||| r : Nat) : Int) from mkRows_is (by rw [length_setG, hn]) (fun i hi => by rw [row_setG, hok.row i (by omega), hn]) (fun i j hi hj => by
    rw [gAt_setG (by omega) (by rw [hok.row _ (by omega)]; omega), hFd]
    show (if i = who ∧ j = t then _ else _) = _
    split
    · rfl
    · rw [hok.nat (by omega) (by omega)]))
  have HF := Lib.hid hFd
  have HL := Lib.hid hL
  have Hg := Lib.hid hok
  clear hL hok hFd hf hcond ha hb hc g1' g3' hL1 l1 l2
  generalize gN L who of_ = v1 at *
  generalize hv2 : gN L of_ t = v2 at *
  go_enter Tryd.func33, Tryd.ntmps33
  go_wp2_with (first | (with_reducible refine (W1.out _).mono ?_; rintro e w' ⟨rfl, rfl⟩) | (with_reducible refine (W2.out _).mono ?_; rintro e w' ⟨rfl, rfl⟩) | (with_reducible refine (W3.out _).mono ?_; rintro e w' ⟨rfl, rfl⟩) | (with_reducible refine (W4.out _).mono ?_; rintro e w' ⟨rfl, rfl⟩) | (with_reducible refine (W5.out _).mono ?_; rintro e w' ⟨rfl, rfl⟩))
  go_quiet (fail)
  obtain ⟨n1, hn1⟩ : ∃ n1, n1 = nq := ⟨nq, rfl⟩
  subst hn1
  go_wp2_with fail
  go_quiet (first | (with_reducible exact quiet2 (B1.out _)) | (with_reducible exact quiet1 (B1.out _)) | (with_reducible exact quiet2 (B2.out _)) | (with_reducible exact quiet1 (B2.out _)))
  go_wp2_with fail
  have hb0 := belowD (belowD hb0 n1) nq
  have hbx := ((hbx.drewN n1).drewN nq : BoxN (((w.alloc (.cells #[.int .i64 0, .int .i64 who, .int .i64 of_, .int .i64 t, .int .i64 r] 65)).drewN n1).drewN nq) w.heap.size 65 #[.int .i64 0, .int .i64 who, .int .i64 of_, .int .i64 t, .int .i64 r])
  clear y0 y1 y2 y3 y4 g1 g2 g3 g4
  have y0 := trivial
  have y1 := trivial
  have y2 := trivial
  have y3 := trivial
  have y4 := trivial
  generalize (((w.alloc (.cells #[.int .i64 0, .int .i64 who, .int .i64 of_, .int .i64 t, .int .i64 r] 65)).drewN n1).drewN nq) = w1 at hb0 hbx ⊢
  go_loopw [11, 12] (fun out i wr => ∃ (p : Nat) (A9 : Option Addr) (c9 : Nat), p ≤ n ∧ i = .int .i64 p ∧ out = .slice A9 p c9 ∧ GridAt w1.heap.size wr (.slice A9 p c9) (mkRows F (n) p) ∧ Below w1.heap.size w1 wr) (fun _ i _ => (n) - (intOf i).toNat)
  case atStart => exact ⟨0, none, 0, Nat.zero_le _, rfl, rfl, GridAt.nil _ _, Below.refl _ _⟩
  case round =>
    clear y0 y1 y2 y3 y4
    obtain ⟨p, A9, c9, hp, rfl, rfl, hg, hbr⟩ := hrel
    have hsz := hbr.size
    obtain ⟨wz, hwz⟩ : ∃ wz, wz = wr := ⟨wr, rfl⟩
    subst hwz
    by_cases hlt : p < n
    · have dlt : decide ((p : Int) < (n : Int)) = true := decide_eq_true (by omega)
      go_wp2_with fail
      go_loopw [13, 14] (fun row j wi => ∃ (q : Nat), q ≤ n ∧ j = .int .i64 q ∧ OwnI wi wz.heap.size row (mkRow F p q) ∧ Below wz.heap.size wz wi) (fun _ j _ => (n) - (intOf j).toNat)
      case atStart => exact ⟨0, Nat.zero_le _, rfl, OwnI.nil _ _, Below.refl _ _⟩
      case round =>
        obtain ⟨q, hq, rfl, hown, hbi⟩ := hrel
        have hbw := hbr.trans (hbi.mono hsz)
        have hrl : (mkRow F p q).length < 2 ^ 40 := by rw [length_mkRow]; omega
        have hsi := hbi.size
        have hbx2 := hbx.below hbw hbx.lt
        have x0 := hbx2.cell (k := 0) rfl
        have x1 := hbx2.cell (k := 1) rfl
        have x3 := hbx2.cell (k := 3) rfl
        have x4 := hbx2.cell (k := 4) rfl
        by_cases hltq : q < n
        · have dlq : decide ((q : Int) < (n : Int)) = true := decide_eq_true (by omega)
          have dp : decide ((p : Int) < (n : Int)) = true := decide_eq_true (by omega)
          have dq : decide ((q : Int) < (n : Int)) = true := decide_eq_true (by omega)
          obtain ⟨b1, off1, c2, r0, r1⟩ := row_int2 Hg.out (HL.out.below (hb0.trans (hbw.mono hb0.size))) hn hlt
          have r2 := r1 q hltq
          clear r1
          by_cases hpt : p = who
          · subst hpt
            have dt : ((p : Int) == (p : Int)) = true := by simp
            by_cases hqt : q = t
            · subst hqt
              have dqt : ((q : Int) == (q : Int)) = true := by simp
              have hF := Lib.hid (show F p q = ((gN L p q ||| r : Nat) : Int) by rw [HF.out]; show (if p = p ∧ q = q then _ else _) = _; rw [if_pos ⟨rfl, rfl⟩])
              have HEi := Lib.hid (fun V => Either_any (gN L p q) r V (by have := Hg.out.lt (x := p) (y := q) (by omega) (by omega); omega) (by omega))
              generalize gN L p q ||| r = g3 at *
              generalize gN L p q = g2 at *
              clear hg hbr
              go_wp2_with (first | (go_at_call 56; with_reducible refine (HEi.out _).mono ?_; rintro e w' ⟨rfl, rfl⟩) | (at_builtin; refine wpList_push_int rfl _ _ rfl (base := wz.heap.size) (v := u13) rfl (hown.next ((Below.refl _ wr).alloc (Nat.le_refl _) _)) wr.heap.size (g3 : Int) rfl (cell_of_row _ _ 0 _ _ _ (heap_alloc_new wr _)) hrl (by simp; omega) ?_; intro v2 w4 ho4 hg4 hv4 hbl4; have hb4 := hbl4 _ (hbi.alloc hsi (.cells #[.int .i64 (g3 : Int)] 3))))
              refine ⟨⟨q + 1, ?ya, ?yb, ?yc, hb4⟩, ?yd⟩
              case ya => omega
              case yb => go_num
              case yc => rw [mkRow_next, hF.out]; exact ho4
              case yd => simp [intOf] <;> omega
            · have dqt : ((q : Int) == (t : Int)) = false := beq_eq_false_iff_ne.2 (by omega)
              have hF := Lib.hid (show F p q = ((gN L p q : Nat) : Int) by rw [HF.out]; show (if p = p ∧ q = t then _ else _) = _; rw [if_neg (fun e => hqt e.2)])
              generalize gN L p q = g2 at *
              clear hg hbr
              go_wp2_with (at_builtin; refine wpList_push_int rfl _ _ rfl (base := wz.heap.size) (v := u13) rfl (hown.next ((Below.refl _ wr).alloc (Nat.le_refl _) _)) wr.heap.size (g2 : Int) rfl (cell_of_row _ _ 0 _ _ _ (heap_alloc_new wr _)) hrl (by simp; omega) ?_; intro v2 w4 ho4 hg4 hv4 hbl4; have hb4 := hbl4 _ (hbi.alloc hsi (.cells #[.int .i64 (g2 : Int)] 3)))
              refine ⟨⟨q + 1, ?ya, ?yb, ?yc, hb4⟩, ?yd⟩
              case ya => omega
              case yb => go_num
              case yc => rw [mkRow_next, hF.out]; exact ho4
              case yd => simp [intOf] <;> omega
          · have dt : ((p : Int) == (who : Int)) = false := beq_eq_false_iff_ne.2 (by omega)
            have hF := Lib.hid (show F p q = ((gN L p q : Nat) : Int) by rw [HF.out]; show (if p = who ∧ q = t then _ else _) = _; rw [if_neg (fun e => hpt e.1)])
            generalize gN L p q = g2 at *
            clear hg hbr
            go_wp2_with (at_builtin; refine wpList_push_int rfl _ _ rfl (base := wz.heap.size) (v := u13) rfl (hown.next ((Below.refl _ wr).alloc (Nat.le_refl _) _)) wr.heap.size (g2 : Int) rfl (cell_of_row _ _ 0 _ _ _ (heap_alloc_new wr _)) hrl (by simp; omega) ?_; intro v2 w4 ho4 hg4 hv4 hbl4; have hb4 := hbl4 _ (hbi.alloc hsi (.cells #[.int .i64 (g2 : Int)] 3)))
            refine ⟨⟨q + 1, ?ya, ?yb, ?yc, hb4⟩, ?yd⟩
            case ya => omega
            case yb => go_num
            case yc => rw [mkRow_next, hF.out]; exact ho4
            case yd => simp [intOf] <;> omega
        · have hqm := Lib.hid (show q = n by omega)
          have dlq : decide ((q : Int) < (n : Int)) = false := decide_eq_false (by omega)
          obtain ⟨xs, k1, k2, k3⟩ := hg
          rw [length_mkRows] at k1
          have q1 := ownsRow_below k1 hbi (Nat.le_refl _)
          obtain ⟨Ar, cr, hrv, _⟩ := hown.form
          rw [length_mkRow] at hrv
          subst hrv
          have c7 : (wr.alloc (.cells #[.slice Ar q cr] 36)).cell? ⟨wr.heap.size, 0, none⟩ = some (.slice Ar q cr) := cell_of_row _ _ 0 _ _ _ (heap_alloc_new wr _)
          have q7 := ownsRow_below q1 ((Below.refl wr.heap.size wr).alloc (Nat.le_refl _) (.cells #[.slice Ar q cr] 36)) (Nat.le_refl _)
          have K1 := Lib.hid k1
          have K2 := Lib.hid k2
          have K3 := Lib.hid k3
          have Hown := Lib.hid hown
          have Hbw := Lib.hid hbw
          have Hrow := Lib.hid (show mkRows F (n) (p + 1) = mkRows F (n) p ++ [mkRow F p q] by rw [mkRows_next, hqm.out])
          clear k1 k2 k3 q1 hown hbx2 x0 x1 x3 x4
          go_wp2_with (at_builtin; refine wpList_push_one eGrid (by decide) rfl _ _ rfl (v := .slice A9 p c9) rfl q7 wr.heap.size (.slice Ar q cr) rfl rfl c7 (by omega) (by have := hbw.size; simp; omega) ?_; intro A8 c8 w9 ho9 hg9 hbl9)
          have hb9 := hbl9 w1 (hbw.alloc hbw.size (.cells #[.slice Ar q cr] 36))
          have hvo : ∀ g, (Value.slice Ar q cr).ownBlock = some g → wz.heap.size ≤ g ∧ g < wr.heap.size := fun g hg' => Hown.out.lt g hg'
          have hk9 : ∀ b, b < wr.heap.size → (Value.slice A9 p c9).ownBlock ≠ some b → w9.heap[b]? = wr.heap[b]? := fun b h1 h2 => (hg9.block b (by simp; omega) (fun e => h2 e.symm)).trans (Below.heap_alloc wr _ b h1)
          refine ⟨⟨p + 1, A8, c8, ?za, ?zb, rfl, ?zc, hb9⟩, ?zd⟩
          case za => omega
          case zb => go_num
          case zc =>
            rw [Hrow.out]
            refine grid_more (length_mkRows _ _ _) K1.out K2.out K3.out ho9 (fun b h1 h2 => (hk9 b (by omega) h2).trans (hbi.block b h1)) ?_ (fun g hg' => (hvo g hg').1)
            have h5 := Hown.out
            refine ⟨h5.1, ?_⟩
            rcases h5.2 with h0 | ⟨g, cap, cur, e1, e2, e3, e4⟩
            · exact .inl h0
            · refine .inr ⟨g, cap, cur, e1, by omega, (hk9 g (Array.getElem?_eq_some_iff.1 e3).1 (fun e => ?_)).trans e3, e4⟩
              have := (K1.out.lt g e).2
              omega
          case zd => simp [intOf]; omega
    · have hpm := Lib.hid (show p = n by omega)
      have dlt : decide ((p : Int) < (n : Int)) = false := decide_eq_false (by omega)
      have Hrows := Lib.hid (hg.rows (fun l hl => by
        obtain ⟨i, hi, e⟩ := List.getElem_of_mem hl
        have : l.length = n := mkRows_mem hl
        unfold maxLen; omega))
      clear hg
      go_wp2_with fail
      go_ret2
      have hrr := Hrows.out
      rw [hpm.out, Hmk.out] at hrr
      exact ⟨⟨A9, c9, by rw [hpm.out]; rfl, hrr⟩, hb0.trans (hbr.mono hb0.size)⟩

set_option maxHeartbeats 16000000 in
theorem RDo_Grant_bad {who of_ t r : Nat} (hL : RowsIn anyB 1 w A L) (hok : GOk L) (hn : L.length = n) (hw : who < n) (ho : of_ < n) (ht : t < n) (hr : 1 ≤ r ∧ r ≤ 7) (hcond : of_ = t ∨ gN L who of_ &&& 2 = 0 ∨ r &&& gN L who t ≠ r) :
    Calls Tryd.prog 33 #[.slice A n c, .agg #[.int .i64 1, .int .i64 who, .int .i64 of_, .int .i64 t, .int .i64 r]] w fun e w' => e = .returned (.tuple #[.slice A n c, .int .i64 7]) ∧ Below w.heap.size w w' := by
  have hn20 : n ≤ 20 := by have := hok.few; omega
  obtain ⟨b, off, _, _, _, rfl, _⟩ := row_int hok hL hn hw
  have W1 := Lib.hid (fun V => RinD_is 1 0 2 true V (by simp))
  have W2 := Lib.hid (fun V => RinD_is (who : Int) 0 ((n : Int) - 1) true V (decide_eq_true (by omega)))
  have W3 := Lib.hid (fun V => RinD_is (of_ : Int) 0 ((n : Int) - 1) true V (decide_eq_true (by omega)))
  have W4 := Lib.hid (fun V => RinD_is (t : Int) 0 ((n : Int) - 1) true V (decide_eq_true (by omega)))
  have W5 := Lib.hid (fun V => RinD_is (r : Int) 1 7 true V (decide_eq_true (by omega)))
  have hb0 := (Below.refl w.heap.size w).alloc (Nat.le_refl _) (.cells #[.int .i64 1, .int .i64 who, .int .i64 of_, .int .i64 t, .int .i64 r] 65)
  have hbx := BoxN.new w 65 #[.int .i64 1, .int .i64 who, .int .i64 of_, .int .i64 t, .int .i64 r]
  have y0 := hbx.cell (k := 0) rfl
  have y1 := hbx.cell (k := 1) rfl
  have y2 := hbx.cell (k := 2) rfl
  have y3 := hbx.cell (k := 3) rfl
  have y4 := hbx.cell (k := 4) rfl
  have hL1 := hL.below hb0
  obtain ⟨b1, off1, c1, g1, g1'⟩ := row_int2 hok hL1 hn hw
  have g2 := g1' of_ ho
  obtain ⟨b3, off3, c3, g3, g3'⟩ := row_int2 hok hL1 hn (x := of_) ho
  have g4 := g3' t ht
  have g6 := g1' t ht
  have l1 := hok.lt (x := who) (y := of_) (by omega) (by omega)
  have l2 := hok.lt (x := who) (y := t) (by omega) (by omega)
  have hb0 := Lib.hid hb0
  clear g1' g3' hL1 hL hbx
  by_cases ha : of_ = t
  · have da : (((of_ : Nat) : Int) == ((t : Nat) : Int)) = true := by simp [ha]
    generalize gN L who of_ = v1 at *
    generalize gN L who t = v2 at *
    clear hcond ha l1 l2 hok
    go_enter Tryd.func33, Tryd.ntmps33
    go_wp2_with (first | (with_reducible refine (W1.out _).mono ?_; rintro e w' ⟨rfl, rfl⟩) | (with_reducible refine (W2.out _).mono ?_; rintro e w' ⟨rfl, rfl⟩) | (with_reducible refine (W3.out _).mono ?_; rintro e w' ⟨rfl, rfl⟩) | (with_reducible refine (W4.out _).mono ?_; rintro e w' ⟨rfl, rfl⟩) | (with_reducible refine (W5.out _).mono ?_; rintro e w' ⟨rfl, rfl⟩))
    go_quiet (fail)
    obtain ⟨n1, hn1⟩ : ∃ n1, n1 = nq := ⟨nq, rfl⟩
    subst hn1
    go_wp2_with fail
    go_quiet (fail)
    obtain ⟨n2, hn2⟩ : ∃ n2, n2 = nq := ⟨nq, rfl⟩
    subst hn2
    go_wp2_with fail
    go_quiet (fail)
    go_wp2_with fail
    go_ret2
    exact ⟨rfl, by first | exact belowD hb0.out _ | exact belowD (belowD hb0.out _) _ | exact belowD (belowD (belowD hb0.out _) _) _⟩
  have da : (((of_ : Nat) : Int) == ((t : Nat) : Int)) = false := by simp; omega
  by_cases hb : gN L who of_ &&& 2 = 0
  · have B1 := Lib.hid (fun V => Bit_is (gN L who of_) 1 false V (by omega) (by omega) (by
      have := and_bit (gN L who of_) l1 1 (by decide)
      exact this.1 hb))
    generalize gN L who of_ = v1 at *
    generalize gN L who t = v2 at *
    clear hcond ha hb l1 l2 hok
    go_enter Tryd.func33, Tryd.ntmps33
    go_wp2_with (first | (with_reducible refine (W1.out _).mono ?_; rintro e w' ⟨rfl, rfl⟩) | (with_reducible refine (W2.out _).mono ?_; rintro e w' ⟨rfl, rfl⟩) | (with_reducible refine (W3.out _).mono ?_; rintro e w' ⟨rfl, rfl⟩) | (with_reducible refine (W4.out _).mono ?_; rintro e w' ⟨rfl, rfl⟩) | (with_reducible refine (W5.out _).mono ?_; rintro e w' ⟨rfl, rfl⟩))
    go_quiet (fail)
    obtain ⟨n1, hn1⟩ : ∃ n1, n1 = nq := ⟨nq, rfl⟩
    subst hn1
    go_wp2_with fail
    go_quiet (fail)
    obtain ⟨n2, hn2⟩ : ∃ n2, n2 = nq := ⟨nq, rfl⟩
    subst hn2
    go_wp2_with fail
    go_quiet (first | (with_reducible exact quiet2 (B1.out _)) | (with_reducible exact quiet1 (B1.out _)))
    go_wp2_with fail
    go_ret2
    exact ⟨rfl, by first | exact belowD hb0.out _ | exact belowD (belowD hb0.out _) _ | exact belowD (belowD (belowD hb0.out _) _) _⟩
  · have B1 := Lib.hid (fun V => Bit_is (gN L who of_) 1 true V (by omega) (by omega) (by
      have := and_bit (gN L who of_) l1 1 (by decide)
      cases h : (gN L who of_).testBit 1 with
      | true => rfl
      | false => exact absurd (this.2 h) hb))
    have hc : ¬ (r &&& gN L who t = r) := fun e => by rcases hcond with h | h | h; exact ha h; exact hb h; exact h e
    have B2 := Lib.hid (fun V => Within_is r (gN L who t) false V (by omega) (by omega) (by unfold within; simpa using hc))
    generalize gN L who of_ = v1 at *
    generalize gN L who t = v2 at *
    clear hcond ha hb hc l1 l2 hok
    go_enter Tryd.func33, Tryd.ntmps33
    go_wp2_with (first | (with_reducible refine (W1.out _).mono ?_; rintro e w' ⟨rfl, rfl⟩) | (with_reducible refine (W2.out _).mono ?_; rintro e w' ⟨rfl, rfl⟩) | (with_reducible refine (W3.out _).mono ?_; rintro e w' ⟨rfl, rfl⟩) | (with_reducible refine (W4.out _).mono ?_; rintro e w' ⟨rfl, rfl⟩) | (with_reducible refine (W5.out _).mono ?_; rintro e w' ⟨rfl, rfl⟩))
    go_quiet (fail)
    obtain ⟨n1, hn1⟩ : ∃ n1, n1 = nq := ⟨nq, rfl⟩
    subst hn1
    go_wp2_with fail
    go_quiet (fail)
    obtain ⟨n2, hn2⟩ : ∃ n2, n2 = nq := ⟨nq, rfl⟩
    subst hn2
    go_wp2_with fail
    go_quiet (first | (with_reducible exact quiet2 (B1.out _)) | (with_reducible exact quiet1 (B1.out _)) | (with_reducible exact quiet2 (B2.out _)) | (with_reducible exact quiet1 (B2.out _)))
    go_wp2_with fail
    go_ret2
    exact ⟨rfl, by first | exact belowD hb0.out _ | exact belowD (belowD hb0.out _) _ | exact belowD (belowD (belowD hb0.out _) _) _⟩

set_option maxHeartbeats 16000000 in
theorem RDo_Grant_ok {who of_ t r : Nat} (hL : RowsIn anyB 1 w A L) (hok : GOk L) (hn : L.length = n) (hw : who < n) (ho : of_ < n) (ht : t < n) (hr : 1 ≤ r ∧ r ≤ 7) (hcond : ¬ (of_ = t ∨ gN L who of_ &&& 2 = 0 ∨ r &&& gN L who t ≠ r)) :
    Calls Tryd.prog 33 #[.slice A n c, .agg #[.int .i64 1, .int .i64 who, .int .i64 of_, .int .i64 t, .int .i64 r]] w fun e w' => (∃ A' c', e = .returned (.tuple #[.slice A' n c', .int .i64 0]) ∧ RowsIn anyB 1 w' A' (setG L of_ t ((gN L of_ t ||| r : Nat) : Int))) ∧ Below w.heap.size w w' := by
  have hn20 : n ≤ 20 := by have := hok.few; omega
  obtain ⟨b, off, _, _, _, rfl, _⟩ := row_int hok hL hn hw
  have W1 := Lib.hid (fun V => RinD_is 1 0 2 true V (by simp))
  have W2 := Lib.hid (fun V => RinD_is (who : Int) 0 ((n : Int) - 1) true V (decide_eq_true (by omega)))
  have W3 := Lib.hid (fun V => RinD_is (of_ : Int) 0 ((n : Int) - 1) true V (decide_eq_true (by omega)))
  have W4 := Lib.hid (fun V => RinD_is (t : Int) 0 ((n : Int) - 1) true V (decide_eq_true (by omega)))
  have W5 := Lib.hid (fun V => RinD_is (r : Int) 1 7 true V (decide_eq_true (by omega)))
  have hb0 := (Below.refl w.heap.size w).alloc (Nat.le_refl _) (.cells #[.int .i64 1, .int .i64 who, .int .i64 of_, .int .i64 t, .int .i64 r] 65)
  have hbx := BoxN.new w 65 #[.int .i64 1, .int .i64 who, .int .i64 of_, .int .i64 t, .int .i64 r]
  have y0 := hbx.cell (k := 0) rfl
  have y1 := hbx.cell (k := 1) rfl
  have y2 := hbx.cell (k := 2) rfl
  have y3 := hbx.cell (k := 3) rfl
  have y4 := hbx.cell (k := 4) rfl
  have hL1 := hL.below hb0
  obtain ⟨b1, off1, c1, g1, g1'⟩ := row_int2 hok hL1 hn hw
  have g2 := g1' of_ ho
  obtain ⟨b3, off3, c3, g3, g3'⟩ := row_int2 hok hL1 hn (x := of_) ho
  have g4 := g3' t ht
  have g6 := g1' t ht
  have l1 := hok.lt (x := who) (y := of_) (by omega) (by omega)
  have l2 := hok.lt (x := who) (y := t) (by omega) (by omega)
  have ha : of_ ≠ t := fun e => hcond (.inl e)
  have hb : ¬ (gN L who of_ &&& 2 = 0) := fun e => hcond (.inr (.inl e))
  have hc : r &&& gN L who t = r := Classical.byContradiction fun e => hcond (.inr (.inr e))
  have da : (((of_ : Nat) : Int) == ((t : Nat) : Int)) = false := by simp; omega
  have B1 := Lib.hid (fun V => Bit_is (gN L who of_) 1 true V (by omega) (by omega) (by
    have := and_bit (gN L who of_) l1 1 (by decide)
    cases h : (gN L who of_).testBit 1 with
    | true => rfl
    | false => exact absurd (this.2 h) hb))
  have B2 := Lib.hid (fun V => Within_is r (gN L who t) true V (by omega) (by omega) (by unfold within; simpa using hc))
  obtain ⟨F, hFd⟩ : ∃ F : Nat → Nat → Int, F = fun i j => if i = of_ ∧ j = t then ((gN L of_ t ||| r : Nat) : Int) else ((gN L i j : Nat) : Int) := ⟨_, rfl⟩
  have hf := hok.add (a := of_) (t := t) (r := r) (by omega) (by omega) (by omega) ha
  have Hmk := Lib.hid (show mkRows F n n = setG L of_ t ((gN L of_ t ||| r : Nat) : Int) from mkRows_is (by rw [length_setG, hn]) (fun i hi => by rw [row_setG, hok.row i (by omega), hn]) (fun i j hi hj => by
    rw [gAt_setG (by omega) (by rw [hok.row _ (by omega)]; omega), hFd]
    show (if i = of_ ∧ j = t then _ else _) = _
    split
    · rfl
    · rw [hok.nat (by omega) (by omega)]))
  have HF := Lib.hid hFd
  have HL := Lib.hid hL
  have Hg := Lib.hid hok
  clear hL hok hFd hf hcond ha hb hc g1' g3' hL1 l1 l2
  generalize gN L who of_ = v1 at *
  generalize hv2 : gN L who t = v2 at *
  go_enter Tryd.func33, Tryd.ntmps33
  go_wp2_with (first | (with_reducible refine (W1.out _).mono ?_; rintro e w' ⟨rfl, rfl⟩) | (with_reducible refine (W2.out _).mono ?_; rintro e w' ⟨rfl, rfl⟩) | (with_reducible refine (W3.out _).mono ?_; rintro e w' ⟨rfl, rfl⟩) | (with_reducible refine (W4.out _).mono ?_; rintro e w' ⟨rfl, rfl⟩) | (with_reducible refine (W5.out _).mono ?_; rintro e w' ⟨rfl, rfl⟩))
  go_quiet (fail)
  obtain ⟨n1, hn1⟩ : ∃ n1, n1 = nq := ⟨nq, rfl⟩
  subst hn1
  go_wp2_with fail
  go_quiet (fail)
  obtain ⟨n2, hn2⟩ : ∃ n2, n2 = nq := ⟨nq, rfl⟩
  subst hn2
  go_wp2_with fail
  go_quiet (first | (with_reducible exact quiet2 (B1.out _)) | (with_reducible exact quiet1 (B1.out _)) | (with_reducible exact quiet2 (B2.out _)) | (with_reducible exact quiet1 (B2.out _)))
  go_wp2_with fail
  have hb0 := belowD (belowD (belowD hb0 n1) n2) nq
  have hbx := (((hbx.drewN n1).drewN n2).drewN nq : BoxN ((((w.alloc (.cells #[.int .i64 1, .int .i64 who, .int .i64 of_, .int .i64 t, .int .i64 r] 65)).drewN n1).drewN n2).drewN nq) w.heap.size 65 #[.int .i64 1, .int .i64 who, .int .i64 of_, .int .i64 t, .int .i64 r])
  clear y0 y1 y2 y3 y4 g1 g2 g3 g4 g6
  have y0 := trivial
  have y1 := trivial
  have y2 := trivial
  have y3 := trivial
  have y4 := trivial
  generalize ((((w.alloc (.cells #[.int .i64 1, .int .i64 who, .int .i64 of_, .int .i64 t, .int .i64 r] 65)).drewN n1).drewN n2).drewN nq) = w1 at hb0 hbx ⊢
  go_loopw [11, 12] (fun out i wr => ∃ (p : Nat) (A9 : Option Addr) (c9 : Nat), p ≤ n ∧ i = .int .i64 p ∧ out = .slice A9 p c9 ∧ GridAt w1.heap.size wr (.slice A9 p c9) (mkRows F (n) p) ∧ Below w1.heap.size w1 wr) (fun _ i _ => (n) - (intOf i).toNat)
  case atStart => exact ⟨0, none, 0, Nat.zero_le _, rfl, rfl, GridAt.nil _ _, Below.refl _ _⟩
  case round =>
    clear y0 y1 y2 y3 y4
    obtain ⟨p, A9, c9, hp, rfl, rfl, hg, hbr⟩ := hrel
    have hsz := hbr.size
    obtain ⟨wz, hwz⟩ : ∃ wz, wz = wr := ⟨wr, rfl⟩
    subst hwz
    by_cases hlt : p < n
    · have dlt : decide ((p : Int) < (n : Int)) = true := decide_eq_true (by omega)
      go_wp2_with fail
      go_loopw [13, 14] (fun row j wi => ∃ (q : Nat), q ≤ n ∧ j = .int .i64 q ∧ OwnI wi wz.heap.size row (mkRow F p q) ∧ Below wz.heap.size wz wi) (fun _ j _ => (n) - (intOf j).toNat)
      case atStart => exact ⟨0, Nat.zero_le _, rfl, OwnI.nil _ _, Below.refl _ _⟩
      case round =>
        obtain ⟨q, hq, rfl, hown, hbi⟩ := hrel
        have hbw := hbr.trans (hbi.mono hsz)
        have hrl : (mkRow F p q).length < 2 ^ 40 := by rw [length_mkRow]; omega
        have hsi := hbi.size
        have hbx2 := hbx.below hbw hbx.lt
        have x0 := hbx2.cell (k := 0) rfl
        have x1 := hbx2.cell (k := 1) rfl
        have x3 := hbx2.cell (k := 3) rfl
        have x4 := hbx2.cell (k := 4) rfl
        by_cases hltq : q < n
        · have dlq : decide ((q : Int) < (n : Int)) = true := decide_eq_true (by omega)
          have dp : decide ((p : Int) < (n : Int)) = true := decide_eq_true (by omega)
          have dq : decide ((q : Int) < (n : Int)) = true := decide_eq_true (by omega)
          obtain ⟨b1, off1, c2, r0, r1⟩ := row_int2 Hg.out (HL.out.below (hb0.trans (hbw.mono hb0.size))) hn hlt
          have r2 := r1 q hltq
          clear r1
          by_cases hpt : p = of_
          · subst hpt
            have dt : ((p : Int) == (p : Int)) = true := by simp
            by_cases hqt : q = t
            · subst hqt
              have dqt : ((q : Int) == (q : Int)) = true := by simp
              have hF := Lib.hid (show F p q = ((gN L p q ||| r : Nat) : Int) by rw [HF.out]; show (if p = p ∧ q = q then _ else _) = _; rw [if_pos ⟨rfl, rfl⟩])
              have HEi := Lib.hid (fun V => Either_any (gN L p q) r V (by have := Hg.out.lt (x := p) (y := q) (by omega) (by omega); omega) (by omega))
              generalize gN L p q ||| r = g3 at *
              generalize gN L p q = g2 at *
              clear hg hbr
              go_wp2_with (first | (go_at_call 56; with_reducible refine (HEi.out _).mono ?_; rintro e w' ⟨rfl, rfl⟩) | (at_builtin; refine wpList_push_int rfl _ _ rfl (base := wz.heap.size) (v := u13) rfl (hown.next ((Below.refl _ wr).alloc (Nat.le_refl _) _)) wr.heap.size (g3 : Int) rfl (cell_of_row _ _ 0 _ _ _ (heap_alloc_new wr _)) hrl (by simp; omega) ?_; intro v2 w4 ho4 hg4 hv4 hbl4; have hb4 := hbl4 _ (hbi.alloc hsi (.cells #[.int .i64 (g3 : Int)] 3))))
              refine ⟨⟨q + 1, ?ya, ?yb, ?yc, hb4⟩, ?yd⟩
              case ya => omega
              case yb => go_num
              case yc => rw [mkRow_next, hF.out]; exact ho4
              case yd => simp [intOf] <;> omega
            · have dqt : ((q : Int) == (t : Int)) = false := beq_eq_false_iff_ne.2 (by omega)
              have hF := Lib.hid (show F p q = ((gN L p q : Nat) : Int) by rw [HF.out]; show (if p = p ∧ q = t then _ else _) = _; rw [if_neg (fun e => hqt e.2)])
              generalize gN L p q = g2 at *
              clear hg hbr
              go_wp2_with (at_builtin; refine wpList_push_int rfl _ _ rfl (base := wz.heap.size) (v := u13) rfl (hown.next ((Below.refl _ wr).alloc (Nat.le_refl _) _)) wr.heap.size (g2 : Int) rfl (cell_of_row _ _ 0 _ _ _ (heap_alloc_new wr _)) hrl (by simp; omega) ?_; intro v2 w4 ho4 hg4 hv4 hbl4; have hb4 := hbl4 _ (hbi.alloc hsi (.cells #[.int .i64 (g2 : Int)] 3)))
              refine ⟨⟨q + 1, ?ya, ?yb, ?yc, hb4⟩, ?yd⟩
              case ya => omega
              case yb => go_num
              case yc => rw [mkRow_next, hF.out]; exact ho4
              case yd => simp [intOf] <;> omega
          · have dt : ((p : Int) == (of_ : Int)) = false := beq_eq_false_iff_ne.2 (by omega)
            have hF := Lib.hid (show F p q = ((gN L p q : Nat) : Int) by rw [HF.out]; show (if p = of_ ∧ q = t then _ else _) = _; rw [if_neg (fun e => hpt e.1)])
            generalize gN L p q = g2 at *
            clear hg hbr
            go_wp2_with (at_builtin; refine wpList_push_int rfl _ _ rfl (base := wz.heap.size) (v := u13) rfl (hown.next ((Below.refl _ wr).alloc (Nat.le_refl _) _)) wr.heap.size (g2 : Int) rfl (cell_of_row _ _ 0 _ _ _ (heap_alloc_new wr _)) hrl (by simp; omega) ?_; intro v2 w4 ho4 hg4 hv4 hbl4; have hb4 := hbl4 _ (hbi.alloc hsi (.cells #[.int .i64 (g2 : Int)] 3)))
            refine ⟨⟨q + 1, ?ya, ?yb, ?yc, hb4⟩, ?yd⟩
            case ya => omega
            case yb => go_num
            case yc => rw [mkRow_next, hF.out]; exact ho4
            case yd => simp [intOf] <;> omega
        · have hqm := Lib.hid (show q = n by omega)
          have dlq : decide ((q : Int) < (n : Int)) = false := decide_eq_false (by omega)
          obtain ⟨xs, k1, k2, k3⟩ := hg
          rw [length_mkRows] at k1
          have q1 := ownsRow_below k1 hbi (Nat.le_refl _)
          obtain ⟨Ar, cr, hrv, _⟩ := hown.form
          rw [length_mkRow] at hrv
          subst hrv
          have c7 : (wr.alloc (.cells #[.slice Ar q cr] 36)).cell? ⟨wr.heap.size, 0, none⟩ = some (.slice Ar q cr) := cell_of_row _ _ 0 _ _ _ (heap_alloc_new wr _)
          have q7 := ownsRow_below q1 ((Below.refl wr.heap.size wr).alloc (Nat.le_refl _) (.cells #[.slice Ar q cr] 36)) (Nat.le_refl _)
          have K1 := Lib.hid k1
          have K2 := Lib.hid k2
          have K3 := Lib.hid k3
          have Hown := Lib.hid hown
          have Hbw := Lib.hid hbw
          have Hrow := Lib.hid (show mkRows F (n) (p + 1) = mkRows F (n) p ++ [mkRow F p q] by rw [mkRows_next, hqm.out])
          clear k1 k2 k3 q1 hown hbx2 x0 x1 x3 x4
          go_wp2_with (at_builtin; refine wpList_push_one eGrid (by decide) rfl _ _ rfl (v := .slice A9 p c9) rfl q7 wr.heap.size (.slice Ar q cr) rfl rfl c7 (by omega) (by have := hbw.size; simp; omega) ?_; intro A8 c8 w9 ho9 hg9 hbl9)
          have hb9 := hbl9 w1 (hbw.alloc hbw.size (.cells #[.slice Ar q cr] 36))
          have hvo : ∀ g, (Value.slice Ar q cr).ownBlock = some g → wz.heap.size ≤ g ∧ g < wr.heap.size := fun g hg' => Hown.out.lt g hg'
          have hk9 : ∀ b, b < wr.heap.size → (Value.slice A9 p c9).ownBlock ≠ some b → w9.heap[b]? = wr.heap[b]? := fun b h1 h2 => (hg9.block b (by simp; omega) (fun e => h2 e.symm)).trans (Below.heap_alloc wr _ b h1)
          refine ⟨⟨p + 1, A8, c8, ?za, ?zb, rfl, ?zc, hb9⟩, ?zd⟩
          case za => omega
          case zb => go_num
          case zc =>
            rw [Hrow.out]
            refine grid_more (length_mkRows _ _ _) K1.out K2.out K3.out ho9 (fun b h1 h2 => (hk9 b (by omega) h2).trans (hbi.block b h1)) ?_ (fun g hg' => (hvo g hg').1)
            have h5 := Hown.out
            refine ⟨h5.1, ?_⟩
            rcases h5.2 with h0 | ⟨g, cap, cur, e1, e2, e3, e4⟩
            · exact .inl h0
            · refine .inr ⟨g, cap, cur, e1, by omega, (hk9 g (Array.getElem?_eq_some_iff.1 e3).1 (fun e => ?_)).trans e3, e4⟩
              have := (K1.out.lt g e).2
              omega
          case zd => simp [intOf]; omega
    · have hpm := Lib.hid (show p = n by omega)
      have dlt : decide ((p : Int) < (n : Int)) = false := decide_eq_false (by omega)
      have Hrows := Lib.hid (hg.rows (fun l hl => by
        obtain ⟨i, hi, e⟩ := List.getElem_of_mem hl
        have : l.length = n := mkRows_mem hl
        unfold maxLen; omega))
      clear hg
      go_wp2_with fail
      go_ret2
      have hrr := Hrows.out
      rw [hpm.out, Hmk.out] at hrr
      exact ⟨⟨A9, c9, by rw [hpm.out]; rfl, hrr⟩, hb0.trans (hbr.mono hb0.size)⟩
end
end Go.Proofs.YtpfmllpodjcldaaDoor
