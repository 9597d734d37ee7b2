/-
  Contract: the document's Prog.
-/
import Derived.Test.YtfpghfmdkbdojaaGreatDoorPrA
import Derived.Test.YtfpghfmdkbdojaaGreatDoorPgC
import Derived.Test.YtfpghfmdkbdojaaGreatDoorCast
namespace Go.Proofs.YtfpghfmdkbdojaaGreatDoor
open Go.RowKit
set_option maxRecDepth 100000
set_option linter.unusedVariables false

/-- How often each is used, as numbers. -/
def useL (u : List Bool) : List Int := u.map fun b => if b then 1 else 0
theorem useL_at {u : List Bool} {j : Nat} (hj : j < u.length) : ((useL u).map (Value.int .i64))[j]? = some (.int .i64 (if u.getD j false then 1 else 0)) := by
  unfold useL
  rw [List.getElem?_map, List.getElem?_map, List.getElem?_eq_getElem hj, List.getD_eq_getElem?_getD, List.getElem?_eq_getElem hj]; rfl
theorem useL_set (u : List Bool) (j : Nat) : ((useL u).map (Value.int .i64)).set j (.int .i64 1) = (useL (u.set j true)).map (Value.int .i64) := by
  unfold useL
  rw [List.map_map, List.map_map, List.map_set]; rfl
theorem useL_new (w : World) (m : Nat) : OwnAt (w.alloc (.cells (madeCells #[Value.int .i64 0] m) 3)) w.heap.size 3 ((useL (List.replicate m false)).map (Value.int .i64)) := by
  unfold useL
  rw [List.map_replicate, List.map_replicate]
  refine ⟨_, heap_alloc_new w _, ?_, ?_⟩
  · simp [← Array.length_toList, toList_madeCells_one]
  · intro j v hj
    rw [← Array.getElem?_toList, toList_madeCells_one]
    exact hj
theorem nodeScan_head {P : List Int} {k : Nat} (u : List Bool) (h : headBad P k) : nodeScan P k u = (1, u) := by unfold nodeScan; rw [if_pos h]
theorem nodeScan_tail {P : List Int} {k : Nat} (u : List Bool) (h : ¬ headBad P k) : nodeScan P k u = partsScan P k (partsOf P k) 0 u := by unfold nodeScan; rw [if_neg h]
def badH (K N : Int) : Prop := ¬ (0 ≤ K ∧ K ≤ 9) ∨ bad2 K N
instance (K N : Int) : Decidable (badH K N) := by unfold badH; infer_instance
theorem badH_head {P : List Int} {k : Nat} : badH (nd P k 0) (nd P k 1) ↔ headBad P k := Iff.rfl

set_option maxHeartbeats 4000000 in
theorem RProg_any {P : List Int} {n : Nat} {A : Option Addr} {c : Nat} {w : World} (h : NodesAt w A P n) :
    Calls Tryz.prog 4 #[.slice A n c] w fun e w' => e = .returned (.int .i64 (progCode P n : Nat)) ∧ Below w.heap.size w w' := by
  by_cases h0 : n = 0
  · subst h0
    have Hc := Lib.hid (show progCode P 0 = 5 from rfl)
    go_enter Tryz.func4, Tryz.ntmps4
    go_wp2_with fail
    go_ret
    exact ⟨by rw [Hc.out]; rfl, Below.refl _ _⟩
  have d0 : ((n : Int) == 0) = false := by simp; omega
  by_cases h80 : 80 < n
  · have Hc := Lib.hid (show progCode P n = 4 by unfold progCode; rw [if_neg h0, if_pos h80])
    clear h0
    go_enter Tryz.func4, Tryz.ntmps4
    go_wp2_with fail
    go_ret
    exact ⟨by rw [Hc.out]; rfl, Below.refl _ _⟩
  have Hc := Lib.hid (show progCode P n = if (nodesScan P n 0 (List.replicate n false)).1 = 0 then endCode P n (nodesScan P n 0 (List.replicate n false)).2 else (nodesScan P n 0 (List.replicate n false)).1 by unfold progCode; rw [if_neg h0, if_neg h80])
  have hmk : ∀ V : World, (Instr.makeSlice 37 (.int .i64 n) (.int .i64 n)).run Tryz.prog V = .ok (.slice (some ⟨V.heap.size, 0, none⟩) n n) (V.alloc (.cells (madeCells #[Value.int .i64 0] n) 3)) := fun V => by
    obtain ⟨ti, hi, hz0, hz1, hz2⟩ := info_parts intInfo
    have := run_make (P := Tryz.prog) (w := V) 37 3 ti _ Tryz.underlying37 hi hz0 .i64 .i64 n n (by omega) (Int.le_refl _) (by rw [hz2]; omega) (by omega)
    rw [hz1, Int.toNat_natCast, Nat.mul_one] at this
    exact this
  go_enter Tryz.func4, Tryz.ntmps4
  go_wp2_with fail
  have hb1 := (Below.refl w.heap.size w).alloc (Nat.le_refl _) (.cells (madeCells #[Value.int .i64 0] n) 3)
  have ho1 := useL_new w n
  have hs1 : w.heap.size < (w.alloc (.cells (madeCells #[Value.int .i64 0] n) 3)).heap.size := by simp
  generalize w.alloc (.cells (madeCells #[Value.int .i64 0] n) 3) = w1 at *
  clear hmk
  go_loopw [4] (fun i wr => ∃ (k : Nat) (u : List Bool), k ≤ n ∧ i = .int .i64 k ∧ u.length = n ∧ Hid (nodesScan P n 0 (List.replicate n false) = nodesScan P (n - k) k u) ∧ OwnAt wr w.heap.size 3 ((useL u).map (Value.int .i64)) ∧ Below w.heap.size w wr ∧ w.heap.size < wr.heap.size) (fun i _ => n - (intOf i).toNat)
  case atStart => exact ⟨0, _, Nat.zero_le _, rfl, by simp, Lib.hid rfl, ho1, hb1, hs1⟩
  case round =>
    clear ho1 hb1 hs1
    obtain ⟨k, u, hk, rfl, hu, hsc, hown, hbr, hgr⟩ := hrel
    obtain ⟨wo, rfl⟩ : ∃ wo : World, wo = wr := ⟨_, rfl⟩
    by_cases hlt : k < n
    · obtain ⟨b, off, rfl, p0, p1, p2, p3, p4⟩ := (h.below (B := 0) hbr).cells hlt
      have hcap := h.small
      have hbw : b < w.heap.size := by
        obtain ⟨b', off', hA, q0, _⟩ := h.cells hlt
        injection hA with hA
        injection hA with hA1
        subst hA1
        exact block_lt q0
      have Hown := Lib.hid hown
      have hpl : partsOf P k = partsL (nd P k 0) (nd P k 2) (nd P k 3) (nd P k 4) := rfl
      have H1 := Lib.hid (fun (h : badH (nd P k 0) (nd P k 1)) => nodeScan_head (P := P) (k := k) u (badH_head.1 h))
      have H2 := Lib.hid (fun (h : ¬ badH (nd P k 0) (nd P k 1)) => nodeScan_tail (P := P) (k := k) u (fun e => h (badH_head.2 e)))
      have HP := Lib.hid (fun V => RParts_any (nd P k 0) (nd P k 1) (nd P k 2) (nd P k 3) (nd P k 4) V)
      have HK := Lib.hid (show ∀ v q a, partCode P k v q a = if ¬ (0 ≤ a ∧ a < k) then 1 else if v.getD a.toNat false = true ∨ decide (nd P a.toNat 0 < 5) ≠ askB (nd P k 0) q then 3 else 0 from fun v q a => rfl)
      have HV := Lib.hid (fun q (hq : q < (partsL (nd P k 0) (nd P k 2) (nd P k 3) (nd P k 4)).length) => valB_ask hq)
      rw [hpl] at H2
      have hx0 := BoxN.new wo 39 #[.int .i64 (nd P k 0), .int .i64 (nd P k 1), .int .i64 (nd P k 2), .int .i64 (nd P k 3), .int .i64 (nd P k 4)]
      have hba := (Below.refl wo.heap.size wo).alloc (Nat.le_refl _) (.cells #[.int .i64 (nd P k 0), .int .i64 (nd P k 1), .int .i64 (nd P k 2), .int .i64 (nd P k 3), .int .i64 (nd P k 4)] 39)
      have hxs : wo.heap.size < (wo.alloc (.cells #[.int .i64 (nd P k 0), .int .i64 (nd P k 1), .int .i64 (nd P k 2), .int .i64 (nd P k 3), .int .i64 (nd P k 4)] 39)).heap.size := by simp
      clear hown hpl
      generalize nd P k 0 = K at *
      generalize nd P k 1 = N at *
      generalize nd P k 2 = x2 at *
      generalize nd P k 3 = x3 at *
      generalize nd P k 4 = x4 at *
      have hbra := hbr.trans (hba.mono hbr.size)
      have hxb := hgr
      go_upto_region 10 with fail
      generalize (wo.alloc (.cells #[.int .i64 K, .int .i64 N, .int .i64 x2, .int .i64 x3, .int .i64 x4] 39)) = W at *
      have e0 : W.cell? ⟨wo.heap.size, 0, none⟩ = some (.int .i64 K) := hx0.cell rfl
      have e1 : W.cell? ⟨wo.heap.size, 1, none⟩ = some (.int .i64 N) := hx0.cell rfl
      have e2 : W.cell? ⟨wo.heap.size, 2, none⟩ = some (.int .i64 x2) := hx0.cell rfl
      have e3 : W.cell? ⟨wo.heap.size, 3, none⟩ = some (.int .i64 x3) := hx0.cell rfl
      have e4 : W.cell? ⟨wo.heap.size, 4, none⟩ = some (.int .i64 x4) := hx0.cell rfl
      have hgW : w.heap.size < W.heap.size := by omega
      go_cut [58] from 18 to 107 (fun x58 wx => x58 = .bool (decide (badH K N)) ∧ wx = W)
      case first =>
        clear H1 H2 HP HK HV hsc hba hxs
        by_cases hK : 0 ≤ K ∧ K ≤ 9
        · have W1 := Lib.hid (fun V => RIn_is K 0 9 true V (decide_eq_true hK))
          by_cases k0 : K = 0
          · subst k0
            by_cases hN : 0 ≤ N ∧ N ≤ 999999
            · have W3 := Lib.hid (fun V => RIn_is N 0 999999 true V (decide_eq_true hN))
              have Hq := Lib.hid (show decide (badH 0 N) = false by unfold badH bad2; simp; omega)
              go_wp2_with (go_at_call 12; first | (with_reducible refine (W1.out _).mono ?_; rintro e w' ⟨rfl, rfl⟩) | (with_reducible refine (W3.out _).mono ?_; rintro e w' ⟨rfl, rfl⟩))
              go_meet
              exact ⟨by rw [Hq.out], rfl⟩
            · have W3 := Lib.hid (fun V => RIn_is N 0 999999 false V (decide_eq_false hN))
              have Hq := Lib.hid (show decide (badH 0 N) = true by unfold badH bad2; simp; omega)
              go_wp2_with (go_at_call 12; first | (with_reducible refine (W1.out _).mono ?_; rintro e w' ⟨rfl, rfl⟩) | (with_reducible refine (W3.out _).mono ?_; rintro e w' ⟨rfl, rfl⟩))
              go_meet
              exact ⟨by rw [Hq.out], rfl⟩
          have dk0 : (K == 0) = false := by simpa using k0
          by_cases k1 : K = 1
          · subst k1
            by_cases hN : 0 ≤ N ∧ N ≤ 5
            · have W3 := Lib.hid (fun V => RIn_is N 0 5 true V (decide_eq_true hN))
              have Hq := Lib.hid (show decide (badH 1 N) = false by unfold badH bad2; simp; omega)
              go_wp2_with (go_at_call 12; first | (with_reducible refine (W1.out _).mono ?_; rintro e w' ⟨rfl, rfl⟩) | (with_reducible refine (W3.out _).mono ?_; rintro e w' ⟨rfl, rfl⟩))
              go_meet
              exact ⟨by rw [Hq.out], rfl⟩
            · have W3 := Lib.hid (fun V => RIn_is N 0 5 false V (decide_eq_false hN))
              have Hq := Lib.hid (show decide (badH 1 N) = true by unfold badH bad2; simp; omega)
              go_wp2_with (go_at_call 12; first | (with_reducible refine (W1.out _).mono ?_; rintro e w' ⟨rfl, rfl⟩) | (with_reducible refine (W3.out _).mono ?_; rintro e w' ⟨rfl, rfl⟩))
              go_meet
              exact ⟨by rw [Hq.out], rfl⟩
          have dk1 : (K == 1) = false := by simpa using k1
          by_cases k6 : K = 6
          · subst k6
            by_cases hN : 0 ≤ N ∧ N ≤ 5
            · have W3 := Lib.hid (fun V => RIn_is N 0 5 true V (decide_eq_true hN))
              have Hq := Lib.hid (show decide (badH 6 N) = false by unfold badH bad2; simp; omega)
              go_wp2_with (go_at_call 12; first | (with_reducible refine (W1.out _).mono ?_; rintro e w' ⟨rfl, rfl⟩) | (with_reducible refine (W3.out _).mono ?_; rintro e w' ⟨rfl, rfl⟩))
              go_meet
              exact ⟨by rw [Hq.out], rfl⟩
            · have W3 := Lib.hid (fun V => RIn_is N 0 5 false V (decide_eq_false hN))
              have Hq := Lib.hid (show decide (badH 6 N) = true by unfold badH bad2; simp; omega)
              go_wp2_with (go_at_call 12; first | (with_reducible refine (W1.out _).mono ?_; rintro e w' ⟨rfl, rfl⟩) | (with_reducible refine (W3.out _).mono ?_; rintro e w' ⟨rfl, rfl⟩))
              go_meet
              exact ⟨by rw [Hq.out], rfl⟩
          have dk6 : (K == 6) = false := by simpa using k6
          have Hq := Lib.hid (show decide (badH K N) = false by unfold badH bad2; simp; omega)
          go_wp2_with (go_at_call 12; with_reducible refine (W1.out _).mono ?_; rintro e w' ⟨rfl, rfl⟩)
          go_meet
          exact ⟨by rw [Hq.out], rfl⟩
        · have W1 := Lib.hid (fun V => RIn_is K 0 9 false V (decide_eq_false hK))
          have Hq := Lib.hid (show decide (badH K N) = true by unfold badH; simp; omega)
          go_wp2_with (go_at_call 12; with_reducible refine (W1.out _).mono ?_; rintro e w' ⟨rfl, rfl⟩)
          go_meet
          exact ⟨by rw [Hq.out], rfl⟩
      case rest =>
        obtain ⟨rfl, rfl⟩ := hcut
        by_cases hb2 : badH K N
        · have hq : decide (badH K N) = true := decide_eq_true hb2
          have hns := nodesScan_bad hlt (H1.out hb2) (by decide)
          have Hr := Lib.hid (show progCode P n = 1 by rw [Hc.out, hsc.out, hns]; rfl)
          clear H1 H2 HP HK HV hns hsc
          go_wp2_with fail
          go_ret
          exact ⟨by rw [Hr.out]; rfl, hbra⟩
        · have hq : decide (badH K N) = false := decide_eq_false hb2
          have hpt := H2.out hb2
          clear H1 H2
          go_wp2_with fail
          with_reducible refine (HP.out _).mono ?_
          rintro e w2 ⟨X, cx, rfl, hX, hb2', hXf⟩
          have hlen3 : (partsL K x2 x3 x4).length ≤ 3 := by unfold partsL; split; simp; split; simp; split; simp; simp
          have hx2 := hx0.all hb2'
          have hown2 := (Hown.out.all hba).all hb2'
          have hbr2 := hbra.trans (hb2'.mono hbra.size)
          have hs2 := hb2'.size
          generalize partsL K x2 x3 x4 = l at *
          have Hpt := Lib.hid hpt
          clear HP hpt hq hb2' e0 e1 e2 e3 e4 Hown
          go_wp2_with fail
          have hxs2 : wo.heap.size < w2.heap.size := by omega
          go_loopw [7] (fun j wi => ∃ (q : Nat) (v : List Bool), q ≤ l.length ∧ j = .int .i64 q ∧ v.length = n ∧ Hid (nodeScan P k u = partsScan P k (l.drop q) q v) ∧ OwnAt wi w.heap.size 3 ((useL v).map (Value.int .i64)) ∧ Below w.heap.size w wi ∧ w2.heap.size ≤ wi.heap.size ∧ BoxN wi wo.heap.size 39 #[.int .i64 K, .int .i64 N, .int .i64 x2, .int .i64 x3, .int .i64 x4] ∧ IntsAt wi X l) (fun j _ => l.length - (intOf j).toNat)
          case atStart => exact ⟨0, u, Nat.zero_le _, rfl, hu, by simpa using Hpt, hown2, hbr2, Nat.le_refl _, hx2, hX⟩
          case round =>
            clear hown2 hbr2 hx2 hX hx0 hba hbra hbr
            obtain ⟨q, v, hq, rfl, hv, hps, hown, hbr, hsi, hxi, hXi⟩ := hrel
            by_cases hql : q < l.length
            · obtain ⟨bx, ox, a, rfl, ha, hca⟩ := hXi.at_ hql
              have hbx := hXf _ rfl
              have e0 : wr.cell? ⟨wo.heap.size, 0, none⟩ = some (.int .i64 K) := hxi.cell rfl
              have hne : w.heap.size ≠ bx := by have hbx' : _ ≤ bx := hbx; omega
              have hqi : (q : Int) < l.length := by omega
              by_cases hak : 0 ≤ a ∧ a < k
              · obtain ⟨a, rfl⟩ := Int.eq_ofNat_of_zero_le hak.1
                have hak' : a < k := by omega
                have W3 := Lib.hid (fun V => RIn_is (a : Int) 0 ((k : Int) - 1) true V (by simp; omega))
                obtain ⟨b2, off2, hA2, g0, -⟩ := (h.below (B := 0) hbr).cells (i := a) (by omega)
                injection hA2 with hA2
                injection hA2 with hA21 hA22
                subst hA21; subst hA22
                have hv1 := hown.cell (useL_at (u := v) (j := a) (by omega))
                have hv2 := hown.free a
                have HKa := HK.out v q (a : Int)
                rw [Int.toNat_natCast, if_neg (by omega), ← HV.out q hql] at HKa
                generalize hva : v.getD a false = va at *
                generalize hKa : nd P a 0 = Ka at *
                have HA := Lib.hid (fun V => rvalue_is K q (valB K q) V rfl)
                have Hown := Lib.hid hown
                have Hb := Lib.hid (fun (hh : va = true ∨ decide (Ka < 5) ≠ valB K q) => show progCode P n = 3 by
                  rw [if_pos hh] at HKa
                  have hps2 := hps.out.trans (partsScan_bad ha.out HKa (by decide))
                  have hns := nodesScan_bad hlt hps2 (by decide)
                  rw [Hc.out, hsc.out, hns]; rfl)
                have Hg := Lib.hid (fun (hh : ¬ (va = true ∨ decide (Ka < 5) ≠ valB K q)) => show nodeScan P k u = partsScan P k (l.drop (q + 1)) (q + 1) (v.set a true) by
                  rw [if_neg hh] at HKa
                  have := hps.out.trans (partsScan_next ha.out HKa)
                  rwa [Int.toNat_natCast] at this)
                have hlv : a < v.length := by omega
                have Hset := Lib.hid (useL_set v a)
                have hak0 : (a : Int) < n := by omega
                clear HKa hps hown HK HV ha hva hKa hak
                have SS := Lib.hid (fun (z : Int) => (And.intro ((hxi.other (a := ⟨w.heap.size, a, none⟩) (by simp; omega) (.int .i64 z))) (hXi.far (a := ⟨w.heap.size, a, none⟩) (by rintro b' o' ⟨⟩; exact fun e => hne e.symm) (.int .i64 z)) : BoxN (wr.setCell ⟨w.heap.size, a, none⟩ (.int .i64 z)) wo.heap.size 39 #[.int .i64 K, .int .i64 N, .int .i64 x2, .int .i64 x3, .int .i64 x4] ∧ IntsAt (wr.setCell ⟨w.heap.size, a, none⟩ (.int .i64 z)) (some ⟨bx, ox, none⟩) l))
                have SO := Lib.hid (fun (z : Int) => Hown.out.set (k := a) (by unfold useL; simp; omega) (.int .i64 z))
                have hb5 := fun (z : Int) => hbr.setCell (p := ⟨w.heap.size, a, none⟩) (Nat.le_refl _) (.int .i64 z)
                have Hb5 := Lib.hid hb5
                clear hb5
                generalize valB K q = d2 at *
                cases va with
                | true =>
                  have Hr := Lib.hid (Hb.out (.inl rfl))
                  have z0 : (wr.setCell ⟨w.heap.size, a, none⟩ (.int .i64 2)).cell? ⟨w.heap.size, a, none⟩ = some (.int .i64 2) := (SO.out 2).cell (by rw [List.getElem?_set]; simp [useL]; omega)
                  have z1 : (wr.setCell ⟨w.heap.size, a, none⟩ (.int .i64 2)).cell? ⟨bx, ox + q, none⟩ = some (.int .i64 a) := by rw [World.cell?_setCell_other _ _ _ _ (fun e => hne (by injection e))]; exact hca
                  clear Hb Hg HA
                  go_wp2_with (go_at_call 12; with_reducible refine (W3.out _).mono ?_; rintro e w' ⟨rfl, rfl⟩)
                  have hb6 := Hb5.out 2
                  generalize wr.setCell ⟨w.heap.size, a, none⟩ (.int .i64 2) = wS at *
                  go_quiet (fail)
                  go_wp2_with fail
                  go_ret
                  exact ⟨by rw [Hr.out]; rfl, belowD hb6 _⟩
                | false =>
                  have z0 : (wr.setCell ⟨w.heap.size, a, none⟩ (.int .i64 1)).cell? ⟨w.heap.size, a, none⟩ = some (.int .i64 1) := (SO.out 1).cell (by rw [List.getElem?_set]; simp [useL]; omega)
                  have z1 : (wr.setCell ⟨w.heap.size, a, none⟩ (.int .i64 1)).cell? ⟨bx, ox + q, none⟩ = some (.int .i64 a) := by rw [World.cell?_setCell_other _ _ _ _ (fun e => hne (by injection e))]; exact hca
                  have z2 : (wr.setCell ⟨w.heap.size, a, none⟩ (.int .i64 1)).cell? ⟨b, off + a * 5, none⟩ = some (.int .i64 Ka) := by rw [World.cell?_setCell_other _ _ _ _ (fun e => by injection e with e; omega)]; exact g0
                  have z3 : (wr.setCell ⟨w.heap.size, a, none⟩ (.int .i64 1)).cell? ⟨wo.heap.size, 0, none⟩ = some (.int .i64 K) := (SS.out 1).1.cell rfl
                  have hso := SO.out 1
                  rw [Hset.out] at hso
                  have hss := SS.out 1
                  have hb6 := Hb5.out 1
                  have hsz6 : (wr.setCell ⟨w.heap.size, a, none⟩ (.int .i64 1)).heap.size = wr.heap.size := by simp
                  clear SO SS Hb5
                  by_cases h5 : Ka < 5
                  · have g5 : decide (Ka < 5) = true := decide_eq_true h5
                    rw [g5] at Hb Hg
                    cases d2 with
                    | true =>
                      have Hn := Lib.hid (Hg.out (by simp))
                      clear Hb Hg
                      go_wp2_with (go_at_call 12; with_reducible refine (W3.out _).mono ?_; rintro e w' ⟨rfl, rfl⟩)
                      generalize wr.setCell ⟨w.heap.size, a, none⟩ (.int .i64 1) = wS at *
                      go_quiet (with_reducible exact quiet1 (HA.out _))
                      go_wp2_with fail
                      refine ⟨⟨q + 1, v.set a true, ?za, ?zb, ?zc, Hn, ?ze, ?zf, ?zg, ?zh, ?zi⟩, ?zd⟩
                      case za => omega
                      case zb => go_num
                      case zc => simp [hv]
                      case ze => exact hso.drewN _
                      case zf => exact belowD hb6 _
                      case zg => have := hsz6; simp; omega
                      case zh => exact hss.1.drewN _
                      case zi => exact hss.2.drewN _
                      case zd => simp [intOf]; omega
                    | false =>
                      have Hr := Lib.hid (Hb.out (by simp))
                      clear Hb Hg
                      go_wp2_with (go_at_call 12; with_reducible refine (W3.out _).mono ?_; rintro e w' ⟨rfl, rfl⟩)
                      generalize wr.setCell ⟨w.heap.size, a, none⟩ (.int .i64 1) = wS at *
                      go_quiet (with_reducible exact quiet1 (HA.out _))
                      go_wp2_with fail
                      go_ret
                      exact ⟨by rw [Hr.out]; rfl, belowD hb6 _⟩
                  · have g5 : decide (Ka < 5) = false := decide_eq_false h5
                    rw [g5] at Hb Hg
                    cases d2 with
                    | false =>
                      have Hn := Lib.hid (Hg.out (by simp))
                      clear Hb Hg
                      go_wp2_with (go_at_call 12; with_reducible refine (W3.out _).mono ?_; rintro e w' ⟨rfl, rfl⟩)
                      generalize wr.setCell ⟨w.heap.size, a, none⟩ (.int .i64 1) = wS at *
                      go_quiet (with_reducible exact quiet1 (HA.out _))
                      go_wp2_with fail
                      refine ⟨⟨q + 1, v.set a true, ?za, ?zb, ?zc, Hn, ?ze, ?zf, ?zg, ?zh, ?zi⟩, ?zd⟩
                      case za => omega
                      case zb => go_num
                      case zc => simp [hv]
                      case ze => exact hso.drewN _
                      case zf => exact belowD hb6 _
                      case zg => have := hsz6; simp; omega
                      case zh => exact hss.1.drewN _
                      case zi => exact hss.2.drewN _
                      case zd => simp [intOf]; omega
                    | true =>
                      have Hr := Lib.hid (Hb.out (by simp))
                      clear Hb Hg
                      go_wp2_with (go_at_call 12; with_reducible refine (W3.out _).mono ?_; rintro e w' ⟨rfl, rfl⟩)
                      generalize wr.setCell ⟨w.heap.size, a, none⟩ (.int .i64 1) = wS at *
                      go_quiet (with_reducible exact quiet1 (HA.out _))
                      go_wp2_with fail
                      go_ret
                      exact ⟨by rw [Hr.out]; rfl, belowD hb6 _⟩
              · have W3 := Lib.hid (fun V => RIn_is a 0 ((k : Int) - 1) false V (by simp; omega))
                have hpc : partCode P k v q a = 1 := by rw [HK.out, if_pos hak]
                have hps2 := hps.out.trans (partsScan_bad ha.out hpc (by decide))
                have hns := nodesScan_bad hlt hps2 (by decide)
                have Hr := Lib.hid (show progCode P n = 1 by rw [Hc.out, hsc.out, hns]; rfl)
                clear hpc hps2 hns hps HK HV
                go_wp2_with (go_at_call 12; with_reducible refine (W3.out _).mono ?_; rintro e w' ⟨rfl, rfl⟩)
                go_ret
                exact ⟨by rw [Hr.out]; rfl, hbr⟩
            · obtain rfl : q = l.length := by omega
              have hnd := hps.out
              rw [List.drop_length] at hnd
              have Hnx := Lib.hid (hsc.out.trans (nodesScan_next hlt hnd))
              have Hown := Lib.hid hown
              clear hnd hps HK HV hown
              go_wp2_with fail
              refine ⟨⟨k + 1, v, ?ya, ?yb, hv, Hnx, Hown.out, hbr, ?yc⟩, ?yd⟩
              case ya => omega
              case yb => go_num
              case yc => omega
              case yd => simp [intOf]; omega
    · obtain rfl : k = n := by omega
      have hsc2 : nodesScan P k 0 (List.replicate k false) = (0, u) := by have := hsc.out; rwa [Nat.sub_self, nodesScan] at this
      have HE := Lib.hid (show progCode P k = if (∃ j, j < k - 1 ∧ u.getD j false = false) ∨ nd P (k - 1) 0 < 5 then 3 else 0 by rw [Hc.out, hsc2]; rfl)
      obtain ⟨b, off, rfl, p0, -⟩ := (h.below (B := 0) hbr).cells (i := k - 1) (by omega)
      have e1 : ((k : Int) - 1).toNat = k - 1 := by omega
      have f1 : (1 : Int) ≤ k := by omega
      have f2 : (0 : Int) ≤ (k : Int) - 1 := by omega
      have f3 : (k : Int) - 1 < k := by omega
      have Hown := Lib.hid hown
      clear hsc hsc2 Hc hown
      generalize nd P (k - 1) 0 = K at *
      go_wp2_with fail
      go_loopw [8] (fun j wr => ∃ q : Nat, q ≤ k - 1 ∧ j = .int .i64 q ∧ Hid (∀ x, x < q → u.getD x false = true) ∧ wr = wo) (fun j _ => k - (intOf j).toNat)
      case atStart => exact ⟨0, Nat.zero_le _, rfl, Lib.hid (fun x hx => by omega), rfl⟩
      case round =>
        obtain ⟨q, hq, rfl, hall, rfl⟩ := hrel
        by_cases hql : q < k - 1
        · have hv1 := Hown.out.cell (useL_at (u := u) (j := q) (by omega))
          have q1 : (q : Int) + 1 < k := by omega
          have q2 : (q : Int) < k := by omega
          have HB := Lib.hid (fun (hx : u.getD q false = false) => show progCode P k = 3 by rw [HE.out, if_pos (.inl ⟨q, hql, hx⟩)])
          have HG := Lib.hid (fun (hx : u.getD q false = true) => show ∀ x, x < q + 1 → u.getD x false = true from fun x hx' => by
            rcases Nat.lt_or_ge x q with h1 | h1
            · exact hall.out x h1
            · obtain rfl : x = q := by omega
              exact hx)
          generalize u.getD q false = vq at *
          cases vq with
          | false =>
            have Hr := Lib.hid (HB.out rfl)
            clear HB HG
            go_wp2_with fail
            go_ret
            exact ⟨by rw [Hr.out]; rfl, hbr⟩
          | true =>
            have Hr := Lib.hid (HG.out rfl)
            clear HB HG
            go_wp2_with fail
            refine ⟨⟨q + 1, ?qa, ?qb, Hr, trivial⟩, ?qd⟩
            case qa => omega
            case qb => go_num
            case qd => simp [intOf]; omega
        · obtain rfl : q = k - 1 := by omega
          have q1 : ((k - 1 : Nat) : Int) = (k : Int) - 1 := by omega
          rw [q1]
          have q3 : ¬ ((k : Int) - 1 + 1 < k) := by omega
          by_cases hK : K < 5
          · have Hr := Lib.hid (show progCode P k = 3 by rw [HE.out, if_pos (.inr hK)])
            clear HE hall
            go_wp2_with fail
            go_ret
            exact ⟨by rw [Hr.out]; rfl, hbr⟩
          · have Hr := Lib.hid (show progCode P k = 0 by
              rw [HE.out, if_neg]
              rintro (⟨x, hx, hx2⟩ | hx)
              · rw [hall.out x hx] at hx2; cases hx2
              · exact hK hx)
            clear HE hall
            go_wp2_with fail
            go_ret
            exact ⟨by rw [Hr.out]; rfl, hbr⟩
end Go.Proofs.YtfpghfmdkbdojaaGreatDoor
