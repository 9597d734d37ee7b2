/-
  Contract: prog.Check.
-/
import Derived.Test.YtfpghfmdkbdojaaGreatDoorPgN
import Derived.Test.YtfpghfmdkbdojaaGreatDoorWithin
import Derived.Test.YtfpghfmdkbdojaaGreatDoorErr
import Derived.Test.YtfpghfmdkbdojaaGreatDoorOver
import Derived.Deep.CutRange
namespace Go.Proofs.YtfpghfmdkbdojaaGreatDoor
open Go.RowKit
set_option maxRecDepth 100000
set_option linter.unusedVariables false

theorem nodesScan_bad {P : List Int} {n k : Nat} {u v : List Bool} {c : Nat} (hk : k < n) (h : nodeScan P k u = (c, v)) (hc : c ≠ 0) : nodesScan P (n - k) k u = (c, v) := by
  obtain ⟨m, hm⟩ : ∃ m, n - k = m + 1 := ⟨n - k - 1, by omega⟩
  rw [hm, nodesScan, h, if_neg (by simpa using hc)]
theorem nodesScan_next {P : List Int} {n k : Nat} {u v : List Bool} (hk : k < n) (h : nodeScan P k u = (0, v)) : nodesScan P (n - k) k u = nodesScan P (n - (k + 1)) (k + 1) v := by
  obtain ⟨m, hm⟩ : ∃ m, n - k = m + 1 := ⟨n - k - 1, by omega⟩
  rw [hm, nodesScan, h, if_pos rfl, show n - (k + 1) = m by omega]
theorem partsScan_bad {P : List Int} {i q c : Nat} {l : List Int} {v : List Bool} {a : Int} (ha : l[q]? = some a) (h : partCode P i v q a = c) (hc : c ≠ 0) : partsScan P i (l.drop q) q v = (c, v) := by
  rw [List.drop_eq_getElem_cons (List.getElem?_eq_some_iff.1 ha).1, (List.getElem?_eq_some_iff.1 ha).2, partsScan, h, if_neg hc]
theorem partsScan_next {P : List Int} {i q : Nat} {l : List Int} {v : List Bool} {a : Int} (ha : l[q]? = some a) (h : partCode P i v q a = 0) : partsScan P i (l.drop q) q v = partsScan P i (l.drop (q + 1)) (q + 1) (v.set a.toNat true) := by
  rw [List.drop_eq_getElem_cons (List.getElem?_eq_some_iff.1 ha).1, (List.getElem?_eq_some_iff.1 ha).2, partsScan, if_pos h]
theorem boolInfo : (Tryz.prog.info? 4).map (fun i => (i.zero, i.size, i.bytes)) = some (some (.bool false), 1, 1) := by kernel_rfl
theorem bools_new (w : World) (m : Nat) : OwnAt (w.alloc (.cells (madeCells #[Value.bool false] m) 4)) w.heap.size 4 ((List.replicate m false).map Value.bool) := by
  rw [List.map_replicate]
  refine ⟨_, heap_alloc_new w _, ?_, ?_⟩
  · simp [← Array.length_toList, toList_madeCells_one]
  · intro j v hj
    rw [← Array.getElem?_toList, toList_madeCells_one]
    exact hj
theorem bool_at {u : List Bool} {j : Nat} (hj : j < u.length) : (u.map Value.bool)[j]? = some (.bool (u.getD j false)) := by
  rw [List.getElem?_map, List.getElem?_eq_getElem hj, List.getD_eq_getElem?_getD, List.getElem?_eq_getElem hj]; rfl

theorem IntsAt.far {w : World} {A : Option Addr} {l : List Int} (h : IntsAt w A l) {a : Addr} (hne : ∀ b off, A = some ⟨b, off, none⟩ → b ≠ a.block) (v : Value) : IntsAt (w.setCell a v) A l := fun hl => by
  obtain ⟨b, off, rfl, hc⟩ := h hl
  refine ⟨b, off, rfl, fun j x hx => ?_⟩
  rw [World.cell?_setCell_other _ _ _ _ (fun e => hne b off rfl (by subst e; rfl))]
  exact hc j x hx
/-- The second test of a node. -/
def bad2 (K N : Int) : Prop := K = 0 ∧ ¬ (0 ≤ N ∧ N ≤ 999999) ∨ (K = 1 ∨ K = 6) ∧ ¬ (0 ≤ N ∧ N ≤ 5)
instance (K N : Int) : Decidable (bad2 K N) := by unfold bad2; infer_instance
theorem nodeScan_one {P : List Int} {k : Nat} (u : List Bool) (h : ¬ (0 ≤ nd P k 0 ∧ nd P k 0 ≤ 9) ∨ bad2 (nd P k 0) (nd P k 1)) : nodeScan P k u = (1, u) := by
  unfold nodeScan; rw [if_pos (by unfold headBad; unfold bad2 at h; exact h)]
theorem nodeScan_parts {P : List Int} {k : Nat} (u : List Bool) (h : 0 ≤ nd P k 0 ∧ nd P k 0 ≤ 9) (h2 : ¬ bad2 (nd P k 0) (nd P k 1)) : nodeScan P k u = partsScan P k (partsOf P k) 0 u := by
  unfold nodeScan; rw [if_neg (by unfold headBad; unfold bad2 at h2; omega)]

set_option maxHeartbeats 4000000 in
theorem PCheck_any {P : List Int} {n : Nat} {A : Option Addr} {c : Nat} {w : World} (h : NodesAt w A P n) :
    Calls Tryz.prog 6 #[.slice A n c] w fun e w' => e = .returned (errVal (progCode P n)) ∧ Below w.heap.size w w' := by
  by_cases h0 : n = 0
  · subst h0
    have Hc := Lib.hid (show progCode P 0 = 5 from rfl)
    go_enter Tryz.func6, Tryz.ntmps6
    go_wp2_with fail
    go_ret
    exact ⟨by rw [Hc.out]; rfl, Below.refl _ _⟩
  have d0 : ((n : Int) == 0) = false := by simp; omega
  by_cases h80 : 80 < n
  · have Hc := Lib.hid (show progCode P n = 4 by unfold progCode; rw [if_neg h0, if_pos h80])
    clear h0
    go_enter Tryz.func6, Tryz.ntmps6
    go_wp2_with fail
    go_ret
    exact ⟨by rw [Hc.out]; rfl, Below.refl _ _⟩
  have Hc := Lib.hid (show progCode P n = if (nodesScan P n 0 (List.replicate n false)).1 = 0 then endCode P n (nodesScan P n 0 (List.replicate n false)).2 else (nodesScan P n 0 (List.replicate n false)).1 by unfold progCode; rw [if_neg h0, if_neg h80])
  have hmk : ∀ V : World, (Instr.makeSlice 45 (.int .i64 n) (.int .i64 n)).run Tryz.prog V = .ok (.slice (some ⟨V.heap.size, 0, none⟩) n n) (V.alloc (.cells (madeCells #[Value.bool false] n) 4)) := fun V => by
    obtain ⟨ti, hi, hz0, hz1, hz2⟩ := info_parts boolInfo
    have := run_make (P := Tryz.prog) (w := V) 45 4 ti _ Tryz.underlying45 hi hz0 .i64 .i64 n n (by omega) (Int.le_refl _) (by rw [hz2]; omega) (by omega)
    rw [hz1, Int.toNat_natCast, Nat.mul_one] at this
    exact this
  go_enter Tryz.func6, Tryz.ntmps6
  go_wp2_with fail
  have hb1 := (Below.refl w.heap.size w).alloc (Nat.le_refl _) (.cells (madeCells #[Value.bool false] n) 4)
  have ho1 := bools_new w n
  have hs1 : w.heap.size < (w.alloc (.cells (madeCells #[Value.bool false] n) 4)).heap.size := by simp
  generalize w.alloc (.cells (madeCells #[Value.bool false] n) 4) = w1 at *
  clear hmk
  go_loopw [22] (fun i wr => ∃ (k : Nat) (u : List Bool), k ≤ n ∧ i = .int .i64 k ∧ u.length = n ∧ Hid (nodesScan P n 0 (List.replicate n false) = nodesScan P (n - k) k u) ∧ OwnAt wr w.heap.size 4 (u.map Value.bool) ∧ Below w.heap.size w wr ∧ w.heap.size < wr.heap.size) (fun i _ => n - (intOf i).toNat)
  case atStart => exact ⟨0, _, Nat.zero_le _, rfl, by simp, Lib.hid rfl, ho1, hb1, hs1⟩
  case round =>
    clear ho1 hb1 hs1
    obtain ⟨k, u, hk, rfl, hu, hsc, hown, hbr, hgr⟩ := hrel
    obtain ⟨wo, rfl⟩ : ∃ wo : World, wo = wr := ⟨_, rfl⟩
    by_cases hlt : k < n
    · obtain ⟨b, off, rfl, p0, p1, p2, p3, p4⟩ := (h.below (B := 0) hbr).cells hlt
      have hcap := h.small
      have hbw : b < w.heap.size := by
        obtain ⟨b', off', hA, q0, _⟩ := h.cells hlt
        injection hA with hA
        injection hA with hA1
        subst hA1
        exact block_lt q0
      have Hown := Lib.hid hown
      have hpl : partsOf P k = partsL (nd P k 0) (nd P k 2) (nd P k 3) (nd P k 4) := rfl
      have H1 := Lib.hid (fun h => nodeScan_one (P := P) (k := k) u h)
      have H2 := Lib.hid (fun h h' => nodeScan_parts (P := P) (k := k) u h h')
      have HP := Lib.hid (fun V => Parts_any (nd P k 0) (nd P k 1) (nd P k 2) (nd P k 3) (nd P k 4) V)
      have HK := Lib.hid (show ∀ v q a, partCode P k v q a = if ¬ (0 ≤ a ∧ a < k) then 1 else if v.getD a.toNat false = true ∨ decide (nd P a.toNat 0 < 5) ≠ askB (nd P k 0) q then 3 else 0 from fun v q a => rfl)
      rw [hpl] at H2
      have hx0 := BoxN.new wo 39 #[.int .i64 (nd P k 0), .int .i64 (nd P k 1), .int .i64 (nd P k 2), .int .i64 (nd P k 3), .int .i64 (nd P k 4)]
      have hba := (Below.refl wo.heap.size wo).alloc (Nat.le_refl _) (.cells #[.int .i64 (nd P k 0), .int .i64 (nd P k 1), .int .i64 (nd P k 2), .int .i64 (nd P k 3), .int .i64 (nd P k 4)] 39)
      have hxs : wo.heap.size < (wo.alloc (.cells #[.int .i64 (nd P k 0), .int .i64 (nd P k 1), .int .i64 (nd P k 2), .int .i64 (nd P k 3), .int .i64 (nd P k 4)] 39)).heap.size := by simp
      clear hown hpl
      generalize nd P k 0 = K at *
      generalize nd P k 1 = N at *
      generalize nd P k 2 = x2 at *
      generalize nd P k 3 = x3 at *
      generalize nd P k 4 = x4 at *
      have hbra := hbr.trans (hba.mono hbr.size)
      have hxb := hgr
      go_wp2_with fail
      generalize (wo.alloc (.cells #[.int .i64 K, .int .i64 N, .int .i64 x2, .int .i64 x3, .int .i64 x4] 39)) = W at *
      have e0 : W.cell? ⟨wo.heap.size, 0, none⟩ = some (.int .i64 K) := hx0.cell rfl
      have e1 : W.cell? ⟨wo.heap.size, 1, none⟩ = some (.int .i64 N) := hx0.cell rfl
      have e2 : W.cell? ⟨wo.heap.size, 2, none⟩ = some (.int .i64 x2) := hx0.cell rfl
      have e3 : W.cell? ⟨wo.heap.size, 3, none⟩ = some (.int .i64 x3) := hx0.cell rfl
      have e4 : W.cell? ⟨wo.heap.size, 4, none⟩ = some (.int .i64 x4) := hx0.cell rfl
      have hgW : w.heap.size < W.heap.size := by omega
      by_cases hK : 0 ≤ K ∧ K ≤ 9
      · have W1 := Lib.hid (fun V => Within3_is K 0 9 true V (decide_eq_true hK))
        go_upto_region 11 with (go_at_call 16; with_reducible refine (W1.out _).mono ?_; rintro e w' ⟨rfl, rfl⟩)
        clear W1
        go_cut [22, 56] from 22 to 94 (fun x22 x56 wx => x22 = .int .i64 k ∧ x56 = .bool (decide (bad2 K N)) ∧ wx = W)
        case first =>
          clear H1 H2 HP HK hsc hba
          by_cases k0 : K = 0
          · subst k0
            by_cases hN : 0 ≤ N ∧ N ≤ 999999
            · have W3 := Lib.hid (fun V => Within3_is N 0 999999 true V (by simp; omega))
              have hq : decide (bad2 0 N) = false := by unfold bad2; simp; omega
              have Hq := Lib.hid hq
              clear hq
              go_wp2_with (go_at_call 16; with_reducible refine (W3.out _).mono ?_; rintro e w' ⟨rfl, rfl⟩)
              go_meet
              exact ⟨rfl, by rw [Hq.out], rfl⟩
            · have W3 := Lib.hid (fun V => Within3_is N 0 999999 false V (by simp; omega))
              have hq : decide (bad2 0 N) = true := by unfold bad2; simp; omega
              have Hq := Lib.hid hq
              clear hq
              go_wp2_with (go_at_call 16; with_reducible refine (W3.out _).mono ?_; rintro e w' ⟨rfl, rfl⟩)
              go_meet
              exact ⟨rfl, by rw [Hq.out], rfl⟩
          have dk0 : (K == 0) = false := by simpa using k0
          by_cases k1 : K = 1
          · subst k1
            by_cases hN : 0 ≤ N ∧ N ≤ 5
            · have W3 := Lib.hid (fun V => Within3_is N 0 5 true V (by simp; omega))
              have hq : decide (bad2 1 N) = false := by unfold bad2; simp; omega
              have Hq := Lib.hid hq
              clear hq
              go_wp2_with (go_at_call 16; with_reducible refine (W3.out _).mono ?_; rintro e w' ⟨rfl, rfl⟩)
              go_meet
              exact ⟨rfl, by rw [Hq.out], rfl⟩
            · have W3 := Lib.hid (fun V => Within3_is N 0 5 false V (by simp; omega))
              have hq : decide (bad2 1 N) = true := by unfold bad2; simp; omega
              have Hq := Lib.hid hq
              clear hq
              go_wp2_with (go_at_call 16; with_reducible refine (W3.out _).mono ?_; rintro e w' ⟨rfl, rfl⟩)
              go_meet
              exact ⟨rfl, by rw [Hq.out], rfl⟩
          have dk1 : (K == 1) = false := by simpa using k1
          by_cases k6 : K = 6
          · subst k6
            by_cases hN : 0 ≤ N ∧ N ≤ 5
            · have W3 := Lib.hid (fun V => Within3_is N 0 5 true V (by simp; omega))
              have hq : decide (bad2 6 N) = false := by unfold bad2; simp; omega
              have Hq := Lib.hid hq
              clear hq
              go_wp2_with (go_at_call 16; with_reducible refine (W3.out _).mono ?_; rintro e w' ⟨rfl, rfl⟩)
              go_meet
              exact ⟨rfl, by rw [Hq.out], rfl⟩
            · have W3 := Lib.hid (fun V => Within3_is N 0 5 false V (by simp; omega))
              have hq : decide (bad2 6 N) = true := by unfold bad2; simp; omega
              have Hq := Lib.hid hq
              clear hq
              go_wp2_with (go_at_call 16; with_reducible refine (W3.out _).mono ?_; rintro e w' ⟨rfl, rfl⟩)
              go_meet
              exact ⟨rfl, by rw [Hq.out], rfl⟩
          have dk6 : (K == 6) = false := by simpa using k6
          have hq : decide (bad2 K N) = false := by unfold bad2; simp; omega
          have Hq := Lib.hid hq
          clear hq
          go_wp2_with fail
          go_meet
          exact ⟨rfl, by rw [Hq.out], rfl⟩
        case rest =>
          obtain ⟨rfl, rfl, rfl⟩ := hcut
          by_cases hb2 : bad2 K N
          · have hq : decide (bad2 K N) = true := decide_eq_true hb2
            have hns := nodesScan_bad hlt (H1.out (.inr hb2)) (by decide)
            have Hr := Lib.hid (show progCode P n = 1 by rw [Hc.out, hsc.out, hns]; rfl)
            clear H1 H2 HP HK hns hsc
            go_wp2_with fail
            go_ret
            exact ⟨by rw [Hr.out]; rfl, hbra⟩
          · have hq : decide (bad2 K N) = false := decide_eq_false hb2
            have hpt := H2.out hK hb2
            clear H1 H2
            go_wp2_with fail
            with_reducible refine (HP.out _).mono ?_
            rintro e w2 ⟨X, cx, rfl, hX, hb2', hXf⟩
            have hlen3 : (partsL K x2 x3 x4).length ≤ 3 := by unfold partsL; split; simp; split; simp; split; simp; simp
            have hx2 := hx0.all hb2'
            have hown2 := (Hown.out.all hba).all hb2'
            have hbr2 := hbra.trans (hb2'.mono hbra.size)
            have hs2 := hb2'.size
            generalize partsL K x2 x3 x4 = l at *
            have Hpt := Lib.hid hpt
            clear HP hpt hq hb2' e0 e1 e2 e3 e4 Hown
            go_wp2_with fail
            have hxs2 : wo.heap.size < w2.heap.size := by omega
            go_loopw [61] (fun j wi => ∃ (q : Nat) (v : List Bool), q ≤ l.length ∧ j = .int .i64 q ∧ v.length = n ∧ Hid (nodeScan P k u = partsScan P k (l.drop q) q v) ∧ OwnAt wi w.heap.size 4 (v.map Value.bool) ∧ Below w.heap.size w wi ∧ w2.heap.size ≤ wi.heap.size ∧ BoxN wi wo.heap.size 39 #[.int .i64 K, .int .i64 N, .int .i64 x2, .int .i64 x3, .int .i64 x4] ∧ IntsAt wi X l) (fun j _ => l.length - (intOf j).toNat)
            case atStart => exact ⟨0, u, Nat.zero_le _, rfl, hu, by simpa using Hpt, hown2, hbr2, Nat.le_refl _, hx2, hX⟩
            case round =>
              clear hown2 hbr2 hx2 hX hx0 hba hbra hbr
              obtain ⟨q, v, hq, rfl, hv, hps, hown, hbr, hsi, hxi, hXi⟩ := hrel
              by_cases hql : q < l.length
              · obtain ⟨bx, ox, a, rfl, ha, hca⟩ := hXi.at_ hql
                have hbx := hXf _ rfl
                have e0 : wr.cell? ⟨wo.heap.size, 0, none⟩ = some (.int .i64 K) := hxi.cell rfl
                have hne : w.heap.size ≠ bx := by have hbx' : _ ≤ bx := hbx; omega
                by_cases hak : 0 ≤ a ∧ a < k
                · obtain ⟨a, rfl⟩ := Int.eq_ofNat_of_zero_le hak.1
                  have hak' : a < k := by omega
                  have W3 := Lib.hid (fun V => Within3_is (a : Int) 0 ((k : Int) - 1) true V (by simp; omega))
                  obtain ⟨b2, off2, hA2, g0, -⟩ := (h.below (B := 0) hbr).cells (i := a) (by omega)
                  injection hA2 with hA2
                  injection hA2 with hA21 hA22
                  subst hA21; subst hA22
                  have hv1 := hown.cell (bool_at (u := v) (j := a) (by omega))
                  have hv2 := hown.free a
                  have HKa := HK.out v q (a : Int)
                  rw [Int.toNat_natCast, if_neg (by omega)] at HKa
                  generalize hva : v.getD a false = va at *
                  generalize hKa : nd P a 0 = Ka at *
                  have HA := Lib.hid (fun V => asks_is K q (askB K q) V rfl)
                  have Hown := Lib.hid hown
                  have Hb := Lib.hid (fun (hh : va = true ∨ decide (Ka < 5) ≠ askB K q) => show progCode P n = 3 by
                    rw [if_pos hh] at HKa
                    have hps2 := hps.out.trans (partsScan_bad ha.out HKa (by decide))
                    have hns := nodesScan_bad hlt hps2 (by decide)
                    rw [Hc.out, hsc.out, hns]; rfl)
                  have Hg := Lib.hid (fun (hh : ¬ (va = true ∨ decide (Ka < 5) ≠ askB K q)) => show nodeScan P k u = partsScan P k (l.drop (q + 1)) (q + 1) (v.set a true) by
                    rw [if_neg hh] at HKa
                    have := hps.out.trans (partsScan_next ha.out HKa)
                    rwa [Int.toNat_natCast] at this)
                  have hlv : a < v.length := by omega
                  have Hset : ((v.map Value.bool).set a (.bool true)) = (v.set a true).map Value.bool := by rw [List.map_set]
                  have Hset := Lib.hid Hset
                  clear HKa hps hown HK ha hva hKa hak
                  generalize askB K q = d2 at *
                  cases va with
                  | true =>
                    have Hr := Lib.hid (Hb.out (.inl rfl))
                    clear Hb Hg HA
                    go_wp2_with (go_at_call 16; with_reducible refine (W3.out _).mono ?_; rintro e w' ⟨rfl, rfl⟩)
                    go_quiet (fail)
                    go_wp2_with fail
                    go_ret
                    exact ⟨by rw [Hr.out]; rfl, belowD hbr _⟩
                  | false =>
                    by_cases h5 : Ka < 5
                    · have g5 : decide (Ka < 5) = true := decide_eq_true h5
                      rw [g5] at Hb Hg
                      cases d2 with
                      | true =>
                        have Hn := Lib.hid (Hg.out (by simp))
                        clear Hb Hg
                        go_wp2_with (go_at_call 16; with_reducible refine (W3.out _).mono ?_; rintro e w' ⟨rfl, rfl⟩)
                        go_quiet (with_reducible exact quiet1 (HA.out _))
                        go_wp2_with fail
                        refine ⟨⟨q + 1, v.set a true, ?za, ?zb, ?zc, Hn, ?ze, ?zf, ?zg, ?zh, ?zi⟩, ?zd⟩
                        case za => omega
                        case zb => go_num
                        case zc => simp [hv]
                        case ze => rw [← Hset.out]; exact (Hown.out.drewN _).set (by simp; omega) _
                        case zf => exact (belowD hbr _).setCell (p := ⟨w.heap.size, a, none⟩) (Nat.le_refl _) _
                        case zg => simp; omega
                        case zh => exact (hxi.drewN _).other (a := ⟨w.heap.size, a, none⟩) (by simp; omega) _
                        case zi => exact (hXi.drewN _).far (a := ⟨w.heap.size, a, none⟩) (by rintro b' o' ⟨⟩; exact fun e => hne e.symm) _
                        case zd => simp [intOf]; omega
                      | false =>
                        have Hr := Lib.hid (Hb.out (by simp))
                        clear Hb Hg
                        go_wp2_with (go_at_call 16; with_reducible refine (W3.out _).mono ?_; rintro e w' ⟨rfl, rfl⟩)
                        go_quiet (with_reducible exact quiet1 (HA.out _))
                        go_wp2_with fail
                        go_ret
                        exact ⟨by rw [Hr.out]; rfl, belowD hbr _⟩
                    · have g5 : decide (Ka < 5) = false := decide_eq_false h5
                      rw [g5] at Hb Hg
                      cases d2 with
                      | false =>
                        have Hn := Lib.hid (Hg.out (by simp))
                        clear Hb Hg
                        go_wp2_with (go_at_call 16; with_reducible refine (W3.out _).mono ?_; rintro e w' ⟨rfl, rfl⟩)
                        go_quiet (with_reducible exact quiet1 (HA.out _))
                        go_wp2_with fail
                        refine ⟨⟨q + 1, v.set a true, ?za, ?zb, ?zc, Hn, ?ze, ?zf, ?zg, ?zh, ?zi⟩, ?zd⟩
                        case za => omega
                        case zb => go_num
                        case zc => simp [hv]
                        case ze => rw [← Hset.out]; exact (Hown.out.drewN _).set (by simp; omega) _
                        case zf => exact (belowD hbr _).setCell (p := ⟨w.heap.size, a, none⟩) (Nat.le_refl _) _
                        case zg => simp; omega
                        case zh => exact (hxi.drewN _).other (a := ⟨w.heap.size, a, none⟩) (by simp; omega) _
                        case zi => exact (hXi.drewN _).far (a := ⟨w.heap.size, a, none⟩) (by rintro b' o' ⟨⟩; exact fun e => hne e.symm) _
                        case zd => simp [intOf]; omega
                      | true =>
                        have Hr := Lib.hid (Hb.out (by simp))
                        clear Hb Hg
                        go_wp2_with (go_at_call 16; with_reducible refine (W3.out _).mono ?_; rintro e w' ⟨rfl, rfl⟩)
                        go_quiet (with_reducible exact quiet1 (HA.out _))
                        go_wp2_with fail
                        go_ret
                        exact ⟨by rw [Hr.out]; rfl, belowD hbr _⟩
                · have W3 := Lib.hid (fun V => Within3_is a 0 ((k : Int) - 1) false V (by simp; omega))
                  have hpc : partCode P k v q a = 1 := by rw [HK.out, if_pos hak]
                  have hps2 := hps.out.trans (partsScan_bad ha.out hpc (by decide))
                  have hns := nodesScan_bad hlt hps2 (by decide)
                  have Hr := Lib.hid (show progCode P n = 1 by rw [Hc.out, hsc.out, hns]; rfl)
                  clear hpc hps2 hns hps HK
                  go_wp2_with (go_at_call 16; with_reducible refine (W3.out _).mono ?_; rintro e w' ⟨rfl, rfl⟩)
                  go_ret
                  exact ⟨by rw [Hr.out]; rfl, hbr⟩
              · obtain rfl : q = l.length := by omega
                have hnd := hps.out
                rw [List.drop_length] at hnd
                have Hnx := Lib.hid (hsc.out.trans (nodesScan_next hlt hnd))
                have Hown := Lib.hid hown
                clear hnd hps HK hown
                go_wp2_with fail
                refine ⟨⟨k + 1, v, ?ya, ?yb, hv, Hnx, Hown.out, hbr, ?yc⟩, ?yd⟩
                case ya => omega
                case yb => go_num
                case yc => omega
                case yd => simp [intOf]; omega
      · have hns := nodesScan_bad hlt (H1.out (.inl hK)) (by decide)
        have Hr := Lib.hid (show progCode P n = 1 by rw [Hc.out, hsc.out, hns]; rfl)
        have W1 := Lib.hid (fun V => Within3_is K 0 9 false V (decide_eq_false hK))
        clear H1 H2 HP HK hns hsc
        go_wp2_with (go_at_call 16; with_reducible refine (W1.out _).mono ?_; rintro e w' ⟨rfl, rfl⟩)
        go_ret
        exact ⟨by rw [Hr.out]; rfl, hbra⟩
    · obtain rfl : k = n := by omega
      have hsc2 : nodesScan P k 0 (List.replicate k false) = (0, u) := by have := hsc.out; rwa [Nat.sub_self, nodesScan] at this
      have HE := Lib.hid (show progCode P k = if (∃ j, j < k - 1 ∧ u.getD j false = false) ∨ nd P (k - 1) 0 < 5 then 3 else 0 by rw [Hc.out, hsc2]; rfl)
      obtain ⟨b, off, rfl, p0, -⟩ := (h.below (B := 0) hbr).cells (i := k - 1) (by omega)
      have e1 : ((k : Int) - 1).toNat = k - 1 := by omega
      have f1 : (1 : Int) ≤ k := by omega
      have f2 : (0 : Int) ≤ (k : Int) - 1 := by omega
      have f3 : (k : Int) - 1 < k := by omega
      have Hown := Lib.hid hown
      clear hsc hsc2 Hc hown
      generalize nd P (k - 1) 0 = K at *
      go_wp2_with fail
      go_loopw [98] (fun j wr => ∃ q : Nat, q ≤ k - 1 ∧ j = .int .i64 q ∧ Hid (∀ x, x < q → u.getD x false = true) ∧ wr = wo) (fun j _ => k - (intOf j).toNat)
      case atStart => exact ⟨0, Nat.zero_le _, rfl, Lib.hid (fun x hx => by omega), rfl⟩
      case round =>
        obtain ⟨q, hq, rfl, hall, rfl⟩ := hrel
        by_cases hql : q < k - 1
        · have hv1 := Hown.out.cell (bool_at (u := u) (j := q) (by omega))
          have q1 : (q : Int) < (k : Int) - 1 := by omega
          have q2 : (q : Int) < k := by omega
          have HB := Lib.hid (fun (hx : u.getD q false = false) => show progCode P k = 3 by rw [HE.out, if_pos (.inl ⟨q, hql, hx⟩)])
          have HG := Lib.hid (fun (hx : u.getD q false = true) => show ∀ x, x < q + 1 → u.getD x false = true from fun x hx' => by
            rcases Nat.lt_or_ge x q with h1 | h1
            · exact hall.out x h1
            · obtain rfl : x = q := by omega
              exact hx)
          generalize u.getD q false = vq at *
          cases vq with
          | false =>
            have Hr := Lib.hid (HB.out rfl)
            clear HB HG
            go_wp2_with fail
            go_ret
            exact ⟨by rw [Hr.out]; rfl, hbr⟩
          | true =>
            have Hr := Lib.hid (HG.out rfl)
            clear HB HG
            go_wp2_with fail
            refine ⟨⟨q + 1, ?qa, ?qb, Hr, trivial⟩, ?qd⟩
            case qa => omega
            case qb => go_num
            case qd => simp [intOf]; omega
        · obtain rfl : q = k - 1 := by omega
          have q1 : ((k - 1 : Nat) : Int) = (k : Int) - 1 := by omega
          rw [q1]
          by_cases hK : K < 5
          · have Hr := Lib.hid (show progCode P k = 3 by rw [HE.out, if_pos (.inr hK)])
            clear HE hall
            go_wp2_with fail
            go_ret
            exact ⟨by rw [Hr.out]; rfl, hbr⟩
          · have Hr := Lib.hid (show progCode P k = 0 by
              rw [HE.out, if_neg]
              rintro (⟨x, hx, hx2⟩ | hx)
              · rw [hall.out x hx] at hx2; cases hx2
              · exact hK hx)
            clear HE hall
            go_wp2_with fail
            go_ret
            exact ⟨by rw [Hr.out]; rfl, hbr⟩
end Go.Proofs.YtfpghfmdkbdojaaGreatDoor
