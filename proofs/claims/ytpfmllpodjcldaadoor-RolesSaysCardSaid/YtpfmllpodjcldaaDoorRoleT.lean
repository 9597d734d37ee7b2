/-
  Contract: quietwingref1.Roles.
-/
import Derived.Test.YtpfmllpodjcldaaDoorRoleR
import Derived.Test.YtpfmllpodjcldaaDoorRoleC
import Derived.Test.YtpfmllpodjcldaaDoorRefO
import Derived.Test.YtpfmllpodjcldaaDoorRef1
import Derived.Test.YtpfmllpodjcldaaDoorRin
import Derived.Lib.QuietBelow
namespace Go.Proofs.YtpfmllpodjcldaaDoor
open Go.RowKit
set_option maxRecDepth 100000
set_option linter.unusedVariables false

section
variable {U A M : List Int} {few most : Int} {Au Aa Am : Option Addr} {cu ca cm : Nat} {w : World}
set_option maxHeartbeats 8000000 in
theorem RRoles_any (hU : IntsAt w Au U) (hA : IntsAt w Aa A) (hM : IntsAt w Am M) (sU : U.length < 2 ^ 64) (sA : A.length < 2 ^ 64) (sM : M.length < 2 ^ 64) (hT : Tab w) :
    Calls Tryd.prog 19 #[.agg #[.slice Au U.length cu, .slice Aa A.length ca, .slice Am M.length cm, .int .i64 few, .int .i64 most]] w fun e w' => e = .returned (.int .i64 (rolesCode U A M few most : Nat)) ∧ Below w.heap.size w w' := by
  have hdef := Lib.hid (show rolesCode U A M few most = _ from rfl)
  unfold rolesCode at hdef
  by_cases h4 : 8 < U.length ∨ 8 < A.length
  · have Hc := Lib.hid (show rolesCode U A M few most = 4 by unfold rolesCode; rw [if_pos h4])
    have hgo : ∀ Q : Prop, (decide ((8 : Int) < U.length) = true → Q) → (decide ((8 : Int) < U.length) = false → decide ((8 : Int) < A.length) = true → Q) → Q := fun Q a b => by
      by_cases h1 : 8 < U.length
      · exact a (decide_eq_true (by omega))
      · exact b (decide_eq_false (by omega)) (decide_eq_true (by omega))
    clear h4 hdef hU hA hM
    generalize U.length = m at *
    generalize A.length = n at *
    generalize M.length = k at *
    refine hgo _ (fun d1 => ?_) (fun d1 d2 => ?_)
    all_goals
      go_enter Tryd.func19, Tryd.ntmps19
      go_wp2
      go_ret
      exact ⟨by rw [Hc.out]; rfl, (Below.refl _ _).alloc (Nat.le_refl _) _⟩
  · have hm8 : U.length ≤ 8 := by omega
    have hn8 : A.length ≤ 8 := by omega
    by_cases h3 : M.length ≠ A.length
    · have Hc := Lib.hid (show rolesCode U A M few most = 3 by unfold rolesCode; rw [if_neg h4, if_pos h3])
      clear h4 hdef hU hA hM
      generalize U.length = m at *
      generalize A.length = n at *
      generalize M.length = k at *
      have d3 : ((k : Int) != n) = true := by simp; omega
      have d1 : decide ((8 : Int) < m) = false := decide_eq_false (by omega)
      have d2 : decide ((8 : Int) < n) = false := decide_eq_false (by omega)
      clear h3
      go_enter Tryd.func19, Tryd.ntmps19
      go_wp2
      go_ret
      exact ⟨by rw [Hc.out]; rfl, (Below.refl _ _).alloc (Nat.le_refl _) _⟩
    · have h3 : M.length = A.length := by omega
      have Hc := Lib.hid (show rolesCode U A M few most = if U.all (isSet A.length) = false then 1
          else if relCode A ≠ 0 then relCode A
          else if orderB (closed (natL A)) = false then 6
          else if M.all (isSet 10) = false then 1
          else if isSet A.length few = false ∨ ¬ (0 ≤ most ∧ most ≤ 8) then 1
          else if U.all (fun x => decide ((cnt 8 (allS (natL A) x.toNat &&& few.toNat) : Int) ≤ most)) = false then 7 else 0 by
        unfold rolesCode; rw [if_neg h4, if_neg (by omega)])
      have hb0 : Below w.heap.size w (w.alloc (.cells #[.slice Au U.length cu, .slice Aa A.length ca, .slice Am A.length cm, .int .i64 few, .int .i64 most] 47)) := (Below.refl _ _).alloc (Nat.le_refl _) _
      have hx0 := BoxN.new w 47 #[.slice Au U.length cu, .slice Aa A.length ca, .slice Am A.length cm, .int .i64 few, .int .i64 most]
      have HM3 := Lib.hid h3
      rw [h3]
      have HRel := Lib.hid (fun V (hV : Below w.heap.size w V) => RRel_any A Aa ca V (hA.below hV) (by omega))
      have HOk := Lib.hid (fun V (hV : Below w.heap.size w V) (r : List Nat) (hr : A = castL r) (hl : r.length ≤ 12) (hb : Bd r.length r) => (ROrder_any r hl hb Aa ca V (by rw [← hr]; exact hA.below hV)).mono fun e w' ⟨he, hx⟩ => (⟨he, hx, hV.trans (hx.mono hV.size)⟩ : _ ∧ Below V.heap.size V w' ∧ Below w.heap.size w w'))
      obtain ⟨m, hm⟩ : ∃ m, U.length = m := ⟨_, rfl⟩
      obtain ⟨n, hn⟩ : ∃ n, A.length = n := ⟨_, rfl⟩
      rw [hm] at hb0 hx0 hm8 ⊢
      rw [hn] at hb0 hx0 hn8 HRel Hc ⊢
      have Hm := Lib.hid hm
      have Hn := Lib.hid hn
      have d3 : decide (n = n) = true := by simp
      clear h4 h3 hdef hm hn sU sA sM
      go_enter Tryd.func19, Tryd.ntmps19
      go_wp2_with fail
      generalize w.alloc (.cells #[.slice Au m cu, .slice Aa n ca, .slice Am n cm, .int .i64 few, .int .i64 most] 47) = W0 at *
      have hs0 := hb0.size
      have c0 : W0.cell? ⟨w.heap.size, 0, none⟩ = some (.slice Au m cu) := hx0.cell rfl
      have c1 : W0.cell? ⟨w.heap.size, 1, none⟩ = some (.slice Aa n ca) := hx0.cell rfl
      go_loop [4] (fun i => ∃ k : Nat, k ≤ m ∧ i = .int .i64 k ∧ Hid ((U.take k).all (isSet n) = true)) (fun i => m - (intOf i).toNat)
      case atStart => exact ⟨0, Nat.zero_le _, rfl, Lib.hid (by simp)⟩
      case round =>
        obtain ⟨k, hk, rfl, hall⟩ := hrel
        by_cases hlt : k < m
        · obtain ⟨b, off, x, rfl, hx, hc⟩ := (hU.below hb0).at_ (k := k) (by rw [Hm.out]; exact hlt)
          cases hb : isSet n x with
          | true =>
            have Hb := Lib.hid (fun V => RMask_is x n true V (by omega) hb)
            have Hnew := Lib.hid (all_take_snoc hx.out hall.out hb)
            clear hb hall HRel HOk
            go_wp2_with (go_at_call 25; with_reducible refine (Hb.out _).mono ?_; rintro e w' ⟨rfl, rfl⟩)
            refine ⟨⟨k + 1, ?xa, ?xb, Hnew⟩, ?xd⟩
            case xa => omega
            case xb => go_num
            case xd => simp [intOf]; omega
          | false =>
            have Hb := Lib.hid (fun V => RMask_is x n false V (by omega) hb)
            have Hr := Lib.hid (Hc.out.trans (if_pos (all_no hx.out hb)))
            clear hb hall HRel HOk
            go_wp2_with (go_at_call 25; with_reducible refine (Hb.out _).mono ?_; rintro e w' ⟨rfl, rfl⟩)
            go_ret
            exact ⟨by rw [Hr.out]; rfl, hb0⟩
        · obtain rfl : k = m := by omega
          have hUall : U.all (isSet n) = true := by have := hall.out; rw [List.take_of_length_le (by rw [Hm.out]; exact Nat.le_refl _)] at this; exact this
          have Hc := Lib.hid (Hc.out.trans (if_neg (by rw [hUall]; decide)))
          have HUall := Lib.hid hUall
          clear hall hUall
          by_cases hrc : relCode A = 0
          · obtain ⟨r, hr, hl12, hbd⟩ := relCode_ok hrc
            have Hc := Lib.hid (Hc.out.trans (if_neg (by omega)))
            have hrn : r.length = n := by rw [← Hn.out, hr, length_castL]
            have HO := Lib.hid (fun q => HOk.out _ (belowD hb0 q) r hr hl12 hbd)
            rw [hrn] at HO
            have hnat : natL A = r := by rw [hr, natL_cast]
            rw [hnat] at Hc
            have Hrc := Lib.hid hrc
            clear HOk hrc
            cases hord : orderB (closed r) with
            | false =>
              rw [hord] at HO
              have Hr := Lib.hid (Hc.out.trans (if_pos hord))
              clear hord
              go_wp2_with fail
              refine (HRel.out _ hb0).mono ?_
              rintro e wz ⟨rfl, qd, rfl⟩
              have c0z : (W0.drewN qd).cell? ⟨w.heap.size, 0, none⟩ = some (.slice Au k cu) := c0
              have c1z : (W0.drewN qd).cell? ⟨w.heap.size, 1, none⟩ = some (.slice Aa n ca) := c1
              have hx0 := hx0.drewN qd
              rw [Hrc.out]
              go_wp2_with fail
              refine (HO.out qd).mono ?_
              rintro e w1 ⟨rfl, hb1, hbw⟩
              go_wp2_with fail
              go_ret
              exact ⟨by rw [Hr.out]; rfl, hbw⟩
            | true =>
              rw [hord] at HO
              have Hc := Lib.hid (Hc.out.trans (if_neg (by rw [hord]; decide)))
              clear hord
              go_wp2_with fail
              refine (HRel.out _ hb0).mono ?_
              rintro e wz ⟨rfl, qd, rfl⟩
              have c0z : (W0.drewN qd).cell? ⟨w.heap.size, 0, none⟩ = some (.slice Au k cu) := c0
              have c1z : (W0.drewN qd).cell? ⟨w.heap.size, 1, none⟩ = some (.slice Aa n ca) := c1
              have hx0 := hx0.drewN qd
              rw [Hrc.out]
              go_wp2_with fail
              refine (HO.out qd).mono ?_
              rintro e w1 ⟨rfl, hb1, hbw⟩
              have hx1 := hx0.all hb1
              have hs1 := hbw.size
              have hlt1 := hx1.lt
              have e0 : w1.cell? ⟨w.heap.size, 0, none⟩ = some (.slice Au k cu) := hx1.cell rfl
              have e1 : w1.cell? ⟨w.heap.size, 1, none⟩ = some (.slice Aa n ca) := hx1.cell rfl
              have e2 : w1.cell? ⟨w.heap.size, 2, none⟩ = some (.slice Am n cm) := hx1.cell rfl
              have e3 : w1.cell? ⟨w.heap.size, 3, none⟩ = some (.int .i64 few) := hx1.cell rfl
              have e4 : w1.cell? ⟨w.heap.size, 4, none⟩ = some (.int .i64 most) := hx1.cell rfl
              clear HO HRel c0z c1z c0 c1 hx0 hb1 hb0
              go_wp2_with fail
              go_loop [6] (fun i => ∃ j : Nat, j ≤ n ∧ i = .int .i64 j ∧ Hid ((M.take j).all (isSet 10) = true)) (fun i => n - (intOf i).toNat)
              case atStart => exact ⟨0, Nat.zero_le _, rfl, Lib.hid (by simp)⟩
              case round =>
                obtain ⟨j, hj, rfl, hall⟩ := hrel
                by_cases hlt2 : j < n
                · obtain ⟨b, off, x, rfl, hx, hc⟩ := (hM.below hbw).at_ (k := j) (by rw [HM3.out, Hn.out]; exact hlt2)
                  cases hb : isSet 10 x with
                  | true =>
                    have Hb := Lib.hid (fun V => show Calls Tryd.prog 25 #[.int .i64 x, .int .i64 10] V _ from RMask_is x 10 true V (by omega) hb)
                    have Hnew := Lib.hid (all_take_snoc hx.out hall.out hb)
                    clear hb hall
                    go_wp2_with (go_at_call 25; with_reducible refine (Hb.out _).mono ?_; rintro e w' ⟨rfl, rfl⟩)
                    refine ⟨⟨j + 1, ?wa, ?wb, Hnew⟩, ?wd⟩
                    case wa => omega
                    case wb => go_num
                    case wd => simp [intOf]; omega
                  | false =>
                    have Hb := Lib.hid (fun V => show Calls Tryd.prog 25 #[.int .i64 x, .int .i64 10] V _ from RMask_is x 10 false V (by omega) hb)
                    have Hr := Lib.hid (Hc.out.trans (if_pos (all_no hx.out hb)))
                    clear hb hall
                    go_wp2_with (go_at_call 25; with_reducible refine (Hb.out _).mono ?_; rintro e w' ⟨rfl, rfl⟩)
                    go_ret
                    exact ⟨by rw [Hr.out]; rfl, hbw⟩
                · obtain rfl : j = n := by omega
                  have hMall : M.all (isSet 10) = true := by have := hall.out; rw [List.take_of_length_le (by rw [HM3.out, Hn.out]; exact Nat.le_refl _)] at this; exact this
                  have Hc := Lib.hid (Hc.out.trans (if_neg (by rw [hMall]; decide)))
                  clear hall hMall
                  by_cases hfm : isSet j few = false ∨ ¬ (0 ≤ most ∧ most ≤ 8)
                  · have Hr := Lib.hid (Hc.out.trans (if_pos hfm))
                    cases hf : isSet j few with
                    | false =>
                      have Hb1 := Lib.hid (fun V => RMask_is few j false V (by omega) hf)
                      clear hfm hf Hc
                      go_wp2_with (go_at_call 25; with_reducible refine (Hb1.out _).mono ?_; rintro e w' ⟨rfl, rfl⟩)
                      go_ret
                      exact ⟨by rw [Hr.out]; rfl, hbw⟩
                    | true =>
                      have hmo : ¬ (0 ≤ most ∧ most ≤ 8) := by
                        rcases hfm with h | h
                        · rw [hf] at h; cases h
                        · exact h
                      have Hb1 := Lib.hid (fun V => RMask_is few j true V (by omega) hf)
                      have Hb2 := Lib.hid (fun V => Rin_is most 0 8 false V (by simp; omega))
                      clear hfm hf Hc hmo
                      go_wp2_with (first | (go_at_call 25; with_reducible refine (Hb1.out _).mono ?_; rintro e w' ⟨rfl, rfl⟩) | (go_at_call 32; with_reducible refine (Hb2.out _).mono ?_; rintro e w' ⟨rfl, rfl⟩))
                      go_ret
                      exact ⟨by rw [Hr.out]; rfl, hbw⟩
                  · have hf : isSet j few = true := by
                      cases h : isSet j few with
                      | true => rfl
                      | false => exact absurd (.inl h) hfm
                    have hmo : 0 ≤ most ∧ most ≤ 8 := by
                      by_cases h : 0 ≤ most ∧ most ≤ 8
                      · exact h
                      · exact absurd (.inr h) hfm
                    have Hc := Lib.hid (Hc.out.trans (if_neg hfm))
                    have Hb1 := Lib.hid (fun V => RMask_is few j true V (by omega) hf)
                    have Hb2 := Lib.hid (fun V => Rin_is most 0 8 true V (by simp; omega))
                    obtain ⟨fN, rfl⟩ : ∃ fN : Nat, few = fN := Int.eq_ofNat_of_zero_le (of_decide_eq_true hf).1
                    have hfN : fN < 256 := by
                      have h1 := (of_decide_eq_true hf).2
                      have h2 : 2 ^ j ≤ 2 ^ 8 := Nat.pow_le_pow_right (by decide) hn8
                      generalize 2 ^ j = b at *
                      omega
                    clear hfm hf
                    go_wp2_with (first | (go_at_call 25; with_reducible refine (Hb1.out _).mono ?_; rintro e w' ⟨rfl, rfl⟩) | (go_at_call 32; with_reducible refine (Hb2.out _).mono ?_; rintro e w' ⟨rfl, rfl⟩))
                    clear Hb1 Hb2
                    go_loopw [7] (fun i wr => ∃ q : Nat, q ≤ k ∧ i = .int .i64 q ∧ Hid ((U.take q).all (fun x => decide ((cnt 8 (allS r x.toNat &&& (fN : Int).toNat) : Int) ≤ most)) = true) ∧ Below w1.heap.size w1 wr) (fun i _ => k - (intOf i).toNat)
                    case atStart => exact ⟨0, Nat.zero_le _, rfl, Lib.hid (by simp), Below.refl _ _⟩
                    case round =>
                      clear e0 e1 e2 e3 e4
                      obtain ⟨q, hq, rfl, hall, hbr⟩ := hrel
                      have hbwr := hbw.trans (hbr.mono hs1)
                      have hxr := hx1.all hbr
                      have hltr := hxr.lt
                      have e0 : wr.cell? ⟨w.heap.size, 0, none⟩ = some (.slice Au k cu) := hxr.cell rfl
                      have e1 : wr.cell? ⟨w.heap.size, 1, none⟩ = some (.slice Aa j ca) := hxr.cell rfl
                      have e2 : wr.cell? ⟨w.heap.size, 2, none⟩ = some (.slice Am j cm) := hxr.cell rfl
                      have e3 : wr.cell? ⟨w.heap.size, 3, none⟩ = some (.int .i64 (fN : Nat)) := hxr.cell rfl
                      have e4 : wr.cell? ⟨w.heap.size, 4, none⟩ = some (.int .i64 most) := hxr.cell rfl
                      by_cases hlt3 : q < k
                      · obtain ⟨b, off, x, rfl, hx, hc⟩ := (hU.below hbwr).at_ (k := q) (by rw [Hm.out]; exact hlt3)
                        have hxs : isSet j x = true := by have := List.all_eq_true.1 HUall.out x (List.mem_of_getElem? hx.out); exact this
                        obtain ⟨xN, rfl⟩ : ∃ xN : Nat, x = xN := Int.eq_ofNat_of_zero_le (of_decide_eq_true hxs).1
                        have hxN : xN < 2 ^ r.length := by
                          have h1 := (of_decide_eq_true hxs).2
                          rw [hrn]
                          generalize 2 ^ j = b at *
                          omega
                        have hrA : IntsAt wr Aa (castL r) := by rw [← hr]; exact hA.below hbwr
                        have Q1 := Lib.hid (fun (d : Nat) (os : Array Obj) => Calls.regrown_of (RRoleSet_any (Au := some ⟨b, off, none⟩) (nu := k) (cu := cu) (ca := ca) (nm := j) (Am := Am) (cm := cm) (few := fN) (most := most) (show r.length ≤ 8 by omega) hbd (hrA.below (below_regrown wr d os)) hxN))
                        rw [hrn] at Q1
                        have hal : allS r xN < 2 ^ 8 := Nat.lt_of_lt_of_le (allS_lt (show r.length ≤ 8 by omega) hbd xN) (Nat.pow_le_pow_right (by decide) (by omega))
                        have hand := bits_and_nat (allS r xN) fN (by omega) (by omega)
                        have ha256 : allS r xN &&& fN < 256 := Nat.lt_of_le_of_lt Nat.and_le_left hal
                        have Q2 := Lib.hid (fun (d : Nat) (os : Array Obj) => Calls.regrown_of ((RMany_any (allS r xN &&& fN) ha256 (Sort.grow (redrawn wr d) os)).mono fun e w' ⟨he, hw⟩ => (⟨he, by rw [← hw]; exact Below.refl _ _⟩ : _ ∧ Below (Sort.grow (redrawn wr d) os).heap.size (Sort.grow (redrawn wr d) os) w')))
                        have Q3 := Lib.hid (fun (d : Nat) (os : Array Obj) => Calls.regrown_of ((RBoth_any (allS r xN) fN (Sort.grow (redrawn wr d) os) (by omega) (by omega)).mono fun e w' ⟨he, hw⟩ => (⟨he, by rw [← hw]; exact Below.refl _ _⟩ : _ ∧ Below (Sort.grow (redrawn wr d) os).heap.size (Sort.grow (redrawn wr d) os) w')))
                        have g0 := cell_regrown e0
                        have g1 := cell_regrown e1
                        have g2 := cell_regrown e2
                        have g3 := cell_regrown e3
                        have g4 := cell_regrown e4
                        have g5 := cell_regrown hc
                        have hqk : (q : Int) < k := by omega
                        have hok : (fun x : Int => decide ((cnt 8 (allS r x.toNat &&& (fN : Int).toNat) : Int) ≤ most)) (xN : Int) = decide ((cnt 8 (allS r xN &&& fN) : Int) ≤ most) := rfl
                        have Hyes := Lib.hid (fun (h : decide ((cnt 8 (allS r xN &&& fN) : Int) ≤ most) = true) => all_take_snoc hx.out hall.out (hok.trans h))
                        have Hno := Lib.hid (fun (h : decide ((cnt 8 (allS r xN &&& fN) : Int) ≤ most) = false) => Hc.out.trans (if_pos (all_no hx.out (hok.trans h))))
                        clear e1 e2 e3 e4 hc hok hx hall hxs hxN hal
                        generalize allS r xN &&& fN = t at *
                        generalize allS r xN = a at *
                        by_cases hle : (cnt 8 t : Int) ≤ most
                        · have Hy := Lib.hid (Hyes.out (decide_eq_true hle))
                          have d5 : decide ((cnt 8 t : Int) > most) = false := decide_eq_false (by omega)
                          clear Hyes Hno hle
                          generalize cnt 8 t = ct at *
                          go_wp2_with fail
                          refine wp_region_quiet_below (by kernel_rfl) (by kernel_rfl) ?_
                          repeat (go_big_quiet_step (first | (with_reducible exact Q1.out _ _) | (with_reducible exact Q2.out _ _) | (with_reducible exact Q3.out _ _)))
                          refine wpQuiet_nil ?_
                          rintro _ ⟨pq, rfl⟩
                          have hbq := below_regrown wr pq.d pq.os
                          generalize Sort.grow (redrawn wr pq.d) pq.os = wb at *
                          go_wp2_with fail
                          refine ⟨⟨q + 1, ?va, ?vb, Hy, hbr.trans (hbq.mono hbr.size)⟩, ?vd⟩
                          case va => omega
                          case vb => go_num
                          case vd => simp [intOf]; omega
                        · have Hn2 := Lib.hid (Hno.out (decide_eq_false hle))
                          have d5 : decide ((cnt 8 t : Int) > most) = true := decide_eq_true (by omega)
                          clear Hyes Hno hle
                          generalize cnt 8 t = ct at *
                          go_wp2_with fail
                          refine wp_region_quiet_below (by kernel_rfl) (by kernel_rfl) ?_
                          repeat (go_big_quiet_step (first | (with_reducible exact Q1.out _ _) | (with_reducible exact Q2.out _ _) | (with_reducible exact Q3.out _ _)))
                          refine wpQuiet_nil ?_
                          rintro _ ⟨pq, rfl⟩
                          have hbq := below_regrown wr pq.d pq.os
                          generalize Sort.grow (redrawn wr pq.d) pq.os = wb at *
                          go_wp2_with fail
                          go_ret
                          exact ⟨by rw [Hn2.out]; rfl, hbwr.trans (hbq.mono hbwr.size)⟩
                      · obtain rfl : q = k := by omega
                        have hUf : U.all (fun x => decide ((cnt 8 (allS r x.toNat &&& (fN : Int).toNat) : Int) ≤ most)) = true := by have := hall.out; rw [List.take_of_length_le (by rw [Hm.out]; exact Nat.le_refl _)] at this; exact this
                        have Hr := Lib.hid (Hc.out.trans (if_neg (by rw [hUf]; decide)))
                        clear hUf hall
                        go_wp2_with fail
                        go_ret
                        exact ⟨by rw [Hr.out]; rfl, hbwr⟩
          · have Hr := Lib.hid (Hc.out.trans (if_pos hrc))
            have hnz : (relCode A : Int) ≠ 0 := by omega
            clear HOk hrc
            have HR := Lib.hid (HRel.out _ hb0)
            clear HRel
            generalize relCode A = kk at *
            have dnz : ((kk : Int) != 0) = true := by simp; omega
            go_wp2_with fail
            refine HR.out.mono ?_
            rintro e w1 ⟨rfl, q, rfl⟩
            go_wp2_with fail
            go_ret
            exact ⟨by rw [Hr.out]; rfl, belowD hb0 q⟩
end
end Go.Proofs.YtpfmllpodjcldaaDoor
