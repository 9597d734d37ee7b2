/-
  The walk of KernelPlays.
-/
import Derived.Test.YtgkanbaboeppfaaDoorKPlaysB
import Derived.Test.YtgkanbaboeppfaaDoorKRStep
import Derived.Test.YtgkanbaboeppfaaDoorKRSys
import Derived.Test.YtgkanbaboeppfaaDoorAs
import Derived.Test.YtgkanbaboeppfaaDoorInts
import Derived.Deep.QuietTactic
import Derived.BigQuiet
import Derived.Deep.RegionHeld3
import Derived.Deep.CutRange
namespace Go.Proofs.YtgkanbaboeppfaaDoor
open Go.RowKit
set_option maxRecDepth 100000
set_option linter.unusedVariables false

section
variable {w0 w w' : World} {lo0 lo hi p G : Nat} {K : KF} {L : List (List Int)} {P : List Int} {q : Nat} {T : List Int} {Ap Ao At Pp Hp : Option Addr} {cp co ct cP cH t u : Nat}
/-- The reference's step, and the store of what it gave. -/
def Stepped (w0 : World) (lo0 lo hi p G : Nat) (K : KF) (L : List (List Int)) (P : List Int) (q : Nat) (T : List Int) (Ap Ao At : Option Addr) (cp co ct : Nat) (Pp Hp : Option Addr) (cP cH t u u1 : Nat) (e : Ending) (w' : World) : Prop :=
  ∃ Pp' Hp' cP' cH', e = .returned (.agg (rkV Ap Ao At cp co ct L.length q T.length u1 Pp' Hp' cP' cH')) ∧ BoxN w' G 44 (rkV Ap Ao At cp co ct L.length q T.length u Pp Hp cP cH) ∧
    PlayR w0 lo0 lo hi p G K L P q T Ap Ao At cp co ct Pp' Hp' cP' cH' t u1 ((((((w'.setCell ⟨G, 0, none⟩ (.slice Ap L.length cp)).setCell ⟨G, 1, none⟩ (.slice Ao q co)).setCell ⟨G, 2, none⟩ (.slice At T.length ct)).setCell ⟨G, 3, none⟩ (.int .i64 u1)).setCell ⟨G, 4, none⟩ (.slice Pp' L.length cP')).setCell ⟨G, 5, none⟩ (.slice Hp' q cH'))
theorem RStep_play {u1 : Nat} (h : PlayR w0 lo0 lo hi p G K L P q T Ap Ao At cp co ct Pp Hp cP cH t u w) (hs : SysOk L P q T) (hu : u < 300) (hu1 : u1 = u + 1) (hL : RowsIn anyB 3 w Ap L) (hT : IntsIn anyB w At T) :
    Calls Tryd.prog 16 #[.agg (rkV Ap Ao At cp co ct L.length q T.length u Pp Hp cP cH)] w (Stepped w0 lo0 lo hi p G K L P q T Ap Ao At cp co ct Pp Hp cP cH t u u1) := by
  subst hu1
  obtain ⟨role, hk, h0, hr⟩ := h.role
  have h1 := hs.turn (u % T.length) (Nat.mod_lt _ (by have := hs.turns; omega))
  refine (RStep_any (ok := fun b => role b = 0 ∧ b ≠ G) hr (fun b hb => ⟨hk.new b hb, by have := h.size; omega⟩) hL hT hs (sAt_inv hs u) (by omega) hu (p := (nI T (u % T.length)).toNat) (by omega) (by omega)).mono ?_
  rintro e w' ⟨⟨Pp', Hp', cP', cH', rfl, hr'⟩, hb⟩
  rw [← sAt_succ] at hr'
  exact ⟨Pp', Hp', cP', cH', rfl, h.box.all hb, h.stored hb hk h0 hr'⟩
end

set_option maxHeartbeats 8000000 in
theorem KernelPlays_bad {L : List (List Int)} {P T : List Int} {q k : Nat} {Ap Ao At : Option Addr} {cp co ct : Nat} {X : Value} {w : World} (hL : RowsIn anyB 3 w Ap L) (hP : IntsIn anyB w Ao P) (hl : P.length = q * 2) (hT : IntsIn anyB w At T) (nL : L.length ≤ maxLen) (nq : q ≤ maxLen) (nT : T.length ≤ maxLen)
    (hc : sysCode L P q T = k) (h0 : k ≠ 0) (hE : ErrT w) :
    Calls Tryd.prog 4 #[.agg #[.slice Ap L.length cp, .slice Ao q co, .slice At T.length ct], X] w fun e w' => e = .returned (.bool true) ∧ Below w.heap.size w w' := by
  have hx0 := BoxN.new w 26 #[.slice Ap L.length cp, .slice Ao q co, .slice At T.length ct]
  have hb0 := (Below.refl w.heap.size w).alloc (Nat.le_refl _) (.cells #[.slice Ap L.length cp, .slice Ao q co, .slice At T.length ct] 26)
  have d1 : ((k : Int) != 0) = true := by simp; omega
  have d2 : decide (k = 0) = false := by simpa using h0
  have HS := Lib.hid (fun V (hV : Below w.heap.size w V) => RSystem_any (cp := cp) (co := co) (ct := ct) (hL.below hV) (hP.below hV) hl (hT.below hV) rfl rfl nL nq nT)
  have HK := Lib.hid (fun V (hV : Below w.heap.size w V) => KCheck_any (cp := cp) (co := co) (ct := ct) (hL.below hV) (hP.below hV) hl (hT.below hV) rfl rfl nL nq nT)
  have HN := Lib.hid (fun V (hV : Below w.heap.size w V) => New_bad (cp := cp) (co := co) (ct := ct) (hL.below hV) (hP.below hV) hl (hT.below hV) rfl rfl nL nq nT hc h0)
  have HEr := Lib.hid (fun V (hV : Below w.heap.size w V) => Error_is k (k : Int) true V (hE.next hV) (by simp))
  rw [hc] at HS HK
  rw [errVal_pos h0] at HK HEr
  clear hL hP hT hc hE
  go_enter Tryd.func4, Tryd.ntmps4
  go_wp2_with fail
  generalize w.alloc (.cells #[.slice Ap L.length cp, .slice Ao q co, .slice At T.length ct] 26) = W0 at *
  refine (HS.out _ hb0).mono ?_
  rintro e w1 ⟨rfl, hb1⟩
  have hx1 := hx0.all hb1
  have hw1 := hb0.trans (hb1.mono hb0.size)
  clear hx0 hb0 hb1
  have x0 := hx1.cell (k := 0) rfl
  have x1 := hx1.cell (k := 1) rfl
  have x2 := hx1.cell (k := 2) rfl
  go_wp2_with fail
  refine (HK.out _ hw1).mono ?_
  rintro e w2 ⟨rfl, hb2⟩
  have hx2 := hx1.all hb2
  have hw2 := hw1.trans (hb2.mono hw1.size)
  clear hx1 hb2 x0 x1 x2 hw1
  go_wp2_with fail
  refine (HEr.out _ hw2).mono ?_
  rintro e w3 ⟨rfl, hb3⟩
  have hx3 := hx2.all hb3
  have hw3 := hw2.trans (hb3.mono hw2.size)
  clear hx2 hb3 hw2
  have x0 := hx3.cell (k := 0) rfl
  have x1 := hx3.cell (k := 1) rfl
  have x2 := hx3.cell (k := 2) rfl
  go_wp2_with fail
  refine (HN.out _ hw3).mono ?_
  rintro e w4 ⟨rfl, hb4⟩
  have hw4 := hw3.trans (hb4.mono hw3.size)
  clear hx3 x0 x1 x2 hb4 hw3
  go_wp2_with fail
  refine (HEr.out _ hw4).mono ?_
  rintro e w5 ⟨rfl, hb5⟩
  go_wp2_with fail
  go_ret
  exact ⟨rfl, hw4.trans (hb5.mono hw4.size)⟩

theorem Error_is4 (V : World) (h : ErrT V) : Calls Tryd.prog 13 #[.iface 55 (.int .i64 4), .int .i64 4] V fun e w' => e = .returned (.bool true) ∧ Below V.heap.size V w' := Error_is 4 4 true V h rfl
theorem Error_is1 (V : World) (h : ErrT V) : Calls Tryd.prog 13 #[.iface 55 (.int .i64 1), .int .i64 1] V fun e w' => e = .returned (.bool true) ∧ Below V.heap.size V w' := Error_is 1 1 true V h rfl
theorem Error_is0 (V : World) (h : ErrT V) : Calls Tryd.prog 13 #[.nilIface, .int .i64 0] V fun e w' => e = .returned (.bool true) ∧ Below V.heap.size V w' := Error_is 0 0 true V h rfl
set_option maxHeartbeats 16000000 in
theorem KernelPlays_ok {L : List (List Int)} {P T X : List Int} {q : Nat} {Ap Ao At Ax : Option Addr} {cp co ct cx : Nat} {w : World} (hL : RowsIn anyB 3 w Ap L) (hP : IntsIn anyB w Ao P) (hl : P.length = q * 2) (hT : IntsIn anyB w At T) (nL : L.length ≤ maxLen) (nq : q ≤ maxLen) (nT : T.length ≤ maxLen)
    (hX : IntsAt w Ax X) (nX : X.length ≤ 9223372036854775807) (hc : sysCode L P q T = 0) (hE : ErrT w) (hP10 : Pow10 w.heap.size w) :
    Calls Tryd.prog 4 #[.agg #[.slice Ap L.length cp, .slice Ao q co, .slice At T.length ct], .slice Ax X.length cx] w fun e w' => e = .returned (.bool true) ∧ Below w.heap.size w w' := by
  have hx0 := BoxN.new w 26 #[.slice Ap L.length cp, .slice Ao q co, .slice At T.length ct]
  have hb0 := (Below.refl w.heap.size w).alloc (Nat.le_refl _) (.cells #[.slice Ap L.length cp, .slice Ao q co, .slice At T.length ct] 26)
  have Hok := Lib.hid (sysOk hc)
  have HS := Lib.hid (fun V (hV : Below w.heap.size w V) => RSystem_any (cp := cp) (co := co) (ct := ct) (hL.below hV) (hP.below hV) hl (hT.below hV) rfl rfl nL nq nT)
  have HK := Lib.hid (fun V (hV : Below w.heap.size w V) => KCheck_any (cp := cp) (co := co) (ct := ct) (hL.below hV) (hP.below hV) hl (hT.below hV) rfl rfl nL nq nT)
  have HN := Lib.hid (fun V (hV : Below w.heap.size w V) => New_ok (cp := cp) (co := co) (ct := ct) (hL.below hV) (hP.below hV) hl (hT.below hV) rfl rfl nL nq nT hc)
  have HRN := Lib.hid (fun V => RNew_any (Ap := Ap) (Ao := Ao) (At := At) (n := L.length) (q := q) (m := T.length) (cp := cp) (co := co) (ct := ct) (w := V) Hok.out.parts.2 Hok.out.few)
  have HEr := Lib.hid (fun V (hV : Below w.heap.size w V) => Error_is 0 0 true V (hE.next hV) (by simp))
  have HE := Lib.hid hE
  have HL := Lib.hid (fun V (hV : Below w.heap.size w V) => hL.below hV)
  have HT := Lib.hid (fun V (hV : Below w.heap.size w V) => hT.below hV)
  have HX := Lib.hid (fun V (hV : Below w.heap.size w V) => hX.below hV)
  have HP10 := Lib.hid hP10
  rw [hc] at HS HK
  rw [errVal_zero] at HK HEr
  have hL5 : L.length ≤ 5 := Hok.out.parts.2
  have hL1 : 1 ≤ L.length := Hok.out.parts.1
  clear hL hP hT hc hE hX hP10 nL nq nT hl
  go_enter Tryd.func4, Tryd.ntmps4
  go_wp2_with fail
  generalize w.alloc (.cells #[.slice Ap L.length cp, .slice Ao q co, .slice At T.length ct] 26) = W0 at *
  have HW0 := Lib.hid hb0
  have HX0 := Lib.hid hx0
  refine (HS.out _ hb0).mono ?_
  rintro e w1 ⟨rfl, hb1⟩
  have hx1 := hx0.all hb1
  have hw1 := hb0.trans (hb1.mono hb0.size)
  have hv1 := hb1
  clear hx0 hb0 hb1
  have x0 := hx1.cell (k := 0) rfl
  have x1 := hx1.cell (k := 1) rfl
  have x2 := hx1.cell (k := 2) rfl
  go_wp2_with fail
  refine (HK.out _ hw1).mono ?_
  rintro e w2 ⟨rfl, hb2⟩
  have hx2 := hx1.all hb2
  have hw2 := hw1.trans (hb2.mono hw1.size)
  have hv2 := hv1.trans (hb2.mono hv1.size)
  clear hx1 hb2 x0 x1 x2 hw1 hv1
  go_wp2_with fail
  refine (HEr.out _ hw2).mono ?_
  rintro e w3 ⟨rfl, hb3⟩
  have hx3 := hx2.all hb3
  have hw3 := hw2.trans (hb3.mono hw2.size)
  have hv3 := hv2.trans (hb3.mono hv2.size)
  clear hx2 hb3 hw2 hv2
  have x0 := hx3.cell (k := 0) rfl
  have x1 := hx3.cell (k := 1) rfl
  have x2 := hx3.cell (k := 2) rfl
  go_wp2_with fail
  refine (HN.out _ hw3).mono ?_
  rintro e w4 ⟨⟨p, rfl, gp, gh, KK, hK⟩, hb4⟩
  have hx4 := hx3.all hb4
  have hv4 := hv3.trans (hb4.mono hv3.size)
  have hlo := Lib.hid hv3.size
  clear hx3 x0 x1 x2 hb4 hw3 hv3
  have x0 := hx4.cell (k := 0) rfl
  have x1 := hx4.cell (k := 1) rfl
  have x2 := hx4.cell (k := 2) rfl
  go_wp2_with fail
  refine (HRN.out _).mono ?_
  rintro e w5 ⟨⟨Pp, Hp, cP, cH, rfl, hR⟩, hb5⟩
  have hv5 := hv4.trans (hb5.mono hv4.size)
  have hK5 := hK.below hb5
  have hG0 := Lib.hid hb5.size
  have HKn := Lib.hid hK.new
  clear hx4 x0 x1 x2 hv4
  have hGb := BoxN.new w5 44 (rkV Ap Ao At cp co ct L.length q T.length 0 Pp Hp cP cH)
  have hpl : PlayR W0 W0.heap.size w3.heap.size w4.heap.size p w5.heap.size KK L P q T Ap Ao At cp co ct Pp Hp cP cH 0 0 (w5.alloc (.cells (rkV Ap Ao At cp co ct L.length q T.length 0 Pp Hp cP cH) 44)) :=
    ⟨⟨roleNew p gp gh, hK5.below ((Below.refl _ _).alloc (Nat.le_refl _) _), HKn.out _ hG0.out, (hR.wider (ok' := fun b => roleNew p gp gh b = 0 ∧ b ≠ w5.heap.size) fun b hb ho => ⟨HKn.out b ho, Nat.ne_of_lt hb⟩).stays fun b hb _ => ((Below.refl w5.heap.size w5).alloc (Nat.le_refl _) _).block b hb⟩, hGb, hG0.out, hlo.out, hv5.alloc hv5.size _⟩
  clear hK hK5 hR hb5 hGb hv5 HS HK HN HRN
  go_wp2_with fail
  generalize w5.alloc (.cells (rkV Ap Ao At cp co ct L.length q T.length 0 Pp Hp cP cH) 44) = w6 at *
  have HEW := Lib.hid (fun V (hV : Below W0.heap.size W0 V) => HE.out.next (HW0.out.trans (hV.mono HW0.out.size)))
  have HPW : Hid (Pow10 W0.heap.size W0) := Lib.hid (HP10.out.next HW0.out HW0.out.size (Nat.le_refl _))
  clear HKn hG0 hlo HEr HE HP10
  generalize w5.heap.size = G at *
  generalize w3.heap.size = lo at *
  generalize w4.heap.size = hi at *
  go_loopw [10] (fun i wr => ∃ (k t : Nat) (Pp Hp : Option Addr) (cP cH : Nat), i = .int .i64 k ∧ k ≤ X.length ∧ t ≤ 300 ∧ PlayR W0 W0.heap.size lo hi p G KK L P q T Ap Ao At cp co ct Pp Hp cP cH t t wr) (fun i _ => X.length - (intOf i).toNat)
  case atStart => exact ⟨0, 0, _, _, _, _, rfl, Nat.zero_le _, Nat.zero_le _, hpl⟩
  case round =>
    clear hpl
    obtain ⟨k, t, Pp, Hp, cP, cH, rfl, hk, hu300, hp⟩ := hrel
    by_cases hlt : k < X.length
    · by_cases h30 : k < 30
      · obtain ⟨bx, ox, rfl, hcx⟩ := HX.out W0 HW0.out (by rintro rfl; simp at hlt)
        obtain ⟨x, hx⟩ : ∃ x, X[k]? = some x := ⟨_, List.getElem?_eq_getElem hlt⟩
        have HXc := Lib.hid (fun V (hV : Below W0.heap.size W0 V) => (hV.cell (p := ⟨bx, ox + k, none⟩) (block_lt (hcx k x hx))).trans (hcx k x hx))
        clear hcx hx
        have cx0 := HXc.out _ hp.old
        have d30 : decide ((k : Int) < 30) = true := by simp; omega
        have d30' : decide (k < 30) = true := by simp; omega
        by_cases hA : 0 ≤ x ∧ x ≤ 300
        · obtain ⟨n, rfl⟩ := Int.eq_ofNat_of_zero_le hA.1
          have a1 : decide ((n : Int) < 0) = false := by simp
          have a2 : decide ((n : Int) > 300) = false := by simp; omega
          have a2' : decide (300 < n) = false := by simp; omega
          have a3 : IntKind.i64.wrap (300 - (t : Int)) = 300 - (t : Int) := by rw [IntKind.wrap_i64]; omega
          have g3 := hp.box.cell (k := 3) rfl
          have hk0 : (0 : Int) ≤ (k : Int) := by omega
          have hkx : (k : Int) < (X.length : Int) := by omega
          by_cases hB : n + t ≤ 300
          · have a4 : decide ((n : Int) > 300 - (t : Int)) = false := by simp; omega
            go_wp2_with fail
            go_quiet (fail)
            have hpq := hp.below (belowD (Below.refl _ _) nq)
            clear hp
            have hp := hpq
            clear hpq a3 g3 cx0
            go_wp2_with fail
            go_loopw [11] (fun i wz => ∃ (j u : Nat) (Pp' Hp' : Option Addr) (cP' cH' : Nat), i = .int .i64 j ∧ j ≤ n ∧ Hid (u = t + j) ∧ PlayR W0 W0.heap.size lo hi p G KK L P q T Ap Ao At cp co ct Pp' Hp' cP' cH' t u wz) (fun i _ => n - (intOf i).toNat)
            case atStart => exact ⟨0, t, _, _, _, _, rfl, Nat.zero_le _, Lib.hid rfl, hp⟩
            case round =>
              clear hp
              obtain ⟨wz, rfl⟩ : ∃ wz : World, wz = wr := ⟨_, rfl⟩
              obtain ⟨j, u, Pp, Hp, cP, cH, rfl, hj, hu, hp⟩ := hrel
              have cxz := HXc.out _ hp.old
              by_cases hjn : j < n
              · have hbz := HW0.out.trans (hp.old.mono HW0.out.size)
                obtain ⟨u1, hu1⟩ : ∃ u1, u1 = u + 1 := ⟨_, rfl⟩
                have HSt := Lib.hid (RStep_play hp Hok.out (by have := hu.out; omega) hu1 (HL.out _ hbz) (HT.out _ hbz))
                have Hu1 := Lib.hid (show u1 = t + (j + 1) by have := hu.out; omega)
                have g0 := hp.box.cell (k := 0) rfl
                have g1 := hp.box.cell (k := 1) rfl
                have g2 := hp.box.cell (k := 2) rfl
                have g3 := hp.box.cell (k := 3) rfl
                have g4 := hp.box.cell (k := 4) rfl
                have g5 := hp.box.cell (k := 5) rfl
                clear hu1 hbz hu
                go_wp2_with fail
                refine HSt.out.mono ?_
                rintro e w1 ⟨Pp1, Hp1, cP1, cH1, rfl, hbx1, hp1⟩
                clear HSt g0 g1 g2 g3 g4 g5 cxz
                have g0 := hbx1.cell (k := 0) rfl
                have g1 := hbx1.cell (k := 1) rfl
                have g2 := hbx1.cell (k := 2) rfl
                have g3 := hbx1.cell (k := 3) rfl
                have g4 := hbx1.cell (k := 4) rfl
                have g5 := hbx1.cell (k := 5) rfl
                have fz0 := hbx1.free 0
                have fz1 := hbx1.free 1
                have fz2 := hbx1.free 2
                have fz3 := hbx1.free 3
                have fz4 := hbx1.free 4
                have fz5 := hbx1.free 5
                go_wp2_with fail
                refine ⟨⟨j + 1, u1, Pp1, Hp1, cP1, cH1, ?xa, ?xb, Hu1, hp1⟩, ?xd⟩
                case xa => go_num
                case xb => omega
                case xd => simp [intOf]; omega
              · obtain rfl : j = n := by omega
                have djn : decide ((j : Int) < (j : Int)) = false := by simp
                have hut := hu.out
                have hu300 : u ≤ 300 := by omega
                have Hut := Lib.hid hut
                clear hut hu
                go_wp2_with fail
                have HSv := Lib.hid (fun V (t1 : Nat) (hV : PlayR W0 W0.heap.size lo hi p G KK L P q T Ap Ao At cp co ct Pp Hp cP cH t1 u V) => (⟨HXc.out V hV.old, hV.box.cell (k := 0) rfl, hV.box.cell (k := 1) rfl, hV.box.cell (k := 2) rfl, hV.box.cell (k := 3) rfl, hV.box.cell (k := 4) rfl, hV.box.cell (k := 5) rfl⟩ : V.cell? ⟨bx, ox + k, none⟩ = some (.int .i64 (j : Int)) ∧ V.cell? ⟨G, 0, none⟩ = some (.slice Ap L.length cp) ∧ V.cell? ⟨G, 1, none⟩ = some (.slice Ao q co) ∧ V.cell? ⟨G, 2, none⟩ = some (.slice At T.length ct) ∧ V.cell? ⟨G, 3, none⟩ = some (.int .i64 u) ∧ V.cell? ⟨G, 4, none⟩ = some (.slice Pp L.length cP) ∧ V.cell? ⟨G, 5, none⟩ = some (.slice Hp q cH)))
                have HR := Lib.hid (fun V (hV : PlayR W0 W0.heap.size lo hi p G KK L P q T Ap Ao At cp co ct Pp Hp cP cH t u V) => show Calls Tryd.prog 7 #[.pointer (some ⟨p, 0, none⟩), .int .i64 (j : Int)] V (fun e w' => e = .returned .nilIface ∧ PlayR W0 W0.heap.size lo hi p G KK L P q T Ap Ao At cp co ct Pp Hp cP cH u u w') from by have hr := Run_play hV Hok.out j (by omega) (by omega); rw [← Hut.out] at hr; exact hr)
                have HTk := Lib.hid (fun V (hV : PlayR W0 W0.heap.size lo hi p G KK L P q T Ap Ao At cp co ct Pp Hp cP cH u u V) => Tick_play hV)
                have HSa := Lib.hid (fun V (hV : PlayR W0 W0.heap.size lo hi p G KK L P q T Ap Ao At cp co ct Pp Hp cP cH u u V) => (Save_play hV Hok.out hu300 HPW.out (Nat.le_refl _)).mono fun e w' ⟨he, hb⟩ => (⟨he, hV.below hb⟩ : _ ∧ PlayR W0 W0.heap.size lo hi p G KK L P q T Ap Ao At cp co ct Pp Hp cP cH u u w'))
                have HRS := Lib.hid (fun V (hV : PlayR W0 W0.heap.size lo hi p G KK L P q T Ap Ao At cp co ct Pp Hp cP cH u u V) => (RSave_play hV Hok.out hu300).mono fun e w' ⟨he, hb⟩ => (⟨he, hV.below hb⟩ : _ ∧ PlayR W0 W0.heap.size lo hi p G KK L P q T Ap Ao At cp co ct Pp Hp cP cH u u w'))
                have HEe := Lib.hid (fun V (hV : PlayR W0 W0.heap.size lo hi p G KK L P q T Ap Ao At cp co ct Pp Hp cP cH u u V) => (Error_is0 V (HEW.out V hV.old)).mono fun e w' ⟨he, hb⟩ => (⟨he, hV.below hb⟩ : _ ∧ PlayR W0 W0.heap.size lo hi p G KK L P q T Ap Ao At cp co ct Pp Hp cP cH u u w'))
                obtain ⟨str, hstr⟩ : ∃ str, saveH (sAt L T u) u L.length q = str := ⟨_, rfl⟩
                simp only [hstr] at HSa HRS
                clear hstr
                have hpd := hp.below ((Below.refl _ _).drew)
                have hk0 : (0 : Int) ≤ (k : Int) := by omega
                have hkx : (k : Int) < (X.length : Int) := by omega
                go_region_held3 (fun V => V.cell? ⟨bx, ox + k, none⟩ = some (.int .i64 (j : Int)) ∧ V.cell? ⟨G, 0, none⟩ = some (.slice Ap L.length cp) ∧ V.cell? ⟨G, 1, none⟩ = some (.slice Ao q co) ∧ V.cell? ⟨G, 2, none⟩ = some (.slice At T.length ct) ∧ V.cell? ⟨G, 3, none⟩ = some (.int .i64 u) ∧ V.cell? ⟨G, 4, none⟩ = some (.slice Pp L.length cP) ∧ V.cell? ⟨G, 5, none⟩ = some (.slice Hp q cH))
                  ((first | exact HSv.out _ _ hp4 | exact HSv.out _ _ hp3 | exact HSv.out _ _ hp2 | exact HSv.out _ _ hp1 | exact HSv.out _ _ hpd))
                  ((first
                    | (go_at_call 7; with_reducible refine (HR.out _ hpd).mono ?_; rintro e w1 ⟨rfl, hp1⟩)
                    | (go_at_call 13; with_reducible refine (HEe.out _ hp1).mono ?_; rintro e w2 ⟨rfl, hp2⟩)
                    | (go_at_call 10; with_reducible refine (HTk.out _ hp2).mono ?_; rintro e w' ⟨rfl, rfl⟩)
                    | (go_at_call 9; with_reducible refine (HSa.out _ hp2).mono ?_; rintro e w3 ⟨rfl, hp3⟩)
                    | (go_at_call 17; refine (HRS.out _ hp3).mono ?_; rintro e w4 ⟨rfl, hp4⟩)
                    | fail))
                clear HSv HR HTk HSa HRS HEe hpd hp1 hp2 hp3 hp
                go_wp2_with fail
                go_loopw [12] (fun i wz => ∃ j : Nat, i = .int .i64 j ∧ j ≤ L.length ∧ PlayR W0 W0.heap.size lo hi p G KK L P q T Ap Ao At cp co ct Pp Hp cP cH u u wz) (fun i _ => L.length - (intOf i).toNat)
                case atStart => exact ⟨0, rfl, Nat.zero_le _, hp4⟩
                case round =>
                  clear hp4
                  obtain ⟨wz, rfl⟩ : ∃ wz : World, wz = wr := ⟨_, rfl⟩
                  obtain ⟨j, rfl, hj, hp⟩ := hrel
                  have x0 := (HX0.out.all hp.old).cell (k := 0) rfl
                  by_cases hlt3 : j < L.length
                  · obtain ⟨bp, op, bm, om, ni, ci, hPp, cr, hle, hni, hrow⟩ := hp.row hlt3
                    subst hPp
                    have hnl : (partNums ((sAt L T u).parts j)).length = ni := by rw [partNums_len]; omega
                    obtain ⟨k', c', hk', cut0⟩ := run_ints_from bm om ni ci 5 (by omega) hle
                    have hrow5 : IntsAt wz (some ⟨bm, om + k', none⟩) ((sAt L T u).parts j).shown := hrow.tail 5 k' (by omega)
                    have HSh := Lib.hid (fun V (hV : Below wz.heap.size wz V) => (Shown_play (hp.below hV) Hok.out hu300 hlt3).mono fun e w' ⟨⟨A, c, he, hi⟩, hb⟩ => (⟨⟨A, c, he, hi⟩, hV.trans (hb.mono hV.size)⟩ : (∃ (A : Option Addr) (c : Nat), e = Ending.returned (.slice A ((sAt L T u).parts j).shown.length c) ∧ IntsAt w' A ((sAt L T u).parts j).shown) ∧ Below wz.heap.size wz w'))
                    have hsl := ((sAt_inv Hok.out u).shown j).1
                    clear hrow hnl hk'
                    obtain ⟨sh, hsh⟩ : ∃ sh, ((sAt L T u).parts j).shown = sh := ⟨_, rfl⟩
                    rw [hsh] at hrow5 hsl hni
                    simp only [hsh] at HSh
                    clear hsh
                    have cut : ∀ V : World, (Instr.sliceAt 24 (.slice (some ⟨bm, om, none⟩) ni ci) (some (.int .i64 5)) none none).run Tryd.prog V = .ok (.slice (some ⟨bm, om + k', none⟩) sh.length c') V := fun V => by
                      have := cut0 V
                      rw [show ni - 5 = sh.length by omega] at this
                      exact this
                    have HIn := Lib.hid (fun V A c (hV : Below wz.heap.size wz V) (hA : IntsAt V A sh) => (Ints_any sh sh A (some ⟨bm, om + k', none⟩) c c' V hA (hrow5.below hV) (by omega)).mono fun e w' ⟨he, hn⟩ => (⟨by rw [he]; simp, hn⟩ : e = Ending.returned (.bool true) ∧ ∃ n, w' = V.drewN n))
                    have HS3 := Lib.hid (fun V (hV : Below wz.heap.size wz V) => (⟨(hp.box.all hV).cell (k := 4) rfl, (hV.cell (p := ⟨bp, op + j, none⟩) (block_lt cr)).trans cr⟩ : V.cell? ⟨G, 4, none⟩ = some (.slice (some ⟨bp, op, none⟩) L.length cP) ∧ V.cell? ⟨bp, op + j, none⟩ = some (.slice (some ⟨bm, om, none⟩) ni ci)))
                    have hbd := (Below.refl wz.heap.size wz).drew
                    have hj0 : (0 : Int) ≤ (j : Int) := by omega
                    have hjx : (j : Int) < (L.length : Int) := by omega
                    have hn5 : (5 : Int) ≤ (ni : Int) := by omega
                    clear cut0 hrow5 hsl hni
                    go_wp2_with fail
                    go_region_held3 (fun V => V.cell? ⟨G, 4, none⟩ = some (.slice (some ⟨bp, op, none⟩) L.length cP) ∧ V.cell? ⟨bp, op + j, none⟩ = some (.slice (some ⟨bm, om, none⟩) ni ci))
                      ((first | exact HS3.out _ hb2 | exact HS3.out _ hb1 | exact HS3.out _ hbd))
                      ((first
                        | (go_at_call 8; with_reducible refine (HSh.out _ hbd).mono ?_; rintro e w1 ⟨⟨A1, c1, rfl, i1⟩, hb1⟩)
                        | (go_at_call 11; with_reducible refine (HIn.out _ A1 c1 hb1 i1).mono ?_; rintro e w' ⟨rfl, nd, rfl⟩; have hb2 := belowD hb1 nd)
                        | fail))
                    go_wp2_with fail
                    refine ⟨⟨j + 1, ?ya, ?yb, hp.below hb2⟩, ?yd⟩
                    case ya => go_num
                    case yb => omega
                    case yd => simp [intOf]; omega
                  · have hjl : j = L.length := by omega
                    subst hjl
                    have djj : decide ((L.length : Int) < (L.length : Int)) = false := by simp
                    go_wp2_with fail
                    refine ⟨⟨k + 1, u, Pp, Hp, cP, cH, ?za, ?zb, hu300, hp⟩, ?zd⟩
                    case za => go_num
                    case zb => omega
                    case zd => simp [intOf]; omega
          · have a4 : decide ((n : Int) > 300 - (t : Int)) = true := by simp; omega
            go_wp2_with fail
            go_quiet (fail)
            have hpq := hp.below (belowD (Below.refl _ _) nq)
            clear hp a3 g3 cx0
            go_wp2_with fail
            go_loopw [11] (fun i wz => i = .int .i64 ((0 : Nat) : Int) ∧ PlayR W0 W0.heap.size lo hi p G KK L P q T Ap Ao At cp co ct Pp Hp cP cH t t wz) (fun _ _ => 0)
            case atStart => exact ⟨rfl, hpq⟩
            case round =>
              clear hpq
              obtain ⟨wz, rfl⟩ : ∃ wz : World, wz = wr := ⟨_, rfl⟩
              obtain ⟨rfl, hp⟩ := hrel
              have cxz := HXc.out _ hp.old
              go_wp2_with fail
              have HSv := Lib.hid (fun V (t1 : Nat) (hV : PlayR W0 W0.heap.size lo hi p G KK L P q T Ap Ao At cp co ct Pp Hp cP cH t1 t V) => (⟨HXc.out V hV.old, hV.box.cell (k := 0) rfl, hV.box.cell (k := 1) rfl, hV.box.cell (k := 2) rfl, hV.box.cell (k := 3) rfl, hV.box.cell (k := 4) rfl, hV.box.cell (k := 5) rfl⟩ : V.cell? ⟨bx, ox + k, none⟩ = some (.int .i64 (n : Int)) ∧ V.cell? ⟨G, 0, none⟩ = some (.slice Ap L.length cp) ∧ V.cell? ⟨G, 1, none⟩ = some (.slice Ao q co) ∧ V.cell? ⟨G, 2, none⟩ = some (.slice At T.length ct) ∧ V.cell? ⟨G, 3, none⟩ = some (.int .i64 t) ∧ V.cell? ⟨G, 4, none⟩ = some (.slice Pp L.length cP) ∧ V.cell? ⟨G, 5, none⟩ = some (.slice Hp q cH)))
              have HR := Lib.hid (fun V (hV : PlayR W0 W0.heap.size lo hi p G KK L P q T Ap Ao At cp co ct Pp Hp cP cH t t V) => show Calls Tryd.prog 7 #[.pointer (some ⟨p, 0, none⟩), .int .i64 (n : Int)] V (fun e w' => e = .returned (.iface 55 (.int .i64 4)) ∧ PlayR W0 W0.heap.size lo hi p G KK L P q T Ap Ao At cp co ct Pp Hp cP cH t t w') from Run_play4 hV (n : Int) hA (by omega) (by omega))
              have HTk := Lib.hid (fun V (hV : PlayR W0 W0.heap.size lo hi p G KK L P q T Ap Ao At cp co ct Pp Hp cP cH t t V) => Tick_play hV)
              have HSa := Lib.hid (fun V (hV : PlayR W0 W0.heap.size lo hi p G KK L P q T Ap Ao At cp co ct Pp Hp cP cH t t V) => (Save_play hV Hok.out hu300 HPW.out (Nat.le_refl _)).mono fun e w' ⟨he, hb⟩ => (⟨he, hV.below hb⟩ : _ ∧ PlayR W0 W0.heap.size lo hi p G KK L P q T Ap Ao At cp co ct Pp Hp cP cH t t w'))
              have HRS := Lib.hid (fun V (hV : PlayR W0 W0.heap.size lo hi p G KK L P q T Ap Ao At cp co ct Pp Hp cP cH t t V) => (RSave_play hV Hok.out hu300).mono fun e w' ⟨he, hb⟩ => (⟨he, hV.below hb⟩ : _ ∧ PlayR W0 W0.heap.size lo hi p G KK L P q T Ap Ao At cp co ct Pp Hp cP cH t t w'))
              have HEe := Lib.hid (fun V (hV : PlayR W0 W0.heap.size lo hi p G KK L P q T Ap Ao At cp co ct Pp Hp cP cH t t V) => (Error_is4 V (HEW.out V hV.old)).mono fun e w' ⟨he, hb⟩ => (⟨he, hV.below hb⟩ : _ ∧ PlayR W0 W0.heap.size lo hi p G KK L P q T Ap Ao At cp co ct Pp Hp cP cH t t w'))
              obtain ⟨str, hstr⟩ : ∃ str, saveH (sAt L T t) t L.length q = str := ⟨_, rfl⟩
              simp only [hstr] at HSa HRS
              clear hstr
              have hpd := hp.below ((Below.refl _ _).drew)
              have hk0 : (0 : Int) ≤ (k : Int) := by omega
              have hkx : (k : Int) < (X.length : Int) := by omega
              go_region_held3 (fun V => V.cell? ⟨bx, ox + k, none⟩ = some (.int .i64 (n : Int)) ∧ V.cell? ⟨G, 0, none⟩ = some (.slice Ap L.length cp) ∧ V.cell? ⟨G, 1, none⟩ = some (.slice Ao q co) ∧ V.cell? ⟨G, 2, none⟩ = some (.slice At T.length ct) ∧ V.cell? ⟨G, 3, none⟩ = some (.int .i64 t) ∧ V.cell? ⟨G, 4, none⟩ = some (.slice Pp L.length cP) ∧ V.cell? ⟨G, 5, none⟩ = some (.slice Hp q cH))
                ((first | exact HSv.out _ _ hp4 | exact HSv.out _ _ hp3 | exact HSv.out _ _ hp2 | exact HSv.out _ _ hp1 | exact HSv.out _ _ hpd))
                ((first
                  | (go_at_call 7; with_reducible refine (HR.out _ hpd).mono ?_; rintro e w1 ⟨rfl, hp1⟩)
                  | (go_at_call 13; with_reducible refine (HEe.out _ hp1).mono ?_; rintro e w2 ⟨rfl, hp2⟩)
                  | (go_at_call 10; with_reducible refine (HTk.out _ hp2).mono ?_; rintro e w' ⟨rfl, rfl⟩)
                  | (go_at_call 9; with_reducible refine (HSa.out _ hp2).mono ?_; rintro e w3 ⟨rfl, hp3⟩)
                  | (go_at_call 17; refine (HRS.out _ hp3).mono ?_; rintro e w4 ⟨rfl, hp4⟩)
                  | fail))
              clear HSv HR HTk HSa HRS HEe hpd hp1 hp2 hp3 hp
              go_wp2_with fail
              go_loopw [12] (fun i wz => ∃ j : Nat, i = .int .i64 j ∧ j ≤ L.length ∧ PlayR W0 W0.heap.size lo hi p G KK L P q T Ap Ao At cp co ct Pp Hp cP cH t t wz) (fun i _ => L.length - (intOf i).toNat)
              case atStart => exact ⟨0, rfl, Nat.zero_le _, hp4⟩
              case round =>
                clear hp4
                obtain ⟨wz, rfl⟩ : ∃ wz : World, wz = wr := ⟨_, rfl⟩
                obtain ⟨j, rfl, hj, hp⟩ := hrel
                have x0 := (HX0.out.all hp.old).cell (k := 0) rfl
                by_cases hlt3 : j < L.length
                · obtain ⟨bp, op, bm, om, ni, ci, hPp, cr, hle, hni, hrow⟩ := hp.row hlt3
                  subst hPp
                  have hnl : (partNums ((sAt L T t).parts j)).length = ni := by rw [partNums_len]; omega
                  obtain ⟨k', c', hk', cut0⟩ := run_ints_from bm om ni ci 5 (by omega) hle
                  have hrow5 : IntsAt wz (some ⟨bm, om + k', none⟩) ((sAt L T t).parts j).shown := hrow.tail 5 k' (by omega)
                  have HSh := Lib.hid (fun V (hV : Below wz.heap.size wz V) => (Shown_play (hp.below hV) Hok.out hu300 hlt3).mono fun e w' ⟨⟨A, c, he, hi⟩, hb⟩ => (⟨⟨A, c, he, hi⟩, hV.trans (hb.mono hV.size)⟩ : (∃ (A : Option Addr) (c : Nat), e = Ending.returned (.slice A ((sAt L T t).parts j).shown.length c) ∧ IntsAt w' A ((sAt L T t).parts j).shown) ∧ Below wz.heap.size wz w'))
                  have hsl := ((sAt_inv Hok.out t).shown j).1
                  clear hrow hnl hk'
                  obtain ⟨sh, hsh⟩ : ∃ sh, ((sAt L T t).parts j).shown = sh := ⟨_, rfl⟩
                  rw [hsh] at hrow5 hsl hni
                  simp only [hsh] at HSh
                  clear hsh
                  have cut : ∀ V : World, (Instr.sliceAt 24 (.slice (some ⟨bm, om, none⟩) ni ci) (some (.int .i64 5)) none none).run Tryd.prog V = .ok (.slice (some ⟨bm, om + k', none⟩) sh.length c') V := fun V => by
                    have := cut0 V
                    rw [show ni - 5 = sh.length by omega] at this
                    exact this
                  have HIn := Lib.hid (fun V A c (hV : Below wz.heap.size wz V) (hA : IntsAt V A sh) => (Ints_any sh sh A (some ⟨bm, om + k', none⟩) c c' V hA (hrow5.below hV) (by omega)).mono fun e w' ⟨he, hn⟩ => (⟨by rw [he]; simp, hn⟩ : e = Ending.returned (.bool true) ∧ ∃ n, w' = V.drewN n))
                  have HS3 := Lib.hid (fun V (hV : Below wz.heap.size wz V) => (⟨(hp.box.all hV).cell (k := 4) rfl, (hV.cell (p := ⟨bp, op + j, none⟩) (block_lt cr)).trans cr⟩ : V.cell? ⟨G, 4, none⟩ = some (.slice (some ⟨bp, op, none⟩) L.length cP) ∧ V.cell? ⟨bp, op + j, none⟩ = some (.slice (some ⟨bm, om, none⟩) ni ci)))
                  have hbd := (Below.refl wz.heap.size wz).drew
                  have hj0 : (0 : Int) ≤ (j : Int) := by omega
                  have hjx : (j : Int) < (L.length : Int) := by omega
                  have hn5 : (5 : Int) ≤ (ni : Int) := by omega
                  clear cut0 hrow5 hsl hni
                  go_wp2_with fail
                  go_region_held3 (fun V => V.cell? ⟨G, 4, none⟩ = some (.slice (some ⟨bp, op, none⟩) L.length cP) ∧ V.cell? ⟨bp, op + j, none⟩ = some (.slice (some ⟨bm, om, none⟩) ni ci))
                    ((first | exact HS3.out _ hb2 | exact HS3.out _ hb1 | exact HS3.out _ hbd))
                    ((first
                      | (go_at_call 8; with_reducible refine (HSh.out _ hbd).mono ?_; rintro e w1 ⟨⟨A1, c1, rfl, i1⟩, hb1⟩)
                      | (go_at_call 11; with_reducible refine (HIn.out _ A1 c1 hb1 i1).mono ?_; rintro e w' ⟨rfl, nd, rfl⟩; have hb2 := belowD hb1 nd)
                      | fail))
                  go_wp2_with fail
                  refine ⟨⟨j + 1, ?ya, ?yb, hp.below hb2⟩, ?yd⟩
                  case ya => go_num
                  case yb => omega
                  case yd => simp [intOf]; omega
                · have hjl : j = L.length := by omega
                  subst hjl
                  have djj : decide ((L.length : Int) < (L.length : Int)) = false := by simp
                  go_wp2_with fail
                  refine ⟨⟨k + 1, t, Pp, Hp, cP, cH, ?za, ?zb, hu300, hp⟩, ?zd⟩
                  case za => go_num
                  case zb => omega
                  case zd => simp [intOf]; omega
        · by_cases hx0 : x < 0
          · have a1 : decide (x < 0) = true := by simp; omega
            go_wp2_with fail
            clear cx0
            go_loopw [11] (fun i wz => i = .int .i64 ((0 : Nat) : Int) ∧ PlayR W0 W0.heap.size lo hi p G KK L P q T Ap Ao At cp co ct Pp Hp cP cH t t wz) (fun _ _ => 0)
            case atStart => exact ⟨rfl, hp⟩
            case round =>
              clear hp
              obtain ⟨wz, rfl⟩ : ∃ wz : World, wz = wr := ⟨_, rfl⟩
              obtain ⟨rfl, hp⟩ := hrel
              have cxz := HXc.out _ hp.old
              go_wp2_with fail
              have HSv := Lib.hid (fun V (t1 : Nat) (hV : PlayR W0 W0.heap.size lo hi p G KK L P q T Ap Ao At cp co ct Pp Hp cP cH t1 t V) => (⟨HXc.out V hV.old, hV.box.cell (k := 0) rfl, hV.box.cell (k := 1) rfl, hV.box.cell (k := 2) rfl, hV.box.cell (k := 3) rfl, hV.box.cell (k := 4) rfl, hV.box.cell (k := 5) rfl⟩ : V.cell? ⟨bx, ox + k, none⟩ = some (.int .i64 x) ∧ V.cell? ⟨G, 0, none⟩ = some (.slice Ap L.length cp) ∧ V.cell? ⟨G, 1, none⟩ = some (.slice Ao q co) ∧ V.cell? ⟨G, 2, none⟩ = some (.slice At T.length ct) ∧ V.cell? ⟨G, 3, none⟩ = some (.int .i64 t) ∧ V.cell? ⟨G, 4, none⟩ = some (.slice Pp L.length cP) ∧ V.cell? ⟨G, 5, none⟩ = some (.slice Hp q cH)))
              have HR := Lib.hid (fun V (hV : PlayR W0 W0.heap.size lo hi p G KK L P q T Ap Ao At cp co ct Pp Hp cP cH t t V) => show Calls Tryd.prog 7 #[.pointer (some ⟨p, 0, none⟩), .int .i64 x] V (fun e w' => e = .returned (.iface 55 (.int .i64 1)) ∧ PlayR W0 W0.heap.size lo hi p G KK L P q T Ap Ao At cp co ct Pp Hp cP cH t t w') from Run_play1 hV x hA)
              have HTk := Lib.hid (fun V (hV : PlayR W0 W0.heap.size lo hi p G KK L P q T Ap Ao At cp co ct Pp Hp cP cH t t V) => Tick_play hV)
              have HSa := Lib.hid (fun V (hV : PlayR W0 W0.heap.size lo hi p G KK L P q T Ap Ao At cp co ct Pp Hp cP cH t t V) => (Save_play hV Hok.out hu300 HPW.out (Nat.le_refl _)).mono fun e w' ⟨he, hb⟩ => (⟨he, hV.below hb⟩ : _ ∧ PlayR W0 W0.heap.size lo hi p G KK L P q T Ap Ao At cp co ct Pp Hp cP cH t t w'))
              have HRS := Lib.hid (fun V (hV : PlayR W0 W0.heap.size lo hi p G KK L P q T Ap Ao At cp co ct Pp Hp cP cH t t V) => (RSave_play hV Hok.out hu300).mono fun e w' ⟨he, hb⟩ => (⟨he, hV.below hb⟩ : _ ∧ PlayR W0 W0.heap.size lo hi p G KK L P q T Ap Ao At cp co ct Pp Hp cP cH t t w'))
              have HEe := Lib.hid (fun V (hV : PlayR W0 W0.heap.size lo hi p G KK L P q T Ap Ao At cp co ct Pp Hp cP cH t t V) => (Error_is1 V (HEW.out V hV.old)).mono fun e w' ⟨he, hb⟩ => (⟨he, hV.below hb⟩ : _ ∧ PlayR W0 W0.heap.size lo hi p G KK L P q T Ap Ao At cp co ct Pp Hp cP cH t t w'))
              obtain ⟨str, hstr⟩ : ∃ str, saveH (sAt L T t) t L.length q = str := ⟨_, rfl⟩
              simp only [hstr] at HSa HRS
              clear hstr
              have hpd := hp.below ((Below.refl _ _).drew)
              have hk0 : (0 : Int) ≤ (k : Int) := by omega
              have hkx : (k : Int) < (X.length : Int) := by omega
              go_region_held3 (fun V => V.cell? ⟨bx, ox + k, none⟩ = some (.int .i64 x) ∧ V.cell? ⟨G, 0, none⟩ = some (.slice Ap L.length cp) ∧ V.cell? ⟨G, 1, none⟩ = some (.slice Ao q co) ∧ V.cell? ⟨G, 2, none⟩ = some (.slice At T.length ct) ∧ V.cell? ⟨G, 3, none⟩ = some (.int .i64 t) ∧ V.cell? ⟨G, 4, none⟩ = some (.slice Pp L.length cP) ∧ V.cell? ⟨G, 5, none⟩ = some (.slice Hp q cH))
                ((first | exact HSv.out _ _ hp4 | exact HSv.out _ _ hp3 | exact HSv.out _ _ hp2 | exact HSv.out _ _ hp1 | exact HSv.out _ _ hpd))
                ((first
                  | (go_at_call 7; with_reducible refine (HR.out _ hpd).mono ?_; rintro e w1 ⟨rfl, hp1⟩)
                  | (go_at_call 13; with_reducible refine (HEe.out _ hp1).mono ?_; rintro e w2 ⟨rfl, hp2⟩)
                  | (go_at_call 10; with_reducible refine (HTk.out _ hp2).mono ?_; rintro e w' ⟨rfl, rfl⟩)
                  | (go_at_call 9; with_reducible refine (HSa.out _ hp2).mono ?_; rintro e w3 ⟨rfl, hp3⟩)
                  | (go_at_call 17; refine (HRS.out _ hp3).mono ?_; rintro e w4 ⟨rfl, hp4⟩)
                  | fail))
              clear HSv HR HTk HSa HRS HEe hpd hp1 hp2 hp3 hp
              go_wp2_with fail
              go_loopw [12] (fun i wz => ∃ j : Nat, i = .int .i64 j ∧ j ≤ L.length ∧ PlayR W0 W0.heap.size lo hi p G KK L P q T Ap Ao At cp co ct Pp Hp cP cH t t wz) (fun i _ => L.length - (intOf i).toNat)
              case atStart => exact ⟨0, rfl, Nat.zero_le _, hp4⟩
              case round =>
                clear hp4
                obtain ⟨wz, rfl⟩ : ∃ wz : World, wz = wr := ⟨_, rfl⟩
                obtain ⟨j, rfl, hj, hp⟩ := hrel
                have x0 := (HX0.out.all hp.old).cell (k := 0) rfl
                by_cases hlt3 : j < L.length
                · obtain ⟨bp, op, bm, om, ni, ci, hPp, cr, hle, hni, hrow⟩ := hp.row hlt3
                  subst hPp
                  have hnl : (partNums ((sAt L T t).parts j)).length = ni := by rw [partNums_len]; omega
                  obtain ⟨k', c', hk', cut0⟩ := run_ints_from bm om ni ci 5 (by omega) hle
                  have hrow5 : IntsAt wz (some ⟨bm, om + k', none⟩) ((sAt L T t).parts j).shown := hrow.tail 5 k' (by omega)
                  have HSh := Lib.hid (fun V (hV : Below wz.heap.size wz V) => (Shown_play (hp.below hV) Hok.out hu300 hlt3).mono fun e w' ⟨⟨A, c, he, hi⟩, hb⟩ => (⟨⟨A, c, he, hi⟩, hV.trans (hb.mono hV.size)⟩ : (∃ (A : Option Addr) (c : Nat), e = Ending.returned (.slice A ((sAt L T t).parts j).shown.length c) ∧ IntsAt w' A ((sAt L T t).parts j).shown) ∧ Below wz.heap.size wz w'))
                  have hsl := ((sAt_inv Hok.out t).shown j).1
                  clear hrow hnl hk'
                  obtain ⟨sh, hsh⟩ : ∃ sh, ((sAt L T t).parts j).shown = sh := ⟨_, rfl⟩
                  rw [hsh] at hrow5 hsl hni
                  simp only [hsh] at HSh
                  clear hsh
                  have cut : ∀ V : World, (Instr.sliceAt 24 (.slice (some ⟨bm, om, none⟩) ni ci) (some (.int .i64 5)) none none).run Tryd.prog V = .ok (.slice (some ⟨bm, om + k', none⟩) sh.length c') V := fun V => by
                    have := cut0 V
                    rw [show ni - 5 = sh.length by omega] at this
                    exact this
                  have HIn := Lib.hid (fun V A c (hV : Below wz.heap.size wz V) (hA : IntsAt V A sh) => (Ints_any sh sh A (some ⟨bm, om + k', none⟩) c c' V hA (hrow5.below hV) (by omega)).mono fun e w' ⟨he, hn⟩ => (⟨by rw [he]; simp, hn⟩ : e = Ending.returned (.bool true) ∧ ∃ n, w' = V.drewN n))
                  have HS3 := Lib.hid (fun V (hV : Below wz.heap.size wz V) => (⟨(hp.box.all hV).cell (k := 4) rfl, (hV.cell (p := ⟨bp, op + j, none⟩) (block_lt cr)).trans cr⟩ : V.cell? ⟨G, 4, none⟩ = some (.slice (some ⟨bp, op, none⟩) L.length cP) ∧ V.cell? ⟨bp, op + j, none⟩ = some (.slice (some ⟨bm, om, none⟩) ni ci)))
                  have hbd := (Below.refl wz.heap.size wz).drew
                  have hj0 : (0 : Int) ≤ (j : Int) := by omega
                  have hjx : (j : Int) < (L.length : Int) := by omega
                  have hn5 : (5 : Int) ≤ (ni : Int) := by omega
                  clear cut0 hrow5 hsl hni
                  go_wp2_with fail
                  go_region_held3 (fun V => V.cell? ⟨G, 4, none⟩ = some (.slice (some ⟨bp, op, none⟩) L.length cP) ∧ V.cell? ⟨bp, op + j, none⟩ = some (.slice (some ⟨bm, om, none⟩) ni ci))
                    ((first | exact HS3.out _ hb2 | exact HS3.out _ hb1 | exact HS3.out _ hbd))
                    ((first
                      | (go_at_call 8; with_reducible refine (HSh.out _ hbd).mono ?_; rintro e w1 ⟨⟨A1, c1, rfl, i1⟩, hb1⟩)
                      | (go_at_call 11; with_reducible refine (HIn.out _ A1 c1 hb1 i1).mono ?_; rintro e w' ⟨rfl, nd, rfl⟩; have hb2 := belowD hb1 nd)
                      | fail))
                  go_wp2_with fail
                  refine ⟨⟨j + 1, ?ya, ?yb, hp.below hb2⟩, ?yd⟩
                  case ya => go_num
                  case yb => omega
                  case yd => simp [intOf]; omega
                · have hjl : j = L.length := by omega
                  subst hjl
                  have djj : decide ((L.length : Int) < (L.length : Int)) = false := by simp
                  go_wp2_with fail
                  refine ⟨⟨k + 1, t, Pp, Hp, cP, cH, ?za, ?zb, hu300, hp⟩, ?zd⟩
                  case za => go_num
                  case zb => omega
                  case zd => simp [intOf]; omega
          · have a1 : decide (x < 0) = false := by simp; omega
            have a2 : decide (x > 300) = true := by simp; omega
            go_wp2_with fail
            clear cx0
            go_loopw [11] (fun i wz => i = .int .i64 ((0 : Nat) : Int) ∧ PlayR W0 W0.heap.size lo hi p G KK L P q T Ap Ao At cp co ct Pp Hp cP cH t t wz) (fun _ _ => 0)
            case atStart => exact ⟨rfl, hp⟩
            case round =>
              clear hp
              obtain ⟨wz, rfl⟩ : ∃ wz : World, wz = wr := ⟨_, rfl⟩
              obtain ⟨rfl, hp⟩ := hrel
              have cxz := HXc.out _ hp.old
              go_wp2_with fail
              have HSv := Lib.hid (fun V (t1 : Nat) (hV : PlayR W0 W0.heap.size lo hi p G KK L P q T Ap Ao At cp co ct Pp Hp cP cH t1 t V) => (⟨HXc.out V hV.old, hV.box.cell (k := 0) rfl, hV.box.cell (k := 1) rfl, hV.box.cell (k := 2) rfl, hV.box.cell (k := 3) rfl, hV.box.cell (k := 4) rfl, hV.box.cell (k := 5) rfl⟩ : V.cell? ⟨bx, ox + k, none⟩ = some (.int .i64 x) ∧ V.cell? ⟨G, 0, none⟩ = some (.slice Ap L.length cp) ∧ V.cell? ⟨G, 1, none⟩ = some (.slice Ao q co) ∧ V.cell? ⟨G, 2, none⟩ = some (.slice At T.length ct) ∧ V.cell? ⟨G, 3, none⟩ = some (.int .i64 t) ∧ V.cell? ⟨G, 4, none⟩ = some (.slice Pp L.length cP) ∧ V.cell? ⟨G, 5, none⟩ = some (.slice Hp q cH)))
              have HR := Lib.hid (fun V (hV : PlayR W0 W0.heap.size lo hi p G KK L P q T Ap Ao At cp co ct Pp Hp cP cH t t V) => show Calls Tryd.prog 7 #[.pointer (some ⟨p, 0, none⟩), .int .i64 x] V (fun e w' => e = .returned (.iface 55 (.int .i64 1)) ∧ PlayR W0 W0.heap.size lo hi p G KK L P q T Ap Ao At cp co ct Pp Hp cP cH t t w') from Run_play1 hV x hA)
              have HTk := Lib.hid (fun V (hV : PlayR W0 W0.heap.size lo hi p G KK L P q T Ap Ao At cp co ct Pp Hp cP cH t t V) => Tick_play hV)
              have HSa := Lib.hid (fun V (hV : PlayR W0 W0.heap.size lo hi p G KK L P q T Ap Ao At cp co ct Pp Hp cP cH t t V) => (Save_play hV Hok.out hu300 HPW.out (Nat.le_refl _)).mono fun e w' ⟨he, hb⟩ => (⟨he, hV.below hb⟩ : _ ∧ PlayR W0 W0.heap.size lo hi p G KK L P q T Ap Ao At cp co ct Pp Hp cP cH t t w'))
              have HRS := Lib.hid (fun V (hV : PlayR W0 W0.heap.size lo hi p G KK L P q T Ap Ao At cp co ct Pp Hp cP cH t t V) => (RSave_play hV Hok.out hu300).mono fun e w' ⟨he, hb⟩ => (⟨he, hV.below hb⟩ : _ ∧ PlayR W0 W0.heap.size lo hi p G KK L P q T Ap Ao At cp co ct Pp Hp cP cH t t w'))
              have HEe := Lib.hid (fun V (hV : PlayR W0 W0.heap.size lo hi p G KK L P q T Ap Ao At cp co ct Pp Hp cP cH t t V) => (Error_is1 V (HEW.out V hV.old)).mono fun e w' ⟨he, hb⟩ => (⟨he, hV.below hb⟩ : _ ∧ PlayR W0 W0.heap.size lo hi p G KK L P q T Ap Ao At cp co ct Pp Hp cP cH t t w'))
              obtain ⟨str, hstr⟩ : ∃ str, saveH (sAt L T t) t L.length q = str := ⟨_, rfl⟩
              simp only [hstr] at HSa HRS
              clear hstr
              have hpd := hp.below ((Below.refl _ _).drew)
              have hk0 : (0 : Int) ≤ (k : Int) := by omega
              have hkx : (k : Int) < (X.length : Int) := by omega
              go_region_held3 (fun V => V.cell? ⟨bx, ox + k, none⟩ = some (.int .i64 x) ∧ V.cell? ⟨G, 0, none⟩ = some (.slice Ap L.length cp) ∧ V.cell? ⟨G, 1, none⟩ = some (.slice Ao q co) ∧ V.cell? ⟨G, 2, none⟩ = some (.slice At T.length ct) ∧ V.cell? ⟨G, 3, none⟩ = some (.int .i64 t) ∧ V.cell? ⟨G, 4, none⟩ = some (.slice Pp L.length cP) ∧ V.cell? ⟨G, 5, none⟩ = some (.slice Hp q cH))
                ((first | exact HSv.out _ _ hp4 | exact HSv.out _ _ hp3 | exact HSv.out _ _ hp2 | exact HSv.out _ _ hp1 | exact HSv.out _ _ hpd))
                ((first
                  | (go_at_call 7; with_reducible refine (HR.out _ hpd).mono ?_; rintro e w1 ⟨rfl, hp1⟩)
                  | (go_at_call 13; with_reducible refine (HEe.out _ hp1).mono ?_; rintro e w2 ⟨rfl, hp2⟩)
                  | (go_at_call 10; with_reducible refine (HTk.out _ hp2).mono ?_; rintro e w' ⟨rfl, rfl⟩)
                  | (go_at_call 9; with_reducible refine (HSa.out _ hp2).mono ?_; rintro e w3 ⟨rfl, hp3⟩)
                  | (go_at_call 17; refine (HRS.out _ hp3).mono ?_; rintro e w4 ⟨rfl, hp4⟩)
                  | fail))
              clear HSv HR HTk HSa HRS HEe hpd hp1 hp2 hp3 hp
              go_wp2_with fail
              go_loopw [12] (fun i wz => ∃ j : Nat, i = .int .i64 j ∧ j ≤ L.length ∧ PlayR W0 W0.heap.size lo hi p G KK L P q T Ap Ao At cp co ct Pp Hp cP cH t t wz) (fun i _ => L.length - (intOf i).toNat)
              case atStart => exact ⟨0, rfl, Nat.zero_le _, hp4⟩
              case round =>
                clear hp4
                obtain ⟨wz, rfl⟩ : ∃ wz : World, wz = wr := ⟨_, rfl⟩
                obtain ⟨j, rfl, hj, hp⟩ := hrel
                have x0 := (HX0.out.all hp.old).cell (k := 0) rfl
                by_cases hlt3 : j < L.length
                · obtain ⟨bp, op, bm, om, ni, ci, hPp, cr, hle, hni, hrow⟩ := hp.row hlt3
                  subst hPp
                  have hnl : (partNums ((sAt L T t).parts j)).length = ni := by rw [partNums_len]; omega
                  obtain ⟨k', c', hk', cut0⟩ := run_ints_from bm om ni ci 5 (by omega) hle
                  have hrow5 : IntsAt wz (some ⟨bm, om + k', none⟩) ((sAt L T t).parts j).shown := hrow.tail 5 k' (by omega)
                  have HSh := Lib.hid (fun V (hV : Below wz.heap.size wz V) => (Shown_play (hp.below hV) Hok.out hu300 hlt3).mono fun e w' ⟨⟨A, c, he, hi⟩, hb⟩ => (⟨⟨A, c, he, hi⟩, hV.trans (hb.mono hV.size)⟩ : (∃ (A : Option Addr) (c : Nat), e = Ending.returned (.slice A ((sAt L T t).parts j).shown.length c) ∧ IntsAt w' A ((sAt L T t).parts j).shown) ∧ Below wz.heap.size wz w'))
                  have hsl := ((sAt_inv Hok.out t).shown j).1
                  clear hrow hnl hk'
                  obtain ⟨sh, hsh⟩ : ∃ sh, ((sAt L T t).parts j).shown = sh := ⟨_, rfl⟩
                  rw [hsh] at hrow5 hsl hni
                  simp only [hsh] at HSh
                  clear hsh
                  have cut : ∀ V : World, (Instr.sliceAt 24 (.slice (some ⟨bm, om, none⟩) ni ci) (some (.int .i64 5)) none none).run Tryd.prog V = .ok (.slice (some ⟨bm, om + k', none⟩) sh.length c') V := fun V => by
                    have := cut0 V
                    rw [show ni - 5 = sh.length by omega] at this
                    exact this
                  have HIn := Lib.hid (fun V A c (hV : Below wz.heap.size wz V) (hA : IntsAt V A sh) => (Ints_any sh sh A (some ⟨bm, om + k', none⟩) c c' V hA (hrow5.below hV) (by omega)).mono fun e w' ⟨he, hn⟩ => (⟨by rw [he]; simp, hn⟩ : e = Ending.returned (.bool true) ∧ ∃ n, w' = V.drewN n))
                  have HS3 := Lib.hid (fun V (hV : Below wz.heap.size wz V) => (⟨(hp.box.all hV).cell (k := 4) rfl, (hV.cell (p := ⟨bp, op + j, none⟩) (block_lt cr)).trans cr⟩ : V.cell? ⟨G, 4, none⟩ = some (.slice (some ⟨bp, op, none⟩) L.length cP) ∧ V.cell? ⟨bp, op + j, none⟩ = some (.slice (some ⟨bm, om, none⟩) ni ci)))
                  have hbd := (Below.refl wz.heap.size wz).drew
                  have hj0 : (0 : Int) ≤ (j : Int) := by omega
                  have hjx : (j : Int) < (L.length : Int) := by omega
                  have hn5 : (5 : Int) ≤ (ni : Int) := by omega
                  clear cut0 hrow5 hsl hni
                  go_wp2_with fail
                  go_region_held3 (fun V => V.cell? ⟨G, 4, none⟩ = some (.slice (some ⟨bp, op, none⟩) L.length cP) ∧ V.cell? ⟨bp, op + j, none⟩ = some (.slice (some ⟨bm, om, none⟩) ni ci))
                    ((first | exact HS3.out _ hb2 | exact HS3.out _ hb1 | exact HS3.out _ hbd))
                    ((first
                      | (go_at_call 8; with_reducible refine (HSh.out _ hbd).mono ?_; rintro e w1 ⟨⟨A1, c1, rfl, i1⟩, hb1⟩)
                      | (go_at_call 11; with_reducible refine (HIn.out _ A1 c1 hb1 i1).mono ?_; rintro e w' ⟨rfl, nd, rfl⟩; have hb2 := belowD hb1 nd)
                      | fail))
                  go_wp2_with fail
                  refine ⟨⟨j + 1, ?ya, ?yb, hp.below hb2⟩, ?yd⟩
                  case ya => go_num
                  case yb => omega
                  case yd => simp [intOf]; omega
                · have hjl : j = L.length := by omega
                  subst hjl
                  have djj : decide ((L.length : Int) < (L.length : Int)) = false := by simp
                  go_wp2_with fail
                  refine ⟨⟨k + 1, t, Pp, Hp, cP, cH, ?za, ?zb, hu300, hp⟩, ?zd⟩
                  case za => go_num
                  case zb => omega
                  case zd => simp [intOf]; omega
      · have d30 : decide ((k : Int) < 30) = false := by simp; omega
        have d30' : decide (k < 30) = false := by simp; omega
        have HN1 := Lib.hid (fun V (hV : PlayR W0 W0.heap.size lo hi p G KK L P q T Ap Ao At cp co ct Pp Hp cP cH t t V) => Shown_none hV hL5 (-1) (by omega))
        have HN2 := Lib.hid (fun V (hV : PlayR W0 W0.heap.size lo hi p G KK L P q T Ap Ao At cp co ct Pp Hp cP cH t t V) => Shown_none hV hL5 (L.length : Int) (by omega))
        have x0 := (HX0.out.all hp.old).cell (k := 0) rfl
        go_wp2_with (first | (go_at_call 8; with_reducible refine (HN1.out _ hp).mono ?_; rintro e w' ⟨rfl, rfl⟩) | (go_at_call 8; with_reducible refine (HN2.out _ hp).mono ?_; rintro e w' ⟨rfl, rfl⟩))
        go_ret
        exact ⟨rfl, HW0.out.trans (hp.old.mono HW0.out.size)⟩
    · have dx : decide ((k : Int) < (X.length : Int)) = false := by simp; omega
      have HN1 := Lib.hid (fun V (hV : PlayR W0 W0.heap.size lo hi p G KK L P q T Ap Ao At cp co ct Pp Hp cP cH t t V) => Shown_none hV hL5 (-1) (by omega))
      have HN2 := Lib.hid (fun V (hV : PlayR W0 W0.heap.size lo hi p G KK L P q T Ap Ao At cp co ct Pp Hp cP cH t t V) => Shown_none hV hL5 (L.length : Int) (by omega))
      have x0 := (HX0.out.all hp.old).cell (k := 0) rfl
      go_wp2_with (first | (go_at_call 8; with_reducible refine (HN1.out _ hp).mono ?_; rintro e w' ⟨rfl, rfl⟩) | (go_at_call 8; with_reducible refine (HN2.out _ hp).mono ?_; rintro e w' ⟨rfl, rfl⟩))
      go_ret
      exact ⟨rfl, HW0.out.trans (hp.old.mono HW0.out.size)⟩
end Go.Proofs.YtgkanbaboeppfaaDoor
