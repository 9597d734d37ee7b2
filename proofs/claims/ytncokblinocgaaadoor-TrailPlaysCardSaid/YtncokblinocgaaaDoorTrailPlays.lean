/-
  The walk of TrailPlays.
-/
import Derived.Test.YtncokblinocgaaaDoorRTrP
import Derived.Test.YtncokblinocgaaaDoorTrM
import Derived.Test.YtncokblinocgaaaDoorDoorA
import Derived.Test.YtncokblinocgaaaDoorBellV
import Derived.Deep.RegionHeld3
import Derived.Deep.CutRange
namespace Go.Proofs.YtncokblinocgaaaDoor
open Go.RowKit
set_option maxRecDepth 100000
set_option linter.unusedVariables false

set_option maxHeartbeats 1000000 in
theorem TrailPlays_bad (m : Nat) (U : List Int) (Ua : Option Addr) (Uc : Nat) (hU : U.length = m * 2) (sU : m * 2 < 2 ^ 47) (n : Nat) (F : List Int) (Fa : Option Addr) (Fc : Nat) (hF : F.length = n * 2) (sF : n * 2 < 2 ^ 47)
    (q : Nat) (Ka : Option Addr) (Kc : Nat) (w : World) (iU : IntsAt w Ua U) (iF : IntsAt w Fa F) (hE : ErrT w) (h12 : ¬ (labsCode U m 8 = 0 ∧ labsCode F n 8 = 0)) :
    Calls Tryd.prog 3 #[.slice Ua m Uc, .slice Fa n Fc, .slice Ka q Kc] w fun e w' => e = .returned (.bool true) ∧ Below w.heap.size w w' := by
  obtain ⟨kk, hk⟩ : ∃ kk, (if labsCode U m 8 = 0 then labsCode F n 8 else labsCode U m 8) = kk := ⟨_, rfl⟩
  have hne : kk ≠ 0 := by
    rw [← hk]
    split
    · rename_i h; exact fun e => h12 ⟨h, e⟩
    · rename_i h; exact h
  have hk2 : kk = if labsCode U m 8 ≠ 0 then labsCode U m 8 else labsCode F n 8 := by
    rw [← hk]
    by_cases h : labsCode U m 8 = 0
    · rw [if_pos h, if_neg (fun e => e h)]
    · rw [if_neg h, if_pos h]
  have HR := Lib.hid (RNewBell_bad U F m n hU hF Ua Fa Uc Fc w iU iF (by omega) (by omega) kk hk hne)
  have HN := Lib.hid (fun V h1 h2 => TNew_bad U F m n hU hF Ua Fa Uc Fc V h1 h2 (by omega) (by omega) kk hk2 hne)
  have hz : ((kk : Int) == 0) = false := by simpa using hne
  have hz' : (kk : Int) ≠ 0 := by omega
  clear hk hk2 h12
  go_enter Tryd.func3, Tryd.ntmps3
  go_wp2_with fail
  refine HR.out.mono ?_
  rintro e w1 ⟨rfl, hb1⟩
  go_wp2_with fail
  have hb2 : Below w.heap.size w (w1.alloc (.cells #[.slice none 0 0, .slice none 0 0, .slice none 0 0, .slice none 0 0, .slice none 0 0] 26)) := hb1.alloc hb1.size _
  generalize w1.alloc (.cells #[.slice none 0 0, .slice none 0 0, .slice none 0 0, .slice none 0 0, .slice none 0 0] 26) = w2 at *
  refine (HN.out _ (iU.below hb2) (iF.below hb2)).mono ?_
  rintro e w3 ⟨rfl, hb3⟩
  have hb03 := hb2.trans (hb3.mono hb2.size)
  have HE := Error_is kk kk true w3 (hE.next hb03) (by simp)
  rw [errVal_pos hne] at HE
  have HE := Lib.hid HE
  go_wp2_with fail
  refine HE.out.mono ?_
  rintro e w4 ⟨rfl, hb4⟩
  go_wp2_with fail
  go_ret
  exact ⟨rfl, hb03.trans (hb4.mono hb03.size)⟩

set_option maxHeartbeats 8000000 in
theorem TrailPlays_walk (m : Nat) (U : List Int) (Ua : Option Addr) (Uc : Nat) {W : World} (hU : U.length = m * 2) (iU : IntsAt W Ua U) (sU : m * 2 < 2 ^ 47) (bU : ∀ x ∈ U, I64 x) (n : Nat) (F : List Int) (Fa : Option Addr) (Fc : Nat) (hF : F.length = n * 2) (iF : IntsAt W Fa F) (sF : n * 2 < 2 ^ 47) (bF : ∀ x ∈ F, I64 x)
    (q : Nat) (K : List Int) (Ka : Option Addr) (Kc : Nat) (hn : K.length = q * 4) (hK : IntsAt W Ka K) (sK : q * 4 < 2 ^ 47) (bK : ∀ x ∈ K, I64 x) (w : World) (hw : w = W) (hG : Glob W) :
    Calls Tryd.prog 3 #[.slice Ua m Uc, .slice Fa n Fc, .slice Ka q Kc] w fun e w' => e = .returned (.bool true) ∧ Below W.heap.size W w' := by
  subst hw
  by_cases h12 : labsCode U m 8 = 0 ∧ labsCode F n 8 = 0
  · have hL : LabsOk m n U F := ⟨h12.1, h12.2, hU, hF⟩
    have HR := Lib.hid (RNewBell_ok U F m n hU hF Ua Fa Uc Fc w iU iF h12.1 h12.2)
    have HN := Lib.hid (fun V h1 h2 => TNew_ok U F m n hU hF Ua Fa Uc Fc V h1 h2 h12.1 h12.2)
    have hl0 : TLen m n U F (tStart m n) := TLen.start hL.m8 hL.n8
    have Hl0 := Lib.hid hl0
    have hre : (lStart m n).Re.length = m := hl0.re
    have hho : (lStart m n).Ho.length = n := hl0.ho
    clear hl0 h12
    go_enter Tryd.func3, Tryd.ntmps3
    go_wp2_with fail
    refine HR.out.mono ?_
    rintro e w1 ⟨⟨v, rfl, hRL⟩, hb1⟩
    have hs1 := hb1.size
    obtain ⟨a1, a2, a3, a4, a5, c1, c2, c3, c4, c5, rfl, i1, i2, i3, i4, i5⟩ := hRL.is
    rw [hre, hho]
    clear HR hRL
    go_wp2_with fail
    have hbx := BoxN.new w1 26 #[.slice a1 m c1, .slice a2 n c2, .slice a3 m c3, .slice a4 m c4, .slice a5 n c5]
    have hbb : Below w1.heap.size w1 (w1.alloc (.cells #[.slice a1 m c1, .slice a2 n c2, .slice a3 m c3, .slice a4 m c4, .slice a5 n c5] 26)) := (Below.refl _ _).alloc (Nat.le_refl _) _
    have hsz : (w1.alloc (.cells #[.slice a1 m c1, .slice a2 n c2, .slice a3 m c3, .slice a4 m c4, .slice a5 n c5] 26)).heap.size = w1.heap.size + 1 := by simp
    generalize w1.alloc (.cells #[.slice a1 m c1, .slice a2 n c2, .slice a3 m c3, .slice a4 m c4, .slice a5 n c5] 26) = w2 at *
    have hb02 := hb1.trans (hbb.mono hs1)
    refine (HN.out _ (iU.below hb02) (iF.below hb02)).mono ?_
    rintro e w3 ⟨⟨b, p, v, A, own, rfl, hT⟩, hb3⟩
    have hb03 := hb02.trans (hb3.mono hb02.size)
    have hX := hbx.all hb3
    have x0 := hX.cell (k := 0) rfl
    have x1 := hX.cell (k := 1) rfl
    have x2 := hX.cell (k := 2) rfl
    have x3 := hX.cell (k := 3) rfl
    have x4 := hX.cell (k := 4) rfl
    have hba : Below w3.heap.size w3 (w3.alloc (.cells #[.slice a1 m c1, .slice a2 n c2, .slice a3 m c3, .slice a4 m c4, .slice a5 n c5, .string ⟨#[]⟩, .int .i64 0, .int .i64 0] 36)) := (Below.refl _ _).alloc (Nat.le_refl _) _
    have hs2 := hb02.size
    have hs3 := hb3.size
    have hlt_ : ∀ {Aa : Option Addr} {l : List Int}, IntsIn (fun _ => True) w1 Aa l → IntsIn (fun g => ¬ own g ∧ g ≠ w3.heap.size) w3 Aa l := fun h => h.to (fun g _ hg => (hb3.block g (by omega)).trans (hbb.block g hg)) (fun g hg _ => ⟨fun ho => by have := hT.low g ho; omega, by omega⟩)
    have hP : Play w (w3.alloc (.cells #[.slice a1 m c1, .slice a2 n c2, .slice a3 m c3, .slice a4 m c4, .slice a5 n c5, .string ⟨#[]⟩, .int .i64 0, .int .i64 0] 36)) w3.heap.size b p v A own U F (tStart m n) #[.slice a1 m c1, .slice a2 n c2, .slice a3 m c3, .slice a4 m c4, .slice a5 n c5, .string ⟨#[]⟩, .int .i64 0, .int .i64 0] := by
      refine ⟨(hT.lower hb02.size).below hba, BoxN.new _ _ _, fun ho => by have := hT.lt _ ho; omega, ?_, hb03.size, hb03.trans (hba.mono hb03.size)⟩
      refine RT.below (w := w3) ⟨a1, a2, a3, a4, a5, c1, c2, c3, c4, c5, ?_, hlt_ i1, hlt_ i2, hlt_ i3, hlt_ i4, hlt_ i5⟩ hba
      show Value.agg _ = Value.agg #[.slice a1 (lStart m n).Re.length c1, .slice a2 (lStart m n).Ho.length c2, .slice a3 (lStart m n).Re.length c3, .slice a4 (lStart m n).Re.length c4, .slice a5 (lStart m n).Ho.length c5, .string ⟨#[]⟩, .int .i64 0, .int .i64 0]
      rw [hre, hho]
    have HP := Lib.hid hP
    clear hP hlt_ hT i1 i2 i3 i4 i5 HN hba hbx hbb hX hb3 hb02 hb03
    go_wp2_with fail
    generalize w3.alloc (.cells #[.slice a1 m c1, .slice a2 n c2, .slice a3 m c3, .slice a4 m c4, .slice a5 n c5, .string ⟨#[]⟩, .int .i64 0, .int .i64 0] 36) = w4 at *
    generalize w3.heap.size = xb at *
    clear x0 x1 x2 x3 x4
    go_loopw [12, 13, 14] (fun i _ _ wr => ∃ (k : Nat) (T : TS) (vs : Array Value) (v : Value) (own : Nat → Prop), k ≤ q ∧ i = .int .i64 k ∧ Hid (TLen m n U F T) ∧ Hid (Play w wr xb b p v A own U F T vs)) (fun i _ _ _ => q - (intOf i).toNat)
    case atStart => exact ⟨0, _, _, v, own, Nat.zero_le _, rfl, Hl0, HP⟩
    case round =>
      clear HP Hl0
      obtain ⟨k, T, vs, v, own, hk, rfl, HL, HP⟩ := hrel
      obtain ⟨a1, a2, a3, a4, a5, c1, c2, c3, c4, c5, hvs, -, -, i3, i4, i5⟩ := HP.out.rt.is
      injection hvs with hvs
      subst hvs
      have HI3 := Lib.hid i3
      have HI4 := Lib.hid i4
      have HI5 := Lib.hid i5
      clear i3 i4 i5
      have hre := HL.out.re
      have hho := HL.out.ho
      by_cases hlt : k < q ∧ k < 110
      · obtain ⟨hkn, hk110⟩ := hlt
        obtain ⟨kb, off, rfl, hc⟩ := hK (by intro e; simp [e] at hn; omega)
        have p0 := hc (k * 4) _ (get_gI (by omega))
        have hbw : kb < w.heap.size := block_lt p0
        have hbr := HP.out.bw
        have q0 := (hbr.cell (p := ⟨kb, _, none⟩) hbw).trans p0
        have q1 : wr.cell? ⟨kb, off + k * 4 + 1, none⟩ = some (.int .i64 (gI K (k * 4 + 1))) := (hbr.cell (p := ⟨kb, _, none⟩) hbw).trans (hc (k * 4 + 1) _ (get_gI (by omega)))
        have q2 : wr.cell? ⟨kb, off + k * 4 + 2, none⟩ = some (.int .i64 (gI K (k * 4 + 2))) := (hbr.cell (p := ⟨kb, _, none⟩) hbw).trans (hc (k * 4 + 2) _ (get_gI (by omega)))
        have q3 : wr.cell? ⟨kb, off + k * 4 + 3, none⟩ = some (.int .i64 (gI K (k * 4 + 3))) := (hbr.cell (p := ⟨kb, _, none⟩) hbw).trans (hc (k * 4 + 3) _ (get_gI (by omega)))
        have HQ := Lib.hid (⟨p0, hc (k * 4 + 1) _ (get_gI (by omega)), hc (k * 4 + 2) _ (get_gI (by omega)), hc (k * 4 + 3) _ (get_gI (by omega))⟩ : w.cell? ⟨kb, off + k * 4, none⟩ = some (.int .i64 (gI K (k * 4))) ∧ w.cell? ⟨kb, off + k * 4 + 1, none⟩ = some (.int .i64 (gI K (k * 4 + 1))) ∧ w.cell? ⟨kb, off + k * 4 + 2, none⟩ = some (.int .i64 (gI K (k * 4 + 2))) ∧ w.cell? ⟨kb, off + k * 4 + 3, none⟩ = some (.int .i64 (gI K (k * 4 + 3))))
        clear p0 hc
        have d110 : decide ((k : Int) < 110) = true := by simp; omega
        generalize gI K (k * 4) = ak at *
        generalize gI K (k * 4 + 1) = au at *
        generalize gI K (k * 4 + 2) = af at *
        generalize gI K (k * 4 + 3) = at_ at *
        have hlU : ∀ i, i < T.S.Re.length → labOk (gI U (i * 2)) (gI U (i * 2 + 1)) := fun i hi => (labsCode_ok hL.cu).2 i (by omega)
        have hlF : ∀ i, i < T.S.Ho.length → labOk (gI F (i * 2)) (gI F (i * 2 + 1)) := fun i hi => (labsCode_ok hL.cf).2 i (by omega)
        have hlt := HP.out.tr.lt
        have CQ := Lib.hid (fun V (hV : Below wr.heap.size wr V) => (RTAsk_any (ok := fun g => (¬ own g ∧ g ≠ xb) ∧ (g < wr.heap.size ∨ V.heap.size ≤ g)) (RT.below (w := wr) (HP.out.rt.to (w' := wr) (fun _ _ _ => rfl) (fun g hg ho => ⟨ho, .inl hg⟩)) hV) HL.out.inv hlU hlF (by rw [hU, hre]) (by rw [hF, hho]) (fun g hg => ⟨⟨fun ho => by have := hlt g ho; have := hV.size; omega, by have := HP.out.box.lt; have := hV.size; omega⟩, .inr hg⟩) ak au af at_).mono fun e w' ⟨he, hb⟩ => (⟨he, hV.trans (hb.mono hV.size), hb⟩ : _ ∧ Below wr.heap.size wr w' ∧ Below V.heap.size V w'))
        have HL' := Lib.hid (HL.out.ask ak au af at_)
        have HAk := Lib.hid (fun V v own (hT : TrailAt w.heap.size own V b p v A U F T) (hV : Below w.heap.size w V) => TAsk_len hL hG hV hT HL.out ak au af at_)
        generalize tAsk U F T ak au af at_ = r at *
        obtain ⟨T1, code⟩ := r
        have hbA : Below wr.heap.size wr wr.drew := (Below.refl _ _).drew
        have hbB : Below wr.heap.size wr ((wr.alloc (.cells #[.slice none 0 0, .slice none 0 0, .slice none 0 0, .slice none 0 0, .slice none 0 0, .string ⟨#[]⟩, .int .i64 0, .int .i64 0] 36)).drew) := ((Below.refl _ _).alloc (Nat.le_refl _) _).drew
        have hZ : BoxN ((wr.alloc (.cells #[.slice none 0 0, .slice none 0 0, .slice none 0 0, .slice none 0 0, .slice none 0 0, .string ⟨#[]⟩, .int .i64 0, .int .i64 0] 36)).drew) wr.heap.size 36 #[.slice none 0 0, .slice none 0 0, .slice none 0 0, .slice none 0 0, .slice none 0 0, .string ⟨#[]⟩, .int .i64 0, .int .i64 0] := (BoxN.new wr _ _).drew
        have hXl := HP.out.box.lt
        have hbr1 : kb < wr.heap.size := Nat.lt_of_lt_of_le hbw hbr.size
        obtain ⟨⟨x0, x1, x2, x3, x4, x5, x6, x7⟩, -⟩ := BoxN.st8 HP.out.box
        obtain ⟨KP, hKP⟩ : ∃ KP : World → Prop, (fun V : World => V.cell? ⟨xb, 0, none⟩ = some (.slice a1 T.S.Re.length c1) ∧ V.cell? ⟨xb, 1, none⟩ = some (.slice a2 T.S.Ho.length c2) ∧ V.cell? ⟨xb, 2, none⟩ = some (.slice a3 T.S.Re.length c3) ∧ V.cell? ⟨xb, 3, none⟩ = some (.slice a4 T.S.Re.length c4) ∧ V.cell? ⟨xb, 4, none⟩ = some (.slice a5 T.S.Ho.length c5) ∧ V.cell? ⟨xb, 5, none⟩ = some (.string ⟨T.log.toArray⟩) ∧ V.cell? ⟨xb, 6, none⟩ = some (.int .i64 T.many) ∧ V.cell? ⟨xb, 7, none⟩ = some (.int .i64 T.chain) ∧ V.cell? ⟨kb, off + k * 4, none⟩ = some (.int .i64 ak) ∧ V.cell? ⟨kb, off + k * 4 + 1, none⟩ = some (.int .i64 au) ∧ V.cell? ⟨kb, off + k * 4 + 2, none⟩ = some (.int .i64 af) ∧ V.cell? ⟨kb, off + k * 4 + 3, none⟩ = some (.int .i64 at_)) = KP := ⟨_, rfl⟩
        have hKeep := Lib.hid (fun V (hV : Below wr.heap.size wr V) => (⟨(hV.cell (p := ⟨xb, 0, none⟩) hXl).trans x0, (hV.cell (p := ⟨xb, 1, none⟩) hXl).trans x1, (hV.cell (p := ⟨xb, 2, none⟩) hXl).trans x2, (hV.cell (p := ⟨xb, 3, none⟩) hXl).trans x3, (hV.cell (p := ⟨xb, 4, none⟩) hXl).trans x4, (hV.cell (p := ⟨xb, 5, none⟩) hXl).trans x5, (hV.cell (p := ⟨xb, 6, none⟩) hXl).trans x6, (hV.cell (p := ⟨xb, 7, none⟩) hXl).trans x7, (hV.cell (p := ⟨kb, off + k * 4, none⟩) hbr1).trans q0, (hV.cell (p := ⟨kb, off + k * 4 + 1, none⟩) hbr1).trans q1, (hV.cell (p := ⟨kb, off + k * 4 + 2, none⟩) hbr1).trans q2, (hV.cell (p := ⟨kb, off + k * 4 + 3, none⟩) hbr1).trans q3⟩ : V.cell? ⟨xb, 0, none⟩ = some (.slice a1 T.S.Re.length c1) ∧ V.cell? ⟨xb, 1, none⟩ = some (.slice a2 T.S.Ho.length c2) ∧ V.cell? ⟨xb, 2, none⟩ = some (.slice a3 T.S.Re.length c3) ∧ V.cell? ⟨xb, 3, none⟩ = some (.slice a4 T.S.Re.length c4) ∧ V.cell? ⟨xb, 4, none⟩ = some (.slice a5 T.S.Ho.length c5) ∧ V.cell? ⟨xb, 5, none⟩ = some (.string ⟨T.log.toArray⟩) ∧ V.cell? ⟨xb, 6, none⟩ = some (.int .i64 T.many) ∧ V.cell? ⟨xb, 7, none⟩ = some (.int .i64 T.chain) ∧ V.cell? ⟨kb, off + k * 4, none⟩ = some (.int .i64 ak) ∧ V.cell? ⟨kb, off + k * 4 + 1, none⟩ = some (.int .i64 au) ∧ V.cell? ⟨kb, off + k * 4 + 2, none⟩ = some (.int .i64 af) ∧ V.cell? ⟨kb, off + k * 4 + 3, none⟩ = some (.int .i64 at_)))
        clear hKP KP hre hho
        go_wp2_with fail
        go_cut [13, 14] from 48 to 75 (fun x13 x14 wx => ∃ (xc : Nat) (vs : Array Value), x13 = .pointer (some ⟨xc, 0, none⟩) ∧ x14 = .int .i64 code ∧ BoxN wx xc 36 vs ∧ xc ≠ xb ∧ RT (fun g => ¬ own g ∧ g ≠ xb) wx (.agg vs) U F T1 ∧ Below wr.heap.size wr wx)
        case first =>
          go_region_held3 (fun V => V.cell? ⟨xb, 0, none⟩ = some (.slice a1 T.S.Re.length c1) ∧ V.cell? ⟨xb, 1, none⟩ = some (.slice a2 T.S.Ho.length c2) ∧ V.cell? ⟨xb, 2, none⟩ = some (.slice a3 T.S.Re.length c3) ∧ V.cell? ⟨xb, 3, none⟩ = some (.slice a4 T.S.Re.length c4) ∧ V.cell? ⟨xb, 4, none⟩ = some (.slice a5 T.S.Ho.length c5) ∧ V.cell? ⟨xb, 5, none⟩ = some (.string ⟨T.log.toArray⟩) ∧ V.cell? ⟨xb, 6, none⟩ = some (.int .i64 T.many) ∧ V.cell? ⟨xb, 7, none⟩ = some (.int .i64 T.chain) ∧ V.cell? ⟨kb, off + k * 4, none⟩ = some (.int .i64 ak) ∧ V.cell? ⟨kb, off + k * 4 + 1, none⟩ = some (.int .i64 au) ∧ V.cell? ⟨kb, off + k * 4 + 2, none⟩ = some (.int .i64 af) ∧ V.cell? ⟨kb, off + k * 4 + 3, none⟩ = some (.int .i64 at_))
            ((refine hKeep.out _ ?_; repeat (first | with_reducible assumption | with_reducible exact hbA | with_reducible exact hbB | with_reducible refine Below.setCell ?_ (by simp) _ | with_reducible refine Below.alloc ?_ (by first | exact Nat.le_refl _ | exact Below.size (by assumption)) _ | with_reducible refine Below.drew ?_)))
            ((go_at_call 7; with_reducible refine (CQ.out _ (by first | with_reducible exact hbA | with_reducible exact hbB)).mono ?_; rintro e w5 ⟨⟨v', rfl, hR5⟩, hb5, hbv⟩; obtain ⟨s1, s2, s3, s4, s5, e1, e2, e3, e4, e5, hv5, -⟩ := hR5.is; subst hv5; try (have hz5 := BoxN.all hZ hbv; obtain ⟨⟨z0, z1, z2, z3, z4, z5, z6, z7⟩, fz0, fz1, fz2, fz3, fz4, fz5, fz6, fz7⟩ := BoxN.st8 hz5)))
          all_goals (go_wp2_with fail; go_meet)
          · exact ⟨w5.heap.size, _, rfl, rfl, BoxN.new _ _ _, by have := hb5.size; omega, (hR5.to (w' := w5) (fun _ _ _ => rfl) (fun g _ ho => ho.1)).below ((Below.refl _ _).alloc (Nat.le_refl _) _), hb5.alloc hb5.size _⟩
          · exact ⟨wr.heap.size, _, rfl, rfl, hz5.put8 _ _ _ _ _ _ _ _, by omega, hR5.to (fun g hg _ => put8_block (by have h1 := hg.2; simp at h1; omega) _ _ _ _ _ _ _ _) (fun g _ ho => ho.1), below_put8 hb5 (Nat.le_refl _) _ _ _ _ _ _ _ _⟩
        case rest =>
          obtain ⟨xc, vs, rfl, rfl, hC, hcx, hR5, hb5⟩ := hcut
          clear CQ hbA hbB hZ hKeep x0 x1 x2 x3 x4 x5 x6 x7
          obtain ⟨s1, s2, s3, s4, s5, e1, e2, e3, e4, e5, hvs, -⟩ := hR5.is
          injection hvs with hvs
          subst hvs
          have hX5 := HP.out.box.all hb5
          obtain ⟨⟨y0, y1, y2, y3, y4, y5, y6, y7⟩, -⟩ := BoxN.st8 hC
          obtain ⟨⟨x0, x1, x2, x3, x4, x5, x6, x7⟩, fx0, fx1, fx2, fx3, fx4, fx5, fx6, fx7⟩ := BoxN.st8 hX5
          have hx6 := hX5.put8 (.slice s1 T1.S.Re.length e1) (.slice s2 T1.S.Ho.length e2) (.slice s3 T1.S.Re.length e3) (.slice s4 T1.S.Re.length e4) (.slice s5 T1.S.Ho.length e5) (.string ⟨T1.log.toArray⟩) (.int .i64 T1.many) (.int .i64 T1.chain)
          have hb6 := below_put8 (hbr.trans (hb5.mono hbr.size)) HP.out.lowx (.slice s1 T1.S.Re.length e1) (.slice s2 T1.S.Ho.length e2) (.slice s3 T1.S.Re.length e3) (.slice s4 T1.S.Re.length e4) (.slice s5 T1.S.Ho.length e5) (.string ⟨T1.log.toArray⟩) (.int .i64 T1.many) (.int .i64 T1.chain)
          have hq6 := (((((((((QKeeps.of_below (S := fun g => g = xb) hb5).setCell (p := ⟨xb, 0, none⟩) rfl (.slice s1 T1.S.Re.length e1)).setCell (p := ⟨xb, 1, none⟩) rfl (.slice s2 T1.S.Ho.length e2)).setCell (p := ⟨xb, 2, none⟩) rfl (.slice s3 T1.S.Re.length e3)).setCell (p := ⟨xb, 3, none⟩) rfl (.slice s4 T1.S.Re.length e4)).setCell (p := ⟨xb, 4, none⟩) rfl (.slice s5 T1.S.Ho.length e5)).setCell (p := ⟨xb, 5, none⟩) rfl (.string ⟨T1.log.toArray⟩)).setCell (p := ⟨xb, 6, none⟩) rfl (.int .i64 T1.many)).setCell (p := ⟨xb, 7, none⟩) rfl (.int .i64 T1.chain))
          have hT6 := HP.out.tr.keeps hq6 (fun g hg e => HP.out.nx (by rw [← e]; exact hg))
          have hr6 := RT.to (ok' := fun g => ¬ own g ∧ g ≠ xb) hR5 (fun g hg _ => put8_block hg.2 (.slice s1 T1.S.Re.length e1) (.slice s2 T1.S.Ho.length e2) (.slice s3 T1.S.Re.length e3) (.slice s4 T1.S.Re.length e4) (.slice s5 T1.S.Ho.length e5) (.string ⟨T1.log.toArray⟩) (.int .i64 T1.many) (.int .i64 T1.chain)) (fun g _ hg => hg)
          have HX6 := Lib.hid hx6
          have HB6 := Lib.hid hb6
          have HT6 := Lib.hid hT6
          have HR6 := Lib.hid hr6
          have hlowx := HP.out.lowx
          have hnx := HP.out.nx
          clear hx6 hb6 hT6 hr6 hq6 hC hR5 hX5 hb5 hlt q0 q1 q2 q3
          go_wp2_with fail
          generalize (((((((wc.setCell ⟨xb, 0, none⟩ (.slice s1 T1.S.Re.length e1)).setCell ⟨xb, 1, none⟩ (.slice s2 T1.S.Ho.length e2)).setCell ⟨xb, 2, none⟩ (.slice s3 T1.S.Re.length e3)).setCell ⟨xb, 3, none⟩ (.slice s4 T1.S.Re.length e4)).setCell ⟨xb, 4, none⟩ (.slice s5 T1.S.Ho.length e5)).setCell ⟨xb, 5, none⟩ (.string ⟨T1.log.toArray⟩)).setCell ⟨xb, 6, none⟩ (.int .i64 T1.many)).setCell ⟨xb, 7, none⟩ (.int .i64 T1.chain) = w6 at *
          clear x0 x1 x2 x3 x4 x5 x6 x7 fx0 fx1 fx2 fx3 fx4 fx5 fx6 fx7 y0 y1 y2 y3 y4 y5 y6 y7
          have q0 := (HB6.out.cell (p := ⟨kb, _, none⟩) hbw).trans HQ.out.1
          have q1 := (HB6.out.cell (p := ⟨kb, _, none⟩) hbw).trans HQ.out.2.1
          have q2 := (HB6.out.cell (p := ⟨kb, _, none⟩) hbw).trans HQ.out.2.2.1
          have q3 := (HB6.out.cell (p := ⟨kb, _, none⟩) hbw).trans HQ.out.2.2.2
          have hd : Below w6.heap.size w6 w6.drew := (Below.refl _ _).drew
          have CA := Lib.hid (HAk.out w6.drew v own (HT6.out.below hd) HB6.out.drew)
          have CE := Lib.hid (fun V (hV : Below w.heap.size w V) => Error_is code code true V (hG.err.next hV) (by simp))
          have HAsked := Lib.hid (fun (w' : World) e (hq : AskPost w.heap.size own w6.drew b p A U F T1 code e w') => Play.asked (HT6.out.below hd) (HX6.out.all hd) hnx (HR6.out.below hd) hlowx HB6.out.drew hq)
          clear HAk HQ
          go_region_with (first | (go_at_call 8; with_reducible refine CA.out.mono ?_; intro e w7 hq7; obtain ⟨rfl, ⟨v7, own7, hP7⟩, -⟩ := HAsked.out w7 e hq7; have CE7 := CE.out w7 hP7.bw; have x57 := hP7.box.cell (k := 5) rfl) | (go_at_call 6; with_reducible refine CE7.mono ?_; rintro e w8 ⟨rfl, hb8⟩; have hP8 := hP7.below hb8; have CT8 := TText_any hP8.tr; have x58 := hP8.box.cell (k := 5) rfl) | (go_at_call 9; with_reducible refine CT8.mono ?_; rintro e w9 ⟨rfl, hT9, hq9⟩; have hP9 := hP8.quiet hq9 hT9; have x59 := hP9.box.cell (k := 5) rfl))
          all_goals
            go_wp2_with fail
            exact ⟨⟨k + 1, T1, _, _, _, by omega, by go_num, HL', Lib.hid (by first | exact hP9 | exact hP9.below ((Below.refl _ _).drew))⟩, by simp [intOf]; omega⟩
      · obtain ⟨w8, rfl⟩ : ∃ w8 : World, w8 = wr := ⟨_, rfl⟩
        have hP := HP.out
        have i3 := HI3.out
        have i4 := HI4.out
        have i5 := HI5.out
        have x2 := hP.box.cell (k := 2) rfl
        have x3 := hP.box.cell (k := 3) rfl
        have x4 := hP.box.cell (k := 4) rfl
        have hlw := hP.tr.bell.lw
        have hm8 := hL.m8
        have hn8 := hL.n8
        clear HP HI3 HI4 HI5
        by_cases hkq : k < q
        · have d110 : decide ((k : Int) < 110) = false := by simp; omega
          clear hlt
          go_wp2_with fail
          go_loopw [15] (fun u wu => ∃ (j d : Nat), j ≤ m ∧ u = .int .i64 j ∧ wu = w8.drewN d) (fun u _ => m - (intOf u).toNat)
          case atStart => exact ⟨0, 0, Nat.zero_le _, rfl, rfl⟩
          case round =>
            obtain ⟨j, d, hj, rfl, rfl⟩ := hrel
            by_cases hjU : j < m
            · have hjL : j < T.S.Re.length := by omega
              have hjW : j < T.S.Wr.length := by omega
              obtain ⟨rb, roff, rfl, r0⟩ := i3.1.row hjL
              obtain ⟨wb, woff, rfl, w0⟩ := i4.1.row hjW
              have HR := fun d' => TReads_any (hP.tr.below (belowD (Below.refl _ w8) d')) (by omega) (j : Int)
              have HW := fun d' => TWrites_any (hP.tr.below (belowD (Below.refl _ w8) d')) (by omega) (j : Int)
              simp only [told_at hjL] at HR
              simp only [told_at hjW] at HW
              have HR := Lib.hid HR
              have HW := Lib.hid HW
              have hjL' : ((j : Nat) : Int) < T.S.Re.length := by omega
              generalize row T.S.Re j = xx at *
              generalize row T.S.Wr j = yy at *
              go_wp2_with fail
              go_quiet (first | (with_reducible exact quiet2 (HR.out _)) | (with_reducible exact quiet2 (HW.out _)))
              go_wp2_with fail
              exact ⟨⟨j + 1, d + nq, by omega, by go_num, by simp⟩, by simp [intOf]; omega⟩
            · go_wp2_with fail
              clear hj hjU
              go_loopw [16] (fun u wu => ∃ (j d : Nat), j ≤ n ∧ u = .int .i64 j ∧ wu = w8.drewN d) (fun u _ => n - (intOf u).toNat)
              case atStart => exact ⟨0, d, Nat.zero_le _, rfl, rfl⟩
              case round =>
                obtain ⟨j, d, hj, rfl, rfl⟩ := hrel
                by_cases hjU : j < n
                · have hjL : j < T.S.Ho.length := by omega
                  obtain ⟨hb_, hoff, rfl, r0⟩ := i5.1.row hjL
                  have HH := fun d' => THolds_any (hP.tr.below (belowD (Below.refl _ w8) d')) (by omega) (j : Int)
                  simp only [told_at hjL] at HH
                  have HH := Lib.hid HH
                  have hjL' : ((j : Nat) : Int) < T.S.Ho.length := by omega
                  generalize row T.S.Ho j = xx at *
                  go_wp2_with fail
                  go_quiet (with_reducible exact quiet2 (HH.out _))
                  go_wp2_with fail
                  exact ⟨⟨j + 1, d + nq, by omega, by go_num, by simp⟩, by simp [intOf]; omega⟩
                · have T3 := THolds_any (hP.tr.below (belowD (Below.refl _ w8) d)) (by omega) (-1)
                  rw [show told T.S.Ho (-1) = 0 by unfold told; rw [if_neg (by omega)]] at T3
                  have T3 := Lib.hid T3
                  have hend := belowD hP.bw d
                  go_wp2_with fail
                  with_reducible refine T3.out.mono ?_
                  rintro e w9 ⟨rfl, rfl⟩
                  go_wp2_with fail
                  go_ret
                  exact ⟨by first | rfl | simp, hend⟩
        · clear hlt
          go_wp2_with fail
          go_loopw [15] (fun u wu => ∃ (j d : Nat), j ≤ m ∧ u = .int .i64 j ∧ wu = w8.drewN d) (fun u _ => m - (intOf u).toNat)
          case atStart => exact ⟨0, 0, Nat.zero_le _, rfl, rfl⟩
          case round =>
            obtain ⟨j, d, hj, rfl, rfl⟩ := hrel
            by_cases hjU : j < m
            · have hjL : j < T.S.Re.length := by omega
              have hjW : j < T.S.Wr.length := by omega
              obtain ⟨rb, roff, rfl, r0⟩ := i3.1.row hjL
              obtain ⟨wb, woff, rfl, w0⟩ := i4.1.row hjW
              have HR := fun d' => TReads_any (hP.tr.below (belowD (Below.refl _ w8) d')) (by omega) (j : Int)
              have HW := fun d' => TWrites_any (hP.tr.below (belowD (Below.refl _ w8) d')) (by omega) (j : Int)
              simp only [told_at hjL] at HR
              simp only [told_at hjW] at HW
              have HR := Lib.hid HR
              have HW := Lib.hid HW
              have hjL' : ((j : Nat) : Int) < T.S.Re.length := by omega
              generalize row T.S.Re j = xx at *
              generalize row T.S.Wr j = yy at *
              go_wp2_with fail
              go_quiet (first | (with_reducible exact quiet2 (HR.out _)) | (with_reducible exact quiet2 (HW.out _)))
              go_wp2_with fail
              exact ⟨⟨j + 1, d + nq, by omega, by go_num, by simp⟩, by simp [intOf]; omega⟩
            · go_wp2_with fail
              clear hj hjU
              go_loopw [16] (fun u wu => ∃ (j d : Nat), j ≤ n ∧ u = .int .i64 j ∧ wu = w8.drewN d) (fun u _ => n - (intOf u).toNat)
              case atStart => exact ⟨0, d, Nat.zero_le _, rfl, rfl⟩
              case round =>
                obtain ⟨j, d, hj, rfl, rfl⟩ := hrel
                by_cases hjU : j < n
                · have hjL : j < T.S.Ho.length := by omega
                  obtain ⟨hb_, hoff, rfl, r0⟩ := i5.1.row hjL
                  have HH := fun d' => THolds_any (hP.tr.below (belowD (Below.refl _ w8) d')) (by omega) (j : Int)
                  simp only [told_at hjL] at HH
                  have HH := Lib.hid HH
                  have hjL' : ((j : Nat) : Int) < T.S.Ho.length := by omega
                  generalize row T.S.Ho j = xx at *
                  go_wp2_with fail
                  go_quiet (with_reducible exact quiet2 (HH.out _))
                  go_wp2_with fail
                  exact ⟨⟨j + 1, d + nq, by omega, by go_num, by simp⟩, by simp [intOf]; omega⟩
                · have T3 := THolds_any (hP.tr.below (belowD (Below.refl _ w8) d)) (by omega) (-1)
                  rw [show told T.S.Ho (-1) = 0 by unfold told; rw [if_neg (by omega)]] at T3
                  have T3 := Lib.hid T3
                  have hend := belowD hP.bw d
                  go_wp2_with fail
                  with_reducible refine T3.out.mono ?_
                  rintro e w9 ⟨rfl, rfl⟩
                  go_wp2_with fail
                  go_ret
                  exact ⟨by first | rfl | simp, hend⟩
  · exact TrailPlays_bad m U Ua Uc hU sU n F Fa Fc hF sF q Ka Kc w iU iF hG.err h12
end Go.Proofs.YtncokblinocgaaaDoor
