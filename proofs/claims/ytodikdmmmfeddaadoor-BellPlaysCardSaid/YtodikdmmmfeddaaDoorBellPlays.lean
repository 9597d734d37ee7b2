/-
  The walk of BellPlays.
-/
import Derived.Test.YtodikdmmmfeddaaDoorBellQ2
import Derived.Test.YtodikdmmmfeddaaDoorStructs
import Derived.Deep.RegionHeld3
import Derived.Deep.CutRange
namespace Go.Proofs.YtodikdmmmfeddaaDoor
open Go.RowKit
set_option maxRecDepth 100000
set_option linter.unusedVariables false

theorem IntsIn.spares {ok : Nat → Prop} {w w' : World} {A : Option Addr} {l : List Int} (h : IntsIn ok w A l) (hs : Spares ok w w') : IntsIn ok w' A l := ⟨fun hl => by
  obtain ⟨b, off, rfl, hc⟩ := h.1 hl
  have hok := h.2 b off rfl hl
  have hbl : b < w.heap.size := block_lt (hc 0 _ (get_gI (List.length_pos_iff.2 hl)))
  exact ⟨b, off, rfl, fun j x hj => (World.cell?_of_block (w := w) (hs b hok hbl) : w'.cell? ⟨b, off + j, none⟩ = w.cell? ⟨b, off + j, none⟩).trans (hc j x hj)⟩, h.2⟩

theorem slices5_no {a1 a2 a3 a4 a5 : Option Addr} {n1 n2 n3 n4 n5 c1 c2 c3 c4 c5 : Nat} : noInt #[.slice a1 n1 c1, .slice a2 n2 c2, .slice a3 n3 c3, .slice a4 n4 c4, .slice a5 n5 c5] := noInt_of rfl
section
variable {w : World} {base p : Nat} {U F : List Int} {S : LS} {A : LA}
/-- The monitor does not mind what another block holds. -/
theorem BellAt.off {w' : World} (h : BellAt w base p U F S A) {x : Nat} {t : TypeId} {vs : Array Value} (hb : BoxN w x t vs) (hi : t ≠ 3) (hl : t ≠ 57) (hm : t ≠ 85) (hno : noInt vs) (hh : OnlyAt x w w') :
    BellAt w' base p U F S A := by
  have hpx : p ≠ x := by
    rintro rfl
    have h1 : w.heap[p]? = _ := h.box
    have h2 : w.heap[p]? = _ := hb
    rw [h1] at h2
    injection h2 with h2
    injection h2 with _ h3
    exact hm h3.symm
  refine ⟨h.bp, (hh p hpx).trans h.box, h.lu, h.lf, h.lw, h.iu.box hb hno hh.cell, h.if_.box hb hno hh.cell, h.ir.box hb hno hh.cell, h.iw.box hb hno hh.cell, h.ih.box hb hno hh.cell, fun n1 n2 => ?_⟩
  obtain ⟨gu, gf, gr, gw, gh, e1, e2, e3, e4, e5, ho⟩ := h.own n1 n2
  exact ⟨gu, gf, gr, gw, gh, e1, e2, e3, e4, e5, ho.bu, ho.bf, ho.br, ho.bw, ho.bh, ho.ou.block (hh _ (ho.ou.ne_box hb hl.symm)), ho.of_.block (hh _ (ho.of_.ne_box hb hl.symm)), ho.or_.block (hh _ (ho.or_.ne_box hb hi.symm)), ho.ow.block (hh _ (ho.ow.ne_box hb hi.symm)), ho.oh.block (hh _ (ho.oh.ne_box hb hi.symm)), ho.rw, ho.rh, ho.wh⟩
end

set_option maxHeartbeats 1000000 in
theorem BellPlays_bad (m : Nat) (U : List Int) (Ua : Option Addr) (Uc : Nat) (hU : U.length = m * 2) (sU : m * 2 < 2 ^ 47) (n : Nat) (F : List Int) (Fa : Option Addr) (Fc : Nat) (hF : F.length = n * 2) (sF : n * 2 < 2 ^ 47)
    (q : Nat) (Ka : Option Addr) (Kc : Nat) (w : World) (iU : IntsAt w Ua U) (iF : IntsAt w Fa F) (hE : ErrT w) (h12 : ¬ (labsCode U m 8 = 0 ∧ labsCode F n 8 = 0)) :
    Calls Tryd.prog 13 #[.slice Ua m Uc, .slice Fa n Fc, .slice Ka q Kc] w fun e w' => e = .returned (.bool true) ∧ Below w.heap.size w w' := by
  obtain ⟨kk, hk⟩ : ∃ kk, (if labsCode U m 8 = 0 then labsCode F n 8 else labsCode U m 8) = kk := ⟨_, rfl⟩
  have hne : kk ≠ 0 := by
    rw [← hk]
    split
    · rename_i h; exact fun e => h12 ⟨h, e⟩
    · rename_i h; exact h
  have hk2 : kk = if labsCode U m 8 ≠ 0 then labsCode U m 8 else labsCode F n 8 := by
    rw [← hk]
    by_cases h : labsCode U m 8 = 0
    · rw [if_pos h, if_neg (fun e => e h)]
    · rw [if_neg h, if_pos h]
  have HR := Lib.hid (RNewBell_bad U F m n hU hF Ua Fa Uc Fc w iU iF (by omega) (by omega) kk hk hne)
  have HN := Lib.hid (fun V h1 h2 => LNew_bad U F m n hU hF Ua Fa Uc Fc V h1 h2 (by omega) (by omega) kk hk2 hne)
  have hz : ((kk : Int) == 0) = false := by simpa using hne
  have hz' : (kk : Int) ≠ 0 := by omega
  clear hk hk2 h12
  go_enter Tryd.func13, Tryd.ntmps13
  go_wp2_with fail
  refine HR.out.mono ?_
  rintro e w1 ⟨rfl, hb1⟩
  go_wp2_with fail
  have hb2 : Below w.heap.size w (w1.alloc (.cells #[.slice none 0 0, .slice none 0 0, .slice none 0 0, .slice none 0 0, .slice none 0 0] 61)) := hb1.alloc hb1.size _
  generalize w1.alloc (.cells #[.slice none 0 0, .slice none 0 0, .slice none 0 0, .slice none 0 0, .slice none 0 0] 61) = w2 at *
  refine (HN.out _ (iU.below hb2) (iF.below hb2)).mono ?_
  rintro e w3 ⟨rfl, hb3⟩
  have hb03 := hb2.trans (hb3.mono hb2.size)
  have HE := Error_is kk kk true w3 (hE.next hb03) (by simp)
  rw [errVal_pos hne] at HE
  have HE := Lib.hid HE
  go_wp2_with fail
  refine HE.out.mono ?_
  rintro e w4 ⟨rfl, hb4⟩
  go_wp2_with fail
  go_ret
  exact ⟨rfl, hb03.trans (hb4.mono hb03.size)⟩

set_option maxHeartbeats 4000000 in
theorem BellPlays_walk (m : Nat) (U : List Int) (Ua : Option Addr) (Uc : Nat) {W : World} (hU : U.length = m * 2) (iU : IntsAt W Ua U) (sU : m * 2 < 2 ^ 47) (bU : ∀ x ∈ U, I64 x) (n : Nat) (F : List Int) (Fa : Option Addr) (Fc : Nat) (hF : F.length = n * 2) (iF : IntsAt W Fa F) (sF : n * 2 < 2 ^ 47) (bF : ∀ x ∈ F, I64 x)
    (q : Nat) (K : List Int) (Ka : Option Addr) (Kc : Nat) (hn : K.length = q * 4) (hK : IntsAt W Ka K) (sK : q * 4 < 2 ^ 47) (bK : ∀ x ∈ K, I64 x) (w : World) (hw : w = W) (hT : Tab W) (hE : ErrT W) :
    Calls Tryd.prog 13 #[.slice Ua m Uc, .slice Fa n Fc, .slice Ka q Kc] w fun e w' => e = .returned (.bool true) ∧ Below W.heap.size W w' := by
  subst hw
  by_cases h12 : labsCode U m 8 = 0 ∧ labsCode F n 8 = 0
  · obtain ⟨hc1, hc2⟩ := h12
    have HR := Lib.hid (RNewBell_ok U F m n hU hF Ua Fa Uc Fc w iU iF hc1 hc2)
    have HN := Lib.hid (fun V h1 h2 => LNew_ok U F m n hU hF Ua Fa Uc Fc V h1 h2 hc1 hc2)
    obtain ⟨hm8, hlU⟩ := labsCode_ok hc1
    obtain ⟨hn8, hlF⟩ := labsCode_ok hc2
    have hI0 : LInv U F (lStart m n) := LInv.start hm8 hn8
    have hl0 : (lStart m n).Re.length = m ∧ (lStart m n).Ho.length = n := ⟨by simp [lStart], by simp [lStart, length_pows]⟩
    have HlU := Lib.hid hlU
    have HlF := Lib.hid hlF
    clear hc1 hc2 hlU hlF
    go_enter Tryd.func13, Tryd.ntmps13
    go_wp2_with fail
    refine HR.out.mono ?_
    rintro e w1 ⟨⟨v, rfl, hRL⟩, hb1⟩
    have hs1 := hb1.size
    have hRL1 := hRL
    obtain ⟨a1, a2, a3, a4, a5, c1, c2, c3, c4, c5, rfl, i1, i2, i3, i4, i5⟩ := hRL.is
    clear HR hRL
    go_wp2_with fail
    have hbx := BoxN.new w1 61 #[.slice a1 m c1, .slice a2 n c2, .slice a3 m c3, .slice a4 m c4, .slice a5 n c5]
    have hbb : Below w1.heap.size w1 (w1.alloc (.cells #[.slice a1 m c1, .slice a2 n c2, .slice a3 m c3, .slice a4 m c4, .slice a5 n c5] 61)) := (Below.refl _ _).alloc (Nat.le_refl _) _
    have hsz : (w1.alloc (.cells #[.slice a1 m c1, .slice a2 n c2, .slice a3 m c3, .slice a4 m c4, .slice a5 n c5] 61)).heap.size = w1.heap.size + 1 := by simp
    generalize w1.alloc (.cells #[.slice a1 m c1, .slice a2 n c2, .slice a3 m c3, .slice a4 m c4, .slice a5 n c5] 61) = w2 at *
    obtain ⟨xb, hxb⟩ : ∃ x, w1.heap.size = x := ⟨_, rfl⟩
    have hb02 := hb1.trans (hbb.mono hs1)
    refine (HN.out _ (iU.below hb02) (iF.below hb02)).mono ?_
    rintro e w3 ⟨⟨p, A, rfl, hM⟩, hb3⟩
    have hs3 := hb3.size
    have hb03 := hb02.trans (hb3.mono hb02.size)
    have hX := hbx.all hb3
    obtain ⟨base, hbase⟩ : ∃ x, w3.heap.size = x := ⟨_, rfl⟩
    have lt_ : ∀ {Aa : Option Addr} {l : List Int}, IntsAt w1 Aa l → ∀ b off, Aa = some ⟨b, off, none⟩ → l ≠ [] → (b < xb ∨ base ≤ b) := fun h b off e nl => .inl (by rw [← hxb]; exact h.lt e nl)
    have hRB : RL (fun b => b < xb ∨ base ≤ b) w3 (.agg #[.slice a1 m c1, .slice a2 n c2, .slice a3 m c3, .slice a4 m c4, .slice a5 n c5]) U F (lStart m n) :=
      RL.below (w := w2) (RL.below (w := w1) ⟨a1, a2, a3, a4, a5, c1, c2, c3, c4, c5, by rw [hl0.1, hl0.2], ⟨i1.1, lt_ i1.1⟩, ⟨i2.1, lt_ i2.1⟩, ⟨i3.1, lt_ i3.1⟩, ⟨i4.1, lt_ i4.1⟩, ⟨i5.1, lt_ i5.1⟩⟩ hbb) hb3
    have hNo : (lStart m n).Re ≠ [] → (lStart m n).Ho ≠ [] → ∀ g, (A.Ar = some ⟨g, 0, none⟩ ∨ A.Aw = some ⟨g, 0, none⟩ ∨ A.Ah = some ⟨g, 0, none⟩) → ¬ (g < xb ∨ base ≤ g) := fun n1 n2 g hg => by
      obtain ⟨gu, gf, gr, gw, gh, e1, e2, e3, e4, e5, ho⟩ := hM.own n1 n2
      have t1 := ho.or_.lt
      have t2 := ho.ow.lt
      have t3 := ho.oh.lt
      have b1 := ho.br
      have b2 := ho.bw
      have b3 := ho.bh
      rcases hg with hg | hg | hg
      · rw [e3] at hg; cases hg; omega
      · rw [e4] at hg; cases hg; omega
      · rw [e5] at hg; cases hg; omega
    rw [hxb] at hX ⊢
    have hwx : w.heap.size ≤ xb := by omega
    have hxB : xb < base := by omega
    have hbM : w.heap.size ≤ w2.heap.size := hb02.size
    obtain ⟨mb, hmb⟩ : ∃ x, w2.heap.size = x := ⟨_, rfl⟩
    rw [hmb] at hM hbM
    have hmB : mb ≤ base := by omega
    have HB := Lib.hid hbase
    clear hbx hbb hRL1 i1 i2 i3 i4 i5 HN hb1 hb3 hb02 lt_ hxb hbase hmb hsz hs3
    go_wp2_with fail
    go_loopw [11, 12, 13, 14, 15] (fun i _ _ _ _ wr => ∃ (k : Nat) (S : LS) (vs : Array Value), k ≤ q ∧ i = .int .i64 k ∧ BellAt wr mb p U F S A ∧ Hid (LInv U F S) ∧ Hid (S.Re.length = m ∧ S.Ho.length = n) ∧ BoxN wr xb 61 vs ∧ RL (fun b => b < xb ∨ base ≤ b) wr (.agg vs) U F S ∧ Below w.heap.size w wr ∧ base ≤ wr.heap.size) (fun i _ _ _ _ _ => q - (intOf i).toNat)
    case atStart => exact ⟨0, _, _, Nat.zero_le _, rfl, hM, Lib.hid hI0, Lib.hid hl0, hX, hRB, hb03, Nat.le_of_eq HB.out.symm⟩
    case round =>
      clear hM hI0 hl0 hX hRB hb03
      obtain ⟨k, S, vs, hk, rfl, hB, hI, hSl, hX, hR, hbr, hsr2⟩ := hrel
      have hsr := hbr.size
      by_cases hlt : k < q ∧ k < 100
      · obtain ⟨hkn, hk100⟩ := hlt
        obtain ⟨b, off, rfl, hc⟩ := hK (by intro e; simp [e] at hn; omega)
        have p0 := hc (k * 4) _ (get_gI (by omega))
        have hbw : b < w.heap.size := block_lt p0
        have q0 := (hbr.cell (p := ⟨b, _, none⟩) hbw).trans p0
        have q1 : wr.cell? ⟨b, off + k * 4 + 1, none⟩ = some (.int .i64 (gI K (k * 4 + 1))) := (hbr.cell (p := ⟨b, _, none⟩) hbw).trans (hc (k * 4 + 1) _ (get_gI (by omega)))
        have q2 : wr.cell? ⟨b, off + k * 4 + 2, none⟩ = some (.int .i64 (gI K (k * 4 + 2))) := (hbr.cell (p := ⟨b, _, none⟩) hbw).trans (hc (k * 4 + 2) _ (get_gI (by omega)))
        have q3 : wr.cell? ⟨b, off + k * 4 + 3, none⟩ = some (.int .i64 (gI K (k * 4 + 3))) := (hbr.cell (p := ⟨b, _, none⟩) hbw).trans (hc (k * 4 + 3) _ (get_gI (by omega)))
        clear p0
        have d100 : decide ((k : Int) < 100) = true := by simp; omega
        generalize gI K (k * 4) = ak at *
        generalize gI K (k * 4 + 1) = au at *
        generalize gI K (k * 4 + 2) = af at *
        generalize gI K (k * 4 + 3) = at_ at *
        obtain ⟨a1, a2, a3, a4, a5, c1, c2, c3, c4, c5, hvs, -⟩ := hR.is
        injection hvs with hvs
        subst hvs
        have hlU : ∀ i, i < S.Re.length → labOk (gI U (i * 2)) (gI U (i * 2 + 1)) := fun i hi => HlU.out i (by have := hSl.out.1; omega)
        have hlF : ∀ i, i < S.Ho.length → labOk (gI F (i * 2)) (gI F (i * 2 + 1)) := fun i hi => HlF.out i (by have := hSl.out.2; omega)
        have CQ := Lib.hid (fun V (hV : Below wr.heap.size wr V) => (AskBell_any (hR.below hV) hI.out hlU hlF hB.lu hB.lf (fun b hb => .inr (by have := hV.size; omega)) ak au af at_).mono fun e w' ⟨he, hb⟩ => (⟨he, hV.trans (hb.mono hV.size), hb⟩ : _ ∧ Below wr.heap.size wr w' ∧ Below V.heap.size V w'))
        have hbA : Below wr.heap.size wr wr.drew := (Below.refl _ _).drew
        have hbB : Below wr.heap.size wr ((wr.alloc (.cells #[.slice none 0 0, .slice none 0 0, .slice none 0 0, .slice none 0 0, .slice none 0 0] 61)).drew) := ((Below.refl _ _).alloc (Nat.le_refl _) _).drew
        have hZ : BoxN ((wr.alloc (.cells #[.slice none 0 0, .slice none 0 0, .slice none 0 0, .slice none 0 0, .slice none 0 0] 61)).drew) wr.heap.size 61 #[.slice none 0 0, .slice none 0 0, .slice none 0 0, .slice none 0 0, .slice none 0 0] := (BoxN.new wr _ _).drew
        have hXl := hX.lt
        have hbr1 : b < wr.heap.size := by omega
        have x0 := hX.cell (k := 0) rfl
        have x1 := hX.cell (k := 1) rfl
        have x2 := hX.cell (k := 2) rfl
        have x3 := hX.cell (k := 3) rfl
        have x4 := hX.cell (k := 4) rfl
        have hKeep := Lib.hid (fun V (hV : Below wr.heap.size wr V) => (⟨(hV.cell (p := ⟨xb, 0, none⟩) hXl).trans x0, (hV.cell (p := ⟨xb, 1, none⟩) hXl).trans x1, (hV.cell (p := ⟨xb, 2, none⟩) hXl).trans x2, (hV.cell (p := ⟨xb, 3, none⟩) hXl).trans x3, (hV.cell (p := ⟨xb, 4, none⟩) hXl).trans x4, (hV.cell (p := ⟨b, off + k * 4, none⟩) hbr1).trans q0, (hV.cell (p := ⟨b, off + k * 4 + 1, none⟩) hbr1).trans q1, (hV.cell (p := ⟨b, off + k * 4 + 2, none⟩) hbr1).trans q2, (hV.cell (p := ⟨b, off + k * 4 + 3, none⟩) hbr1).trans q3⟩ :
          V.cell? ⟨xb, 0, none⟩ = some (.slice a1 S.Re.length c1) ∧ V.cell? ⟨xb, 1, none⟩ = some (.slice a2 S.Ho.length c2) ∧ V.cell? ⟨xb, 2, none⟩ = some (.slice a3 S.Re.length c3) ∧ V.cell? ⟨xb, 3, none⟩ = some (.slice a4 S.Re.length c4) ∧ V.cell? ⟨xb, 4, none⟩ = some (.slice a5 S.Ho.length c5) ∧ V.cell? ⟨b, off + k * 4, none⟩ = some (.int .i64 ak) ∧ V.cell? ⟨b, off + k * 4 + 1, none⟩ = some (.int .i64 au) ∧ V.cell? ⟨b, off + k * 4 + 2, none⟩ = some (.int .i64 af) ∧ V.cell? ⟨b, off + k * 4 + 3, none⟩ = some (.int .i64 at_)))
        have HAsk := Lib.hid (fun V (hM : BellAt V mb p U F S A) (hs : w.heap.size ≤ V.heap.size) (hs2 : mb ≤ V.heap.size) (hTV : Tab V) => LAsk_any2 (ok := (fun b => b < xb ∨ base ≤ b)) hM hTV hI.out hlU hlF hs2 (fun n1 n2 => hNo (by intro e; apply n1; have := congrArg List.length e; simp [lStart] at this; exact List.length_eq_zero_iff.1 (by rw [hSl.out.1]; exact this)) (by intro e; apply n2; have := congrArg List.length e; simp [lStart, length_pows] at this; exact List.length_eq_zero_iff.1 (by rw [hSl.out.2]; exact this))) ak au af at_)
        have HI' := Lib.hid (hI.out.ask ak au af at_)
        have HL' := Lib.hid (show (lAsk U F S ak au af at_).1.Re.length = m ∧ (lAsk U F S ak au af at_).1.Ho.length = n from ⟨(lAsk_len ak au af at_).1.trans hSl.out.1, (lAsk_len ak au af at_).2.trans hSl.out.2⟩)
        generalize lAsk U F S ak au af at_ = r at *
        obtain ⟨S', code⟩ := r
        go_wp2_with fail
        go_cut [12, 13] from 47 to 106 (fun x12 x13 wx => ∃ (xc : Nat) (vs : Array Value), x12 = .pointer (some ⟨xc, 0, none⟩) ∧ x13 = .int .i64 code ∧ BoxN wx xc 61 vs ∧ xc ≠ xb ∧ RL (fun b => b < xb ∨ base ≤ b) wx (.agg vs) U F S' ∧ Below wr.heap.size wr wx)
        case first =>
          go_region_held3 (fun V => V.cell? ⟨xb, 0, none⟩ = some (.slice a1 S.Re.length c1) ∧ V.cell? ⟨xb, 1, none⟩ = some (.slice a2 S.Ho.length c2) ∧ V.cell? ⟨xb, 2, none⟩ = some (.slice a3 S.Re.length c3) ∧ V.cell? ⟨xb, 3, none⟩ = some (.slice a4 S.Re.length c4) ∧ V.cell? ⟨xb, 4, none⟩ = some (.slice a5 S.Ho.length c5) ∧ V.cell? ⟨b, off + k * 4, none⟩ = some (.int .i64 ak) ∧ V.cell? ⟨b, off + k * 4 + 1, none⟩ = some (.int .i64 au) ∧ V.cell? ⟨b, off + k * 4 + 2, none⟩ = some (.int .i64 af) ∧ V.cell? ⟨b, off + k * 4 + 3, none⟩ = some (.int .i64 at_))
            ((refine hKeep.out _ ?_; repeat (first | assumption | exact hbA | exact hbB | refine Below.setCell ?_ (by simp) _ | refine Below.alloc ?_ (by first | exact Nat.le_refl _ | exact Below.size (by assumption)) _ | refine Below.drew ?_)))
            ((go_at_call 38; with_reducible refine (CQ.out _ (by first | exact hbA | exact hbB)).mono ?_; rintro e w5 ⟨⟨v', rfl, ⟨⟨s1, s2, s3, s4, s5, d1, d2, d3, d4, d5, rfl, j1, j2, j3, j4, j5⟩⟩⟩, hb5, hbv⟩; try (have hz5 := BoxN.all hZ hbv; have z0 := hz5.cell (k := 0) rfl; have z1 := hz5.cell (k := 1) rfl; have z2 := hz5.cell (k := 2) rfl; have z3 := hz5.cell (k := 3) rfl; have z4 := hz5.cell (k := 4) rfl; have fz0 := hz5.free 0; have fz1 := hz5.free 1; have fz2 := hz5.free 2; have fz3 := hz5.free 3; have fz4 := hz5.free 4)))
          all_goals (go_wp2_with fail; go_meet)
          · exact ⟨_, _, rfl, rfl, BoxN.new _ _ _, by have := hb5.size; omega, (RL.below (ok := (fun b => b < xb ∨ base ≤ b)) (w := w5) ⟨⟨s1, s2, s3, s4, s5, d1, d2, d3, d4, d5, rfl, j1, j2, j3, j4, j5⟩⟩ ((Below.refl _ _).alloc (Nat.le_refl _) _)), hb5.alloc hb5.size _⟩
          · exact ⟨_, _, rfl, rfl, (((((hz5.set 0 _).set 1 _).set 2 _).set 3 _).set 4 _), by omega, ⟨s1, s2, s3, s4, s5, d1, d2, d3, d4, d5, rfl, j1.only hz5 slices5_no ((((((OnlyAt.refl _ _).set 0 _).set 1 _).set 2 _).set 3 _).set 4 _), j2.only hz5 slices5_no ((((((OnlyAt.refl _ _).set 0 _).set 1 _).set 2 _).set 3 _).set 4 _), j3.only hz5 slices5_no ((((((OnlyAt.refl _ _).set 0 _).set 1 _).set 2 _).set 3 _).set 4 _), j4.only hz5 slices5_no ((((((OnlyAt.refl _ _).set 0 _).set 1 _).set 2 _).set 3 _).set 4 _), j5.only hz5 slices5_no ((((((OnlyAt.refl _ _).set 0 _).set 1 _).set 2 _).set 3 _).set 4 _)⟩, (((((hb5.setCell (p := ⟨_, 0, none⟩) (Nat.le_refl _) _).setCell (p := ⟨_, 1, none⟩) (Nat.le_refl _) _).setCell (p := ⟨_, 2, none⟩) (Nat.le_refl _) _).setCell (p := ⟨_, 3, none⟩) (Nat.le_refl _) _).setCell (p := ⟨_, 4, none⟩) (Nat.le_refl _) _)⟩
        case rest =>
            obtain ⟨xc, vs, rfl, rfl, hC, hcx, hR5, hb5⟩ := hcut
            clear CQ hbA hbB hZ hKeep x0 x1 x2 x3 x4
            obtain ⟨s1, s2, s3, s4, s5, e1, e2, e3, e4, e5, hvs, i1, i2, i3, i4, i5⟩ := hR5.is
            injection hvs with hvs
            subst hvs
            have hX5 := hX.all hb5
            have y0 := hC.cell (k := 0) rfl
            have y1 := hC.cell (k := 1) rfl
            have y2 := hC.cell (k := 2) rfl
            have y3 := hC.cell (k := 3) rfl
            have y4 := hC.cell (k := 4) rfl
            have x0 := hX5.cell (k := 0) rfl
            have x1 := hX5.cell (k := 1) rfl
            have x2 := hX5.cell (k := 2) rfl
            have x3 := hX5.cell (k := 3) rfl
            have x4 := hX5.cell (k := 4) rfl
            have fx0 := hX5.free 0
            have fx1 := hX5.free 1
            have fx2 := hX5.free 2
            have fx3 := hX5.free 3
            have fx4 := hX5.free 4
            have q0 := (hb5.cell (p := ⟨b, _, none⟩) hbr1).trans q0
            have q1 := (hb5.cell (p := ⟨b, _, none⟩) hbr1).trans q1
            have q2 := (hb5.cell (p := ⟨b, _, none⟩) hbr1).trans q2
            have q3 := (hb5.cell (p := ⟨b, _, none⟩) hbr1).trans q3
            have hbx : b ≠ xb := by omega
            have hM5 := hB.all hb5
            have hb05 := hbr.trans (hb5.mono hsr)
            go_wp2_with fail
            have hX6 := (((((hX5.set 0 (.slice s1 S'.Re.length e1)).set 1 (.slice s2 S'.Ho.length e2)).set 2 (.slice s3 S'.Re.length e3)).set 3 (.slice s4 S'.Re.length e4)).set 4 (.slice s5 S'.Ho.length e5))
            have hX6 : BoxN _ _ _ #[.slice s1 S'.Re.length e1, .slice s2 S'.Ho.length e2, .slice s3 S'.Re.length e3, .slice s4 S'.Re.length e4, .slice s5 S'.Ho.length e5] := hX6
            have hb06 := (((((hb05.setCell (p := ⟨xb, 0, none⟩) (hwx) (.slice s1 S'.Re.length e1)).setCell (p := ⟨xb, 1, none⟩) (hwx) (.slice s2 S'.Ho.length e2)).setCell (p := ⟨xb, 2, none⟩) (hwx) (.slice s3 S'.Re.length e3)).setCell (p := ⟨xb, 3, none⟩) (hwx) (.slice s4 S'.Re.length e4)).setCell (p := ⟨xb, 4, none⟩) (hwx) (.slice s5 S'.Ho.length e5))
            have hO : OnlyAt xb wc (((((wc.setCell ⟨xb, 0, none⟩ (.slice s1 S'.Re.length e1)).setCell ⟨xb, 1, none⟩ (.slice s2 S'.Ho.length e2)).setCell ⟨xb, 2, none⟩ (.slice s3 S'.Re.length e3)).setCell ⟨xb, 3, none⟩ (.slice s4 S'.Re.length e4)).setCell ⟨xb, 4, none⟩ (.slice s5 S'.Ho.length e5)) := ((((((OnlyAt.refl xb wc).set 0 (.slice s1 S'.Re.length e1)).set 1 (.slice s2 S'.Ho.length e2)).set 2 (.slice s3 S'.Re.length e3)).set 3 (.slice s4 S'.Re.length e4)).set 4 (.slice s5 S'.Ho.length e5))
            have hsz6 : base ≤ (((((wc.setCell ⟨xb, 0, none⟩ (.slice s1 S'.Re.length e1)).setCell ⟨xb, 1, none⟩ (.slice s2 S'.Ho.length e2)).setCell ⟨xb, 2, none⟩ (.slice s3 S'.Re.length e3)).setCell ⟨xb, 3, none⟩ (.slice s4 S'.Re.length e4)).setCell ⟨xb, 4, none⟩ (.slice s5 S'.Ho.length e5)).heap.size := by have := hb5.size; simp; omega
            have hM6 := hM5.off hX5 (by decide) (by decide) (by decide) slices5_no hO
            have i1 := i1.only hX5 slices5_no hO
            have i2 := i2.only hX5 slices5_no hO
            have i3 := i3.only hX5 slices5_no hO
            have i4 := i4.only hX5 slices5_no hO
            have i5 := i5.only hX5 slices5_no hO
            clear hO
            generalize (((((wc.setCell ⟨xb, 0, none⟩ (.slice s1 S'.Re.length e1)).setCell ⟨xb, 1, none⟩ (.slice s2 S'.Ho.length e2)).setCell ⟨xb, 2, none⟩ (.slice s3 S'.Re.length e3)).setCell ⟨xb, 3, none⟩ (.slice s4 S'.Re.length e4)).setCell ⟨xb, 4, none⟩ (.slice s5 S'.Ho.length e5)) = w6 at *
            clear x0 x1 x2 x3 x4 y0 y1 y2 y3 y4 fx0 fx1 fx2 fx3 fx4 q0 q1 q2 q3 hX5 hM5 hC hR5 hB hR hX
            have hs6 := hb06.size
            refine (HAsk.out _ hM6 hs6 (by omega) (hT.next hb06)).mono ?_
            rintro e w7 ⟨rfl, hM7, hb7, hk7, hsp7⟩
            have hX7 := hk7.box hX6 (by decide)
            have hb07 := hb06.trans (hb7.mono hbM)
            have i1 := i1.spares hsp7
            have i2 := i2.spares hsp7
            have i3 := i3.spares hsp7
            have i4 := i4.spares hsp7
            have i5 := i5.spares hsp7
            have hsz7 := hb7.size
            clear hX6 hM6 hb7 hk7 hsp7 HAsk
            have HE := Lib.hid (Error_is code code true w7 (hE.next hb07) (by simp))
            go_wp2_with fail
            refine HE.out.mono ?_
            rintro e w8 ⟨rfl, hb8⟩
            have hM8 := hM7.all hb8
            have hX8 := hX7.all hb8
            have hs7 := hb07.size
            have hs8 := hb8.size
            have hb08 := hb07.trans (hb8.mono hs7)
            have i1 := i1.below hb8
            have i2 := i2.below hb8
            have i3 := i3.below hb8
            have i4 := i4.below hb8
            have i5 := i5.below hb8
            have x2 := hX8.cell (k := 2) rfl
            have x3 := hX8.cell (k := 3) rfl
            have x4 := hX8.cell (k := 4) rfl
            clear hX7 hM7 HE hb8 hb07 hb06 hb05 hs6 hs7 hb5
            have hRB8 : RL (fun b => b < xb ∨ base ≤ b) w8 (.agg #[.slice s1 S'.Re.length e1, .slice s2 S'.Ho.length e2, .slice s3 S'.Re.length e3, .slice s4 S'.Re.length e4, .slice s5 S'.Ho.length e5]) U F S' := ⟨_, _, _, _, _, _, _, _, _, _, rfl, i1, i2, i3, i4, i5⟩
            have hsz8 : base ≤ w8.heap.size := by omega
            have hlR := HL'.out.1
            have hlH := HL'.out.2
            have hlW := hM8.lw
            go_wp2_with fail
            go_loopw [14] (fun u wu => ∃ (j d : Nat), j ≤ m ∧ u = .int .i64 j ∧ wu = w8.drewN d) (fun u _ => m - (intOf u).toNat)
            case atStart => exact ⟨0, 0, Nat.zero_le _, rfl, rfl⟩
            case round =>
              obtain ⟨j, d, hj, rfl, rfl⟩ := hrel
              by_cases hjU : j < m
              · have hjL : j < S'.Re.length := by omega
                have hjW : j < S'.Wr.length := by omega
                obtain ⟨rb, roff, rfl, r0⟩ := i3.1.row hjL
                obtain ⟨wb, woff, rfl, w0⟩ := i4.1.row hjW
                have HR := fun d' => LReads_any (hM8.all (belowD (Below.refl _ w8) d')) (by omega) (j : Int)
                have HW := fun d' => LWrites_any (hM8.all (belowD (Below.refl _ w8) d')) (by omega) (j : Int)
                simp only [told_at hjL] at HR
                simp only [told_at hjW] at HW
                have HR := Lib.hid HR
                have HW := Lib.hid HW
                have hjL' : ((j : Nat) : Int) < S'.Re.length := by omega
                generalize row S'.Re j = xx at *
                generalize row S'.Wr j = yy at *
                go_wp2_with fail
                go_quiet (first | (with_reducible exact quiet2 (HR.out _)) | (with_reducible exact quiet2 (HW.out _)))
                go_wp2_with fail
                exact ⟨⟨j + 1, d + nq, by omega, by go_num, by simp⟩, by simp [intOf]; omega⟩
              · go_wp2_with fail
                clear hj hjU
                go_loopw [15] (fun u wu => ∃ (j d : Nat), j ≤ n ∧ u = .int .i64 j ∧ wu = w8.drewN d) (fun u _ => n - (intOf u).toNat)
                case atStart => exact ⟨0, d, Nat.zero_le _, rfl, rfl⟩
                case round =>
                  obtain ⟨j, d, hj, rfl, rfl⟩ := hrel
                  by_cases hjU : j < n
                  · have hjL : j < S'.Ho.length := by omega
                    obtain ⟨hb_, hoff, rfl, r0⟩ := i5.1.row hjL
                    have HH := fun d' => LHolds_any (hM8.all (belowD (Below.refl _ w8) d')) (by omega) (j : Int)
                    simp only [told_at hjL] at HH
                    have HH := Lib.hid HH
                    have hjL' : ((j : Nat) : Int) < S'.Ho.length := by omega
                    generalize row S'.Ho j = xx at *
                    go_wp2_with fail
                    go_quiet (with_reducible exact quiet2 (HH.out _))
                    go_wp2_with fail
                    exact ⟨⟨j + 1, d + nq, by omega, by go_num, by simp⟩, by simp [intOf]; omega⟩
                  · go_wp2_with fail
                    have hbq := belowD hb08 d
                    exact ⟨⟨k + 1, S', _, by omega, by go_num, hM8.all (belowD (Below.refl _ w8) d), HI', HL', hX8.drewN d, hRB8.below (belowD (Below.refl _ w8) d), hbq, hsz8⟩, by simp [intOf]; omega⟩
      · have hm_ := hSl.out.1
        have hn_ := hSl.out.2
        have hlw := hB.lw
        have T1 := LReads_any hB (by omega) (-1)
        have T2 := LWrites_any hB (by omega) (m : Int)
        have T3 := LHolds_any hB (by omega) (n : Int)
        rw [show told S.Re (-1) = 0 by unfold told; rw [if_neg (by omega)]] at T1
        rw [show told S.Wr (m : Int) = 0 by unfold told; rw [if_neg (by omega)]] at T2
        rw [show told S.Ho (n : Int) = 0 by unfold told; rw [if_neg (by omega)]] at T3
        have T1 := Lib.hid T1
        have T2 := Lib.hid T2
        have T3 := Lib.hid T3
        clear hlw hB hX hR hm_ hn_
        go_wp2_with (first | (go_at_call 35; with_reducible refine T1.out.mono ?_; rintro e w' ⟨rfl, rfl⟩) | (go_at_call 36; with_reducible refine T2.out.mono ?_; rintro e w' ⟨rfl, rfl⟩) | (go_at_call 33; with_reducible refine T3.out.mono ?_; rintro e w' ⟨rfl, rfl⟩))
        all_goals
          go_ret
          exact ⟨ret_bool (by simp), hbr⟩
  · exact BellPlays_bad m U Ua Uc hU sU n F Fa Fc hF sF q Ka Kc w iU iF hE h12
end Go.Proofs.YtodikdmmmfeddaaDoor
