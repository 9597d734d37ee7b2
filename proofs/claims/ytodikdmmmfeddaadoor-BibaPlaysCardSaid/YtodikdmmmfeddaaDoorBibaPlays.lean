/-
  The walk of BibaPlays.
-/
import Derived.Test.YtodikdmmmfeddaaDoorBibaF
import Derived.Test.YtodikdmmmfeddaaDoorBibaQ
import Derived.Test.YtodikdmmmfeddaaDoorBibaPlaysE
import Derived.Test.YtodikdmmmfeddaaDoorStructs
import Derived.Deep.RegionHeld3
import Derived.Deep.CutRange
namespace Go.Proofs.YtodikdmmmfeddaaDoor
open Go.RowKit
set_option maxRecDepth 100000
set_option linter.unusedVariables false

/-- Ints lie in no block of other values. -/
theorem IntsAt.box {w w' : World} {A : Option Addr} {l : List Int} {x : Nat} {t : TypeId} {vs : Array Value} (h : IntsAt w A l) (hb : BoxN w x t vs) (hno : ∀ (k : Nat) (z : Int), vs[k]? ≠ some (.int .i64 z)) (hw : ∀ a : Addr, a.block ≠ x → w'.cell? a = w.cell? a) : IntsAt w' A l := fun hl => by
  obtain ⟨b, off, rfl, hc⟩ := h hl
  have hne : b ≠ x := by
    rintro rfl
    have p := hc 0 _ (get_gI (List.length_pos_iff.2 hl))
    rw [cell_of_row w b _ vs t (0, 0) hb] at p
    exact hno _ _ p
  exact ⟨b, off, rfl, fun j y hj => (hw ⟨b, off + j, none⟩ hne).trans (hc j y hj)⟩
theorem slices_no_int {a1 a2 a3 a4 : Option Addr} {n1 n2 n3 n4 c1 c2 c3 c4 : Nat} : ∀ (k : Nat) (z : Int), (#[.slice a1 n1 c1, .slice a2 n2 c2, .slice a3 n3 c3, .slice a4 n4 c4] : Array Value)[k]? ≠ some (.int .i64 z) := fun k z => by
  match k with
  | 0 => simp
  | 1 => simp
  | 2 => simp
  | 3 => simp
  | k + 4 => simp
theorem IntsIn.spares {ok : Nat → Prop} {w w' : World} {A : Option Addr} {l : List Int} (h : IntsIn ok w A l) (hs : Spares ok w w') : IntsIn ok w' A l := ⟨fun hl => by
  obtain ⟨b, off, rfl, hc⟩ := h.1 hl
  have hok := h.2 b off rfl hl
  have hbl : b < w.heap.size := block_lt (hc 0 _ (get_gI (List.length_pos_iff.2 hl)))
  exact ⟨b, off, rfl, fun j x hj => (World.cell?_of_block (w := w) (hs b hok hbl) : w'.cell? ⟨b, off + j, none⟩ = w.cell? ⟨b, off + j, none⟩).trans (hc j x hj)⟩, h.2⟩
theorem RB.spares {ok : Nat → Prop} {w w' : World} {v : Value} {F : List Int} {S : BS} (h : RB ok w v F S) (hs : Spares ok w w') : RB ok w' v F S := by
  obtain ⟨a1, a2, a3, a4, c1, c2, c3, c4, e, i1, i2, i3, i4⟩ := h.is
  exact ⟨a1, a2, a3, a4, c1, c2, c3, c4, e, i1.spares hs, i2.spares hs, i3.spares hs, i4.spares hs⟩
theorem IntsAt.lt {w : World} {A : Option Addr} {l : List Int} (h : IntsAt w A l) {b off : Nat} (e : A = some ⟨b, off, none⟩) (hl : l ≠ []) : b < w.heap.size := by
  obtain ⟨b', off', e', hc⟩ := h hl
  rw [e] at e'; cases e'
  exact block_lt (hc 0 _ (get_gI (List.length_pos_iff.2 hl)))
theorem zeros_no_int : ∀ (k : Nat) (z : Int), (#[.slice none 0 0, .slice none 0 0, .slice none 0 0, .slice none 0 0] : Array Value)[k]? ≠ some (.int .i64 z) := fun k z => by
  match k with
  | 0 => simp
  | 1 => simp
  | 2 => simp
  | 3 => simp
  | k + 4 => simp
theorem heap_set4 {w : World} {x : Nat} {v0 v1 v2 v3 : Value} (b : Nat) (h : b ≠ x) :
    ((((w.setCell ⟨x, 0, none⟩ v0).setCell ⟨x, 1, none⟩ v1).setCell ⟨x, 2, none⟩ v2).setCell ⟨x, 3, none⟩ v3).heap[b]? = w.heap[b]? := by
  rw [Below.heap_setCell _ _ _ _ h, Below.heap_setCell _ _ _ _ h, Below.heap_setCell _ _ _ _ h, Below.heap_setCell _ _ _ _ h]
theorem cell_set4 {w : World} {x : Nat} {v0 v1 v2 v3 : Value} (a : Addr) (h : a.block ≠ x) :
    ((((w.setCell ⟨x, 0, none⟩ v0).setCell ⟨x, 1, none⟩ v1).setCell ⟨x, 2, none⟩ v2).setCell ⟨x, 3, none⟩ v3).cell? a = w.cell? a := by
  rw [World.cell?_setCell_other _ _ _ _ (fun e => h (by rw [← e])), World.cell?_setCell_other _ _ _ _ (fun e => h (by rw [← e])), World.cell?_setCell_other _ _ _ _ (fun e => h (by rw [← e])), World.cell?_setCell_other _ _ _ _ (fun e => h (by rw [← e]))]

set_option maxHeartbeats 2000000 in
theorem BibaPlays_walk (U : List Int) (Ua : Option Addr) (Uc : Nat) {W : World} (hU : IntsAt W Ua U) (sU : U.length < 2 ^ 47) (bU : ∀ x ∈ U, I64 x) (F : List Int) (Fa : Option Addr) (Fc : Nat) (hF : IntsAt W Fa F) (sF : F.length < 2 ^ 47) (bF : ∀ x ∈ F, I64 x)
    (n : Nat) (K : List Int) (Ka : Option Addr) (Kc : Nat) (hn : K.length = n * 4) (hK : IntsAt W Ka K) (sK : n * 4 < 2 ^ 47) (bK : ∀ x ∈ K, I64 x) (w : World) (hw : w = W) (hE : ErrT W) :
    Calls Tryd.prog 5 #[.slice Ua U.length Uc, .slice Fa F.length Fc, .slice Ka n Kc] w fun e w' => e = .returned (.bool true) ∧ Below W.heap.size W w' := by
  subst hw
  have L1 := Lib.hid (fun V (hV : IntsAt V Ua U) => Rlevels_any U 8 (by omega) Ua Uc V hV (by omega))
  have L2 := Lib.hid (fun V (hV : IntsAt V Fa F) => Rlevels_any F 8 (by omega) Fa Fc V hV (by omega))
  by_cases h1 : levCode U 8 = 0
  · by_cases h2 : levCode F 8 = 0
    · have HN := Lib.hid (fun V hU hF => New_ok U F Ua Fa Uc Fc V hU hF h1 h2)
      have hu8 := (levCode_ok h1).1
      have hf8 := (levCode_ok h2).1
      rw [h1] at L1
      rw [h2] at L2
      clear h1 h2
      go_enter Tryd.func5, Tryd.ntmps5
      go_wp2_with fail
      refine (L1.out _ hU).mono ?_
      rintro e w' ⟨rfl, rfl⟩
      go_wp2_with fail
      refine (L2.out _ hF).mono ?_
      rintro e w' ⟨rfl, rfl⟩
      go_wp2_with fail
      refine (HN.out _ hU hF).mono ?_
      rintro e w2 ⟨⟨p, Au, Af, Aw, Ah, cu, cf, cw, ch, rfl, hM⟩, hb2⟩
      have hs2 := hb2.size
      clear HN L1 L2
      go_wp2_with fail
      have hNo : U ≠ [] → F ≠ [] → ∀ g, (Au = some ⟨g, 0, none⟩ ∨ Aw = some ⟨g, 0, none⟩ ∨ Ah = some ⟨g, 0, none⟩) → ¬ (g < w.heap.size ∨ w2.heap.size ≤ g) := fun n1 n2 g hg => by
        obtain ⟨gu, gf, gw, gh, e1, e2, e3, e4, ho⟩ := hM.own n1 n2
        have t1 := ho.ou.lt
        have t2 := ho.ow.lt
        have t3 := ho.oh.lt
        have b1 := ho.bu
        have b2 := ho.bw
        have b3 := ho.bh
        rcases hg with hg | hg | hg
        · rw [e1] at hg; cases hg; omega
        · rw [e3] at hg; cases hg; omega
        · rw [e4] at hg; cases hg; omega
      have hX := BoxN.new w2 38 #[.slice Ua U.length Uc, .slice Fa F.length Fc, .slice Fa F.length Fc, .slice Ua U.length Uc]
      have hRB : RB (fun b => b < w.heap.size ∨ w2.heap.size ≤ b) w2 (.agg #[.slice Ua U.length Uc, .slice Fa F.length Fc, .slice Fa F.length Fc, .slice Ua U.length Uc]) F ⟨U, F, U⟩ := ⟨_, _, _, _, _, _, _, _, rfl, ⟨hU.below hb2, fun b off e n => .inl (hU.lt e n)⟩, ⟨hF.below hb2, fun b off e n => .inl (hF.lt e n)⟩, ⟨hF.below hb2, fun b off e n => .inl (hF.lt e n)⟩, ⟨hU.below hb2, fun b off e n => .inl (hU.lt e n)⟩⟩
      have hba := (Below.refl w2.heap.size w2).alloc (Nat.le_refl _) (.cells #[.slice Ua U.length Uc, .slice Fa F.length Fc, .slice Fa F.length Fc, .slice Ua U.length Uc] 38)
      have hs3 : w2.heap.size < (w2.alloc (.cells #[.slice Ua U.length Uc, .slice Fa F.length Fc, .slice Fa F.length Fc, .slice Ua U.length Uc] 38)).heap.size := by simp
      generalize w2.alloc (.cells #[.slice Ua U.length Uc, .slice Fa F.length Fc, .slice Fa F.length Fc, .slice Ua U.length Uc] 38) = wa at *
      have hMa := hM.all hba
      have hRa := hRB.below hba
      have hb0a := hb2.trans (hba.mono hs2)
      generalize w2.heap.size = xb at *
      clear hM hRB hba hb2
      go_loopw [11, 12, 13, 14, 15] (fun i _ _ _ _ wr => ∃ (k : Nat) (S : BS) (vs : Array Value), k ≤ n ∧ i = .int .i64 k ∧ BibaAt wr w.heap.size p F S Au Af Aw Ah cu cf cw ch ∧ Hid (S.U.length = U.length) ∧ BoxN wr xb 38 vs ∧ RB (fun b => b < w.heap.size ∨ xb ≤ b) wr (.agg vs) F S ∧ Below w.heap.size w wr) (fun i _ _ _ _ _ => n - (intOf i).toNat)
      case atStart => exact ⟨0, _, _, Nat.zero_le _, rfl, hMa, Lib.hid rfl, hX, hRa, hb0a⟩
      case round =>
        obtain ⟨k, S, vs, hk, rfl, hB, hSU, hX, hR, hbr⟩ := hrel
        have hsr := hbr.size
        by_cases hlt : k < n ∧ k < 100
        · obtain ⟨hkn, hk100⟩ := hlt
          obtain ⟨b, off, rfl, hc⟩ := hK (by intro e; simp [e] at hn; omega)
          have p0 := hc (k * 4) _ (get_gI (by omega))
          have hbw : b < w.heap.size := block_lt p0
          have q0 := (hbr.cell (p := ⟨b, _, none⟩) hbw).trans p0
          have q1 : wr.cell? ⟨b, off + k * 4 + 1, none⟩ = some (.int .i64 (gI K (k * 4 + 1))) := (hbr.cell (p := ⟨b, _, none⟩) hbw).trans (hc (k * 4 + 1) _ (get_gI (by omega)))
          have q2 : wr.cell? ⟨b, off + k * 4 + 2, none⟩ = some (.int .i64 (gI K (k * 4 + 2))) := (hbr.cell (p := ⟨b, _, none⟩) hbw).trans (hc (k * 4 + 2) _ (get_gI (by omega)))
          have q3 : wr.cell? ⟨b, off + k * 4 + 3, none⟩ = some (.int .i64 (gI K (k * 4 + 3))) := (hbr.cell (p := ⟨b, _, none⟩) hbw).trans (hc (k * 4 + 3) _ (get_gI (by omega)))
          clear p0
          have d100 : decide ((k : Int) < 100) = true := by simp; omega
          generalize gI K (k * 4) = ak at *
          generalize gI K (k * 4 + 1) = au at *
          generalize gI K (k * 4 + 2) = af at *
          generalize gI K (k * 4 + 3) = at_ at *
          obtain ⟨a1, a2, a3, a4, c1, c2, c3, c4, hvs, -⟩ := hR.is
          injection hvs with hvs
          subst hvs
          have x0 := hX.cell (k := 0) rfl
          have x1 := hX.cell (k := 1) rfl
          have x2 := hX.cell (k := 2) rfl
          have x3 := hX.cell (k := 3) rfl
          have CQ := Lib.hid (fun V (hV : Below wr.heap.size wr V) => (AskBiba_any (hR.below hV) (fun b hb => .inr (by have := hV.size; have := hX.lt; omega)) hB.lw hB.lh (by have := hSU.out; omega) (by omega) ak au af at_).mono fun e w' ⟨he, hb⟩ => (⟨he, hV.trans (hb.mono hV.size), hb⟩ : _ ∧ Below wr.heap.size wr w' ∧ Below V.heap.size V w'))
          have hbA : Below wr.heap.size wr wr.drew := (Below.refl _ _).drew
          have hbB : Below wr.heap.size wr ((wr.alloc (.cells #[.slice none 0 0, .slice none 0 0, .slice none 0 0, .slice none 0 0] 38)).drew) := ((Below.refl _ _).alloc (Nat.le_refl _) _).drew
          have hZ : BoxN ((wr.alloc (.cells #[.slice none 0 0, .slice none 0 0, .slice none 0 0, .slice none 0 0] 38)).drew) wr.heap.size 38 #[.slice none 0 0, .slice none 0 0, .slice none 0 0, .slice none 0 0] := (BoxN.new wr _ _).drew
          have hXl := hX.lt
          have hbr1 : b < wr.heap.size := by omega
          have hKeep := Lib.hid (fun V (hV : Below wr.heap.size wr V) => (⟨(hV.cell (p := ⟨xb, 0, none⟩) hXl).trans x0, (hV.cell (p := ⟨xb, 1, none⟩) hXl).trans x1, (hV.cell (p := ⟨xb, 2, none⟩) hXl).trans x2, (hV.cell (p := ⟨xb, 3, none⟩) hXl).trans x3, (hV.cell (p := ⟨b, off + k * 4, none⟩) hbr1).trans q0, (hV.cell (p := ⟨b, off + k * 4 + 1, none⟩) hbr1).trans q1, (hV.cell (p := ⟨b, off + k * 4 + 2, none⟩) hbr1).trans q2, (hV.cell (p := ⟨b, off + k * 4 + 3, none⟩) hbr1).trans q3⟩ :
            V.cell? ⟨xb, 0, none⟩ = some (.slice a1 S.U.length c1) ∧ V.cell? ⟨xb, 1, none⟩ = some (.slice a2 F.length c2) ∧ V.cell? ⟨xb, 2, none⟩ = some (.slice a3 S.Wo.length c3) ∧ V.cell? ⟨xb, 3, none⟩ = some (.slice a4 S.He.length c4) ∧ V.cell? ⟨b, off + k * 4, none⟩ = some (.int .i64 ak) ∧ V.cell? ⟨b, off + k * 4 + 1, none⟩ = some (.int .i64 au) ∧ V.cell? ⟨b, off + k * 4 + 2, none⟩ = some (.int .i64 af) ∧ V.cell? ⟨b, off + k * 4 + 3, none⟩ = some (.int .i64 at_)))
          have HAsk := Lib.hid (fun V (hM : BibaAt V w.heap.size p F S Au Af Aw Ah cu cf cw ch) (hs : w.heap.size ≤ V.heap.size) => Ask_any2 (ok := (fun b => b < w.heap.size ∨ xb ≤ b)) hM (fun n1 n2 => hNo (by intro e; rw [e] at hSU; have := hSU.out; exact n1 (List.length_eq_zero_iff.1 (by rw [this]; rfl))) n2) hs (by have := hSU.out; omega) (by omega) ak au af at_)
          have hlen := Lib.hid (bAsk_len (F := F) (S := S) ak au af)
          generalize bAsk F S ak au af = r at *
          obtain ⟨S', code⟩ := r
          go_wp2_with fail
          go_cut [12, 13] from 42 to 100 (fun x12 x13 wx => ∃ (xc : Nat) (vs : Array Value), x12 = .pointer (some ⟨xc, 0, none⟩) ∧ x13 = .int .i64 code ∧ BoxN wx xc 38 vs ∧ xc ≠ xb ∧ RB (fun b => b < w.heap.size ∨ xb ≤ b) wx (.agg vs) F S' ∧ Below wr.heap.size wr wx)
          case first =>
            go_region_held3 (fun V => V.cell? ⟨xb, 0, none⟩ = some (.slice a1 S.U.length c1) ∧ V.cell? ⟨xb, 1, none⟩ = some (.slice a2 F.length c2) ∧ V.cell? ⟨xb, 2, none⟩ = some (.slice a3 S.Wo.length c3) ∧ V.cell? ⟨xb, 3, none⟩ = some (.slice a4 S.He.length c4) ∧ V.cell? ⟨b, off + k * 4, none⟩ = some (.int .i64 ak) ∧ V.cell? ⟨b, off + k * 4 + 1, none⟩ = some (.int .i64 au) ∧ V.cell? ⟨b, off + k * 4 + 2, none⟩ = some (.int .i64 af) ∧ V.cell? ⟨b, off + k * 4 + 3, none⟩ = some (.int .i64 at_))
              ((refine hKeep.out _ ?_; repeat (first | assumption | exact hbA | exact hbB | refine Below.setCell ?_ (by simp) _ | refine Below.alloc ?_ (by first | exact Nat.le_refl _ | exact Below.size (by assumption)) _ | refine Below.drew ?_)))
              ((go_at_call 21; with_reducible refine (CQ.out _ (by first | exact hbA | exact hbB)).mono ?_; rintro e w5 ⟨⟨v', rfl, ⟨⟨s1, s2, s3, s4, d1, d2, d3, d4, rfl, j1, j2, j3, j4⟩⟩⟩, hb5, hbv⟩; try (have hz5 := BoxN.all hZ hbv; have z0 := hz5.cell (k := 0) rfl; have z1 := hz5.cell (k := 1) rfl; have z2 := hz5.cell (k := 2) rfl; have z3 := hz5.cell (k := 3) rfl; have fz0 := hz5.free 0; have fz1 := hz5.free 1; have fz2 := hz5.free 2; have fz3 := hz5.free 3)))
            all_goals (go_wp2_with fail; go_meet)
            · exact ⟨_, _, rfl, rfl, BoxN.new _ _ _, by have := hb5.size; omega, (RB.below (ok := (fun b => b < w.heap.size ∨ xb ≤ b)) (w := w5) ⟨s1, s2, s3, s4, d1, d2, d3, d4, rfl, j1, j2, j3, j4⟩ ((Below.refl _ _).alloc (Nat.le_refl _) _)), hb5.alloc hb5.size _⟩
            · exact ⟨_, _, rfl, rfl, (((hz5.set 0 _).set 1 _).set 2 _).set 3 _, by omega, ⟨s1, s2, s3, s4, d1, d2, d3, d4, rfl, ⟨j1.1.box hz5 zeros_no_int cell_set4, j1.2⟩, ⟨j2.1.box hz5 zeros_no_int cell_set4, j2.2⟩, ⟨j3.1.box hz5 zeros_no_int cell_set4, j3.2⟩, ⟨j4.1.box hz5 zeros_no_int cell_set4, j4.2⟩⟩, (((hb5.setCell (p := ⟨_, 0, none⟩) (Nat.le_refl _) _).setCell (p := ⟨_, 1, none⟩) (Nat.le_refl _) _).setCell (p := ⟨_, 2, none⟩) (Nat.le_refl _) _).setCell (p := ⟨_, 3, none⟩) (Nat.le_refl _) _⟩
          case rest =>
          obtain ⟨xc, vs, rfl, rfl, hC, hcx, hR5, hb5⟩ := hcut
          clear CQ hbA hbB hZ hKeep x0 x1 x2 x3
          obtain ⟨s1, s2, s3, s4, d1, d2, d3, d4, hvs, i1, i2, i3, i4⟩ := hR5.is
          injection hvs with hvs
          subst hvs
          have hX5 := hX.all hb5
          have y0 := hC.cell (k := 0) rfl
          have y1 := hC.cell (k := 1) rfl
          have y2 := hC.cell (k := 2) rfl
          have y3 := hC.cell (k := 3) rfl
          have x0 := hX5.cell (k := 0) rfl
          have x1 := hX5.cell (k := 1) rfl
          have x2 := hX5.cell (k := 2) rfl
          have x3 := hX5.cell (k := 3) rfl
          have fx0 := hX5.free 0
          have fx1 := hX5.free 1
          have fx2 := hX5.free 2
          have fx3 := hX5.free 3
          have q0 := (hb5.cell (p := ⟨b, _, none⟩) hbr1).trans q0
          have q1 := (hb5.cell (p := ⟨b, _, none⟩) hbr1).trans q1
          have q2 := (hb5.cell (p := ⟨b, _, none⟩) hbr1).trans q2
          have q3 := (hb5.cell (p := ⟨b, _, none⟩) hbr1).trans q3
          have hbx : b ≠ xb := by omega
          have hM5 := hB.all hb5
          have hb05 := hbr.trans (hb5.mono hsr)
          go_wp2_with fail
          have hX6 := (((hX5.set 0 (.slice s1 S'.U.length d1)).set 1 (.slice s2 F.length d2)).set 2 (.slice s3 S'.Wo.length d3)).set 3 (.slice s4 S'.He.length d4)
          have hX6 : BoxN _ _ _ #[.slice s1 S'.U.length d1, .slice s2 F.length d2, .slice s3 S'.Wo.length d3, .slice s4 S'.He.length d4] := hX6
          have hxw : w.heap.size ≤ xb := hs2
          have hb06 := (((hb05.setCell (p := ⟨xb, 0, none⟩) hxw (.slice s1 S'.U.length d1)).setCell (p := ⟨xb, 1, none⟩) hxw (.slice s2 F.length d2)).setCell (p := ⟨xb, 2, none⟩) hxw (.slice s3 S'.Wo.length d3)).setCell (p := ⟨xb, 3, none⟩) hxw (.slice s4 S'.He.length d4)
          have hM6 := hM5.off (w' := (((wc.setCell ⟨xb, 0, none⟩ (.slice s1 S'.U.length d1)).setCell ⟨xb, 1, none⟩ (.slice s2 F.length d2)).setCell ⟨xb, 2, none⟩ (.slice s3 S'.Wo.length d3)).setCell ⟨xb, 3, none⟩ (.slice s4 S'.He.length d4)) hX5 (by decide) (by decide) (fun A l h => h.box hX5 slices_no_int cell_set4) heap_set4
          have i1 : IntsIn (fun b => b < w.heap.size ∨ xb ≤ b) _ s1 S'.U := ⟨i1.1.box hX5 slices_no_int (cell_set4 (v0 := .slice s1 S'.U.length d1) (v1 := .slice s2 F.length d2) (v2 := .slice s3 S'.Wo.length d3) (v3 := .slice s4 S'.He.length d4)), i1.2⟩
          have i2 : IntsIn (fun b => b < w.heap.size ∨ xb ≤ b) _ s2 F := ⟨i2.1.box hX5 slices_no_int (cell_set4 (v0 := .slice s1 S'.U.length d1) (v1 := .slice s2 F.length d2) (v2 := .slice s3 S'.Wo.length d3) (v3 := .slice s4 S'.He.length d4)), i2.2⟩
          have i3 : IntsIn (fun b => b < w.heap.size ∨ xb ≤ b) _ s3 S'.Wo := ⟨i3.1.box hX5 slices_no_int (cell_set4 (v0 := .slice s1 S'.U.length d1) (v1 := .slice s2 F.length d2) (v2 := .slice s3 S'.Wo.length d3) (v3 := .slice s4 S'.He.length d4)), i3.2⟩
          have i4 : IntsIn (fun b => b < w.heap.size ∨ xb ≤ b) _ s4 S'.He := ⟨i4.1.box hX5 slices_no_int (cell_set4 (v0 := .slice s1 S'.U.length d1) (v1 := .slice s2 F.length d2) (v2 := .slice s3 S'.Wo.length d3) (v3 := .slice s4 S'.He.length d4)), i4.2⟩
          generalize (((wc.setCell ⟨xb, 0, none⟩ (.slice s1 S'.U.length d1)).setCell ⟨xb, 1, none⟩ (.slice s2 F.length d2)).setCell ⟨xb, 2, none⟩ (.slice s3 S'.Wo.length d3)).setCell ⟨xb, 3, none⟩ (.slice s4 S'.He.length d4) = w6 at *
          clear x0 x1 x2 x3 y0 y1 y2 y3 fx0 fx1 fx2 fx3 q0 q1 q2 q3 hX5 hM5 hC hR5 hB hR hX
          have hs6 := hb06.size
          refine (HAsk.out _ hM6 hs6).mono ?_
          rintro e w7 ⟨rfl, hM7, hb7, hk7, hsp7⟩
          have hX7 := hk7.box hX6 (by decide)
          have hb07 := hb06.trans hb7
          have i1 := i1.spares hsp7
          have i2 := i2.spares hsp7
          have i3 := i3.spares hsp7
          have i4 := i4.spares hsp7
          clear hX6 hM6 hb7 hk7 hsp7 HAsk
          have HE := Lib.hid (Error_is code code true w7 (hE.next hb07) (by simp))
          go_wp2_with fail
          refine HE.out.mono ?_
          rintro e w8 ⟨rfl, hb8⟩
          have hM8 := hM7.all hb8
          have hX8 := hX7.all hb8
          have hs7 := hb07.size
          have hb08 := hb07.trans (hb8.mono hs7)
          have i1 := i1.below hb8
          have i2 := i2.below hb8
          have i3 := i3.below hb8
          have i4 := i4.below hb8
          have x0 := hX8.cell (k := 0) rfl
          have x2 := hX8.cell (k := 2) rfl
          clear hX7 hM7 HE hb8 hb07 hb06 hb05 hs6 hs7 hb5
          have hSU' := Lib.hid (show S'.U.length = U.length from hlen.out.trans hSU.out)
          have hRB8 : RB (fun b => b < w.heap.size ∨ xb ≤ b) w8 (.agg #[.slice s1 S'.U.length d1, .slice s2 F.length d2, .slice s3 S'.Wo.length d3, .slice s4 S'.He.length d4]) F S' := ⟨_, _, _, _, _, _, _, _, rfl, i1, i2, i3, i4⟩
          go_wp2_with fail
          go_loopw [14] (fun u wu => ∃ (j q : Nat), j ≤ U.length ∧ u = .int .i64 j ∧ wu = w8.drewN q) (fun u _ => U.length - (intOf u).toNat)
          case atStart => exact ⟨0, 0, Nat.zero_le _, rfl, rfl⟩
          case round =>
            obtain ⟨j, q, hj, rfl, rfl⟩ := hrel
            by_cases hjU : j < U.length
            · have hjL : j < S'.U.length := by have := hSU'.out; omega
              obtain ⟨ub, uoff, rfl, huc⟩ := i1.1 (by intro e; rw [e] at hjL; simp at hjL)
              have f0 := huc j _ (get_gI hjL)
              have HL := Lib.hid (fun q' => Level_any (hM8.all (belowD (Below.refl _ w8) q')) (by have := hSU'.out; omega) (j : Int))
              have hlv : lev S'.U (j : Int) = gI S'.U j := by unfold lev; rw [if_pos (by omega)]; rfl
              rw [hlv] at HL
              clear huc hlv
              generalize gI S'.U j = xx at *
              go_wp2_with fail
              go_quiet (with_reducible exact quiet2 (HL.out _))
              go_wp2_with fail
              refine ⟨⟨j + 1, q + nq, by omega, ?ya, ?yb⟩, ?yc⟩
              case ya => go_num
              case yb => simp
              case yc => simp [intOf]; omega
            · go_wp2_with fail
              go_loopw [15] (fun u wu => ∃ (j q : Nat), j ≤ F.length ∧ u = .int .i64 j ∧ wu = w8.drewN q) (fun u _ => F.length - (intOf u).toNat)
              case atStart => exact ⟨0, q, Nat.zero_le _, rfl, rfl⟩
              case round =>
                obtain ⟨j, q, hj, rfl, rfl⟩ := hrel
                by_cases hjU : j < F.length
                · have hjL : j < S'.Wo.length := by have := hM8.lw; omega
                  obtain ⟨ub, uoff, rfl, huc⟩ := i3.1 (by intro e; rw [e] at hjL; simp at hjL)
                  have f0 := huc j _ (get_gI hjL)
                  have HL := Lib.hid (fun q' => Worst_any (hM8.all (belowD (Below.refl _ w8) q')) (by omega) (j : Int))
                  have hlv : lev S'.Wo (j : Int) = gI S'.Wo j := by unfold lev; rw [if_pos (by omega)]; rfl
                  rw [hlv] at HL
                  clear huc hlv
                  generalize gI S'.Wo j = xx at *
                  go_wp2_with fail
                  go_quiet (with_reducible exact quiet2 (HL.out _))
                  go_wp2_with fail
                  refine ⟨⟨j + 1, q + nq, by omega, ?za, ?zb⟩, ?zc⟩
                  case za => go_num
                  case zb => simp
                  case zc => simp [intOf]; omega
                · go_wp2_with fail
                  have hbq := belowD hb08 q
                  refine ⟨⟨k + 1, S', _, by omega, ?xa, hM8.all (belowD (Below.refl _ w8) q), hSU', hX8.drewN q, hRB8.below (belowD (Below.refl _ w8) q), hbq⟩, ?xd⟩
                  case xa => go_num
                  case xd => simp [intOf]; omega
        · have hlw := hB.lw
          have T1 := Lib.hid (Level_any hB (by have := hSU.out; omega) (-1))
          have T2 := Lib.hid (Level_any hB (by have := hSU.out; omega) (U.length : Int))
          have T3 := Lib.hid (Worst_any hB (by omega) (F.length : Int))
          rw [show lev S.U (-1) = -1 by unfold lev; rw [if_neg (by omega)]] at T1
          rw [show lev S.U (U.length : Int) = -1 by unfold lev; rw [if_neg (by have := hSU.out; omega)]] at T2
          rw [show lev S.Wo (F.length : Int) = -1 by unfold lev; rw [if_neg (by omega)]] at T3
          clear hlw hB hX hR
          go_wp2_with (first | (go_at_call 16; with_reducible refine T1.out.mono ?_; rintro e w' ⟨rfl, rfl⟩) | (go_at_call 16; with_reducible refine T2.out.mono ?_; rintro e w' ⟨rfl, rfl⟩) | (go_at_call 18; with_reducible refine T3.out.mono ?_; rintro e w' ⟨rfl, rfl⟩))
          all_goals
            go_ret
            exact ⟨ret_bool (by simp), hbr⟩
    · exact BibaPlays_badF U Ua Uc F Fa Fc n Ka Kc w hU hF sU sF hE h1 h2
  · exact BibaPlays_badU U Ua Uc F Fa Fc n Ka Kc w hU hF sU sF hE h1
end Go.Proofs.YtodikdmmmfeddaaDoor
