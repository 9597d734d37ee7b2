/-
  The walk of BibaPure.
-/
import Derived.Test.YtodikdmmmfeddaaDoorBibaF
import Derived.Test.YtodikdmmmfeddaaDoorStructs
namespace Go.Proofs.YtodikdmmmfeddaaDoor
open Go.RowKit
set_option maxRecDepth 100000
set_option linter.unusedVariables false

set_option maxHeartbeats 2000000 in
theorem BibaPure_walk (U : List Int) (Ua : Option Addr) (Uc : Nat) {W : World} (hU : IntsAt W Ua U) (sU : U.length < 2 ^ 47) (bU : ∀ x ∈ U, I64 x) (F : List Int) (Fa : Option Addr) (Fc : Nat) (hF : IntsAt W Fa F) (sF : F.length < 2 ^ 47) (bF : ∀ x ∈ F, I64 x)
    (n : Nat) (K : List Int) (Ka : Option Addr) (Kc : Nat) (hn : K.length = n * 4) (hK : IntsAt W Ka K) (sK : n * 4 < 2 ^ 47) (bK : ∀ x ∈ K, I64 x) (w : World) (hw : w = W) (hE : ErrT W) :
    Calls Tryd.prog 4 #[.slice Ua U.length Uc, .slice Fa F.length Fc, .slice Ka n Kc] w fun e w' => e = .returned (.bool true) ∧ Below W.heap.size W w' := by
  subst hw
  have H0 := Lib.hid (bibaFact_true w hE)
  by_cases h12 : levCode U 8 = 0 ∧ levCode F 8 = 0
  · have HN := Lib.hid (fun V hU hF => New_ok U F Ua Fa Uc Fc V hU hF h12.1 h12.2)
    have hu8 := (levCode_ok h12.1).1
    have hf8 := (levCode_ok h12.2).1
    clear h12
    go_enter Tryd.func4, Tryd.ntmps4
    go_wp2_with (with_reducible refine H0.out.mono ?_; rintro e w1 ⟨rfl, hb1⟩)
    refine (HN.out _ (hU.below hb1) (hF.below hb1)).mono ?_
    rintro e w2 ⟨⟨p, Au, Af, Aw, Ah, cu, cf, cw, ch, rfl, h1⟩, hb2⟩
    clear HN H0
    have hs1 := hb1.size
    have hs2 := hb2.size
    generalize w1.heap.size = base at *
    have hb02 := hb1.trans (hb2.mono hs1)
    clear hb1
    go_wp2_with fail
    go_loopw [10, 11] (fun i _ wr => ∃ (k : Nat) (S : BS), k ≤ n ∧ i = .int .i64 k ∧ BibaAt wr base p F S Au Af Aw Ah cu cf cw ch ∧ S.U.length = U.length ∧ BInv F S ∧ Below w.heap.size w wr ∧ base ≤ wr.heap.size) (fun i _ _ => n - (intOf i).toNat)
    case atStart => exact ⟨0, _, Nat.zero_le _, rfl, h1, rfl, BInv.start U F, hb02, hs2⟩
    case round =>
      obtain ⟨k, S, hk, rfl, hB, hSU, hinv, hbr, hsr⟩ := hrel
      by_cases hlt : k < n ∧ k < 100
      · obtain ⟨hkn, hk100⟩ := hlt
        obtain ⟨b, off, rfl, hc⟩ := hK (by intro e; simp [e] at hn; omega)
        have p0 := hc (k * 4) _ (get_gI (by omega))
        have hbw : b < w.heap.size := block_lt p0
        have q0 := (hbr.cell (p := ⟨b, _, none⟩) hbw).trans p0
        have q1 : wr.cell? ⟨b, off + k * 4 + 1, none⟩ = some (.int .i64 (gI K (k * 4 + 1))) := (hbr.cell (p := ⟨b, _, none⟩) hbw).trans (hc (k * 4 + 1) _ (get_gI (by omega)))
        have q2 : wr.cell? ⟨b, off + k * 4 + 2, none⟩ = some (.int .i64 (gI K (k * 4 + 2))) := (hbr.cell (p := ⟨b, _, none⟩) hbw).trans (hc (k * 4 + 2) _ (get_gI (by omega)))
        have q3 : wr.cell? ⟨b, off + k * 4 + 3, none⟩ = some (.int .i64 (gI K (k * 4 + 3))) := (hbr.cell (p := ⟨b, _, none⟩) hbw).trans (hc (k * 4 + 3) _ (get_gI (by omega)))
        clear p0
        have d100 : decide ((k : Int) < 100) = true := by simp; omega
        generalize gI K (k * 4) = ak at *
        generalize gI K (k * 4 + 1) = au at *
        generalize gI K (k * 4 + 2) = af at *
        generalize gI K (k * 4 + 3) = at_ at *
        have HA := Lib.hid (Ask_any hB hsr (by omega) (by omega) ak au af at_)
        have hlen := bAsk_len (F := F) (S := S) ak au af
        have hinv' := hinv.ask ak au af
        generalize hb' : bAsk F S ak au af = r at *
        obtain ⟨S', code⟩ := r
        simp only at hinv' hlen
        clear hb'
        go_wp2_with fail
        refine HA.out.mono ?_
        rintro e w3 ⟨rfl, hB3, hb3, -⟩
        clear HA q0 q1 q2 q3 hB hinv
        have hbr3 := hbr.trans (hb3.mono hs1)
        have hs3 := hb3.size
        have HP := Lib.hid hinv'.pure_
        have hlw := hB3.lw
        have Hend := Lib.hid (show S'.U.length = U.length ∧ BInv F S' from ⟨hlen.trans hSU, hinv'⟩)
        clear hinv'
        go_wp2_with fail
        go_loopw [11] (fun f wf => ∃ (j q : Nat), j ≤ F.length ∧ f = .int .i64 j ∧ wf = w3.drewN q) (fun f _ => F.length - (intOf f).toNat)
        case atStart => exact ⟨0, 0, Nat.zero_le _, rfl, rfl⟩
        case round =>
          obtain ⟨j, q, hj, rfl, rfl⟩ := hrel
          by_cases hjF : j < F.length
          · obtain ⟨fb, foff, rfl, hfc⟩ := hF (by intro e; simp [e] at hjF)
            have p0 := hfc j _ (get_gI hjF)
            have hfw : fb < w.heap.size := block_lt p0
            have f0 := (hbr3.cell (p := ⟨fb, _, none⟩) hfw).trans p0
            have HW := Lib.hid (fun q' => Worst_any (hB3.all (belowD (Below.refl _ _) q')) (by omega) (j : Int))
            have hlv : lev S'.Wo (j : Int) = gI S'.Wo j := by unfold lev; rw [if_pos (by omega)]; rfl
            have hx := HP.out j hjF
            rw [hlv] at HW
            clear p0 hfc hlv
            generalize gI F j = xf at *
            generalize gI S'.Wo j = xw at *
            have hd : decide (xw < xf) = false := by simp; omega
            go_wp2_with fail
            go_quiet (with_reducible exact quiet2 (HW.out _))
            go_wp2_with fail
            refine ⟨⟨j + 1, q + nq, by omega, ?ya, ?yb⟩, ?yc⟩
            case ya => go_num
            case yb => simp
            case yc => simp [intOf]; omega
          · have HB := Lib.hid (hB3.all (belowD (Below.refl _ w3) q))
            have hbq := belowD hbr3 q
            clear hbr3
            go_wp2_with fail
            refine ⟨⟨k + 1, S', by omega, ?xb, HB.out, Hend.out.1, Hend.out.2, hbq, by show base ≤ w3.heap.size; omega⟩, ?xd⟩
            case xb => go_num
            case xd => simp [intOf]; omega
      · go_wp2_with fail
        all_goals
          go_ret
          exact ⟨rfl, hbr⟩
  · obtain ⟨kk, hkk, hne⟩ : ∃ kk, kk = (if levCode U 8 ≠ 0 then levCode U 8 else levCode F 8) ∧ kk ≠ 0 := ⟨_, rfl, by split <;> simp_all⟩
    have HN := Lib.hid (fun V hU hF => New_bad U F Ua Fa Uc Fc V hU hF (by omega) (by omega) kk hkk hne)
    clear h12 hkk hne
    go_enter Tryd.func4, Tryd.ntmps4
    go_wp2_with (with_reducible refine H0.out.mono ?_; rintro e w1 ⟨rfl, hb1⟩)
    refine (HN.out _ (hU.below hb1) (hF.below hb1)).mono ?_
    rintro e w2 ⟨rfl, rfl⟩
    go_wp2_with fail
    go_ret
    exact ⟨rfl, hb1⟩
end Go.Proofs.YtodikdmmmfeddaaDoor
