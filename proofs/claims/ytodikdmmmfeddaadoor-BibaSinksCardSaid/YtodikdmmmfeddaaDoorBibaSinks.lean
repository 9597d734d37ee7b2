/-
  The walk of BibaSinks.
-/
import Derived.Test.YtodikdmmmfeddaaDoorBibaF
import Derived.Test.YtodikdmmmfeddaaDoorStructs
namespace Go.Proofs.YtodikdmmmfeddaaDoor
open Go.RowKit
set_option maxRecDepth 100000
set_option linter.unusedVariables false

set_option maxHeartbeats 2000000 in
theorem BibaSinks_walk (U : List Int) (Ua : Option Addr) (Uc : Nat) {W : World} (hU : IntsAt W Ua U) (sU : U.length < 2 ^ 47) (bU : ∀ x ∈ U, I64 x) (F : List Int) (Fa : Option Addr) (Fc : Nat) (hF : IntsAt W Fa F) (sF : F.length < 2 ^ 47) (bF : ∀ x ∈ F, I64 x)
    (n : Nat) (K : List Int) (Ka : Option Addr) (Kc : Nat) (hn : K.length = n * 4) (hK : IntsAt W Ka K) (sK : n * 4 < 2 ^ 47) (bK : ∀ x ∈ K, I64 x) (w : World) (hw : w = W) (hE : ErrT W) :
    Calls Tryd.prog 3 #[.slice Ua U.length Uc, .slice Fa F.length Fc, .slice Ka n Kc] w fun e w' => e = .returned (.bool true) ∧ Below W.heap.size W w' := by
  subst hw
  have H0 := Lib.hid (bibaFact_true w hE)
  by_cases h12 : levCode U 8 = 0 ∧ levCode F 8 = 0
  · have HN := Lib.hid (fun V hU hF => New_ok U F Ua Fa Uc Fc V hU hF h12.1 h12.2)
    have hu8 := (levCode_ok h12.1).1
    have hf8 := (levCode_ok h12.2).1
    clear h12
    go_enter Tryd.func3, Tryd.ntmps3
    go_wp2_with (with_reducible refine H0.out.mono ?_; rintro e w1 ⟨rfl, hb1⟩)
    refine (HN.out _ (hU.below hb1) (hF.below hb1)).mono ?_
    rintro e w2 ⟨⟨p, Au, Af, Aw, Ah, cu, cf, cw, ch, rfl, h1⟩, hb2⟩
    clear HN H0
    have hs1 := hb1.size
    have hs2 := hb2.size
    generalize w1.heap.size = base at *
    have hb02 := hb1.trans (hb2.mono hs1)
    clear hb1
    go_wp2_with fail
    go_loopw [10, 11, 12, 13, 14] (fun i _ _ _ _ wr => ∃ (k : Nat) (S : BS), k ≤ n ∧ i = .int .i64 k ∧ BibaAt wr base p F S Au Af Aw Ah cu cf cw ch ∧ S.U.length = U.length ∧ Below w.heap.size w wr ∧ base ≤ wr.heap.size) (fun i _ _ _ _ _ => n - (intOf i).toNat)
    case atStart => exact ⟨0, _, Nat.zero_le _, rfl, h1, rfl, hb02, hs2⟩
    case round =>
      obtain ⟨k, S, hk, rfl, hB, hSU, hbr, hsr⟩ := hrel
      by_cases hlt : k < n ∧ k < 100
      · obtain ⟨hkn, hk100⟩ := hlt
        obtain ⟨b, off, rfl, hc⟩ := hK (by intro e; simp [e] at hn; omega)
        have p0 := hc (k * 4) _ (get_gI (by omega))
        have hbw : b < w.heap.size := block_lt p0
        have q0 := (hbr.cell (p := ⟨b, _, none⟩) hbw).trans p0
        have q1 : wr.cell? ⟨b, off + k * 4 + 1, none⟩ = some (.int .i64 (gI K (k * 4 + 1))) := (hbr.cell (p := ⟨b, _, none⟩) hbw).trans (hc (k * 4 + 1) _ (get_gI (by omega)))
        have q2 : wr.cell? ⟨b, off + k * 4 + 2, none⟩ = some (.int .i64 (gI K (k * 4 + 2))) := (hbr.cell (p := ⟨b, _, none⟩) hbw).trans (hc (k * 4 + 2) _ (get_gI (by omega)))
        have q3 : wr.cell? ⟨b, off + k * 4 + 3, none⟩ = some (.int .i64 (gI K (k * 4 + 3))) := (hbr.cell (p := ⟨b, _, none⟩) hbw).trans (hc (k * 4 + 3) _ (get_gI (by omega)))
        clear p0
        have d100 : decide ((k : Int) < 100) = true := by simp; omega
        generalize gI K (k * 4) = ak at *
        generalize gI K (k * 4 + 1) = au at *
        generalize gI K (k * 4 + 2) = af at *
        generalize gI K (k * 4 + 3) = at_ at *
        go_wp2_with fail
        have hA := BoxN.new wr 31 #[.int .i64 ak, .int .i64 au, .int .i64 af, .int .i64 at_]
        have hba := (Below.refl wr.heap.size wr).alloc (Nat.le_refl _) (.cells #[.int .i64 ak, .int .i64 au, .int .i64 af, .int .i64 at_] 31)
        generalize wr.alloc (.cells #[.int .i64 ak, .int .i64 au, .int .i64 af, .int .i64 at_] 31) = wa at *
        have hBa := hB.all hba
        have hra := hba.size
        have hbra := hbr.trans (hba.mono hbr.size)
        clear q0 q1 q2 q3 hB hba
        have a0 := hA.cell (k := 0) rfl
        have a1 := hA.cell (k := 1) rfl
        have a2 := hA.cell (k := 2) rfl
        have a3 := hA.cell (k := 3) rfl
        refine (Level_any hBa (by omega) au).mono ?_
        rintro e w' ⟨rfl, rfl⟩
        have HA := Lib.hid (Ask_any hBa (by omega) (by omega) (by omega) ak au af at_)
        have hle := sink_le (F := F) (S := S) ak au af
        have her := sink_err (F := F) (S := S) (k := ak) (u := au) (f := af)
        have hok := sink_ok (F := F) (S := S) (k := ak) (u := au) (f := af)
        have hlen := bAsk_len (F := F) (S := S) ak au af
        have hbK : b < wa.heap.size := by have := hbra.size; omega
        generalize hb' : bAsk F S ak au af = r at *
        obtain ⟨S', code⟩ := r
        simp only at hle her hok hlen
        have hd1 : decide (lev S'.U au > lev S.U au) = false := by simp; omega
        clear hBa hb'
        generalize hws : lev S.U au = was at *
        go_wp2_with fail
        refine HA.out.mono ?_
        rintro e w3 ⟨rfl, hB3, hb3, hk3⟩
        have hA3 := hk3.box hA (by decide)
        clear hA a0 a1 a2 a3 HA hk3
        have a0 := hA3.cell (k := 0) rfl
        have a1 := hA3.cell (k := 1) rfl
        have a2 := hA3.cell (k := 2) rfl
        have hbr3 := hbra.trans (hb3.mono (by omega))
        have hs3 := hb3.size
        have HL := Lib.hid (Level_any hB3 (by omega) au)
        by_cases hcode : code = 0
        · obtain ⟨⟨hf0, hf1⟩, hk0, hk1⟩ := hok hcode
          subst hcode
          rw [errVal_zero]
          obtain ⟨fn, rfl⟩ := Int.eq_ofNat_of_zero_le hf0
          obtain ⟨fb, foff, rfl, hfc⟩ := hF (by intro e; simp [e] at hf1; omega)
          have p0 := hfc fn _ (get_gI (by omega))
          have hfw : fb < w.heap.size := block_lt p0
          have f0 := (hbr3.cell (p := ⟨fb, _, none⟩) hfw).trans p0
          clear p0 hfc her hok hle
          simp only [Int.toNat_natCast] at hk0 hk1
          generalize gI F fn = xf at *
          generalize lev S'.U au = now at *
          have dn : decide ((fn : Int) < F.length) = true := by simp; omega
          have Hend := Lib.hid (show BibaAt w3 base p F S' Au Af Aw Ah cu cf cw ch ∧ S'.U.length = U.length ∧ Below w.heap.size w w3 ∧ base ≤ w3.heap.size from ⟨hB3, hlen.trans hSU, hbr3, by omega⟩)
          clear hB3 hlen hbr3 hb3
          by_cases hz : ak = 0
          · subst hz
            have hx : decide (now > xf) = false := by simp; have := hk0 rfl; omega
            clear hk0 hk1
            go_wp2_with (with_reducible refine HL.out.mono ?_; rintro e w' ⟨rfl, rfl⟩)
            refine ⟨⟨k + 1, S', by omega, ?xb, Hend.out⟩, ?xd⟩
            case xb => go_num
            case xd => simp [intOf]; omega
          · have dz : decide (ak = 0) = false := by simp [hz]
            have hx : (if ak = 1 then decide (now < xf) else false) = false := by split <;> simp; rename_i h; have := hk1 h; omega
            by_cases h1 : ak = 1
            · subst h1
              have hx : decide (now < xf) = false := by simp; have := hk1 rfl; omega
              clear hk0 hk1
              go_wp2_with (with_reducible refine HL.out.mono ?_; rintro e w' ⟨rfl, rfl⟩)
              refine ⟨⟨k + 1, S', by omega, ?xb, Hend.out⟩, ?xd⟩
              case xb => go_num
              case xd => simp [intOf]; omega
            · have d1 : decide (ak = 1) = false := by simp [h1]
              clear hk0 hk1
              go_wp2_with (with_reducible refine HL.out.mono ?_; rintro e w' ⟨rfl, rfl⟩)
              refine ⟨⟨k + 1, S', by omega, ?xb, Hend.out⟩, ?xd⟩
              case xb => go_num
              case xd => simp [intOf]; omega
        · have hS' := her hcode
          subst hS'
          rw [errVal_pos hcode]
          rw [hws] at HL
          have Hend := Lib.hid (show BibaAt w3 base p F S' Au Af Aw Ah cu cf cw ch ∧ S'.U.length = U.length ∧ Below w.heap.size w w3 ∧ base ≤ w3.heap.size from ⟨hB3, hSU, hbr3, by omega⟩)
          clear hB3 hlen hbr3 hb3 her hok hle
          go_wp2_with (with_reducible refine HL.out.mono ?_; rintro e w' ⟨rfl, rfl⟩)
          refine ⟨⟨k + 1, S', by omega, ?xb, Hend.out⟩, ?xd⟩
          case xb => go_num
          case xd => simp [intOf]; omega
      · go_wp2_with fail
        all_goals
          go_ret
          exact ⟨rfl, hbr⟩
  · obtain ⟨kk, hkk, hne⟩ : ∃ kk, kk = (if levCode U 8 ≠ 0 then levCode U 8 else levCode F 8) ∧ kk ≠ 0 := ⟨_, rfl, by split <;> simp_all⟩
    have HN := Lib.hid (fun V hU hF => New_bad U F Ua Fa Uc Fc V hU hF (by omega) (by omega) kk hkk hne)
    clear h12 hkk hne
    go_enter Tryd.func3, Tryd.ntmps3
    go_wp2_with (with_reducible refine H0.out.mono ?_; rintro e w1 ⟨rfl, hb1⟩)
    refine (HN.out _ (hU.below hb1) (hF.below hb1)).mono ?_
    rintro e w2 ⟨rfl, rfl⟩
    go_wp2_with fail
    go_ret
    exact ⟨rfl, hb1⟩
end Go.Proofs.YtodikdmmmfeddaaDoor
