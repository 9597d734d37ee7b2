/-
  The walk of TrailOpens.
-/
import Derived.Test.YtncokblinocgaaaGreatDoorROpen
import Derived.Test.YtncokblinocgaaaGreatDoorTrO
import Derived.Test.YtncokblinocgaaaGreatDoorDoorA
import Derived.Deep.RegionHeld3
import Derived.Deep.CutRange
namespace Go.Proofs.YtncokblinocgaaaGreatDoor
open Go.RowKit
set_option maxRecDepth 100000
set_option linter.unusedVariables false

set_option maxHeartbeats 1000000 in
theorem TrailOpens_bad (m : Nat) (U : List Int) (Ua : Option Addr) (Uc : Nat) (hU : U.length = m * 2) (sU : m * 2 < 2 ^ 47) (n : Nat) (F : List Int) (Fa : Option Addr) (Fc : Nat) (hF : F.length = n * 2) (sF : n * 2 < 2 ^ 47)
    (s : ByteArray) (w : World) (iU : IntsAt w Ua U) (iF : IntsAt w Fa F) (hE : ErrT w) (h12 : ¬ (labsCode U m 8 = 0 ∧ labsCode F n 8 = 0)) :
    Calls Tryz.prog 5 #[.slice Ua m Uc, .slice Fa n Fc, .string s] w fun e w' => e = .returned (.bool true) ∧ Below w.heap.size w w' := by
  obtain ⟨kk, hk⟩ : ∃ kk, (if labsCode U m 8 = 0 then labsCode F n 8 else labsCode U m 8) = kk := ⟨_, rfl⟩
  have hne : kk ≠ 0 := by
    rw [← hk]
    split
    · rename_i h; exact fun e => h12 ⟨h, e⟩
    · rename_i h; exact h
  have hk2 : kk = if labsCode U m 8 ≠ 0 then labsCode U m 8 else labsCode F n 8 := by
    rw [← hk]
    by_cases h : labsCode U m 8 = 0
    · rw [if_pos h, if_neg (fun e => e h)]
    · rw [if_neg h, if_pos h]
  have HR := Lib.hid (ROpen_bad U F m n hU hF Ua Fa Uc Fc s w iU iF (by omega) (by omega) kk hk hne)
  have HN := Lib.hid (fun V h1 h2 => TOpen_bad U F m n hU hF Ua Fa Uc Fc s V h1 h2 (by omega) (by omega) kk hk2 hne)
  have hz : ((kk : Int) != 0) = true := by simp; omega
  have hz' : (kk : Int) ≠ 0 := by omega
  clear hk hk2 h12
  unfold rtZ at *
  go_enter Tryz.func5, Tryz.ntmps5
  go_wp2_with fail
  with_reducible refine HR.out.mono ?_
  rintro e w1 ⟨rfl, hb1⟩
  have hb2 : Below w.heap.size w (w1.alloc (.cells #[.slice none 0 0, .slice none 0 0, .slice none 0 0, .slice none 0 0, .slice none 0 0, .string ⟨#[]⟩, .int .i64 0, .int .i64 0] 53)) := hb1.alloc hb1.size _
  go_wp2_with fail
  generalize w1.alloc (.cells #[.slice none 0 0, .slice none 0 0, .slice none 0 0, .slice none 0 0, .slice none 0 0, .string ⟨#[]⟩, .int .i64 0, .int .i64 0] 53) = w2 at *
  with_reducible refine (HN.out _ (iU.below hb2) (iF.below hb2)).mono ?_
  rintro e w3 ⟨rfl, hb3⟩
  have hb03 := hb2.trans (hb3.mono hb2.size)
  have HE := Error_is kk kk true w3 (hE.next hb03) (by simp)
  rw [errVal_pos hne] at HE
  have HE := Lib.hid HE
  go_wp2_with fail
  with_reducible refine HE.out.mono ?_
  rintro e w4 ⟨rfl, hb4⟩
  go_wp2_with fail
  go_ret
  exact ⟨rfl, hb03.trans (hb4.mono hb03.size)⟩

set_option maxHeartbeats 4000000 in
theorem TrailOpens_walk (m : Nat) (U : List Int) (Ua : Option Addr) (Uc : Nat) {W : World} (hU : U.length = m * 2) (iU : IntsAt W Ua U) (sU : m * 2 < 2 ^ 47) (n : Nat) (F : List Int) (Fa : Option Addr) (Fc : Nat) (hF : F.length = n * 2) (iF : IntsAt W Fa F) (sF : n * 2 < 2 ^ 47)
    (s : ByteArray) (hs : s.size ≤ 2000000) (w : World) (hw : w = W) (hG : Glob W) :
    Calls Tryz.prog 5 #[.slice Ua m Uc, .slice Fa n Fc, .string s] w fun e w' => e = .returned (.bool true) ∧ Below W.heap.size W w' := by
  subst hw
  by_cases h12 : labsCode U m 8 = 0 ∧ labsCode F n 8 = 0
  · have HR := Lib.hid (ROpen_ok U F m n hU hF Ua Fa Uc Fc s hs w iU iF h12.1 h12.2)
    have HN := Lib.hid (fun V (hV : Below w.heap.size w V) => TOpen_ok U F m n hU hF Ua Fa Uc Fc s (by omega) V (hG.next hV) (iU.below hV) (iF.below hV) h12.1 h12.2)
    have HE0 := Lib.hid (fun V (hV : Below w.heap.size w V) (code : Nat) => Error_is code code true V (hG.err.next hV) (by simp))
    obtain ⟨r, hr⟩ : ∃ r, tOpen U F (tStart m n) s.data.toList = r := ⟨_, rfl⟩
    rw [hr] at HR
    simp only [hr] at HN
    clear hr h12
    obtain ⟨T, many, code⟩ := r
    go_enter Tryz.func5, Tryz.ntmps5
    go_wp2_with fail
    with_reducible refine HR.out.mono ?_
    rintro e w1 ⟨⟨v', rfl, hok, hbad⟩, hb1⟩
    dsimp only at hok hbad ⊢
    by_cases h0 : code = 0
    · obtain ⟨a1, a2, a3, a4, a5, c1, c2, c3, c4, c5, rfl, -⟩ := (hok h0).is
      clear hok hbad HR
      subst h0
      dsimp only [rtV]
      have hb2 : Below w.heap.size w (w1.alloc (.cells #[.slice a1 T.S.Re.length c1, .slice a2 T.S.Ho.length c2, .slice a3 T.S.Re.length c3, .slice a4 T.S.Re.length c4, .slice a5 T.S.Ho.length c5, .string ⟨T.log.toArray⟩, .int .i64 T.many, .int .i64 T.chain] 53)) := hb1.alloc hb1.size _
      have hx := BoxN.new w1 53 #[.slice a1 T.S.Re.length c1, .slice a2 T.S.Ho.length c2, .slice a3 T.S.Re.length c3, .slice a4 T.S.Re.length c4, .slice a5 T.S.Ho.length c5, .string ⟨T.log.toArray⟩, .int .i64 T.many, .int .i64 T.chain]
      go_wp2_with fail
      generalize w1.alloc (.cells #[.slice a1 T.S.Re.length c1, .slice a2 T.S.Ho.length c2, .slice a3 T.S.Re.length c3, .slice a4 T.S.Re.length c4, .slice a5 T.S.Ho.length c5, .string ⟨T.log.toArray⟩, .int .i64 T.many, .int .i64 T.chain] 53) = w2 at *
      with_reducible refine (HN.out _ hb2).mono ?_
      rintro e w3 ⟨hop, hb3⟩
      have hb03 := hb2.trans (hb3.mono hb2.size)
      rcases hop with ⟨-, b, p, v, A, own, rfl, hT⟩ | ⟨h, -⟩
      rotate_left
      · exact absurd rfl h
      dsimp only at hT ⊢
      have hlow := hT.low
      have hX3 := (hx.all hb3).drew
      have x5 := (hx.all hb3).cell (k := 5) rfl
      have hno : ¬ own w1.heap.size := fun ho => by have h1 := hlow _ ho; have h2 := hx.lt; omega
      have HX3 := Lib.hid hX3
      have HT := Lib.hid (TText_any (hT.below ((Below.refl _ _).drew)))
      have HB := Lib.hid (fun w4 (hq : QKeeps own w3.drew w4) => hq.to_below (B := w.heap.size) (w0 := w) (fun k hk => Nat.le_trans hb2.size (hlow k hk)) hb03.drew hb03.drew.size)
      clear hT hx HN hX3 hlow
      go_wp2_with fail
      go_region_with (go_at_call 28; with_reducible refine HT.out.mono ?_; rintro e w4 ⟨rfl, -, hq4⟩; have x54 := (hq4.box HX3.out hno).cell (k := 5) rfl; have hb4 := HB.out w4 hq4)
      all_goals
        go_wp2_with fail
        go_ret
        exact ⟨by first | rfl | simp, by first | exact hb4 | exact hb4.drew⟩
    · obtain rfl := hbad h0
      clear hok hbad HR
      have hz : ((code : Int) != 0) = true := by simp; omega
      unfold rtZ at *
      have hb2 : Below w.heap.size w (w1.alloc (.cells #[.slice none 0 0, .slice none 0 0, .slice none 0 0, .slice none 0 0, .slice none 0 0, .string ⟨#[]⟩, .int .i64 0, .int .i64 0] 53)) := hb1.alloc hb1.size _
      go_wp2_with fail
      generalize w1.alloc (.cells #[.slice none 0 0, .slice none 0 0, .slice none 0 0, .slice none 0 0, .slice none 0 0, .string ⟨#[]⟩, .int .i64 0, .int .i64 0] 53) = w2 at *
      with_reducible refine (HN.out _ hb2).mono ?_
      rintro e w3 ⟨hop, hb3⟩
      have hb03 := hb2.trans (hb3.mono hb2.size)
      rcases hop with ⟨h, -⟩ | ⟨-, rfl⟩
      · exact absurd h h0
      dsimp only
      have HE := HE0.out _ hb03 code
      rw [errVal_pos h0] at HE
      have HE := Lib.hid HE
      clear HN HE0
      go_wp2_with fail
      with_reducible refine HE.out.mono ?_
      rintro e w4 ⟨rfl, hb4⟩
      go_wp2_with fail
      go_ret
      exact ⟨by first | rfl | simp, hb03.trans (hb4.mono hb03.size)⟩
  · exact TrailOpens_bad m U Ua Uc hU sU n F Fa Fc hF sF s w iU iF hG.err h12
end Go.Proofs.YtncokblinocgaaaGreatDoor
