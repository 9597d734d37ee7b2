/-
  The walk of WallPlays.
-/
import Derived.Test.YtodikdmmmfeddaaDoorWallF
import Derived.Test.YtodikdmmmfeddaaDoorWallQ
import Derived.Test.YtodikdmmmfeddaaDoorWallHolds
import Derived.Test.YtodikdmmmfeddaaDoorStructs
import Derived.Deep.RegionHeld3
import Derived.Deep.CutRange
import Derived.Deep.RegionLaw
namespace Go.Proofs.YtodikdmmmfeddaaDoor
open Go.RowKit
set_option maxRecDepth 100000
set_option linter.unusedVariables false

section
variable {w : World} {base p : Nat} {T : List Int} {S : WS} {At As Ah : Option Addr} {ct cs ch : Nat}
/-- The wall does not mind what another block holds. -/
theorem WallAt.off {w' : World} (h : WallAt w base p T S At As Ah ct cs ch) {x : Nat} {t : TypeId} {vs : Array Value} (hb : BoxN w x t vs) (hi : t ≠ 3) (hm : t ≠ 75) (hno : noInt vs) (hh : OnlyAt x w w') :
    WallAt w' base p T S At As Ah ct cs ch := by
  have hpx : p ≠ x := by
    rintro rfl
    have h1 : w.heap[p]? = _ := h.box
    have h2 : w.heap[p]? = _ := hb
    rw [h1] at h2
    injection h2 with h2
    injection h2 with _ h3
    exact hm h3.symm
  refine ⟨h.bp, (hh p hpx).trans h.box, h.it.box hb hno hh.cell, h.is.box hb hno hh.cell, h.ih.box hb hno hh.cell, fun n1 n2 => ?_⟩
  obtain ⟨gt, gs, gh, e1, e2, e3, ho⟩ := h.own n1 n2
  exact ⟨gt, gs, gh, e1, e2, e3, ho.bt, ho.bs, ho.bh, ho.ot.block (hh _ (ho.ot.ne_box hb hi.symm)), ho.os.block (hh _ (ho.os.ne_box hb hi.symm)), ho.oh.block (hh _ (ho.oh.ne_box hb hi.symm)), ho.ts, ho.th, ho.sh⟩
end

set_option maxHeartbeats 1000000 in
theorem WallPlays_bad (u : Int) (T : List Int) (Ta : Option Addr) (Tc : Nat) (n : Nat) (Ka : Option Addr) (Kc : Nat) (w : World) (hF : IntsAt w Ta T) (sT : T.length < 2 ^ 47) (hE : ErrT w) (h1 : wCode u T ≠ 0) :
    Calls Tryd.prog 9 #[.int .i64 u, .slice Ta T.length Tc, .slice Ka n Kc] w fun e w' => e = .returned (.bool true) ∧ Below w.heap.size w w' := by
  obtain ⟨kk, hk⟩ : ∃ kk, wCode u T = kk := ⟨_, rfl⟩
  have hne : kk ≠ 0 := by rw [← hk]; exact h1
  have HN := Lib.hid (fun V hU => WNew_bad u T Ta Tc V hU (by omega) kk hk hne)
  have HE := Error_is kk kk true w hE (by simp)
  rw [errVal_pos hne] at HE
  have HE := Lib.hid HE
  have hz : ((kk : Int) == 0) = false := by simpa using hne
  have hz' : (kk : Int) ≠ 0 := by omega
  unfold wCode at hk
  by_cases hu : 0 ≤ u ∧ u ≤ 8
  · rw [if_pos hu] at hk
    have L2 := Lib.hid (fun V (hV : IntsAt V Ta T) => Rlevels_any T 8 (by omega) Ta Tc V hV (by omega))
    rw [hk] at L2
    have d1 : decide (u < 0) = false := by simp; omega
    have d2 : decide (u > 8) = false := by simp; omega
    clear h1 hk hu
    go_enter Tryd.func9, Tryd.ntmps9
    go_wp2_with fail
    refine (L2.out _ hF).mono ?_
    rintro e w' ⟨rfl, rfl⟩
    go_wp2_with fail
    refine (HN.out _ hF).mono ?_
    rintro e w' ⟨rfl, rfl⟩
    go_wp2_with fail
    refine HE.out.mono ?_
    rintro e w' ⟨rfl, hb⟩
    go_wp2_with fail
    go_ret
    exact ⟨rfl, hb⟩
  · rw [if_neg hu] at hk
    subst hk
    by_cases h0 : u < 0
    · have d1 : decide (u < 0) = true := by simp; omega
      clear h1 hu h0
      go_enter Tryd.func9, Tryd.ntmps9
      go_wp2_with fail
      refine (HN.out _ hF).mono ?_
      rintro e w' ⟨rfl, rfl⟩
      go_wp2_with fail
      refine HE.out.mono ?_
      rintro e w' ⟨rfl, hb⟩
      go_wp2_with fail
      go_ret
      exact ⟨rfl, hb⟩
    · have d1 : decide (u < 0) = false := by simp; omega
      have d2 : decide (u > 8) = true := by simp; omega
      clear h1 hu h0
      go_enter Tryd.func9, Tryd.ntmps9
      go_wp2_with fail
      refine (HN.out _ hF).mono ?_
      rintro e w' ⟨rfl, rfl⟩
      go_wp2_with fail
      refine HE.out.mono ?_
      rintro e w' ⟨rfl, hb⟩
      go_wp2_with fail
      go_ret
      exact ⟨rfl, hb⟩

set_option maxHeartbeats 4000000 in
theorem WallPlays_walk (u : Int) {W : World} (hu : I64 u) (T : List Int) (Ta : Option Addr) (Tc : Nat) (hF : IntsAt W Ta T) (sT : T.length < 2 ^ 47) (bT : ∀ x ∈ T, I64 x)
    (n : Nat) (K : List Int) (Ka : Option Addr) (Kc : Nat) (hn : K.length = n * 4) (hK : IntsAt W Ka K) (sK : n * 4 < 2 ^ 47) (bK : ∀ x ∈ K, I64 x) (w : World) (hw : w = W) (hT : Tab W) (hE : ErrT W) :
    Calls Tryd.prog 9 #[.int .i64 u, .slice Ta T.length Tc, .slice Ka n Kc] w fun e w' => e = .returned (.bool true) ∧ Below W.heap.size W w' := by
  subst hw
  by_cases h12 : wCode u T = 0
  · obtain ⟨m, rfl, hm8, hlv⟩ := wCode_ok h12
    have HN := Lib.hid (fun V hU => WNew_ok m hm8 T Ta Tc V hU hlv)
    have L2 := Lib.hid (fun V (hV : IntsAt V Ta T) => Rlevels_any T 8 (by omega) Ta Tc V hV (by omega))
    rw [hlv] at L2
    have hn8 := (levCode_ok hlv).1
    have hI0 := WInv.start hm8 hn8
    have d1 : decide ((m : Int) < 0) = false := by simp
    have d2 : decide ((m : Int) > 8) = false := by simp; omega
    have hmk : ∀ V : World, (Instr.makeSlice 22 (.int .i64 m) (.int .i64 m)).run Tryd.prog V = .ok (.slice (some ⟨V.heap.size, 0, none⟩) m m) (V.alloc (.cells (madeCells #[Value.int .i64 0] m) 3)) := fun V => by
      obtain ⟨ti, hi, hz0, hz1, hz2⟩ := info_parts intInfo
      have := run_make (P := Tryd.prog) (w := V) 22 3 ti _ Tryd.underlying22 hi hz0 .i64 .i64 m m (by omega) (Int.le_refl _) (by rw [hz2]; omega) (by omega)
      rw [hz1, Int.toNat_natCast, Nat.mul_one] at this
      exact this
    clear h12 hlv
    go_enter Tryd.func9, Tryd.ntmps9
    go_wp2_with fail
    refine (L2.out _ hF).mono ?_
    rintro e w' ⟨rfl, rfl⟩
    go_wp2_with fail
    refine (HN.out _ hF).mono ?_
    rintro e w2 ⟨⟨p, At, As, Ah, ct, cs, ch, rfl, hM⟩, hb2⟩
    have hs2 := hb2.size
    clear HN L2
    go_wp2_with fail
    have hbx := BoxN.new (w2.alloc (.cells (madeCells #[Value.int .i64 0] m) 3)) 48 #[.slice Ta T.length Tc, .slice (some ⟨w2.heap.size, 0, none⟩) m m, .slice none 0 0]
    simp only [World.size_alloc] at hbx
    have hbz : Below w2.heap.size w2 ((w2.alloc (.cells (madeCells #[Value.int .i64 0] m) 3)).alloc (.cells #[.slice Ta T.length Tc, .slice (some ⟨w2.heap.size, 0, none⟩) m m, .slice none 0 0] 48)) := ((Below.refl _ _).alloc (Nat.le_refl _) _).alloc (by simp) _
    have hzr : OwnAt ((w2.alloc (.cells (madeCells #[Value.int .i64 0] m) 3)).alloc (.cells #[.slice Ta T.length Tc, .slice (some ⟨w2.heap.size, 0, none⟩) m m, .slice none 0 0] 48)) w2.heap.size 3 (vI (castL (List.replicate m 0))) := OwnAt.all (own_zeros w2 m) ((Below.refl _ _).alloc (Nat.le_refl _) _)
    have hsz : ((w2.alloc (.cells (madeCells #[Value.int .i64 0] m) 3)).alloc (.cells #[.slice Ta T.length Tc, .slice (some ⟨w2.heap.size, 0, none⟩) m m, .slice none 0 0] 48)).heap.size = w2.heap.size + 1 + 1 := by simp
    have hNo : (wStart m T).Saw ≠ [] → T ≠ [] → ∀ g, (As = some ⟨g, 0, none⟩ ∨ Ah = some ⟨g, 0, none⟩) → ¬ (g < w.heap.size ∨ w2.heap.size ≤ g) := fun n1 n2 g hg => by
      obtain ⟨gt, gs, gh, e1, e2, e3, ho⟩ := hM.own n1 n2
      have t2 := ho.os.lt
      have t3 := ho.oh.lt
      have b2 := ho.bs
      have b3 := ho.bh
      rcases hg with hg | hg
      · rw [e2] at hg; cases hg; omega
      · rw [e3] at hg; cases hg; omega
    generalize ((w2.alloc (.cells (madeCells #[Value.int .i64 0] m) 3)).alloc (.cells #[.slice Ta T.length Tc, .slice (some ⟨w2.heap.size, 0, none⟩) m m, .slice none 0 0] 48)) = w3 at *
    obtain ⟨B, hB⟩ : ∃ B, w3.heap.size = B := ⟨_, rfl⟩
    have hB1 : w2.heap.size + 1 < B := by omega
    rw [hsz] at hB
    have HB := Lib.hid (show w3.heap.size = B by omega)
    clear hB hsz
    go_loopw [11] (fun i wr => ∃ (j : Nat) (v : Value), j ≤ T.length ∧ i = .int .i64 j ∧ BoxN wr (w2.heap.size + 1) 48 #[.slice Ta T.length Tc, .slice (some ⟨w2.heap.size, 0, none⟩) m m, v] ∧ OwnI wr B v (castL (pows j)) ∧ OwnAt wr w2.heap.size 3 (vI (castL (List.replicate m 0))) ∧ Below w2.heap.size w2 wr ∧ B ≤ wr.heap.size) (fun i _ => T.length - (intOf i).toNat)
    case atStart => exact ⟨0, _, Nat.zero_le _, rfl, hbx, OwnI.nil _ _, hzr, hbz, Nat.le_of_eq HB.out.symm⟩
    case round =>
      clear hbx hzr hbz
      obtain ⟨j, v, hj, rfl, hbx, hown, hzr, hbz, hsz⟩ := hrel
      by_cases hlt : j < T.length
      · have c2 : wr.cell? ⟨w2.heap.size + 1, 2, none⟩ = some v := hbx.cell rfl
        have hlen : (castL (pows j)).length < 2 ^ 40 := by rw [length_castL, length_pows]; omega
        have Hnx := Lib.hid (show castL (pows j) ++ [((2 ^ j : Nat) : Int)] = castL (pows (j + 1)) by rw [pows_succ]; simp [castL])
        have HP := Lib.hid (fun V => Pow2_any j V (by omega))
        generalize castL (pows j) = xs at *
        generalize 2 ^ j = pj at *
        go_wp2_with fail
        have hpl : w2.heap.size + 1 < wr.heap.size := hbx.lt
        have hne := World.new_ne wr ⟨w2.heap.size + 1, 2, none⟩ c2
        go_region_law ((first | (refine step_push_int (by rfl) _ _ (by rfl) (by rfl) (hown.next (w' := _) (by repeat (first | exact Below.refl _ _ | refine Below.drew ?_ | refine Below.alloc ?_ (Nat.le_refl _) _))) wr.heap.size pj (by rfl) (cell_of_row _ _ 0 _ _ _ (heap_alloc_new wr _)) hlen (by simp; omega) ?_; intro B' cc w' hown' hi' hbl; have hbw := hbl wr (by repeat (first | exact Below.refl _ _ | refine Below.drew ?_ | refine Below.alloc ?_ hsz _)); have hbx' := hbx.below hbw (by omega); have c2' := hbx'.cell (k := 2) rfl; have f2' := hbx'.free 2) | (go_simp; go_at_call 28; with_reducible refine (HP.out _).mono ?_; rintro e w' ⟨rfl, rfl⟩)))
        all_goals
          try go_wp2_with fail
          have hlen1 : (xs ++ [(pj : Int)]).length = xs.length + 1 := by simp
          rw [Hnx.out] at hown'
          have hszn := hbw.size
          have hgp : w2.heap.size < B := by omega
          refine ⟨⟨j + 1, _, by omega, by go_num, hbx'.set 2 _, hown'.setOut (a := ⟨w2.heap.size + 1, 2, none⟩) (by show w2.heap.size + 1 < B; omega) _, (hzr.below hbw hgp).far (a := ⟨w2.heap.size + 1, 2, none⟩) (by simp) _, (hbz.trans (hbw.mono (by omega))).setCell (p := ⟨w2.heap.size + 1, 2, none⟩) (by simp) _, by simp; omega⟩, ?_⟩
          simp [intOf]; omega
      · obtain rfl : j = T.length := by omega
        obtain ⟨B', cc, rfl, hi'⟩ := hown.form
        rw [length_castL, length_pows] at hbx
        have hRB : RW (fun b => b < w.heap.size ∨ w2.heap.size ≤ b) wr (.agg #[.slice Ta T.length Tc, .slice (some ⟨w2.heap.size, 0, none⟩) m m, .slice B' T.length cc]) T (wStart m T) := ⟨Ta, some ⟨w2.heap.size, 0, none⟩, B', Tc, m, cc, by simp [wStart, length_pows], ⟨(hF.below hb2).below hbz, fun b off e n => .inl (hF.lt e n)⟩, ⟨hzr.ints, fun b off e n => .inr (by cases e; exact Nat.le_refl _)⟩, ⟨hi', fun b off e n => .inr (by
          have hown2 : wr.ownsRow B 3 1 (.slice B' (castL (pows T.length)).length cc) (castL (pows T.length)).length ((castL (pows T.length)).map (.int .i64)) := hown
          obtain ⟨gh, rfl, hgh, ogh⟩ := OwnAt.of_owns hown2 (List.length_pos_iff.2 n)
          cases e; omega)⟩⟩
        have hMa := hM.all hbz
        have hb0a := hb2.trans (hbz.mono hs2)
        have hgb : 2 < w.heap.size := hT.lt
        generalize hxb : w2.heap.size + 1 = xb at *
        have hxw : w.heap.size ≤ xb := by omega
        have Hok := Lib.hid (fun b (hb : wr.heap.size ≤ b) => (.inr (by have := hbz.size; omega) : b < w.heap.size ∨ w2.heap.size ≤ b))
        clear hM hb2 hown hzr hi' hbz hmk
        obtain ⟨wa, rfl⟩ : ∃ wa : World, wa = wr := ⟨_, rfl⟩
        go_wp2_with fail
        go_loopw [12, 13, 14, 15, 16] (fun i _ _ _ _ wr => ∃ (k : Nat) (S : WS) (vs : Array Value), k ≤ n ∧ i = .int .i64 k ∧ WallAt wr w.heap.size p T S At As Ah ct cs ch ∧ Hid (WInv T S) ∧ Hid (S.Saw.length = m) ∧ BoxN wr xb 48 vs ∧ RW (fun b => b < w.heap.size ∨ w2.heap.size ≤ b) wr (.agg vs) T S ∧ Below w.heap.size w wr ∧ w2.heap.size ≤ wr.heap.size) (fun i _ _ _ _ _ => n - (intOf i).toNat)
        case atStart => exact ⟨0, _, _, Nat.zero_le _, rfl, hMa, Lib.hid hI0, Lib.hid (by simp [wStart]), hbx, hRB, hb0a, by omega⟩
        case round =>
          clear hMa hI0 hbx hRB hb0a
          obtain ⟨k, S, vs, hk, rfl, hB, hI, hSl, hX, hR, hbr, hsr2⟩ := hrel
          have hsr := hbr.size
          by_cases hlt : k < n ∧ k < 100
          · obtain ⟨hkn, hk100⟩ := hlt
            obtain ⟨b, off, rfl, hc⟩ := hK (by intro e; simp [e] at hn; omega)
            have p0 := hc (k * 4) _ (get_gI (by omega))
            have hbw : b < w.heap.size := block_lt p0
            have q0 := (hbr.cell (p := ⟨b, _, none⟩) hbw).trans p0
            have q1 : wr.cell? ⟨b, off + k * 4 + 1, none⟩ = some (.int .i64 (gI K (k * 4 + 1))) := (hbr.cell (p := ⟨b, _, none⟩) hbw).trans (hc (k * 4 + 1) _ (get_gI (by omega)))
            have q2 : wr.cell? ⟨b, off + k * 4 + 2, none⟩ = some (.int .i64 (gI K (k * 4 + 2))) := (hbr.cell (p := ⟨b, _, none⟩) hbw).trans (hc (k * 4 + 2) _ (get_gI (by omega)))
            have q3 : wr.cell? ⟨b, off + k * 4 + 3, none⟩ = some (.int .i64 (gI K (k * 4 + 3))) := (hbr.cell (p := ⟨b, _, none⟩) hbw).trans (hc (k * 4 + 3) _ (get_gI (by omega)))
            clear p0
            have d100 : decide ((k : Int) < 100) = true := by simp; omega
            generalize gI K (k * 4) = ak at *
            generalize gI K (k * 4 + 1) = au at *
            generalize gI K (k * 4 + 2) = af at *
            generalize gI K (k * 4 + 3) = at_ at *
            obtain ⟨a1, a2, a3, c1, c2, c3, hvs, -⟩ := hR.is
            injection hvs with hvs
            subst hvs
            have x0 := hX.cell (k := 0) rfl
            have x1 := hX.cell (k := 1) rfl
            have x2 := hX.cell (k := 2) rfl
            have CQ := Lib.hid (fun V (hV : Below wr.heap.size wr V) => (AskWall_any (hR.below hV) hI.out (fun b hb => .inr (by have := hV.size; omega)) ak au af at_).mono fun e w' ⟨he, hb⟩ => (⟨he, hV.trans (hb.mono hV.size), hb⟩ : _ ∧ Below wr.heap.size wr w' ∧ Below V.heap.size V w'))
            have hbA : Below wr.heap.size wr wr.drew := (Below.refl _ _).drew
            have hbB : Below wr.heap.size wr ((wr.alloc (.cells #[.slice none 0 0, .slice none 0 0, .slice none 0 0] 48)).drew) := ((Below.refl _ _).alloc (Nat.le_refl _) _).drew
            have hZ : BoxN ((wr.alloc (.cells #[.slice none 0 0, .slice none 0 0, .slice none 0 0] 48)).drew) wr.heap.size 48 #[.slice none 0 0, .slice none 0 0, .slice none 0 0] := (BoxN.new wr _ _).drew
            have hXl := hX.lt
            have hbr1 : b < wr.heap.size := by omega
            have hKeep := Lib.hid (fun V (hV : Below wr.heap.size wr V) => (⟨(hV.cell (p := ⟨xb, 0, none⟩) hXl).trans x0, (hV.cell (p := ⟨xb, 1, none⟩) hXl).trans x1, (hV.cell (p := ⟨xb, 2, none⟩) hXl).trans x2, (hV.cell (p := ⟨b, off + k * 4, none⟩) hbr1).trans q0, (hV.cell (p := ⟨b, off + k * 4 + 1, none⟩) hbr1).trans q1, (hV.cell (p := ⟨b, off + k * 4 + 2, none⟩) hbr1).trans q2, (hV.cell (p := ⟨b, off + k * 4 + 3, none⟩) hbr1).trans q3⟩ :
              V.cell? ⟨xb, 0, none⟩ = some (.slice a1 T.length c1) ∧ V.cell? ⟨xb, 1, none⟩ = some (.slice a2 S.Saw.length c2) ∧ V.cell? ⟨xb, 2, none⟩ = some (.slice a3 S.Ho.length c3) ∧ V.cell? ⟨b, off + k * 4, none⟩ = some (.int .i64 ak) ∧ V.cell? ⟨b, off + k * 4 + 1, none⟩ = some (.int .i64 au) ∧ V.cell? ⟨b, off + k * 4 + 2, none⟩ = some (.int .i64 af) ∧ V.cell? ⟨b, off + k * 4 + 3, none⟩ = some (.int .i64 at_)))
            have HAsk := Lib.hid (fun V (hM : WallAt V w.heap.size p T S At As Ah ct cs ch) (hs : w.heap.size ≤ V.heap.size) (hTV : Tab V) => WAsk_any2 (ok := (fun b => b < w.heap.size ∨ w2.heap.size ≤ b)) hM hTV hI.out hs hgb (fun n1 n2 => hNo (by intro e; apply n1; have := congrArg List.length e; simp [wStart] at this; exact List.length_eq_zero_iff.1 (by rw [hSl.out]; exact this)) n2) ak au af at_)
            have HI' := Lib.hid (hI.out.ask ak au af)
            have HL' := Lib.hid ((wAsk_lens (T := T) (S := S) ak au af).trans hSl.out)
            generalize wAsk T S ak au af = r at *
            obtain ⟨S', code⟩ := r
            go_wp2_with fail
            go_cut [13, 14] from 59 to 116 (fun x12 x13 wx => ∃ (xc : Nat) (vs : Array Value), x12 = .pointer (some ⟨xc, 0, none⟩) ∧ x13 = .int .i64 code ∧ BoxN wx xc 48 vs ∧ xc ≠ xb ∧ RW (fun b => b < w.heap.size ∨ w2.heap.size ≤ b) wx (.agg vs) T S' ∧ Below wr.heap.size wr wx)
            case first =>
              go_region_held3 (fun V => V.cell? ⟨xb, 0, none⟩ = some (.slice a1 T.length c1) ∧ V.cell? ⟨xb, 1, none⟩ = some (.slice a2 S.Saw.length c2) ∧ V.cell? ⟨xb, 2, none⟩ = some (.slice a3 S.Ho.length c3) ∧ V.cell? ⟨b, off + k * 4, none⟩ = some (.int .i64 ak) ∧ V.cell? ⟨b, off + k * 4 + 1, none⟩ = some (.int .i64 au) ∧ V.cell? ⟨b, off + k * 4 + 2, none⟩ = some (.int .i64 af) ∧ V.cell? ⟨b, off + k * 4 + 3, none⟩ = some (.int .i64 at_))
                ((refine hKeep.out _ ?_; repeat (first | assumption | exact hbA | exact hbB | refine Below.setCell ?_ (by simp) _ | refine Below.alloc ?_ (by first | exact Nat.le_refl _ | exact Below.size (by assumption)) _ | refine Below.drew ?_)))
                ((go_at_call 29; with_reducible refine (CQ.out _ (by first | exact hbA | exact hbB)).mono ?_; rintro e w5 ⟨⟨v', rfl, ⟨⟨s1, s2, s3, d1', d2', d3', rfl, j1, j2, j3⟩⟩⟩, hb5, hbv⟩; try (have hz5 := BoxN.all hZ hbv; have z0 := hz5.cell (k := 0) rfl; have z1 := hz5.cell (k := 1) rfl; have z2 := hz5.cell (k := 2) rfl; have fz0 := hz5.free 0; have fz1 := hz5.free 1; have fz2 := hz5.free 2)))
              all_goals (go_wp2_with fail; go_meet)
              · exact ⟨_, _, rfl, rfl, BoxN.new _ _ _, by have := hb5.size; omega, (RW.below (ok := (fun b => b < w.heap.size ∨ w2.heap.size ≤ b)) (w := w5) ⟨s1, s2, s3, d1', d2', d3', rfl, j1, j2, j3⟩ ((Below.refl _ _).alloc (Nat.le_refl _) _)), hb5.alloc hb5.size _⟩
              · exact ⟨_, _, rfl, rfl, ((hz5.set 0 _).set 1 _).set 2 _, by omega, ⟨s1, s2, s3, d1', d2', d3', rfl, j1.only hz5 slices3_no (((OnlyAt.refl _ _).set 0 _).set 1 _ |>.set 2 _), j2.only hz5 slices3_no (((OnlyAt.refl _ _).set 0 _).set 1 _ |>.set 2 _), j3.only hz5 slices3_no (((OnlyAt.refl _ _).set 0 _).set 1 _ |>.set 2 _)⟩, ((hb5.setCell (p := ⟨_, 0, none⟩) (Nat.le_refl _) _).setCell (p := ⟨_, 1, none⟩) (Nat.le_refl _) _).setCell (p := ⟨_, 2, none⟩) (Nat.le_refl _) _⟩
            case rest =>
            obtain ⟨xc, vs, rfl, rfl, hC, hcx, hR5, hb5⟩ := hcut
            clear CQ hbA hbB hZ hKeep x0 x1 x2
            obtain ⟨s1, s2, s3, e1, e2, e3, hvs, i1, i2, i3⟩ := hR5.is
            injection hvs with hvs
            subst hvs
            have hX5 := hX.all hb5
            have y0 := hC.cell (k := 0) rfl
            have y1 := hC.cell (k := 1) rfl
            have y2 := hC.cell (k := 2) rfl
            have x0 := hX5.cell (k := 0) rfl
            have x1 := hX5.cell (k := 1) rfl
            have x2 := hX5.cell (k := 2) rfl
            have fx0 := hX5.free 0
            have fx1 := hX5.free 1
            have fx2 := hX5.free 2
            have q0 := (hb5.cell (p := ⟨b, _, none⟩) hbr1).trans q0
            have q1 := (hb5.cell (p := ⟨b, _, none⟩) hbr1).trans q1
            have q2 := (hb5.cell (p := ⟨b, _, none⟩) hbr1).trans q2
            have q3 := (hb5.cell (p := ⟨b, _, none⟩) hbr1).trans q3
            have hbx : b ≠ xb := by omega
            have hM5 := hB.all hb5
            have hb05 := hbr.trans (hb5.mono hsr)
            go_wp2_with fail
            have hX6 := ((hX5.set 0 (.slice s1 T.length e1)).set 1 (.slice s2 S'.Saw.length e2)).set 2 (.slice s3 S'.Ho.length e3)
            have hX6 : BoxN _ _ _ #[.slice s1 T.length e1, .slice s2 S'.Saw.length e2, .slice s3 S'.Ho.length e3] := hX6
            have hb06 := ((hb05.setCell (p := ⟨xb, 0, none⟩) hxw (.slice s1 T.length e1)).setCell (p := ⟨xb, 1, none⟩) hxw (.slice s2 S'.Saw.length e2)).setCell (p := ⟨xb, 2, none⟩) hxw (.slice s3 S'.Ho.length e3)
            have hO : OnlyAt xb wc (((wc.setCell ⟨xb, 0, none⟩ (.slice s1 T.length e1)).setCell ⟨xb, 1, none⟩ (.slice s2 S'.Saw.length e2)).setCell ⟨xb, 2, none⟩ (.slice s3 S'.Ho.length e3)) := (((OnlyAt.refl _ _).set 0 _).set 1 _).set 2 _
            have hsz6 : w2.heap.size ≤ (((wc.setCell ⟨xb, 0, none⟩ (.slice s1 T.length e1)).setCell ⟨xb, 1, none⟩ (.slice s2 S'.Saw.length e2)).setCell ⟨xb, 2, none⟩ (.slice s3 S'.Ho.length e3)).heap.size := by have := hb5.size; simp; omega
            have hM6 := hM5.off hX5 (by decide) (by decide) slices3_no hO
            have i1 := i1.only hX5 slices3_no hO
            have i2 := i2.only hX5 slices3_no hO
            have i3 := i3.only hX5 slices3_no hO
            clear hO
            generalize ((wc.setCell ⟨xb, 0, none⟩ (.slice s1 T.length e1)).setCell ⟨xb, 1, none⟩ (.slice s2 S'.Saw.length e2)).setCell ⟨xb, 2, none⟩ (.slice s3 S'.Ho.length e3) = w6 at *
            clear x0 x1 x2 y0 y1 y2 fx0 fx1 fx2 q0 q1 q2 q3 hX5 hM5 hC hR5 hB hR hX
            have hs6 := hb06.size
            refine (HAsk.out _ hM6 hs6 (hT.next hb06)).mono ?_
            rintro e w7 ⟨rfl, hM7, hb7, hk7, hsp7⟩
            have hX7 := hk7.box hX6 (by decide)
            have hb07 := hb06.trans hb7
            have i1 := i1.spares hsp7
            have i2 := i2.spares hsp7
            have i3 := i3.spares hsp7
            have hsz7 := hb7.size
            clear hX6 hM6 hb7 hk7 hsp7 HAsk
            have HE := Lib.hid (Error_is code code true w7 (hE.next hb07) (by simp))
            go_wp2_with fail
            refine HE.out.mono ?_
            rintro e w8 ⟨rfl, hb8⟩
            have hM8 := hM7.all hb8
            have hX8 := hX7.all hb8
            have hs7 := hb07.size
            have hs8 := hb8.size
            have hb08 := hb07.trans (hb8.mono hs7)
            have i1 := i1.below hb8
            have i2 := i2.below hb8
            have i3 := i3.below hb8
            have x1 := hX8.cell (k := 1) rfl
            have x2 := hX8.cell (k := 2) rfl
            clear hX7 hM7 HE hb8 hb07 hb06 hb05 hs6 hs7 hb5
            have hRB8 : RW (fun b => b < w.heap.size ∨ w2.heap.size ≤ b) w8 (.agg #[.slice s1 T.length e1, .slice s2 S'.Saw.length e2, .slice s3 S'.Ho.length e3]) T S' := ⟨_, _, _, _, _, _, rfl, i1, i2, i3⟩
            have hsz8 : w2.heap.size ≤ w8.heap.size := by omega
            go_wp2_with fail
            go_loopw [15] (fun u wu => ∃ (j q : Nat), j ≤ m ∧ u = .int .i64 j ∧ wu = w8.drewN q) (fun u _ => m - (intOf u).toNat)
            case atStart => exact ⟨0, 0, Nat.zero_le _, rfl, rfl⟩
            case round =>
              obtain ⟨j, q, hj, rfl, rfl⟩ := hrel
              by_cases hjU : j < m
              · have hjL : j < S'.Saw.length := by rw [HL'.out]; exact hjU
                obtain ⟨ub, uoff, rfl, f0⟩ := i2.1.row hjL
                have HL := fun q' => Saw_any (hM8.all (belowD (Below.refl _ w8) q')) (by rw [HL'.out]; omega) (j : Int)
                simp only [told_in hjL] at HL
                have HL := Lib.hid HL
                have hjL' : ((j : Nat) : Int) < S'.Saw.length := by omega
                generalize row S'.Saw j = xx at *
                go_wp2_with fail
                go_quiet (with_reducible exact quiet2 (HL.out _))
                go_wp2_with fail
                exact ⟨⟨j + 1, q + nq, by omega, by go_num, by simp⟩, by simp [intOf]; omega⟩
              · go_wp2_with fail
                go_loopw [16] (fun u wu => ∃ (j q : Nat), j ≤ T.length ∧ u = .int .i64 j ∧ wu = w8.drewN q) (fun u _ => T.length - (intOf u).toNat)
                case atStart => exact ⟨0, q, Nat.zero_le _, rfl, rfl⟩
                case round =>
                  obtain ⟨j, q, hj, rfl, rfl⟩ := hrel
                  by_cases hjU : j < T.length
                  · have hlh := HI'.out.lh
                    have hjL : j < S'.Ho.length := by omega
                    obtain ⟨ub, uoff, rfl, f0⟩ := i3.1.row hjL
                    have HL := fun q' => Holds_any (hM8.all (belowD (Below.refl _ w8) q')) (by omega) hlh (j : Int)
                    simp only [told_in hjL] at HL
                    have HL := Lib.hid HL
                    have hjL' : ((j : Nat) : Int) < S'.Ho.length := by omega
                    clear hlh
                    generalize row S'.Ho j = xx at *
                    go_wp2_with fail
                    go_quiet (with_reducible exact quiet2 (HL.out _))
                    go_wp2_with fail
                    exact ⟨⟨j + 1, q + nq, by omega, by go_num, by simp⟩, by simp [intOf]; omega⟩
                  · go_wp2_with fail
                    have hbq := belowD hb08 q
                    exact ⟨⟨k + 1, S', _, by omega, by go_num, hM8.all (belowD (Below.refl _ w8) q), HI', HL', hX8.drewN q, hRB8.below (belowD (Below.refl _ w8) q), hbq, hsz8⟩, by simp [intOf]; omega⟩
          · have hlh := hI.out.lh
            have T1 := Saw_any hB (by rw [hSl.out]; omega) (m : Int)
            have T2 := Holds_any hB (by omega) hlh (-1)
            rw [show told S.Saw (m : Int) = 0 by unfold told; rw [if_neg (by rw [hSl.out]; omega)]] at T1
            rw [show told S.Ho (-1) = 0 by unfold told; rw [if_neg (by omega)]] at T2
            have T1 := Lib.hid T1
            have T2 := Lib.hid T2
            clear hlh hB hX hR
            go_wp2_with (first | (go_at_call 25; with_reducible refine T1.out.mono ?_; rintro e w' ⟨rfl, rfl⟩) | (go_at_call 27; with_reducible refine T2.out.mono ?_; rintro e w' ⟨rfl, rfl⟩))
            all_goals
              go_ret
              exact ⟨ret_bool (by simp), hbr⟩
  · exact WallPlays_bad u T Ta Tc n Ka Kc w hF sT hE h12
end Go.Proofs.YtodikdmmmfeddaaDoor
