/-
  Contract: bell.New.
-/
import Derived.Test.YtanlmfnhlldkeaaGreatDoorBellC
import Derived.Test.YtanlmfnhlldkeaaGreatDoorRowsA
import Derived.Test.YtanlmfnhlldkeaaGreatDoorBaseA
import Derived.Deep.RegionHeld3
import Derived.Deep.CutRange
import Derived.Deep.RegionLaw
namespace Go.Proofs.YtanlmfnhlldkeaaGreatDoor
open Go.RowKit
set_option maxRecDepth 100000
set_option linter.unusedVariables false

/-- The rows that the loop leaves alone. -/
def LRest (W0 B : Nat) (U F : List Int) (Au Af : Option Addr) (gr gw m : Nat) (V : World) : Prop :=
  (U ≠ [] → ∃ g, Au = some ⟨g, 0, none⟩ ∧ W0 ≤ g ∧ g < B ∧ OwnAt V g 144 (vI U)) ∧ (F ≠ [] → ∃ g, Af = some ⟨g, 0, none⟩ ∧ W0 ≤ g ∧ g < B ∧ OwnAt V g 144 (vI F)) ∧
  gr < B ∧ OwnAt V gr 3 (vI (castL (List.replicate m 0))) ∧ gw < B ∧ OwnAt V gw 3 (vI (castL (List.replicate m 0)))
section
variable {W0 B : Nat} {U F : List Int} {Au Af : Option Addr} {gr gw m : Nat} {V V' : World}
theorem LRest.below (h : LRest W0 B U F Au Af gr gw m V) (hb : Below B V V') : LRest W0 B U F Au Af gr gw m V' :=
  ⟨fun hne => by
    obtain ⟨g, e, h1, h2, h3⟩ := h.1 hne
    exact ⟨g, e, h1, h2, h3.below hb h2⟩, fun hne => by
    obtain ⟨g, e, h1, h2, h3⟩ := h.2.1 hne
    exact ⟨g, e, h1, h2, h3.below hb h2⟩, h.2.2.1, h.2.2.2.1.below hb h.2.2.1, h.2.2.2.2.1, h.2.2.2.2.2.below hb h.2.2.2.2.1⟩
theorem LRest.set {p i : Nat} {vs : Array Value} (h : LRest W0 B U F Au Af gr gw m V) (hx : BoxN V p 226 vs) (v : Value) : LRest W0 B U F Au Af gr gw m (V.setCell ⟨p, i, none⟩ v) :=
  ⟨fun hne => by
    obtain ⟨g, e, h1, h2, h3⟩ := h.1 hne
    exact ⟨g, e, h1, h2, h3.far (a := ⟨p, i, none⟩) (h3.ne_box hx label_ne_bell) _⟩, fun hne => by
    obtain ⟨g, e, h1, h2, h3⟩ := h.2.1 hne
    exact ⟨g, e, h1, h2, h3.far (a := ⟨p, i, none⟩) (h3.ne_box hx label_ne_bell) _⟩, h.2.2.1, h.2.2.2.1.far (a := ⟨p, i, none⟩) (h.2.2.2.1.ne_box hx int_ne_bell) _, h.2.2.2.2.1, h.2.2.2.2.2.far (a := ⟨p, i, none⟩) (h.2.2.2.2.2.ne_box hx int_ne_bell) _⟩
end

theorem BoxN.new' (w : World) (t : TypeId) (vs : Array Value) (p : Nat) (hp : p = w.heap.size) : BoxN (w.alloc (.cells vs t)) p t vs := by subst hp; exact BoxN.new w t vs
theorem own_zeros' (w : World) (m g : Nat) (hg : g = w.heap.size) : OwnAt (w.alloc (.cells (madeCells #[Value.int .i64 0] m) 3)) g 3 (vI (castL (List.replicate m 0))) := by subst hg; exact own_zeros w m

/-- Where the rows of a monitor lie, those that hold something. -/
def LA.low (A : LA) (base : Nat) (U F : List Int) : Prop :=
  (U ≠ [] → ∃ g, A.Au = some ⟨g, 0, none⟩ ∧ base ≤ g) ∧ (F ≠ [] → ∃ g, A.Af = some ⟨g, 0, none⟩ ∧ base ≤ g) ∧ (U ≠ [] → ∃ g, A.Ar = some ⟨g, 0, none⟩ ∧ base ≤ g) ∧ (U ≠ [] → ∃ g, A.Aw = some ⟨g, 0, none⟩ ∧ base ≤ g) ∧ (F ≠ [] → ∃ g, A.Ah = some ⟨g, 0, none⟩ ∧ base ≤ g)
set_option maxHeartbeats 8000000 in
theorem LNew_low (U F : List Int) (m n : Nat) (hU : U.length = m * 2) (hF : F.length = n * 2) (Ua Fa : Option Addr) (c d : Nat) (w : World) (iU : IntsAt w Ua U) (iF : IntsAt w Fa F) (h1 : labsCode U m 8 = 0) (h2 : labsCode F n 8 = 0) :
    Calls Tryz.prog 112 #[.slice Ua m c, .slice Fa n d] w fun e w' => (∃ p A, e = .returned (.tuple #[.pointer (some ⟨p, 0, none⟩), .nilIface]) ∧ BellAt w' w.heap.size p U F (lStart m n) A ∧ A.low w.heap.size U F) ∧ Below w.heap.size w w' := by
  have hm8 := (labsCode_ok h1).1
  have hn8 := (labsCode_ok h2).1
  have L1 := fun V (hV : IntsAt V Ua U) => labels_any U m 8 hU (by omega) Ua c V hV (by omega)
  have L2 := fun V (hV : IntsAt V Fa F) => labels_any F n 8 hF (by omega) Fa d V hV (by omega)
  rw [h1, errVal_zero] at L1
  rw [h2, errVal_zero] at L2
  have M1 := Lib.hid L1
  have M2 := Lib.hid L2
  have hmk : ∀ V : World, (Instr.makeSlice 24 (.int .i64 m) (.int .i64 m)).run Tryz.prog V = .ok (.slice (some ⟨V.heap.size, 0, none⟩) m m) (V.alloc (.cells (madeCells #[Value.int .i64 0] m) 3)) := fun V => by
    obtain ⟨ti, hi, hz0, hz1, hz2⟩ := info_parts intInfo
    have := run_make (P := Tryz.prog) (w := V) 24 3 ti _ Tryz.underlying24 hi hz0 .i64 .i64 m m (by omega) (Int.le_refl _) (by rw [hz2]; omega) (by omega)
    rw [hz1, Int.toNat_natCast, Nat.mul_one] at this
    exact this
  clear L1 L2 h1 h2
  go_enter Tryz.func112, Tryz.ntmps112
  go_wp2_with fail
  refine (M1.out _ iU).mono ?_
  rintro e wA ⟨rfl, hbA⟩
  go_wp2_with fail
  refine (M2.out _ (iF.below hbA)).mono ?_
  rintro e wB ⟨rfl, hbB⟩
  have hbw := hbA.trans (hbB.mono hbA.size)
  have K1 := Lib.hid (fun V (hV : Below wB.heap.size wB V) => (CloneL_any U m hU Ua c V ((iU.below hbw).below hV) (by omega)).mono fun e w' ⟨he, hb⟩ => (⟨he, hb, hV.trans (hb.mono hV.size)⟩ : _ ∧ Below V.heap.size V w' ∧ Below wB.heap.size wB w'))
  have K2 := Lib.hid (fun V (hV : Below wB.heap.size wB V) => (CloneL_any F n hF Fa d V ((iF.below hbw).below hV) (by omega)).mono fun e w' ⟨he, hb⟩ => (⟨he, hb, hV.trans (hb.mono hV.size)⟩ : _ ∧ Below V.heap.size V w' ∧ Below wB.heap.size wB w'))
  clear M1 M2 hbA hbB iU iF
  have hs0 := hbw.size
  go_wp2_with fail
  go_cut [8] from 20 to 32 (fun x8 wx => ∃ p Au Af cu cf gr gw, x8 = .pointer (some ⟨p, 0, none⟩) ∧ wB.heap.size ≤ p ∧ BoxN wx p 226 #[.slice Au m cu, .slice Af n cf, .slice (some ⟨gr, 0, none⟩) m m, .slice (some ⟨gw, 0, none⟩) m m, .slice none 0 0] ∧
    IntsAt wx Au U ∧ (U ≠ [] → ∃ g, Au = some ⟨g, 0, none⟩ ∧ wB.heap.size ≤ g ∧ OwnAt wx g 144 (vI U)) ∧ IntsAt wx Af F ∧ (F ≠ [] → ∃ g, Af = some ⟨g, 0, none⟩ ∧ wB.heap.size ≤ g ∧ OwnAt wx g 144 (vI F)) ∧
    wB.heap.size ≤ gr ∧ OwnAt wx gr 3 (vI (castL (List.replicate m 0))) ∧ wB.heap.size ≤ gw ∧ OwnAt wx gw 3 (vI (castL (List.replicate m 0))) ∧ gr ≠ gw ∧ Below wB.heap.size wB wx)
  case first =>
    go_region_held3 (fun V => True) (trivial) ((first | (go_at_call 142; with_reducible refine (K1.out _ (by repeat (first | assumption | exact Below.refl _ _ | refine Below.alloc ?_ (by first | exact Nat.le_refl _ | exact Below.size (by assumption) | (have hq := Below.size hbw1; simp; omega) | (simp; done)) _ | refine Below.drew ?_))).mono ?_; rintro e w1 ⟨⟨Au, cu, rfl, iu, ou⟩, hb1, hbw1⟩) | (go_at_call 142; with_reducible refine (K2.out _ (by repeat (first | assumption | exact Below.refl _ _ | refine Below.alloc ?_ (by first | exact Nat.le_refl _ | exact Below.size (by assumption) | (have hq := Below.size hbw1; simp; omega) | (simp; done)) _ | refine Below.drew ?_))).mono ?_; rintro e w2 ⟨⟨Af, cf, rfl, if_, of_⟩, hb2, hbw2⟩)))
    all_goals (go_wp2_with fail; go_meet)
    all_goals
      have s1 := hb1.size
      have s2 := hb2.size
      have s3 := hbw1.size
      have s4 := hbw2.size
      try simp at s1
      try simp at s2
      have hb12 : Below w1.heap.size w1 w2 := by
        refine Below.trans ?_ (Below.mono hb2 ?_)
        · repeat (first | exact Below.refl _ _ | refine Below.drew ?_ | refine Below.alloc ?_ (by first | exact Nat.le_refl _ | simp) _)
        · first | exact Nat.le_refl _ | (simp; done) | (simp; omega)
      refine ⟨_, Au, Af, cu, cf, _, _, rfl, ?_, BoxN.new' _ _ _ _ ?_, ?_, ?_, ?_, ?_, ?_, ?_, ?_, ?_, ?_, ?_⟩
      · omega
      · first | rfl | (simp; done) | (simp; omega)
      · refine (iu.below hb12).below ?_
        repeat (first | exact Below.refl _ _ | refine Below.drew ?_ | refine Below.alloc ?_ (by first | exact Nat.le_refl _ | (simp; done) | (simp; omega)) _)
      · intro hne
        obtain ⟨g, e, hg, og⟩ := ou hne
        try simp at hg
        refine ⟨g, e, by omega, (og.all hb12).all ?_⟩
        repeat (first | exact Below.refl _ _ | refine Below.drew ?_ | refine Below.alloc ?_ (by first | exact Nat.le_refl _ | (simp; done) | (simp; omega)) _)
      · refine if_.below ?_
        repeat (first | exact Below.refl _ _ | refine Below.drew ?_ | refine Below.alloc ?_ (by first | exact Nat.le_refl _ | (simp; done) | (simp; omega)) _)
      · intro hne
        obtain ⟨g, e, hg, og⟩ := of_ hne
        try simp at hg
        refine ⟨g, e, by omega, og.all ?_⟩
        repeat (first | exact Below.refl _ _ | refine Below.drew ?_ | refine Below.alloc ?_ (by first | exact Nat.le_refl _ | (simp; done) | (simp; omega)) _)
      · omega
      · repeat (first | (refine own_zeros' _ _ _ ?_; first | rfl | (simp; done)) | refine OwnAt.all ?_ hb2 | refine OwnAt.all ?_ hb1 | refine OwnAt.drew ?_ | refine OwnAt.all ?_ ((Below.refl _ _).alloc (Nat.le_refl _) _))
      · omega
      · repeat (first | (refine own_zeros' _ _ _ ?_; first | rfl | (simp; done)) | refine OwnAt.all ?_ hb2 | refine OwnAt.all ?_ hb1 | refine OwnAt.drew ?_ | refine OwnAt.all ?_ ((Below.refl _ _).alloc (Nat.le_refl _) _))
      · omega
      · refine Below.trans hbw2 (Below.mono (?_ : Below w2.heap.size w2 _) s4)
        repeat (first | exact Below.refl _ _ | refine Below.drew ?_ | refine Below.alloc ?_ (by first | exact Nat.le_refl _ | (simp; done) | (simp; omega)) _)
  case rest =>
    obtain ⟨p, Au, Af, cu, cf, gr, gw, rfl, hp, hbx, iu, ou, if_, of_, hgr, ogr, hgw, ogw, hrw, hbx2⟩ := hcut
    clear K1 K2 hmk
    have hps := hbx.lt
    have hgl := ogr.lt
    have hgl2 := ogw.lt
    have hszw := hbx2.size
    have hrest : LRest wB.heap.size wc.heap.size U F Au Af gr gw m wc := ⟨fun hne => by
      obtain ⟨g, e, h1, h2⟩ := ou hne
      exact ⟨g, e, h1, h2.lt, h2⟩, fun hne => by
      obtain ⟨g, e, h1, h2⟩ := of_ hne
      exact ⟨g, e, h1, h2.lt, h2⟩, hgl, ogr, hgl2, ogw⟩
    have hbwc := hbw.trans (hbx2.mono hs0)
    clear iu ou if_ of_ hgl hgl2 ogr ogw hbx2
    go_wp2_with fail
    go_loopw [34] (fun i wr => ∃ (j : Nat) (v : Value), j ≤ n ∧ i = .int .i64 j ∧ BoxN wr p 226 #[.slice Au m cu, .slice Af n cf, .slice (some ⟨gr, 0, none⟩) m m, .slice (some ⟨gw, 0, none⟩) m m, v] ∧ OwnI wr wc.heap.size v (castL (pows j)) ∧ LRest wB.heap.size wc.heap.size U F Au Af gr gw m wr ∧ Below w.heap.size w wr ∧ wc.heap.size ≤ wr.heap.size) (fun i _ => n - (intOf i).toNat)
    case atStart => exact ⟨0, _, Nat.zero_le _, rfl, hbx, OwnI.nil _ _, hrest, hbwc, Nat.le_refl _⟩
    case round =>
      clear hbx hrest hbwc
      obtain ⟨j, v, hj, rfl, hbx, hown, hrest, hbr, hsz⟩ := hrel
      by_cases hlt : j < n
      · have h62 : j < 62 := by omega
        have hp1 : IntKind.i64.wrap (2 ^ j) = ((2 ^ j : Nat) : Int) := wrap_pow j h62
        have hp2 : wrap64 (2 ^ j) = ((2 ^ j : Nat) : Int) := wrap64_pow j h62
        have c2 : wr.cell? ⟨p, 4, none⟩ = some v := hbx.cell rfl
        have hlen : (castL (pows j)).length < 2 ^ 40 := by rw [length_castL, length_pows]; omega
        have Hnx := Lib.hid (show castL (pows j) ++ [((2 ^ j : Nat) : Int)] = castL (pows (j + 1)) by rw [pows_succ]; simp [castL])
        generalize castL (pows j) = xs at *
        generalize 2 ^ j = pj at *
        go_wp2_with fail
        have hpl : p < wr.heap.size := hbx.lt
        have hne := World.new_ne wr ⟨p, 4, none⟩ c2
        go_region_law ((refine step_push_int (by rfl) _ _ (by rfl) (by rfl) (hown.next (w' := _) (by repeat (first | exact Below.refl _ _ | refine Below.drew ?_ | refine Below.alloc ?_ (Nat.le_refl _) _))) wr.heap.size pj (by rfl) (cell_of_row _ _ 0 _ _ _ (heap_alloc_new wr _)) hlen (by simp; omega) ?_; intro B' cc w' hown' hi' hbl; have hbz := hbl wr (by repeat (first | exact Below.refl _ _ | refine Below.drew ?_ | refine Below.alloc ?_ hsz _)); have hbx' := hbx.below hbz hps; have c2' := hbx'.cell (k := 4) rfl; have f2' := hbx'.free 4))
        all_goals
          try go_wp2_with fail
          have hlen1 : (xs ++ [(pj : Int)]).length = xs.length + 1 := by simp
          rw [Hnx.out] at hown'
          have hszn := hbz.size
          refine ⟨⟨j + 1, _, by omega, by go_num, hbx'.set 4 _, hown'.setOut (a := ⟨p, 4, none⟩) hps _, (hrest.below hbz).set hbx' _, (hbr.trans (hbz.mono (by omega))).setCell (p := ⟨p, 4, none⟩) (by show _ ≤ p; omega) _, by simp; omega⟩, ?_⟩
          simp [intOf]; omega
      · obtain rfl : j = n := by omega
        go_wp2_with fail
        go_ret2
        obtain ⟨B', cc, rfl, hi'⟩ := hown.form
        obtain ⟨r1, r2, r3, r4, r5, r6⟩ := hrest
        refine ⟨⟨p, ⟨Au, Af, some ⟨gr, 0, none⟩, some ⟨gw, 0, none⟩, B', cu, cf, m, m, cc⟩, rfl, ⟨by omega, ?_, ?_, ?_, ?_, ?_, ?_, r4.ints, r6.ints, hi', ?_⟩, ?_⟩, hbr⟩
        · show BoxN _ _ _ #[.slice Au (List.replicate m 0).length cu, .slice Af (pows j).length cf, .slice _ (List.replicate m 0).length m, .slice _ (List.replicate m 0).length m, .slice B' (pows j).length cc]
          rw [List.length_replicate, length_pows]
          rw [length_castL, length_pows] at hbx
          exact hbx
        · show U.length = (List.replicate m 0).length * 2; rw [List.length_replicate]; exact hU
        · show F.length = (pows j).length * 2; rw [length_pows]; exact hF
        · rfl
        · by_cases hne : U = []
          · subst hne; exact IntsAt.nil
          · obtain ⟨g, rfl, _, _, og⟩ := r1 hne; exact og.ints
        · by_cases hne : F = []
          · subst hne; exact IntsAt.nil
          · obtain ⟨g, rfl, _, _, og⟩ := r2 hne; exact og.ints
        · intro hS hH
          have hm0 : m ≠ 0 := by rintro rfl; exact hS rfl
          have hj0 : j ≠ 0 := by rintro rfl; exact hH rfl
          obtain ⟨gu, eu, u1, u2, u3⟩ := r1 (by intro e; simp [e] at hU; omega)
          obtain ⟨gf, ef, f1, f2, f3⟩ := r2 (by intro e; simp [e] at hF; omega)
          have hlp : 0 < (castL (pows j)).length := by rw [length_castL, length_pows]; omega
          have hown2 : wr.ownsRow wc.heap.size 3 1 (.slice B' (castL (pows j)).length cc) (castL (pows j)).length ((castL (pows j)).map (.int .i64)) := hown
          obtain ⟨gh, eh, hgh, ogh⟩ := OwnAt.of_owns hown2 hlp
          exact ⟨gu, gf, gr, gw, gh, eu, ef, rfl, rfl, eh, by omega, by omega, by omega, by omega, by omega, u3, f3, r4, r6, ogh, hrw, by omega, by omega⟩
        · refine ⟨fun hne => ?_, fun hne => ?_, fun _ => ⟨gr, rfl, by omega⟩, fun _ => ⟨gw, rfl, by omega⟩, fun hne => ?_⟩
          · obtain ⟨gu, eu, u1, u2, u3⟩ := r1 hne; exact ⟨gu, eu, by omega⟩
          · obtain ⟨gf, ef, f1, f2, f3⟩ := r2 hne; exact ⟨gf, ef, by omega⟩
          · have hj0 : j ≠ 0 := by rintro rfl; exact hne (List.length_eq_zero_iff.1 (by omega))
            have hlp : 0 < (castL (pows j)).length := by rw [length_castL, length_pows]; omega
            have hown2 : wr.ownsRow wc.heap.size 3 1 (.slice B' (castL (pows j)).length cc) (castL (pows j)).length ((castL (pows j)).map (.int .i64)) := hown
            obtain ⟨gh, eh, hgh, ogh⟩ := OwnAt.of_owns hown2 hlp
            exact ⟨gh, eh, by omega⟩
theorem LNew_ok (U F : List Int) (m n : Nat) (hU : U.length = m * 2) (hF : F.length = n * 2) (Ua Fa : Option Addr) (c d : Nat) (w : World) (iU : IntsAt w Ua U) (iF : IntsAt w Fa F) (h1 : labsCode U m 8 = 0) (h2 : labsCode F n 8 = 0) :
    Calls Tryz.prog 112 #[.slice Ua m c, .slice Fa n d] w fun e w' => (∃ p A, e = .returned (.tuple #[.pointer (some ⟨p, 0, none⟩), .nilIface]) ∧ BellAt w' w.heap.size p U F (lStart m n) A) ∧ Below w.heap.size w w' :=
  (LNew_low U F m n hU hF Ua Fa c d w iU iF h1 h2).mono fun e w' ⟨⟨p, A, he, hA, _⟩, hb⟩ => ⟨⟨p, A, he, hA⟩, hb⟩

set_option maxHeartbeats 1000000 in
theorem LNew_bad (U F : List Int) (m n : Nat) (hU : U.length = m * 2) (hF : F.length = n * 2) (Ua Fa : Option Addr) (c d : Nat) (w : World) (iU : IntsAt w Ua U) (iF : IntsAt w Fa F) (l1 : m < 2 ^ 60) (l2 : n < 2 ^ 60) (k : Nat) (hk : k = if labsCode U m 8 ≠ 0 then labsCode U m 8 else labsCode F n 8) (hne : k ≠ 0) :
    Calls Tryz.prog 112 #[.slice Ua m c, .slice Fa n d] w fun e w' => e = .returned (.tuple #[.pointer none, .iface 63 (.int .i64 k)]) ∧ Below w.heap.size w w' := by
  have L1 := fun V (hV : IntsAt V Ua U) => labels_any U m 8 hU (by omega) Ua c V hV l1
  have L2 := fun V (hV : IntsAt V Fa F) => labels_any F n 8 hF (by omega) Fa d V hV l2
  by_cases h1 : labsCode U m 8 = 0
  · rw [if_neg (by simpa using h1)] at hk
    rw [← hk, errVal_pos hne] at L2
    rw [h1, errVal_zero] at L1
    have M1 := Lib.hid L1
    have M2 := Lib.hid L2
    clear L1 L2 hk hne h1
    go_enter Tryz.func112, Tryz.ntmps112
    go_wp2_with fail
    refine (M1.out _ iU).mono ?_
    rintro e wA ⟨rfl, hbA⟩
    go_wp2_with fail
    refine (M2.out _ (iF.below hbA)).mono ?_
    rintro e wB ⟨rfl, hbB⟩
    go_wp2_with fail
    go_ret2
    exact ⟨rfl, hbA.trans (hbB.mono hbA.size)⟩
  · rw [if_pos h1] at hk
    rw [← hk, errVal_pos hne] at L1
    have M1 := Lib.hid L1
    clear L1 L2 hk hne h1
    go_enter Tryz.func112, Tryz.ntmps112
    go_wp2_with fail
    refine (M1.out _ iU).mono ?_
    rintro e wA ⟨rfl, hbA⟩
    go_wp2_with fail
    go_ret2
    exact ⟨rfl, hbA⟩
end Go.Proofs.YtanlmfnhlldkeaaGreatDoor
