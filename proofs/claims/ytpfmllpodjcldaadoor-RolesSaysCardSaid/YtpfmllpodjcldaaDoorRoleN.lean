/-
  Contract: roles.Need.
-/
import Derived.Test.YtpfmllpodjcldaaDoorRoleL
import Derived.Test.YtpfmllpodjcldaaDoorDiff
namespace Go.Proofs.YtpfmllpodjcldaaDoor
open Go.RowKit
set_option maxRecDepth 100000
set_option linter.unusedVariables false

/-- Will a set do? -/
def willDo (r M : List Nat) (mine want s : Nat) : Bool := within s mine && within want (taskS r M s)
def needStep (r M : List Nat) (mine want : Nat) (b : Int) (s : Nat) : Int := if willDo r M mine want s && (decide (b < 0) || decide (cnt 8 s < cnt 8 b.toNat)) then (s : Int) else b
/-- The first of the fewest among the first t sets. -/
def needTo (r M : List Nat) (mine want : Nat) : Nat → Int
  | 0 => -1
  | t + 1 => needStep r M mine want (needTo r M mine want t) t
section
variable {r M : List Nat} {mine want : Nat}
theorem needTo_law (t : Nat) : (needTo r M mine want t = -1 ∧ ∀ s, s < t → willDo r M mine want s = false) ∨
    ∃ b : Nat, needTo r M mine want t = (b : Int) ∧ b < t ∧ willDo r M mine want b = true ∧ ∀ s, s < t → willDo r M mine want s = true → cnt 8 b ≤ cnt 8 s := by
  induction t with
  | zero => exact .inl ⟨rfl, fun s hs => by omega⟩
  | succ t ih =>
    show (needStep r M mine want (needTo r M mine want t) t = -1 ∧ _) ∨ _
    cases hw : willDo r M mine want t with
    | false =>
      have e : needStep r M mine want (needTo r M mine want t) t = needTo r M mine want t := by unfold needStep; rw [hw]; rfl
      rcases ih with ⟨h1, h2⟩ | ⟨b, h1, h2, h3, h4⟩
      · refine .inl ⟨e.trans h1, fun s hs => ?_⟩
        rcases Nat.lt_or_ge s t with h | h
        · exact h2 s h
        · obtain rfl : s = t := by omega
          exact hw
      · refine .inr ⟨b, e.trans h1, by omega, h3, fun s hs hd => ?_⟩
        rcases Nat.lt_or_ge s t with h | h
        · exact h4 s h hd
        · obtain rfl : s = t := by omega
          rw [hw] at hd; cases hd
    | true =>
      right
      rcases ih with ⟨h1, h2⟩ | ⟨b, h1, h2, h3, h4⟩
      · refine ⟨t, by show needStep r M mine want (needTo r M mine want t) t = _; unfold needStep; rw [hw, h1]; rfl, by omega, hw, fun s hs hd => ?_⟩
        rcases Nat.lt_or_ge s t with h | h
        · rw [h2 s h] at hd; cases hd
        · obtain rfl : s = t := by omega
          exact Nat.le_refl _
      · by_cases hc : cnt 8 t < cnt 8 b
        · refine ⟨t, by show needStep r M mine want (needTo r M mine want t) t = _; unfold needStep; rw [hw, h1, Int.toNat_natCast, decide_eq_true hc]; simp, by omega, hw, fun s hs hd => ?_⟩
          rcases Nat.lt_or_ge s t with h | h
          · have := h4 s h hd; omega
          · obtain rfl : s = t := by omega
            exact Nat.le_refl _
        · refine ⟨b, by show needStep r M mine want (needTo r M mine want t) t = _; unfold needStep; rw [hw, h1, Int.toNat_natCast, decide_eq_false hc]; simp; omega, by omega, h3, fun s hs hd => ?_⟩
          rcases Nat.lt_or_ge s t with h | h
          · exact h4 s h hd
          · obtain rfl : s = t := by omega
            omega
end
/-- The code of Need, but for 7. -/
def needCode0 (U A M : List Int) (few most user want : Int) : Nat := if rolesCode U A M few most = 0 then (if (0 ≤ user ∧ user < U.length) ∧ (0 ≤ want ∧ want < 1024) then 0 else 1) else rolesCode U A M few most
theorem wrap_pow8 (k : Nat) (h : k < 62) : IntKind.i64.wrap (2 ^ k) = ((2 ^ k : Nat) : Int) := by
  have h0 := two_pow_lt k h
  have h1 : (0 : Int) < 2 ^ k := Int.pow_pos (by decide)
  rw [IntKind.wrap_i64]; push_cast; omega

section
variable {U A M : List Int} {few most : Int} {Au Aa Am : Option Addr} {cu ca cm : Nat} {w : World}
set_option maxHeartbeats 8000000 in
theorem RNeed_any (hU : IntsAt w Au U) (hA : IntsAt w Aa A) (hM : IntsAt w Am M) (hT : Tab w) {r Un Mn : List Nat} {fN : Nat} (h : ROk U A M few most r Un Mn fN) (hz : rolesCode U A M few most = 0) {u : Nat} (hu : u < U.length) {want : Nat} (hwant : want < 1024) {res : Int} (hres : needTo r Mn (allS r (row Un u)) want (2 ^ r.length) = res) {v : Value} (hv : v = if res < 0 then .tuple #[.int .i64 0, .iface 59 (.int .i64 7)] else .tuple #[.int .i64 res, .nilIface]) :
    Calls Tryd.prog 27 #[.agg #[.slice Au U.length cu, .slice Aa A.length ca, .slice Am M.length cm, .int .i64 few, .int .i64 most], .int .i64 u, .int .i64 want] w fun e w' => e = .returned v ∧ Below w.heap.size w w' := by
  have hlU : U.length = Un.length := by rw [h.u, length_castL]
  have hlA : A.length = r.length := by rw [h.a, length_castL]
  have hlM : M.length = r.length := by rw [h.m, length_castL, h.lm]
  have hlMn : M.length = Mn.length := by rw [h.m, length_castL]
  have hlu := h.lu
  have hla := h.la
  have HC := Lib.hid (fun V (hV : Below w.heap.size w V) => (RCheck_any (cu := cu) (ca := ca) (cm := cm) (few := few) (most := most) (hU.below hV) (hA.below hV) (hM.below hV) (by omega) (by omega) (by omega) (hT.next hV)).mono fun e w' ⟨he, hx⟩ => (⟨by rw [he, hz]; rfl, hx, hV.trans (hx.mono hV.size)⟩ : e = Ending.returned .nilIface ∧ Below V.heap.size V w' ∧ Below w.heap.size w w'))
  have HL := Lib.hid (fun V (hV : Below w.heap.size w V) => (allR_any (Au := Au) (nu := U.length) (cu := cu) (ca := ca) (nm := M.length) (Am := Am) (cm := cm) (few := few) (most := most) hla h.ba (by rw [← h.a]; exact hA.below hV) (hT.next hV) (h.bu u)).mono fun e w' ⟨he, hx⟩ => (⟨he, hx, hV.trans (hx.mono hV.size)⟩ : _ ∧ Below V.heap.size V w' ∧ Below w.heap.size w w'))
  have HT := Lib.hid (fun t (ht : t < 2 ^ r.length) V (hV : Below w.heap.size w V) => (tasksR_any (Au := Au) (nu := U.length) (cu := cu) (ca := ca) (M := Mn) (Am := Am) (cm := cm) (few := few) (most := most) hla h.ba (by rw [← h.a]; exact hA.below hV) h.lm h.bm (by rw [← h.m]; exact hM.below hV) (hT.next hV) ht).mono fun e w' ⟨he, hx⟩ => (⟨he, hx, hV.trans (hx.mono hV.size)⟩ : _ ∧ Below V.heap.size V w' ∧ Below w.heap.size w w'))
  have C1 := Lib.hid (fun V => Within3_is (u : Int) 0 ((U.length : Int) - 1) true V (by simp; omega))
  have C2 := Lib.hid (fun V => show Calls Tryd.prog 50 #[.int .i64 want, .int .i64 10] V _ from Mask_is (want : Int) 10 true V (by omega) (by simp; omega))
  have hUr : IntsAt w Au (castL Un) := by rw [← h.u]; exact hU
  obtain ⟨b, off, hAu, hc⟩ := hUr.row (k := u) (by omega)
  subst hAu
  have hbw := block_lt hc
  have hb0 : Below w.heap.size w (w.alloc (.cells #[.slice (some ⟨b, off, none⟩) U.length cu, .slice Aa A.length ca, .slice Am M.length cm, .int .i64 few, .int .i64 most] 47)) := (Below.refl _ _).alloc (Nat.le_refl _) _
  have hx0 := BoxN.new w 47 #[.slice (some ⟨b, off, none⟩) U.length cu, .slice Aa A.length ca, .slice Am M.length cm, .int .i64 few, .int .i64 most]
  rw [← hlA] at HL
  rw [← hlMn, ← hlA] at HT
  have huu : (u : Int) < U.length := by omega
  have hm8 : U.length ≤ 8 := by omega
  have hn8 : A.length ≤ 8 := by omega
  have hal : allS r (row Un u) < 2 ^ A.length := by rw [hlA]; exact allS_lt hla h.ba _
  have htl := Lib.hid (fun s => taskS_lt (r := r) (s := s) h.bm)
  have hp8 : 2 ^ A.length ≤ 256 := by
    have : 2 ^ A.length ≤ 2 ^ 8 := Nat.pow_le_pow_right (by decide) hn8
    omega
  have w1p := wrap_pow8 A.length (by omega)
  have w2p := wrap64_pow A.length (by omega)
  rw [← hlA] at hres
  have Hres := Lib.hid hres
  have Hv := Lib.hid hv
  clear h hz hU hA hM hT hUr hlU hlA hlM hlMn hlu hla hres hv
  generalize hP : 2 ^ A.length = P2 at *
  have HPw := Lib.hid hP
  clear hP
  generalize U.length = m at *
  generalize A.length = n at *
  generalize M.length = k at *
  generalize allS r (row Un u) = mine at *
  generalize row Un u = x at *
  go_enter Tryd.func27, Tryd.ntmps27
  go_wp2_with fail
  refine (HC.out _ hb0).mono ?_
  rintro e w1 ⟨rfl, hb1, hbw1⟩
  have hx1 := hx0.all hb1
  have hl1 := hx1.lt
  have e0 : w1.cell? ⟨w.heap.size, 0, none⟩ = some (.slice (some ⟨b, off, none⟩) m cu) := hx1.cell rfl
  have e1 : w1.cell? ⟨w.heap.size, 1, none⟩ = some (.slice Aa n ca) := hx1.cell rfl
  have e2 : w1.cell? ⟨w.heap.size, 2, none⟩ = some (.slice Am k cm) := hx1.cell rfl
  have e3 : w1.cell? ⟨w.heap.size, 3, none⟩ = some (.int .i64 few) := hx1.cell rfl
  have e4 : w1.cell? ⟨w.heap.size, 4, none⟩ = some (.int .i64 most) := hx1.cell rfl
  have e5 := (hbw1.cell (p := ⟨b, off + u, none⟩) hbw).trans hc
  clear HC hb0 hx0 hb1
  go_wp2_with (first | (go_at_call 31; with_reducible refine (C1.out _).mono ?_; rintro e w' ⟨rfl, rfl⟩) | (go_at_call 50; with_reducible refine (C2.out _).mono ?_; rintro e w' ⟨rfl, rfl⟩))
  refine wp_still_tailD 6 (by kernel_rfl) (by kernel_rfl) ?_
  simp only [List.take_succ_cons, List.take_zero, List.drop_succ_cons, List.drop_zero]
  repeat still_step
  refine wpStill_nil ?_
  go_wp2_with fail
  refine (HL.out _ (belowD hbw1 1)).mono ?_
  rintro e w2 ⟨rfl, hb2, hbw2⟩
  have hx2 := (hx1.drewN 1).all hb2
  clear e0 e1 e2 e3 e4 e5 HL hx1 hb2 hbw1 C1 C2
  have e1 : w2.cell? ⟨w.heap.size, 1, none⟩ = some (.slice Aa n ca) := hx2.cell rfl
  have hs2 := hbw2.size
  go_wp2_with fail
  go_loopw [10, 41] (fun b i wr => ∃ t : Nat, t ≤ P2 ∧ i = .int .i64 t ∧ b = .int .i64 (needTo r Mn mine want t) ∧ Below w2.heap.size w2 wr) (fun _ i _ => P2 - (intOf i).toNat)
  case atStart => exact ⟨0, Nat.zero_le _, rfl, rfl, Below.refl _ _⟩
  case round =>
    clear e1
    obtain ⟨t, ht, rfl, rfl, hbr⟩ := hrel
    have hbwr := hbw2.trans (hbr.mono hs2)
    have hxr := hx2.all hbr
    have hltr := hxr.lt
    have e0 : wr.cell? ⟨w.heap.size, 0, none⟩ = some (.slice (some ⟨b, off, none⟩) m cu) := hxr.cell rfl
    have e1 : wr.cell? ⟨w.heap.size, 1, none⟩ = some (.slice Aa n ca) := hxr.cell rfl
    have e2 : wr.cell? ⟨w.heap.size, 2, none⟩ = some (.slice Am k cm) := hxr.cell rfl
    have e3 : wr.cell? ⟨w.heap.size, 3, none⟩ = some (.int .i64 few) := hxr.cell rfl
    have e4 : wr.cell? ⟨w.heap.size, 4, none⟩ = some (.int .i64 most) := hxr.cell rfl
    have Hlaw := Lib.hid (needTo_law (r := r) (M := Mn) (mine := mine) (want := want) t)
    by_cases hlt : t < P2
    · have hq : (t : Int) < P2 := by omega
      have Hst := Lib.hid (show needTo r Mn mine want (t + 1) = needStep r Mn mine want (needTo r Mn mine want t) t from rfl)
      have hand := bits_andNot_nat t mine (by omega) (by omega)
      have hz1 := diff_zero t mine
      by_cases hd : diff t mine = 0
      · have hw1 : within t mine = true := by rw [← hz1, hd]; rfl
        rw [hd] at hand
        have HTt := Lib.hid (HT.out t hlt wr hbwr)
        have htk := htl.out t
        have hand2 := bits_andNot_nat want (taskS r Mn t) (by omega) (by omega)
        have hz2 := diff_zero want (taskS r Mn t)
        by_cases hd2 : diff want (taskS r Mn t) = 0
        · rw [hd2] at hand2
          have hwd : willDo r Mn mine want t = true := by unfold willDo; rw [hw1, ← hz2, hd2]; rfl
          rcases Hlaw.out with ⟨h1, -⟩ | ⟨bn, h1, hbn, -, -⟩
          · have Hn := Lib.hid (show needTo r Mn mine want (t + 1) = (t : Int) by rw [Hst.out, h1]; unfold needStep; rw [hwd]; rfl)
            rw [h1]
            clear hd hd2 hw1 hz1 hz2 hwd h1 Hst Hlaw htk
            generalize taskS r Mn t = tk at *
            go_wp2_with fail
            refine HTt.out.mono ?_
            rintro e w3 ⟨rfl, hb3, hbw3⟩
            go_wp2_with fail
            refine ⟨⟨t + 1, ?va, ?vb, ?vc, hbr.trans (hb3.mono hbr.size)⟩, ?vd⟩
            case va => omega
            case vb => go_num
            case vc => rw [Hn.out]
            case vd => simp [intOf]; omega
          · have Q1 := Lib.hid (fun V => CMany_any t (by omega) V)
            have Q2 := Lib.hid (fun V => CMany_any bn (by omega) V)
            have hdb : decide ((bn : Int) < 0) = false := decide_eq_false (by omega)
            by_cases hc : cnt 8 t < cnt 8 bn
            · have Hn := Lib.hid (show needTo r Mn mine want (t + 1) = (t : Int) by rw [Hst.out, h1]; unfold needStep; rw [hwd, Int.toNat_natCast, decide_eq_true hc]; simp)
              have hcI : (cnt 8 t : Int) < (cnt 8 bn : Int) := by omega
              rw [h1]
              clear hd hd2 hw1 hz1 hz2 hwd h1 Hst Hlaw htk hc
              generalize taskS r Mn t = tk at *
              generalize cnt 8 t = c1 at *
              generalize cnt 8 bn = c2 at *
              go_wp2_with fail
              refine HTt.out.mono ?_
              rintro e w3 ⟨rfl, hb3, hbw3⟩
              go_wp2_with (go_at_call 52; first | (with_reducible refine (Q1.out _).mono ?_; rintro e w' ⟨rfl, rfl⟩) | (with_reducible refine (Q2.out _).mono ?_; rintro e w' ⟨rfl, rfl⟩))
              refine ⟨⟨t + 1, ?va, ?vb, ?vc, hbr.trans (hb3.mono hbr.size)⟩, ?vd⟩
              case va => omega
              case vb => go_num
              case vc => rw [Hn.out]
              case vd => simp [intOf]; omega
            · have Hn := Lib.hid (show needTo r Mn mine want (t + 1) = (bn : Int) by rw [Hst.out, h1]; unfold needStep; rw [hwd, Int.toNat_natCast, decide_eq_false hc, hdb]; rfl)
              have hcI : ¬ (cnt 8 t : Int) < (cnt 8 bn : Int) := by omega
              rw [h1]
              clear hd hd2 hw1 hz1 hz2 hwd h1 Hst Hlaw htk hc
              generalize taskS r Mn t = tk at *
              generalize cnt 8 t = c1 at *
              generalize cnt 8 bn = c2 at *
              go_wp2_with fail
              refine HTt.out.mono ?_
              rintro e w3 ⟨rfl, hb3, hbw3⟩
              go_wp2_with (go_at_call 52; first | (with_reducible refine (Q1.out _).mono ?_; rintro e w' ⟨rfl, rfl⟩) | (with_reducible refine (Q2.out _).mono ?_; rintro e w' ⟨rfl, rfl⟩))
              refine ⟨⟨t + 1, ?va, ?vb, ?vc, hbr.trans (hb3.mono hbr.size)⟩, ?vd⟩
              case va => omega
              case vb => go_num
              case vc => rw [Hn.out]
              case vd => simp [intOf]; omega
        · have hwd : willDo r Mn mine want t = false := by unfold willDo; rw [hw1, ← hz2]; simpa using hd2
          have Hn := Lib.hid (show needTo r Mn mine want (t + 1) = needTo r Mn mine want t by rw [Hst.out]; unfold needStep; rw [hwd]; rfl)
          have hdI : ((diff want (taskS r Mn t) : Nat) : Int) ≠ 0 := by omega
          have hdd : decide (((diff want (taskS r Mn t) : Nat) : Int) = 0) = false := decide_eq_false hdI
          clear hd hd2 hw1 hz1 hz2 hwd Hst Hlaw htk
          generalize needTo r Mn mine want t = bI at *
          generalize diff want (taskS r Mn t) = d2 at *
          generalize taskS r Mn t = tk at *
          go_wp2_with fail
          refine HTt.out.mono ?_
          rintro e w3 ⟨rfl, hb3, hbw3⟩
          go_wp2_with fail
          refine ⟨⟨t + 1, ?va, ?vb, ?vc, hbr.trans (hb3.mono hbr.size)⟩, ?vd⟩
          case va => omega
          case vb => go_num
          case vc => rw [Hn.out]
          case vd => simp [intOf]; omega
      · have hw1 : within t mine = false := by rw [← hz1]; simpa using hd
        have hwd : willDo r Mn mine want t = false := by unfold willDo; rw [hw1]; rfl
        have Hn := Lib.hid (show needTo r Mn mine want (t + 1) = needTo r Mn mine want t by rw [Hst.out]; unfold needStep; rw [hwd]; rfl)
        have hdI : ((diff t mine : Nat) : Int) ≠ 0 := by omega
        have hdd : decide (((diff t mine : Nat) : Int) = 0) = false := decide_eq_false hdI
        clear hd hw1 hz1 hwd Hst Hlaw
        generalize needTo r Mn mine want t = bI at *
        generalize diff t mine = d1 at *
        go_wp2_with fail
        refine ⟨⟨t + 1, ?va, ?vb, ?vc, hbr⟩, ?vd⟩
        case va => omega
        case vb => go_num
        case vc => rw [Hn.out]
        case vd => simp [intOf]; omega
    · obtain rfl : t = P2 := by omega
      rcases Hlaw.out with ⟨h1, -⟩ | ⟨bn, h1, hbn, -, -⟩
      · have Hr := Lib.hid (show v = .tuple #[.int .i64 0, .iface 59 (.int .i64 7)] from Hv.out.trans (by rw [← Hres.out, h1]; rfl))
        rw [h1]
        clear h1 Hlaw
        go_wp2_with fail
        go_ret2
        exact ⟨by rw [Hr.out]; rfl, hbwr⟩
      · have Hr := Lib.hid (show v = .tuple #[.int .i64 bn, .nilIface] from Hv.out.trans (by rw [← Hres.out, h1]; exact if_neg (by omega)))
        have hdb : decide ((bn : Int) < 0) = false := decide_eq_false (by omega)
        rw [h1]
        clear h1 Hlaw
        go_wp2_with fail
        go_ret2
        exact ⟨by rw [Hr.out]; rfl, hbwr⟩
end
set_option maxHeartbeats 2000000 in
theorem RNeed_bad {U A M : List Int} {few most : Int} {Au Aa Am : Option Addr} {cu ca cm : Nat} {w : World} (hU : IntsAt w Au U) (hA : IntsAt w Aa A) (hM : IntsAt w Am M) (sU : U.length < 2 ^ 64) (sA : A.length < 2 ^ 64) (sM : M.length < 2 ^ 64) (hT : Tab w) {user want : Int} {kk : Nat} (hk : needCode0 U A M few most user want = kk) (hne : kk ≠ 0) :
    Calls Tryd.prog 27 #[.agg #[.slice Au U.length cu, .slice Aa A.length ca, .slice Am M.length cm, .int .i64 few, .int .i64 most], .int .i64 user, .int .i64 want] w fun e w' => e = .returned (.tuple #[.int .i64 0, .iface 59 (.int .i64 kk)]) ∧ Below w.heap.size w w' := by
  have hb0 : Below w.heap.size w (w.alloc (.cells #[.slice Au U.length cu, .slice Aa A.length ca, .slice Am M.length cm, .int .i64 few, .int .i64 most] 47)) := (Below.refl _ _).alloc (Nat.le_refl _) _
  have hx0 := BoxN.new w 47 #[.slice Au U.length cu, .slice Aa A.length ca, .slice Am M.length cm, .int .i64 few, .int .i64 most]
  have HC := fun V (hV : Below w.heap.size w V) => (RCheck_any (cu := cu) (ca := ca) (cm := cm) (few := few) (most := most) (hU.below hV) (hA.below hV) (hM.below hV) sU sA sM (hT.next hV)).mono fun e w' ⟨he, hx⟩ => (⟨he, hx, hV.trans (hx.mono hV.size)⟩ : _ ∧ Below V.heap.size V w' ∧ Below w.heap.size w w')
  unfold needCode0 at hk
  by_cases hz : rolesCode U A M few most = 0
  · rw [if_pos hz] at hk
    rw [hz, errVal_zero] at HC
    have HC := Lib.hid HC
    have hin : ¬ ((0 ≤ user ∧ user < U.length) ∧ (0 ≤ want ∧ want < 1024)) := fun h => by rw [if_pos h] at hk; exact hne hk.symm
    rw [if_neg hin] at hk
    subst hk
    have hm8 : U.length ≤ 8 := by
      obtain ⟨r, Un, Mn, fN, h⟩ := rolesCode_ok hz
      have := h.lu
      rw [h.u, length_castL]; exact this
    by_cases hu : 0 ≤ user ∧ user < U.length
    · have C1 := Lib.hid (fun V => Within3_is user 0 ((U.length : Int) - 1) true V (by simp; omega))
      have C2 := Lib.hid (fun V => show Calls Tryd.prog 50 #[.int .i64 want, .int .i64 10] V _ from Mask_is want 10 false V (by omega) (by simp; omega))
      clear hz hne hin hU hA hM hT hu
      generalize U.length = m at *
      generalize A.length = n at *
      generalize M.length = k at *
      go_enter Tryd.func27, Tryd.ntmps27
      go_wp2_with fail
      refine (HC.out _ hb0).mono ?_
      rintro e w1 ⟨rfl, hb1, hbw1⟩
      have hx1 := hx0.all hb1
      have e0 : w1.cell? ⟨w.heap.size, 0, none⟩ = some (.slice Au m cu) := hx1.cell rfl
      go_wp2_with (first | (go_at_call 31; with_reducible refine (C1.out _).mono ?_; rintro e w' ⟨rfl, rfl⟩) | (go_at_call 50; with_reducible refine (C2.out _).mono ?_; rintro e w' ⟨rfl, rfl⟩))
      go_ret2
      exact ⟨rfl, hbw1⟩
    · have C1 := Lib.hid (fun V => Within3_is user 0 ((U.length : Int) - 1) false V (by simp; omega))
      clear hz hne hin hU hA hM hT hu
      generalize U.length = m at *
      generalize A.length = n at *
      generalize M.length = k at *
      go_enter Tryd.func27, Tryd.ntmps27
      go_wp2_with fail
      refine (HC.out _ hb0).mono ?_
      rintro e w1 ⟨rfl, hb1, hbw1⟩
      have hx1 := hx0.all hb1
      have e0 : w1.cell? ⟨w.heap.size, 0, none⟩ = some (.slice Au m cu) := hx1.cell rfl
      go_wp2_with (go_at_call 31; with_reducible refine (C1.out _).mono ?_; rintro e w' ⟨rfl, rfl⟩)
      go_ret2
      exact ⟨rfl, hbw1⟩
  · rw [if_neg hz] at hk
    rw [hk, errVal_pos hne] at HC
    have HC := Lib.hid HC
    clear hz hk hne hU hA hM hT
    generalize U.length = m at *
    generalize A.length = n at *
    generalize M.length = k at *
    go_enter Tryd.func27, Tryd.ntmps27
    go_wp2_with fail
    refine (HC.out _ hb0).mono ?_
    rintro e w1 ⟨rfl, hb1, hbw1⟩
    go_wp2_with fail
    go_ret2
    exact ⟨rfl, hbw1⟩
end Go.Proofs.YtpfmllpodjcldaaDoor
