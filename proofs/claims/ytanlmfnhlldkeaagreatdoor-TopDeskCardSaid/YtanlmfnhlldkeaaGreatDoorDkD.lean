/-
  Contract: (*desk.desk).crash.
-/
import Derived.Test.YtanlmfnhlldkeaaGreatDoorDkC
import Derived.Deep.RegionHeld3
import Derived.Deep.CutRange
namespace Go.Proofs.YtanlmfnhlldkeaaGreatDoor
open Go.RowKit
set_option maxRecDepth 100000
set_option linter.unusedVariables false

section
variable {b : Nat} {own : Nat → Prop} {W0 w : World} {D : DS}
theorem DkSt.trail {lo : Nat} {Uv Fv tp : Value} {tq : Nat → Prop} (h : DkSt lo own w b D Uv Fv tp tq) {T : TS} (hT : D.T = some T) : ∃ bt p v A, tp = .pointer (some ⟨bt, 0, none⟩) ∧ TrailAt lo tq w bt p v A D.U D.F T := by
  rcases h.tr with ⟨h1, _⟩ | ⟨T', bt, p, v, A, h1, h2, h3⟩
  · rw [hT] at h1; cases h1
  · rw [hT] at h1; injection h1 with h1; subst h1; exact ⟨bt, p, v, A, h2, h3⟩
theorem ba_take (l : List UInt8) (n : Nat) : ((⟨l.toArray⟩ : ByteArray).extract 0 n).data.toList = l.take n := by
  rw [ByteArray.data_extract]
  simp
set_option maxHeartbeats 8000000 in
theorem Crash_any {T : TS} (hG : Glob W0) (hbW : Below W0.heap.size W0 w) (h : DkAt W0.heap.size own w b D) (hT : D.T = some T) (k : Nat) :
    Calls Tryz.prog 90 #[.pointer (some ⟨b, 0, none⟩), .int .i64 k] w (DkPost W0.heap.size own w b (dCrash D T k)) := by
  obtain ⟨Uv, Fv, tp, tq, h⟩ := h
  have hlo := hbW.size
  obtain ⟨bt, p, v, A, htp, hTr⟩ := h.trail hT
  subst htp
  obtain ⟨T', c, he, hr, _, hcl⟩ := (h.ok.tr T hT).torn h.ok.m8 h.ok.n8 k
  have hokA := h.ok.crash hT k
  have hlog : T.log.length ≤ 1500 := by
    have h1 := (h.tlen hT).inv.log
    have h2 := (h.tlen hT).inv.many
    omega
  unfold dCrash at hokA ⊢
  rw [he, if_pos rfl] at hokA ⊢
  dsimp only at hokA ⊢
  have CTx := Lib.hid (TText_any hTr)
  have hD : (⟨D.U, D.F, some T⟩ : DS) = D := by rw [← hT]
  have hL := h.ok.labs
  have c2 : w.cell? ⟨b, 2, none⟩ = some (.pointer (some ⟨bt, 0, none⟩)) := h.box.cell rfl
  have H := Lib.hid h
  have Hok := Lib.hid hokA
  have HTr := Lib.hid hTr
  clear h hokA hTr hr
  go_enter Tryz.func90, Tryz.ntmps90
  go_wp2_with fail
  with_reducible refine CTx.out.mono ?_
  rintro e w1 ⟨rfl, hTr1, hq1⟩
  have h1 := H.out.stay hq1 hTr1 (fun g hg => .inl hg) (by rw [hD]; exact H.out.ok)
  rw [hD] at h1
  have hb1 : Below W0.heap.size W0 w1 := hq1.to_below (fun g hg => HTr.out.low g hg) hbW hlo
  obtain ⟨A1, cc, hUv, hI⟩ := h1.rU.form
  obtain ⟨A2, cc', hFv, hI'⟩ := h1.rF.form
  subst hUv hFv
  have c10 : w1.cell? ⟨b, 0, none⟩ = some (.slice A1 D.m cc) := h1.box.cell rfl
  have c11 : w1.cell? ⟨b, 1, none⟩ = some (.slice A2 D.n cc') := h1.box.cell rfl
  obtain ⟨s, hs⟩ : ∃ s : ByteArray, (⟨T.log.toArray⟩ : ByteArray) = s := ⟨_, rfl⟩
  have hsz : s.size = T.log.length := by rw [← hs, ba_size, ba_of]
  have hex : (s.extract 0 (min (k : Int) (T.log.length : Int)).toNat).data.toList = T.log.take k := by
    rw [← hs, ba_take]
    rcases Nat.le_total k T.log.length with hk | hk
    · rw [show (min (k : Int) (T.log.length : Int)).toNat = k by omega]
    · rw [show (min (k : Int) (T.log.length : Int)).toNat = T.log.length by omega, List.take_of_length_le (Nat.le_refl _), List.take_of_length_le hk]
  have hexs : (s.extract 0 (min (k : Int) (T.log.length : Int)).toNat).size < 4294967281 := by rw [ba_size, hex, List.length_take]; omega
  have hmn0 : (0 : Int) ≤ min (k : Int) (T.log.length : Int) := by omega
  have hmn1 : min (k : Int) (T.log.length : Int) ≤ (T.log.length : Int) := by omega
  have CO := Lib.hid (fun V (hV : Below w1.heap.size w1 V) => by
    have C := TOpen_ok D.U D.F D.m D.n hL.lU hL.lF A1 A2 cc cc' (s.extract 0 (min (k : Int) (T.log.length : Int)).toNat) hexs V (hG.next (hb1.trans (hV.mono hb1.size))) (hI.below hV) (hI'.below hV) hL.cu hL.cf
    rw [hex, he] at C
    exact (C.mono fun e w' ⟨hp, hb⟩ => ⟨by
      rcases hp with ⟨_, hp⟩ | ⟨hne, _⟩
      · exact hp
      · exact absurd rfl hne, hb⟩ : Calls Tryz.prog 118 #[.slice A1 D.m cc, .slice A2 D.n cc', .string (s.extract 0 (min (k : Int) (T.log.length : Int)).toNat)] V fun e w' => (∃ b p v A own, e = .returned (.tuple #[.pointer (some ⟨b, 0, none⟩), .int .i64 c, .nilIface]) ∧ TrailAt V.heap.size own w' b p v A D.U D.F T') ∧ Below V.heap.size V w'))
  have hlx := itoa_len19 (n := c) (by omega)
  have hsx : (⟨(Lib.itoa (c : Int)).toArray⟩ : ByteArray).size = (Lib.itoa (c : Int)).length := by rw [ba_size, ba_of]
  have CI := Lib.hid (fun V (hV : Below W0.heap.size W0 V) => hG.itoa hV c (by omega))
  have HKeep := Lib.hid (fun V (hV : Below w1.heap.size w1 V) => (⟨(h1.box.all hV).cell (k := 0) rfl, (h1.box.all hV).cell (k := 1) rfl⟩ : V.cell? ⟨b, 0, none⟩ = some (.slice A1 D.m cc) ∧ V.cell? ⟨b, 1, none⟩ = some (.slice A2 D.n cc')))
  have H1 := Lib.hid h1
  have Hb1 := Lib.hid hb1
  have Hq1 := Lib.hid hq1
  clear h1 hb1 hq1 hI hI' hL hex hexs he hT hD hTr1 hlog
  rw [hs]
  generalize D.m = m at *
  generalize D.n = n at *
  have hbd : Below w1.heap.size w1 w1.drew := (Below.refl _ _).drew
  go_wp2_with fail
  go_cut [6, 7, 8] from 9 to 44 (fun x6 x7 x8 wx => ∃ (bt2 p2 : Nat) (v2 : Value) (A3 : LA) (tn : Nat → Prop), x6 = .pointer (some ⟨bt2, 0, none⟩) ∧ x7 = .int .i64 c ∧ x8 = .nilIface ∧ TrailAt w1.heap.size tn wx bt2 p2 v2 A3 D.U D.F T' ∧ Below w1.heap.size w1 wx)
  case first =>
    go_region_held3 (fun V => V.cell? ⟨b, 0, none⟩ = some (.slice A1 m cc) ∧ V.cell? ⟨b, 1, none⟩ = some (.slice A2 n cc'))
      ((refine HKeep.out _ ?_; repeat (first | assumption | exact Below.refl _ _ | refine Below.drew ?_)))
      ((go_at_call 118; with_reducible refine (CO.out _ (by repeat (first | assumption | exact Below.refl _ _ | refine Below.drew ?_))).mono ?_; rintro e w3 ⟨⟨bt2, p2, v2, A3, tn, rfl, hTr3⟩, hb3⟩; have HTr3 := Lib.hid hTr3; clear hTr3; have hb3' := hbd.trans (hb3.mono hbd.size)))
    all_goals
      go_wp2_with fail
      go_meet
      exact ⟨bt2, p2, v2, A3, tn, rfl, rfl, rfl, HTr3.out, hb3'⟩
  case rest =>
    obtain ⟨bt2, p2, v2, A3, tn, rfl, rfl, rfl, hTr3, hb3⟩ := hcut
    generalize wc = w3 at *
    have hbx3 := H1.out.box.all hb3
    have f2 := hbx3.free 2
    have c23 : w3.cell? ⟨b, 2, none⟩ = some (.pointer (some ⟨bt, 0, none⟩)) := hbx3.cell rfl
    have HTr3 := Lib.hid hTr3
    clear hTr3
    go_wp2_with fail
    with_reducible refine (CI.out _ ?yc).mono ?_
    case yc => exact (Hb1.out.trans (hb3.mono Hb1.out.size)).setCell (p := ⟨b, 2, none⟩) (H1.out.low b H1.out.ob) _
    rintro e w4 ⟨rfl, hb4⟩
    go_wp2_with fail
    go_ret
    have hq : QKeeps tq w1 w3 := QKeeps.of_below hb3
    have hs1 := Hq1.out.size
    have st := H1.out.store hq (HTr3.out.lower Hb1.out.size) (fun g hg => .inr (HTr3.out.low g hg)) Hok.out
    have hp : DkPost W0.heap.size own w b (⟨D.U, D.F, some T'⟩, foundL ++ Lib.itoa (c : Int)) (.returned (.string ⟨(foundL ++ Lib.itoa (c : Int)).toArray⟩)) (w3.setCell ⟨b, 2, none⟩ (.pointer (some ⟨bt2, 0, none⟩))) := by
      refine ⟨rfl, _, ⟨_, _, _, _, st⟩, fun g hg => ?_, ?_⟩
      · rcases hg with (hg | hg) | hg
        · exact .inl hg
        · exact .inl (H.out.oT g hg).1
        · have := HTr3.out.low g hg
          exact .inr (Nat.le_trans hs1 this)
      · exact ((Hq1.out.wider fun g hg => (H.out.oT g hg).1).trans (QKeeps.of_below (S := own) hb3) fun g hg => .inl hg).setCell (p := ⟨b, 2, none⟩) H.out.ob _
    exact ⟨by rw [← ba_app]; rfl, (hp.back hb4).2⟩
end
end Go.Proofs.YtanlmfnhlldkeaaGreatDoor
