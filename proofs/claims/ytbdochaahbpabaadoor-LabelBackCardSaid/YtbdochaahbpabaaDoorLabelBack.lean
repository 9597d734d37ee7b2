/-
  The walk of quietwinglaw1.LabelBack.
-/
import Derived.Test.YtbdochaahbpabaaDoorParse
import Derived.Test.YtbdochaahbpabaaDoorLabFact
import Derived.Test.YtbdochaahbpabaaDoorLatRules
import Derived.Test.YtbdochaahbpabaaDoorFrame
namespace Go.Proofs.YtbdochaahbpabaaDoor
open Go.RowKit
set_option maxRecDepth 100000
set_option linter.unusedVariables false

theorem Write_bad (v s : Int) (w : World) (h : ¬ labOk v s) :
    Calls Tryd.prog 32 #[labV v s] w fun e w' => e = .returned (.tuple #[.string ⟨#[]⟩, errVal 1]) ∧ Below w.heap.size w w' := by
  have H1 := Lib.hid (fun W => LabCheck_bad v s W h)
  clear h
  unfold labV at *
  rw [errVal_pos (by decide)]
  go_enter Tryd.func32, Tryd.ntmps32
  go_wp2_with fail
  refine (H1.out _).mono ?_
  rintro e w1 ⟨rfl, hb1⟩
  go_wp2_with fail
  go_ret2
  exact ⟨rfl, ((Below.refl _ w).alloc (Nat.le_refl _) _).trans (hb1.mono (by simp))⟩

theorem label_data (s : ByteArray) (l : List UInt8) (h : l = s.data.toList) : (⟨l.toArray⟩ : ByteArray) = s := by subst h; rfl

set_option maxHeartbeats 4000000 in
theorem LabelBack_any (v s : Int) (str : ByteArray) (w : World) (hstr : str.size < 2 ^ 48) (hT : Tab w) (hE : ErrT w) :
    Calls Tryd.prog 11 #[.agg #[.int .i64 v, .int .i64 s], .string str] w fun e w' => e = .returned (.bool true) ∧ Below w.heap.size w w' := by
  have hbl : Below w.heap.size w (w.alloc (.cells #[.int .i64 v, .int .i64 s] 23)) := (Below.refl _ _).alloc (Nat.le_refl _) _
  have hx : BoxN (w.alloc (.cells #[.int .i64 v, .int .i64 s] 23)) w.heap.size 23 #[.int .i64 v, .int .i64 s] := BoxN.new w _ _
  go_enter Tryd.func11, Tryd.ntmps11
  go_wp2_with fail
  refine (labelFact_any _ (hT.next hbl)).mono ?_
  rintro e w2 ⟨rfl, hb2⟩
  have hx2 := hx.all hb2
  have hbl2 := hbl.trans (hb2.mono hbl.size)
  have hlt2 := hx2.lt
  clear hbl hx hb2
  obtain ⟨a, ha⟩ : ∃ a, w.heap.size = a := ⟨_, rfl⟩
  have hx3 : BoxN w2 a 23 #[.int .i64 v, .int .i64 s] := ha ▸ hx2
  rw [show (Value.pointer (some ⟨w.heap.size, 0, none⟩)) = Value.pointer (some ⟨a, 0, none⟩) by rw [ha]]
  rw [ha] at hlt2
  clear hx2 ha
  have c0 : w2.cell? ⟨a, 0, none⟩ = some (.int .i64 v) := hx3.cell rfl
  have c1 : w2.cell? ⟨a, 1, none⟩ = some (.int .i64 s) := hx3.cell rfl
  go_wp2_with fail
  by_cases hok : labOk v s
  · obtain ⟨vn, rfl⟩ := Int.eq_ofNat_of_zero_le hok.1
    obtain ⟨sn, rfl⟩ := Int.eq_ofNat_of_zero_le hok.2.2.1
    refine (Write_ok vn sn _ hok (hT.next hbl2)).mono ?_
    rintro e w3 ⟨rfl, hb3⟩
    have hx4 := hx3.all hb3
    have hbl3 := hbl2.trans (hb3.mono hbl2.size)
    have hlt3 := hx4.lt
    have hv7 : vn ≤ 7 := by have := hok.2.1; omega
    have hs8 : sn < 256 := by have := hok.2.2.2; omega
    clear c0 c1 hx3 hlt2 hbl2 hb3 hok
    have hpr : parseRes (⟨(labText vn sn).toArray⟩ : ByteArray).data.toList = .tuple #[.agg #[.int .i64 vn, .int .i64 sn], .nilIface] := by unfold parseRes; rw [show (⟨(labText vn sn).toArray⟩ : ByteArray).data.toList = labText vn sn from rfl, parseV_text hv7 hs8]; rfl
    have hsz : (⟨(labText vn sn).toArray⟩ : ByteArray).size < 2 ^ 48 := by
      show (labText vn sn).toArray.size < 2 ^ 48
      have h64 := length_bitsOf sn
      simp [labText]; omega
    have P1 := fun V => Parse_any ⟨(labText vn sn).toArray⟩ V hsz
    rw [hpr] at P1
    have P2 := Lib.hid P1
    clear P1 hpr hsz
    generalize (⟨(labText vn sn).toArray⟩ : ByteArray) = tx at *
    go_wp2_with fail
    refine (P2.out _).mono ?_
    rintro e w4 ⟨rfl, hb4⟩
    have hx5 := hx4.all hb4
    have hlt4 := hx5.lt
    have c0 : w4.cell? ⟨a, 0, none⟩ = some (.int .i64 vn) := hx5.cell rfl
    have c1 : w4.cell? ⟨a, 1, none⟩ = some (.int .i64 sn) := hx5.cell rfl
    have hbl4 := hbl3.trans (hb4.mono hbl3.size)
    have hbn := hbl4.alloc hbl4.size (.cells #[.int .i64 vn, .int .i64 sn] 23)
    clear hx4 hx5 hlt3 hbl3 hb4 hbl4 P2 hv7 hs8
    go_wp2_with fail
    refine (Parse_any str _ hstr).mono ?_
    rintro e w7 ⟨rfl, hb7⟩
    have hb8 := hbn.trans (hb7.mono hbn.size)
    have hT8 := hT.next hb8
    have hE8 := hE.next hb8
    clear hbn hb7
    cases hp : parseV str.data.toList with
    | none =>
      have e1 : parseRes str.data.toList = .tuple #[.agg #[.int .i64 0, .int .i64 0], .iface 72 (.int .i64 2)] := by unfold parseRes; rw [hp, errVal_pos (by decide)]; rfl
      rw [e1]
      have E2 := Error_is 2 2 true (w7.alloc (.cells #[.int .i64 0, .int .i64 0] 23)) (hE8.next ((Below.refl _ w7).alloc (Nat.le_refl _) _)) (by decide)
      rw [errVal_pos (by decide)] at E2
      have E3 := Lib.hid E2
      clear E2 e1 hp
      go_wp2_with fail
      refine E3.out.mono ?_
      rintro e w9 ⟨rfl, hb9⟩
      have hx9 := (BoxN.new w7 23 #[.int .i64 0, .int .i64 0]).all hb9
      have d0 : w9.cell? ⟨w7.heap.size, 0, none⟩ = some (.int .i64 0) := hx9.cell rfl
      have d1 : w9.cell? ⟨w7.heap.size, 1, none⟩ = some (.int .i64 0) := hx9.cell rfl
      have hbf := (hb8.alloc hb8.size (.cells #[.int .i64 0, .int .i64 0] 23)).trans (hb9.mono (by have := hb8.size; simp; omega))
      clear hb8 hb9 hx9
      go_wp2_with fail
      go_ret
      exact ⟨rfl, hbf⟩
    | some p =>
      obtain ⟨pv, ps⟩ := p
      obtain ⟨q1, q2, q3⟩ := parseV_sound hp
      have e1 : parseRes str.data.toList = .tuple #[.agg #[.int .i64 pv, .int .i64 ps], .nilIface] := by unfold parseRes; rw [hp]; rfl
      rw [e1]
      have W2 := Write_ok pv ps (w7.alloc (.cells #[.int .i64 pv, .int .i64 ps] 23)) ⟨by omega, by omega, by omega, by omega⟩ (hT8.next ((Below.refl _ w7).alloc (Nat.le_refl _) _))
      rw [label_data str _ q3] at W2
      have W3 := Lib.hid W2
      clear W2 e1 hp q1 q2 q3
      go_wp2_with fail
      refine W3.out.mono ?_
      rintro e w9 ⟨rfl, hb9⟩
      have hbf := (hb8.alloc hb8.size (.cells #[.int .i64 pv, .int .i64 ps] 23)).trans (hb9.mono (by have := hb8.size; simp; omega))
      clear hb8 hb9
      go_wp2_with fail
      go_ret
      exact ⟨ret_bool (by simp), hbf⟩
  · refine (Write_bad v s _ hok).mono ?_
    rintro e w3 ⟨rfl, hb3⟩
    rw [errVal_pos (by decide)]
    have hbn := hbl2.trans (hb3.mono hbl2.size)
    clear c0 c1 hx3 hlt2 hbl2 hb3 hok
    go_wp2_with fail
    refine (Parse_any str _ hstr).mono ?_
    rintro e w7 ⟨rfl, hb7⟩
    have hb8 := hbn.trans (hb7.mono hbn.size)
    have hT8 := hT.next hb8
    have hE8 := hE.next hb8
    clear hbn hb7
    cases hp : parseV str.data.toList with
    | none =>
      have e1 : parseRes str.data.toList = .tuple #[.agg #[.int .i64 0, .int .i64 0], .iface 72 (.int .i64 2)] := by unfold parseRes; rw [hp, errVal_pos (by decide)]; rfl
      rw [e1]
      have E2 := Error_is 2 2 true (w7.alloc (.cells #[.int .i64 0, .int .i64 0] 23)) (hE8.next ((Below.refl _ w7).alloc (Nat.le_refl _) _)) (by decide)
      rw [errVal_pos (by decide)] at E2
      have E3 := Lib.hid E2
      clear E2 e1 hp
      go_wp2_with fail
      refine E3.out.mono ?_
      rintro e w9 ⟨rfl, hb9⟩
      have hx9 := (BoxN.new w7 23 #[.int .i64 0, .int .i64 0]).all hb9
      have d0 : w9.cell? ⟨w7.heap.size, 0, none⟩ = some (.int .i64 0) := hx9.cell rfl
      have d1 : w9.cell? ⟨w7.heap.size, 1, none⟩ = some (.int .i64 0) := hx9.cell rfl
      have hbf := (hb8.alloc hb8.size (.cells #[.int .i64 0, .int .i64 0] 23)).trans (hb9.mono (by have := hb8.size; simp; omega))
      clear hb8 hb9 hx9
      go_wp2_with fail
      go_ret
      exact ⟨rfl, hbf⟩
    | some p =>
      obtain ⟨pv, ps⟩ := p
      obtain ⟨q1, q2, q3⟩ := parseV_sound hp
      have e1 : parseRes str.data.toList = .tuple #[.agg #[.int .i64 pv, .int .i64 ps], .nilIface] := by unfold parseRes; rw [hp]; rfl
      rw [e1]
      have W2 := Write_ok pv ps (w7.alloc (.cells #[.int .i64 pv, .int .i64 ps] 23)) ⟨by omega, by omega, by omega, by omega⟩ (hT8.next ((Below.refl _ w7).alloc (Nat.le_refl _) _))
      rw [label_data str _ q3] at W2
      have W3 := Lib.hid W2
      clear W2 e1 hp q1 q2 q3
      go_wp2_with fail
      refine W3.out.mono ?_
      rintro e w9 ⟨rfl, hb9⟩
      have hbf := (hb8.alloc hb8.size (.cells #[.int .i64 pv, .int .i64 ps] 23)).trans (hb9.mono (by have := hb8.size; simp; omega))
      clear hb8 hb9
      go_wp2_with fail
      go_ret
      exact ⟨ret_bool (by simp), hbf⟩

theorem LabelBack_walk (v s : Int) (str : ByteArray) (hstr : str.size < 2 ^ 47) {W : World} (w : World) (hw : w = W) (hT : Tab W) (hE : ErrT W) :
    Calls Tryd.prog 11 #[.agg #[.int .i64 v, .int .i64 s], .string str] w fun e w' => e = .returned (.bool true) ∧ Below w.heap.size w w' := by
  subst hw; exact LabelBack_any v s str w (by omega) hT hE
end Go.Proofs.YtbdochaahbpabaaDoor
