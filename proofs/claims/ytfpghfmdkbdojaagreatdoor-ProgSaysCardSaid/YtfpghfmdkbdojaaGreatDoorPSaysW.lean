/-
  The walk of ProgSays.
-/
import Derived.Test.YtfpghfmdkbdojaaGreatDoorPsJ
import Derived.Test.YtfpghfmdkbdojaaGreatDoorPsT
import Derived.Test.YtfpghfmdkbdojaaGreatDoorPrC
import Derived.Test.YtfpghfmdkbdojaaGreatDoorWrtM
import Derived.Test.YtfpghfmdkbdojaaGreatDoorSameN
import Derived.Test.YtfpghfmdkbdojaaGreatDoorAs
import Derived.Test.YtfpghfmdkbdojaaGreatDoorFrame
namespace Go.Proofs.YtfpghfmdkbdojaaGreatDoor
open Go.RowKit
set_option maxRecDepth 100000
set_option linter.unusedVariables false

section
variable {P : List Int} {n c : Nat} {A : Option Addr}
theorem RText_ex {i : Nat} {x : Ex} (hx : IsEx P i x) : i < n → x.text.length ≤ 100000 → TxC A n c P i x.text := by
  induction hx with
  | num e0 e1 h => intro hi hl V hV; exact txt_num hV hi e0 e1 h
  | var e0 e1 h => intro hi hl V hV; exact txt_var hV hi e0 e1 h
  | @op i k a b x y h1 h2 e0 e2 e3 ha hb _ _ ih1 ih2 =>
    intro hi hl V hV
    rw [Ex.text, List.length_cons, List.length_append] at hl
    have C1 := ih1 (by omega) (by omega)
    have C2 := ih2 (by omega) (by omega)
    rcases (by omega : k = 2 ∨ k = 3 ∨ k = 4) with rfl | rfl | rfl
    · exact txt_op2 hV hi e0 e2 C1 (by omega) e3 C2 (by omega)
    · exact txt_op3 hV hi e0 e2 C1 (by omega) e3 C2 (by omega)
    · exact txt_op4 hV hi e0 e2 C1 (by omega) e3 C2 (by omega)
theorem TxC.of {i : Nat} {t t' : List UInt8} (h : TxC A n c P i t) (e : t = t') : TxC A n c P i t' := e ▸ h
theorem RText_st {i : Nat} {x : St} (hx : IsSt P i x) : i < n → x.text.length ≤ 100000 → TxC A n c P i x.text := by
  induction hx with
  | skip e0 => intro hi hl V hV; exact txt_skip hV hi e0
  | set e0 e1 hm e2 ha hx =>
    intro hi hl
    rw [St.text, List.length_cons, List.length_cons, List.length_append] at hl
    have C1 := RText_ex (A := A) (n := n) (c := c) hx (by omega) (by omega)
    refine TxC.of (fun V hV => txt_set hV hi e0 e2 C1 (by omega) e1 hm) ?_
    simp [St.text]
  | both e0 e2 e3 ha hb _ _ ih1 ih2 =>
    intro hi hl V hV
    rw [St.text, List.length_append] at hl
    exact txt_both hV hi e0 e2 (ih1 (by omega) (by omega)) (by omega) e3 (ih2 (by omega) (by omega)) (by omega)
  | ite e0 e2 e3 e4 ha hb hc hx _ _ ih1 ih2 =>
    intro hi hl
    have hl' := hl
    simp only [St.text, List.length_cons, List.length_append] at hl'
    have C1 := RText_ex (A := A) (n := n) (c := c) hx (by omega) (by omega)
    refine TxC.of (fun V hV => txt_ite hV hi e0 e2 C1 (by omega) e3 (ih1 (by omega) (by omega)) (by omega) e4 (ih2 (by omega) (by omega)) (by omega)) ?_
    simp [St.text]
  | loop e0 e2 e3 ha hb hx _ ih1 =>
    intro hi hl
    have hl' := hl
    simp only [St.text, List.length_cons, List.length_append] at hl'
    have C1 := RText_ex (A := A) (n := n) (c := c) hx (by omega) (by omega)
    refine TxC.of (fun V hV => txt_loop hV hi e0 e2 C1 (by omega) e3 (ih1 (by omega) (by omega)) (by omega)) ?_
    simp [St.text]
end
section
variable {P : List Int} {n c : Nat} {A : Option Addr} {w : World} {s : ByteArray}
theorem Error_if (k : Nat) (w : World) (hg : ErrT w) : Calls Tryz.prog 5 #[.iface 43 (.int .i64 k), .int .i64 k] w fun e w' => e = .returned (.bool true) ∧ Below w.heap.size w w' := by
  have Hh := Lib.hid (told_no k w hg)
  have Hd := Lib.hid (show ((k : Int) == k) = true by simp)
  clear hg
  go_enter Tryz.func5, Tryz.ntmps5
  go_wp2_with (go_at_call 15; with_reducible refine Hh.out.mono ?_; rintro e w' ⟨rfl, hbk⟩)
  go_ret
  exact ⟨by first | rfl | exact ret_bool Hd.out, by assumption⟩
theorem Parse_bad {k : Nat} (h : readP s = .bad k) (V : World) : Calls Tryz.prog 9 #[.string s] V fun e w' => e = .returned (.tuple #[.slice none 0 0, .int .i64 (k : Nat)]) ∧ Below V.heap.size V w' :=
  (RParse_any s V).mono fun e w' g => by unfold ParsePost at g; rw [h] at g; exact g
theorem Parse_good {i : Nat} {l : List UInt8} {o : List Int} (h : readP s = .good i l o) (V : World) : Calls Tryz.prog 9 #[.string s] V fun e w' => (∃ A c, e = .returned (.tuple #[.slice A (i + 1) c, .int .i64 0]) ∧ NodesAt w' A o (i + 1)) ∧ Below V.heap.size V w' :=
  (RParse_any s V).mono fun e w' g => by
    unfold ParsePost at g
    rw [h] at g
    obtain ⟨⟨A, n, c, he, ho⟩, hb⟩ := g
    obtain ⟨-, hl2, hi80, -⟩ := readP_good h
    have hl := ho.1
    obtain rfl : n = i + 1 := by omega
    refine ⟨⟨A, c, he, ?_, hl2, by omega⟩, hb⟩
    intro hne
    obtain ⟨b, off, hA, hc⟩ := CellsAt.own ho.2 (by simpa using hne)
    exact ⟨b, off, hA, fun j x hj => hc j _ (by rw [List.getElem?_map, hj]; rfl)⟩
theorem PRead_bad {k : Nat} (hP : Pow10 w.heap.size w) (hN : ∀ V, Below w.heap.size w V → NumErrs V) (h : readP s = .bad k) (V : World) (hV : Below w.heap.size w V) :
    Calls Tryz.prog 10 #[.string s] V fun e w' => e = .returned (.tuple #[.slice none 0 0, .iface 43 (.int .i64 k)]) ∧ Below V.heap.size V w' := by
  refine (Read_any (s := s) (hP.next hV hV.size (Nat.le_refl _)) fun U hU => hN U (hV.trans (hU.mono hV.size))).mono fun e w' g => ?_
  unfold ReadSaid at g
  rw [h] at g
  exact g
theorem PRead_good {i : Nat} {l : List UInt8} {o : List Int} (hP : Pow10 w.heap.size w) (hN : ∀ V, Below w.heap.size w V → NumErrs V) (h : readP s = .good i l o) (V : World) (hV : Below w.heap.size w V) :
    Calls Tryz.prog 10 #[.string s] V fun e w' => (∃ A c, e = .returned (.tuple #[.slice A (i + 1) c, .nilIface]) ∧ NodesAt w' A o (i + 1)) ∧ Below V.heap.size V w' := by
  refine (Read_any (s := s) (hP.next hV hV.size (Nat.le_refl _)) fun U hU => hN U (hV.trans (hU.mono hV.size))).mono fun e w' g => ?_
  unfold ReadSaid at g
  rw [h] at g
  obtain ⟨⟨A, n, c, he, hl, _, hi⟩, hb⟩ := g
  obtain ⟨-, hl2, hi80, -⟩ := readP_good h
  obtain rfl : n = i + 1 := by omega
  exact ⟨⟨A, c, he, hi, hl2, by omega⟩, hb⟩
theorem NodesAt.none (V : World) : NodesAt V none [] 0 := ⟨IntsAt.nil, rfl, by decide⟩
set_option maxHeartbeats 16000000 in
theorem PSays_bad (h : NodesAt w A P n) (hP0 : Pow10 w.heap.size w) (hN0 : ∀ V, Below w.heap.size w V → NumErrs V) (hE0 : ErrT w) {k : Nat} (hk : progCode P n = k) (h0 : k ≠ 0) :
    Calls Tryz.prog 3 #[.slice A n c, .string s] w fun e w' => e = .returned (.bool true) ∧ Below w.heap.size w w' := by
  have hE := Lib.hid (fun V (hV : Below w.heap.size w V) => hE0.next hV)
  have hP := Lib.hid hP0
  have hN := Lib.hid hN0
  have hA := Lib.hid (fun V (hV : Below w.heap.size w V) => h.below (B := 0) hV)
  have C1 := Lib.hid (fun V hV => RProg_any (c := c) (hA.out V hV))
  have C2 := Lib.hid (fun V hV => PCheck_any (c := c) (hA.out V hV))
  rw [hk] at C1
  rw [hk, errVal_pos h0] at C2
  have C3 := Lib.hid (fun V hV => Error_is k k true V (hE.out V hV) (by simp))
  rw [errVal_pos h0] at C3
  have C5 := Lib.hid (fun V hV => Write_bad (c := c) (hA.out V hV) hk h0)
  have d0 : ((k : Int) == 0) = false := by simp; omega
  clear h hP0 hN0 hE0 hk
  have HB := Lib.hid (Below.refl w.heap.size w)
  go_enter Tryz.func3, Tryz.ntmps3
  go_wp2_with fail
  with_reducible refine (C1.out _ HB.out).mono ?_
  rintro e w1 ⟨rfl, hv⟩
  have HBw1 := Lib.hid (HB.out.trans (hv.mono HB.out.size))
  clear HB hv
  have HB := HBw1
  clear HBw1
  go_wp2_with fail
  with_reducible refine (C2.out _ HB.out).mono ?_
  rintro e w2 ⟨rfl, hv⟩
  have HBw2 := Lib.hid (HB.out.trans (hv.mono HB.out.size))
  clear HB hv
  have HB := HBw2
  clear HBw2
  go_wp2_with fail
  with_reducible refine (C3.out _ HB.out).mono ?_
  rintro e w3 ⟨rfl, hv⟩
  have HBw3 := Lib.hid (HB.out.trans (hv.mono HB.out.size))
  clear HB hv
  have HB := HBw3
  clear HBw3
  go_wp2_with fail
  with_reducible refine (C5.out _ HB.out).mono ?_
  rintro e w4 ⟨rfl, hv⟩
  have HBw4 := Lib.hid (HB.out.trans (hv.mono HB.out.size))
  clear HB hv
  have HB := HBw4
  clear HBw4
  go_wp2_with fail
  with_reducible refine (C3.out _ HB.out).mono ?_
  rintro e w5 ⟨rfl, hv⟩
  have HBw5 := Lib.hid (HB.out.trans (hv.mono HB.out.size))
  clear HB hv
  have HB := HBw5
  clear HBw5
  cases hr : readP s with
  | bad kr =>
    have C7 := Lib.hid (Parse_bad hr)
    have C8 := Lib.hid (PRead_bad hP.out hN.out hr)
    have C9 := Lib.hid (fun V hV => Error_if kr V (hE.out V hV))
    have C10 := Lib.hid (fun V : World => Nodes_same (c := 0) (d := 0) (NodesAt.none V) (NodesAt.none V))
    clear hr
    go_wp2_with fail
    with_reducible refine (C7.out _).mono ?_
    rintro e v1 ⟨rfl, hv1⟩
    have hB1 := Lib.hid (HB.out.trans (hv1.mono HB.out.size))
    clear hv1 HB
    go_wp2_with fail
    with_reducible refine (C8.out _ hB1.out).mono ?_
    rintro e v2 ⟨rfl, hv2⟩
    have hB2 := Lib.hid (hB1.out.trans (hv2.mono hB1.out.size))
    clear hv2 hB1
    go_wp2_with fail
    with_reducible refine (C9.out _ hB2.out).mono ?_
    rintro e v3 ⟨rfl, hv3⟩
    have hB3 := Lib.hid (hB2.out.trans (hv3.mono hB2.out.size))
    clear hv3 hB2
    go_wp2_with fail
    with_reducible refine (C10.out _).mono ?_
    rintro e v4 ⟨rfl, nq, rfl⟩
    go_wp2_with fail
    go_ret
    exact ⟨rfl, belowD hB3.out nq⟩
  | good ir lr o =>
    have C7 := Lib.hid (Parse_good hr)
    have C8 := Lib.hid (PRead_good hP.out hN.out hr)
    have C9 := Lib.hid (fun V hV => Error_is 0 0 true V (hE.out V hV) (by simp))
    rw [errVal_zero] at C9
    clear hr
    go_wp2_with fail
    with_reducible refine (C7.out _).mono ?_
    rintro e v1 ⟨⟨A1, c1, rfl, hA1⟩, hv1⟩
    have hB1 := Lib.hid (HB.out.trans (hv1.mono HB.out.size))
    have HA1 := Lib.hid hA1
    clear hv1 HB hA1
    go_wp2_with fail
    with_reducible refine (C8.out _ hB1.out).mono ?_
    rintro e v2 ⟨⟨A2, c2, rfl, hA2⟩, hv2⟩
    have hB2 := Lib.hid (hB1.out.trans (hv2.mono hB1.out.size))
    have HA2 := Lib.hid hA2
    have HA1b := Lib.hid (HA1.out.below (B := 0) hv2)
    clear hv2 hB1 hA2 HA1
    go_wp2_with fail
    with_reducible refine (C9.out _ hB2.out).mono ?_
    rintro e v3 ⟨rfl, hv3⟩
    have hB3 := Lib.hid (hB2.out.trans (hv3.mono hB2.out.size))
    have C10 := Lib.hid (Nodes_same (c := c2) (d := c1) (HA2.out.below (B := 0) hv3) (HA1b.out.below (B := 0) hv3))
    clear hv3 hB2 HA2 HA1b
    go_wp2_with fail
    with_reducible refine C10.out.mono ?_
    rintro e v4 ⟨rfl, nq, rfl⟩
    go_wp2_with fail
    go_ret
    exact ⟨rfl, belowD hB3.out nq⟩
set_option maxHeartbeats 16000000 in
theorem PSays_short {m : Nat} {t : St} (h : NodesAt w A P (m + 1)) (hP0 : Pow10 w.heap.size w) (hN0 : ∀ V, Below w.heap.size w V → NumErrs V) (hE0 : ErrT w) (hk : progCode P (m + 1) = 0) (ht : IsSt P m t) (hl : t.text.length ≤ 300) :
    Calls Tryz.prog 3 #[.slice A (m + 1) c, .string s] w fun e w' => e = .returned (.bool true) ∧ Below w.heap.size w w' := by
  have hE := Lib.hid (fun V (hV : Below w.heap.size w V) => hE0.next hV)
  have hP := Lib.hid hP0
  have hN := Lib.hid hN0
  have hA := Lib.hid (fun V (hV : Below w.heap.size w V) => h.below (B := 0) hV)
  have hlen := text_short hk ht
  have hm80 : m ≤ 80 := by have := (progCode_tree hk).1.2; omega
  have hmw : wrap64 (m : Int) = m := by unfold wrap64; omega
  have C1 := Lib.hid (fun V hV => RProg_any (c := c) (hA.out V hV))
  have C2 := Lib.hid (fun V hV => PCheck_any (c := c) (hA.out V hV))
  rw [hk] at C1
  rw [hk, errVal_zero] at C2
  have C3 := Lib.hid (fun V hV => Error_is 0 0 true V (hE.out V hV) (by simp))
  rw [errVal_zero] at C3
  have C4 := Lib.hid (fun V hV => (RText_st (A := A) (n := m + 1) (c := c) ht (Nat.lt_succ_self m) (by omega)) V (hA.out V hV))
  have C5 := Lib.hid (fun (V : World) (hV : Below w.heap.size w V) => Write_good (c := c) (hP.out.next hV hV.size (Nat.le_refl _)) (hA.out V hV) hk ht)
  have C6 := C3
  rw [show wrT t.text = .tuple #[.string ⟨t.text.toArray⟩, .nilIface] from if_pos hl] at C5
  have d3 : decide ((t.text.length : Int) > 300) = false := by simp; omega
  have d4 : decide (300 < t.text.length) = false := by simp; omega
  clear ht hl
  generalize t.text = T at *
  clear h hP0 hN0 hE0 hk
  have HB := Lib.hid (Below.refl w.heap.size w)
  go_enter Tryz.func3, Tryz.ntmps3
  go_wp2_with fail
  with_reducible refine (C1.out _ HB.out).mono ?_
  rintro e w1 ⟨rfl, hv⟩
  have HBw1 := Lib.hid (HB.out.trans (hv.mono HB.out.size))
  clear HB hv
  have HB := HBw1
  clear HBw1
  go_wp2_with fail
  with_reducible refine (C2.out _ HB.out).mono ?_
  rintro e w2 ⟨rfl, hv⟩
  have HBw2 := Lib.hid (HB.out.trans (hv.mono HB.out.size))
  clear HB hv
  have HB := HBw2
  clear HBw2
  go_wp2_with fail
  with_reducible refine (C3.out _ HB.out).mono ?_
  rintro e w3 ⟨rfl, hv⟩
  have HBw3 := Lib.hid (HB.out.trans (hv.mono HB.out.size))
  clear HB hv
  have HB := HBw3
  clear HBw3
  go_wp2_with fail
  with_reducible refine (C4.out _ HB.out).mono ?_
  rintro e w3a ⟨rfl, hv⟩
  have HBw3a := Lib.hid (HB.out.trans (hv.mono HB.out.size))
  clear HB hv
  have HB := HBw3a
  clear HBw3a
  go_wp2_with fail
  with_reducible refine (C5.out _ HB.out).mono ?_
  rintro e w4 ⟨rfl, hv⟩
  have HBw4 := Lib.hid (HB.out.trans (hv.mono HB.out.size))
  clear HB hv
  have HB := HBw4
  clear HBw4
  go_wp2_with fail
  with_reducible refine (C6.out _ HB.out).mono ?_
  rintro e w5 ⟨rfl, hv⟩
  have HBw5 := Lib.hid (HB.out.trans (hv.mono HB.out.size))
  clear HB hv
  have HB := HBw5
  clear HBw5
  cases hr : readP s with
  | bad kr =>
    have C7 := Lib.hid (Parse_bad hr)
    have C8 := Lib.hid (PRead_bad hP.out hN.out hr)
    have C9 := Lib.hid (fun V hV => Error_if kr V (hE.out V hV))
    have C10 := Lib.hid (fun V : World => Nodes_same (c := 0) (d := 0) (NodesAt.none V) (NodesAt.none V))
    clear hr
    go_wp2_with fail
    with_reducible refine (C7.out _).mono ?_
    rintro e v1 ⟨rfl, hv1⟩
    have hB1 := Lib.hid (HB.out.trans (hv1.mono HB.out.size))
    clear hv1 HB
    go_wp2_with fail
    with_reducible refine (C8.out _ hB1.out).mono ?_
    rintro e v2 ⟨rfl, hv2⟩
    have hB2 := Lib.hid (hB1.out.trans (hv2.mono hB1.out.size))
    clear hv2 hB1
    go_wp2_with fail
    with_reducible refine (C9.out _ hB2.out).mono ?_
    rintro e v3 ⟨rfl, hv3⟩
    have hB3 := Lib.hid (hB2.out.trans (hv3.mono hB2.out.size))
    clear hv3 hB2
    go_wp2_with fail
    with_reducible refine (C10.out _).mono ?_
    rintro e v4 ⟨rfl, nq, rfl⟩
    go_wp2_with fail
    go_ret
    exact ⟨rfl, belowD hB3.out nq⟩
  | good ir lr o =>
    have C7 := Lib.hid (Parse_good hr)
    have C8 := Lib.hid (PRead_good hP.out hN.out hr)
    have C9 := Lib.hid (fun V hV => Error_is 0 0 true V (hE.out V hV) (by simp))
    rw [errVal_zero] at C9
    clear hr
    go_wp2_with fail
    with_reducible refine (C7.out _).mono ?_
    rintro e v1 ⟨⟨A1, c1, rfl, hA1⟩, hv1⟩
    have hB1 := Lib.hid (HB.out.trans (hv1.mono HB.out.size))
    have HA1 := Lib.hid hA1
    clear hv1 HB hA1
    go_wp2_with fail
    with_reducible refine (C8.out _ hB1.out).mono ?_
    rintro e v2 ⟨⟨A2, c2, rfl, hA2⟩, hv2⟩
    have hB2 := Lib.hid (hB1.out.trans (hv2.mono hB1.out.size))
    have HA2 := Lib.hid hA2
    have HA1b := Lib.hid (HA1.out.below (B := 0) hv2)
    clear hv2 hB1 hA2 HA1
    go_wp2_with fail
    with_reducible refine (C9.out _ hB2.out).mono ?_
    rintro e v3 ⟨rfl, hv3⟩
    have hB3 := Lib.hid (hB2.out.trans (hv3.mono hB2.out.size))
    have C10 := Lib.hid (Nodes_same (c := c2) (d := c1) (HA2.out.below (B := 0) hv3) (HA1b.out.below (B := 0) hv3))
    clear hv3 hB2 HA2 HA1b
    go_wp2_with fail
    with_reducible refine C10.out.mono ?_
    rintro e v4 ⟨rfl, nq, rfl⟩
    go_wp2_with fail
    go_ret
    exact ⟨rfl, belowD hB3.out nq⟩
set_option maxHeartbeats 16000000 in
theorem PSays_long {m : Nat} {t : St} (h : NodesAt w A P (m + 1)) (hP0 : Pow10 w.heap.size w) (hN0 : ∀ V, Below w.heap.size w V → NumErrs V) (hE0 : ErrT w) (hk : progCode P (m + 1) = 0) (ht : IsSt P m t) (hl : 300 < t.text.length) :
    Calls Tryz.prog 3 #[.slice A (m + 1) c, .string s] w fun e w' => e = .returned (.bool true) ∧ Below w.heap.size w w' := by
  have hE := Lib.hid (fun V (hV : Below w.heap.size w V) => hE0.next hV)
  have hP := Lib.hid hP0
  have hN := Lib.hid hN0
  have hA := Lib.hid (fun V (hV : Below w.heap.size w V) => h.below (B := 0) hV)
  have hlen := text_short hk ht
  have hm80 : m ≤ 80 := by have := (progCode_tree hk).1.2; omega
  have hmw : wrap64 (m : Int) = m := by unfold wrap64; omega
  have C1 := Lib.hid (fun V hV => RProg_any (c := c) (hA.out V hV))
  have C2 := Lib.hid (fun V hV => PCheck_any (c := c) (hA.out V hV))
  rw [hk] at C1
  rw [hk, errVal_zero] at C2
  have C3 := Lib.hid (fun V hV => Error_is 0 0 true V (hE.out V hV) (by simp))
  rw [errVal_zero] at C3
  have C4 := Lib.hid (fun V hV => (RText_st (A := A) (n := m + 1) (c := c) ht (Nat.lt_succ_self m) (by omega)) V (hA.out V hV))
  have C5 := Lib.hid (fun (V : World) (hV : Below w.heap.size w V) => Write_good (c := c) (hP.out.next hV hV.size (Nat.le_refl _)) (hA.out V hV) hk ht)
  have C6 : Hid (∀ V, Below w.heap.size w V → Calls Tryz.prog 5 #[.iface 43 (.int .i64 4), .int .i64 4] V fun e w' => e = .returned (.bool true) ∧ Below V.heap.size V w') := Lib.hid (fun V hV => Error_if 4 V (hE.out V hV))
  rw [show wrT t.text = .tuple #[.string .empty, .iface 43 (.int .i64 4)] from if_neg (by omega)] at C5
  have d3 : decide ((t.text.length : Int) > 300) = true := by simp; omega
  have d4 : decide (300 < t.text.length) = true := by simp; omega
  clear ht hl
  generalize t.text = T at *
  clear h hP0 hN0 hE0 hk
  have HB := Lib.hid (Below.refl w.heap.size w)
  go_enter Tryz.func3, Tryz.ntmps3
  go_wp2_with fail
  with_reducible refine (C1.out _ HB.out).mono ?_
  rintro e w1 ⟨rfl, hv⟩
  have HBw1 := Lib.hid (HB.out.trans (hv.mono HB.out.size))
  clear HB hv
  have HB := HBw1
  clear HBw1
  go_wp2_with fail
  with_reducible refine (C2.out _ HB.out).mono ?_
  rintro e w2 ⟨rfl, hv⟩
  have HBw2 := Lib.hid (HB.out.trans (hv.mono HB.out.size))
  clear HB hv
  have HB := HBw2
  clear HBw2
  go_wp2_with fail
  with_reducible refine (C3.out _ HB.out).mono ?_
  rintro e w3 ⟨rfl, hv⟩
  have HBw3 := Lib.hid (HB.out.trans (hv.mono HB.out.size))
  clear HB hv
  have HB := HBw3
  clear HBw3
  go_wp2_with fail
  with_reducible refine (C4.out _ HB.out).mono ?_
  rintro e w3a ⟨rfl, hv⟩
  have HBw3a := Lib.hid (HB.out.trans (hv.mono HB.out.size))
  clear HB hv
  have HB := HBw3a
  clear HBw3a
  go_wp2_with fail
  with_reducible refine (C5.out _ HB.out).mono ?_
  rintro e w4 ⟨rfl, hv⟩
  have HBw4 := Lib.hid (HB.out.trans (hv.mono HB.out.size))
  clear HB hv
  have HB := HBw4
  clear HBw4
  go_wp2_with fail
  with_reducible refine (C6.out _ HB.out).mono ?_
  rintro e w5 ⟨rfl, hv⟩
  have HBw5 := Lib.hid (HB.out.trans (hv.mono HB.out.size))
  clear HB hv
  have HB := HBw5
  clear HBw5
  cases hr : readP s with
  | bad kr =>
    have C7 := Lib.hid (Parse_bad hr)
    have C8 := Lib.hid (PRead_bad hP.out hN.out hr)
    have C9 := Lib.hid (fun V hV => Error_if kr V (hE.out V hV))
    have C10 := Lib.hid (fun V : World => Nodes_same (c := 0) (d := 0) (NodesAt.none V) (NodesAt.none V))
    clear hr
    go_wp2_with fail
    with_reducible refine (C7.out _).mono ?_
    rintro e v1 ⟨rfl, hv1⟩
    have hB1 := Lib.hid (HB.out.trans (hv1.mono HB.out.size))
    clear hv1 HB
    go_wp2_with fail
    with_reducible refine (C8.out _ hB1.out).mono ?_
    rintro e v2 ⟨rfl, hv2⟩
    have hB2 := Lib.hid (hB1.out.trans (hv2.mono hB1.out.size))
    clear hv2 hB1
    go_wp2_with fail
    with_reducible refine (C9.out _ hB2.out).mono ?_
    rintro e v3 ⟨rfl, hv3⟩
    have hB3 := Lib.hid (hB2.out.trans (hv3.mono hB2.out.size))
    clear hv3 hB2
    go_wp2_with fail
    with_reducible refine (C10.out _).mono ?_
    rintro e v4 ⟨rfl, nq, rfl⟩
    go_wp2_with fail
    go_ret
    exact ⟨rfl, belowD hB3.out nq⟩
  | good ir lr o =>
    have C7 := Lib.hid (Parse_good hr)
    have C8 := Lib.hid (PRead_good hP.out hN.out hr)
    have C9 := Lib.hid (fun V hV => Error_is 0 0 true V (hE.out V hV) (by simp))
    rw [errVal_zero] at C9
    clear hr
    go_wp2_with fail
    with_reducible refine (C7.out _).mono ?_
    rintro e v1 ⟨⟨A1, c1, rfl, hA1⟩, hv1⟩
    have hB1 := Lib.hid (HB.out.trans (hv1.mono HB.out.size))
    have HA1 := Lib.hid hA1
    clear hv1 HB hA1
    go_wp2_with fail
    with_reducible refine (C8.out _ hB1.out).mono ?_
    rintro e v2 ⟨⟨A2, c2, rfl, hA2⟩, hv2⟩
    have hB2 := Lib.hid (hB1.out.trans (hv2.mono hB1.out.size))
    have HA2 := Lib.hid hA2
    have HA1b := Lib.hid (HA1.out.below (B := 0) hv2)
    clear hv2 hB1 hA2 HA1
    go_wp2_with fail
    with_reducible refine (C9.out _ hB2.out).mono ?_
    rintro e v3 ⟨rfl, hv3⟩
    have hB3 := Lib.hid (hB2.out.trans (hv3.mono hB2.out.size))
    have C10 := Lib.hid (Nodes_same (c := c2) (d := c1) (HA2.out.below (B := 0) hv3) (HA1b.out.below (B := 0) hv3))
    clear hv3 hB2 HA2 HA1b
    go_wp2_with fail
    with_reducible refine C10.out.mono ?_
    rintro e v4 ⟨rfl, nq, rfl⟩
    go_wp2_with fail
    go_ret
    exact ⟨rfl, belowD hB3.out nq⟩
theorem ProgSays_walk (n : Nat) (P : List Int) (A : Option Addr) (c : Nat) {W : World} (hn : P.length = n * 5) (hA : IntsAt W A P) (hs : n * 5 < 2 ^ 47) (hb : ∀ x ∈ P, I64 x) (s : ByteArray) (hsz : s.size < 2 ^ 47) (w : World) (hw : w = W) (hP : Pow10 W.heap.size W) (hE : ErrT W) (hN : ∀ V, Below W.heap.size W V → NumErrs V) :
    Calls Tryz.prog 3 #[.slice A n c, .string s] w fun e w' => e = .returned (.bool true) ∧ Below W.heap.size W w' := by
  subst hw
  have h : NodesAt w A P n := ⟨hA, hn, by omega⟩
  by_cases hk : progCode P n = 0
  · obtain ⟨⟨h1, h80⟩, -, t, ht⟩ := progCode_tree hk
    obtain ⟨m, rfl⟩ : ∃ m, n = m + 1 := ⟨n - 1, by omega⟩
    rcases Nat.lt_or_ge 300 t.text.length with hl | hl
    · exact PSays_long h hP hN hE hk ht hl
    · exact PSays_short h hP hN hE hk ht hl
  · exact PSays_bad h hP hN hE rfl hk
end
end Go.Proofs.YtfpghfmdkbdojaaGreatDoor
