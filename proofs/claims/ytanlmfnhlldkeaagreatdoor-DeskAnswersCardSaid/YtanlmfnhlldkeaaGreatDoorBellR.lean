/-
  Contracts of the reference: Label, Labels, NewBell.
-/
import Derived.Test.YtanlmfnhlldkeaaGreatDoorSmlA
import Derived.Deep.RegionLaw
import Derived.Deep.RegionHeld3
namespace Go.Proofs.YtanlmfnhlldkeaaGreatDoor
open Go.RowKit
set_option maxRecDepth 100000
set_option linter.unusedVariables false

set_option maxHeartbeats 1000000 in
theorem RLabels_any (L : List Int) (n most : Nat) (hL : L.length = n * 2) (hm : most ≤ 100) (A : Option Addr) (c : Nat) (w : World) (h : IntsAt w A L) (hl : n < 2 ^ 60) :
    Calls Tryz.prog 123 #[.slice A n c, .int .i64 most] w fun e w' => e = .returned (.int .i64 (labsCode L n most)) ∧ Below w.heap.size w w' := by
  by_cases h12 : most < n
  · have Hc := Lib.hid (show labsCode L n most = 4 by unfold labsCode; rw [if_pos h12])
    clear hL
    go_enter Tryz.func123, Tryz.ntmps123
    go_wp2
    go_ret
    exact ⟨by rw [Hc.out]; rfl, Below.refl _ _⟩
  · have Hc := Lib.hid (show labsCode L n most = if (List.range n).all (labOkB L) then 0 else 1 by unfold labsCode; rw [if_neg h12])
    have HL := Lib.hid hL
    clear hL
    go_enter Tryz.func123, Tryz.ntmps123
    go_wp2
    go_loopw [5] (fun i wr => ∃ k : Nat, k ≤ n ∧ i = .int .i64 k ∧ Hid (∀ x, x < k → labOkB L x = true) ∧ Below w.heap.size w wr) (fun i _ => n - (intOf i).toNat)
    case atStart => exact ⟨0, Nat.zero_le _, rfl, Lib.hid (fun x hx => by omega), Below.refl _ _⟩
    case round =>
      obtain ⟨k, hk, rfl, hall, hbw⟩ := hrel
      by_cases hlt : k < n
      · have hA := h.below hbw
        have hL := HL.out
        obtain ⟨b, off, rfl, hc⟩ := hA (by intro e; simp [e] at hL; omega)
        have p0 := hc (k * 2) _ (get_gI (by omega))
        have p1 : wr.cell? ⟨b, off + k * 2 + 1, none⟩ = some (.int .i64 (gI L (k * 2 + 1))) := hc (k * 2 + 1) _ (get_gI (by omega))
        have hbl := block_lt p0
        clear hc hL hA
        cases hb : labOkB L k with
        | true =>
          have hok : labOk (gI L (k * 2)) (gI L (k * 2 + 1)) := by unfold labOkB at hb; exact of_decide_eq_true hb
          have Hb := Lib.hid (fun V => RLabel_any (gI L (k * 2)) (gI L (k * 2 + 1)) V (r := 0) (if_pos hok))
          have Hnew := Lib.hid (show ∀ y, y < k + 1 → labOkB L y = true from fun y hy => by
            rcases Nat.lt_or_ge y k with h1 | h1
            · exact hall.out y h1
            · obtain rfl : y = k := by omega
              exact hb)
          clear hb hall hok
          generalize gI L (k * 2) = v0 at *
          generalize gI L (k * 2 + 1) = v1 at *
          go_wp2_with (go_at_call 152; with_reducible refine (Hb.out _).mono ?_; rintro e w5 ⟨rfl, hb5⟩)
          refine ⟨⟨k + 1, ?xa, ?xb, Hnew, ?xc⟩, ?xd⟩
          case xa => omega
          case xb => go_num
          case xc => exact hbw.trans (hb5.mono hbw.size)
          case xd => simp [intOf]; omega
        | false =>
          have hok : ¬ labOk (gI L (k * 2)) (gI L (k * 2 + 1)) := by unfold labOkB at hb; exact of_decide_eq_false hb
          have Hb := Lib.hid (fun V => RLabel_any (gI L (k * 2)) (gI L (k * 2 + 1)) V (r := 1) (if_neg hok))
          have Hno := Lib.hid (show (List.range n).all (labOkB L) = false from by
            rw [List.all_eq_false]; exact ⟨k, List.mem_range.2 hlt, by rw [hb]; decide⟩)
          clear hb hall hok
          generalize gI L (k * 2) = v0 at *
          generalize gI L (k * 2 + 1) = v1 at *
          go_wp2_with (go_at_call 152; with_reducible refine (Hb.out _).mono ?_; rintro e w5 ⟨rfl, hb5⟩)
          go_ret
          exact ⟨by rw [Hc.out, Hno.out]; rfl, hbw.trans (hb5.mono hbw.size)⟩
      · obtain rfl : k = n := by omega
        have Hyes := Lib.hid (show (List.range k).all (labOkB L) = true from by
          rw [List.all_eq_true]
          intro x hx
          exact hall.out x (List.mem_range.1 hx))
        clear hall
        go_wp2
        go_ret
        exact ⟨by rw [Hc.out, Hyes.out]; rfl, hbw⟩
/-- The reference's monitor as a value. -/
structure RL (ok : Nat → Prop) (w : World) (v : Value) (U F : List Int) (S : LS) : Prop where
  is : ∃ a1 a2 a3 a4 a5 c1 c2 c3 c4 c5, v = .agg #[.slice a1 S.Re.length c1, .slice a2 S.Ho.length c2, .slice a3 S.Re.length c3, .slice a4 S.Re.length c4, .slice a5 S.Ho.length c5] ∧
    IntsIn ok w a1 U ∧ IntsIn ok w a2 F ∧ IntsIn ok w a3 (castL S.Re) ∧ IntsIn ok w a4 (castL S.Wr) ∧ IntsIn ok w a5 (castL S.Ho)
theorem RL.below {ok : Nat → Prop} {w w' : World} {v : Value} {U F : List Int} {S : LS} (h : RL ok w v U F S) (hb : Below w.heap.size w w') : RL ok w' v U F S := by
  obtain ⟨a1, a2, a3, a4, a5, c1, c2, c3, c4, c5, e, i1, i2, i3, i4, i5⟩ := h.is
  exact ⟨a1, a2, a3, a4, a5, c1, c2, c3, c4, c5, e, i1.below hb, i2.below hb, i3.below hb, i4.below hb, i5.below hb⟩
/-- Two slices do not share a block. -/
def Apart (v v' : Value) : Prop := ∀ k, v.ownBlock = some k → v'.ownBlock ≠ some k
theorem Apart.symm {v v' : Value} (h : Apart v v') : Apart v' v := fun k e e' => h k e' e
theorem Apart.kept {v v' : Value} (h : Apart v v') : v'.ownBlock = none ∨ v'.ownBlock ≠ v.ownBlock := by
  cases e : v'.ownBlock with
  | none => exact .inl rfl
  | some k => exact .inr fun e' => h k e'.symm e
theorem Apart.grown {w : World} {base : Nat} {v v' u : Value} {xs : List Int} (h : Apart v u) (hu : OwnI w base u xs) (hs : v'.ownBlock = v.ownBlock ∨ ∃ m, w.heap.size ≤ m ∧ v'.ownBlock = some m) : Apart v' u := fun k e e' => by
  rcases hs with hs | ⟨m, hm, hs⟩
  · exact h k (by rw [← hs]; exact e) e'
  · rw [hs] at e
    cases e
    have := (World.ownsRow.lt hu k e').2
    omega
theorem alloc_cell0 (W : World) (n : Nat) (hn : n = W.heap.size) (v : Value) (t : Nat) : (W.alloc (.cells #[v] t)).cell? ⟨n, 0, none⟩ = some v := by
  subst hn
  exact cell_of_row _ _ 0 _ _ _ (heap_alloc_new _ _)
/-- What was there is there, apart from one block. -/
def Near (x : Nat) (w w' : World) : Prop := ∀ b, b < w.heap.size → b ≠ x → w'.heap[b]? = w.heap[b]?
theorem IntsAt.near {w w' : World} {A : Option Addr} {l : List Int} {x : Nat} {t : TypeId} {vs : Array Value} (h : IntsAt w A l) (hb : BoxN w x t vs) (hno : noInt vs) (hw : Near x w w') : IntsAt w' A l := fun hl => by
  obtain ⟨b, off, rfl, hc⟩ := h hl
  have p := hc 0 _ (get_gI (List.length_pos_iff.2 hl))
  have hlt : b < w.heap.size := block_lt p
  have hne : b ≠ x := by
    rintro rfl
    rw [cell_of_row w b _ vs t (0, 0) hb] at p
    exact hno _ _ p
  exact ⟨b, off, rfl, fun j y hj => (World.cell?_of_block (a := ⟨b, off + j, none⟩) (hw b hlt hne)).trans (hc j y hj)⟩
/-- Where a new monitor's rows lie. -/
def newOk (U F : List Int) (Ua Fa : Option Addr) (n : Nat) (g : Nat) : Prop := (U ≠ [] ∧ ∃ off, Ua = some ⟨g, off, none⟩) ∨ (F ≠ [] ∧ ∃ off, Fa = some ⟨g, off, none⟩) ∨ n ≤ g
theorem RL.mono {ok ok' : Nat → Prop} {w : World} {v : Value} {U F : List Int} {S : LS} (h : RL ok w v U F S) (ho : ∀ g, ok g → ok' g) : RL ok' w v U F S := by
  obtain ⟨a1, a2, a3, a4, a5, c1, c2, c3, c4, c5, e, i1, i2, i3, i4, i5⟩ := h.is
  exact ⟨a1, a2, a3, a4, a5, c1, c2, c3, c4, c5, e, ⟨i1.1, fun b off e hl => ho b (i1.2 b off e hl)⟩, ⟨i2.1, fun b off e hl => ho b (i2.2 b off e hl)⟩, ⟨i3.1, fun b off e hl => ho b (i3.2 b off e hl)⟩, ⟨i4.1, fun b off e hl => ho b (i4.2 b off e hl)⟩, ⟨i5.1, fun b off e hl => ho b (i5.2 b off e hl)⟩⟩
set_option maxHeartbeats 4000000 in
theorem RNewBell_low (U F : List Int) (m n : Nat) (hU : U.length = m * 2) (hF : F.length = n * 2) (Ua Fa : Option Addr) (c d : Nat) (w : World) (iU : IntsAt w Ua U) (iF : IntsAt w Fa F) (h1 : labsCode U m 8 = 0) (h2 : labsCode F n 8 = 0) :
    Calls Tryz.prog 92 #[.slice Ua m c, .slice Fa n d] w fun e w' => (∃ v, e = .returned (.tuple #[v, .int .i64 0]) ∧ RL (newOk U F Ua Fa w.heap.size) w' v U F (lStart m n)) ∧ Below w.heap.size w w' := by
  have hm8 := (labsCode_ok h1).1
  have hn8 := (labsCode_ok h2).1
  have L1 := fun V (hV : IntsAt V Ua U) => RLabels_any U m 8 hU (by omega) Ua c V hV (by omega)
  have L2 := fun V (hV : IntsAt V Fa F) => RLabels_any F n 8 hF (by omega) Fa d V hV (by omega)
  rw [h1] at L1
  rw [h2] at L2
  have M1 := Lib.hid L1
  have M2 := Lib.hid L2
  clear L1 L2 h1 h2
  have hz0 := BoxN.new w 99 #[.slice none 0 0, .slice none 0 0, .slice none 0 0, .slice none 0 0, .slice none 0 0]
  have hb0 : Below w.heap.size w (w.alloc (.cells #[.slice none 0 0, .slice none 0 0, .slice none 0 0, .slice none 0 0, .slice none 0 0] 99)) := (Below.refl _ _).alloc (Nat.le_refl _) _
  go_enter Tryz.func92, Tryz.ntmps92
  go_wp2_with fail
  generalize w.alloc (.cells #[.slice none 0 0, .slice none 0 0, .slice none 0 0, .slice none 0 0, .slice none 0 0] 99) = w0 at *
  refine (M1.out _ (iU.below hb0)).mono ?_
  rintro e wA ⟨rfl, hbA⟩
  have hb0A := hb0.trans (hbA.mono hb0.size)
  go_wp2_with fail
  refine (M2.out _ (iF.below hb0A)).mono ?_
  rintro e wB ⟨rfl, hbB⟩
  have hbw := hb0A.trans (hbB.mono hb0A.size)
  have hzB := (hz0.all hbA).all hbB
  clear M1 M2 hbA hbB hb0A hb0 hz0
  go_wp2_with fail
  have hbx := BoxN.new wB 99 #[.slice Ua m c, .slice Fa n d, .slice none 0 0, .slice none 0 0, .slice none 0 0]
  have hbz : Below wB.heap.size wB (wB.alloc (.cells #[.slice Ua m c, .slice Fa n d, .slice none 0 0, .slice none 0 0, .slice none 0 0] 99)) := (Below.refl _ _).alloc (Nat.le_refl _) _
  have hzz := hzB.all hbz
  have hbww := hbw.trans (hbz.mono hbw.size)
  have hszB : wB.heap.size < (wB.alloc (.cells #[.slice Ua m c, .slice Fa n d, .slice none 0 0, .slice none 0 0, .slice none 0 0] 99)).heap.size := by simp
  have hwl : w.heap.size < wB.heap.size := hzB.lt
  generalize wB.alloc (.cells #[.slice Ua m c, .slice Fa n d, .slice none 0 0, .slice none 0 0, .slice none 0 0] 99) = w3 at *
  obtain ⟨xb, hxb⟩ : ∃ x, wB.heap.size = x := ⟨_, rfl⟩
  rw [hxb] at hbx hszB hwl ⊢
  clear hxb hzB hbw hbz
  obtain ⟨B, hB⟩ : ∃ B, w3.heap.size = B := ⟨_, rfl⟩
  have hB1 : xb < B := by omega
  have HB := Lib.hid hB
  clear hB
  go_loopw [8] (fun i wr => ∃ (j : Nat) (v2 v3 : Value), j ≤ m ∧ i = .int .i64 j ∧ BoxN wr xb 99 #[.slice Ua m c, .slice Fa n d, v2, v3, .slice none 0 0] ∧ OwnI wr B v2 (castL (List.replicate j 0)) ∧ OwnI wr B v3 (castL (List.replicate j 0)) ∧ Apart v2 v3 ∧ BoxN wr w.heap.size 99 #[.slice none 0 0, .slice none 0 0, .slice none 0 0, .slice none 0 0, .slice none 0 0] ∧ Below w.heap.size w wr ∧ B ≤ wr.heap.size) (fun i _ => m - (intOf i).toNat)
  case atStart => exact ⟨0, _, _, Nat.zero_le _, rfl, hbx, OwnI.nil _ _, OwnI.nil _ _, (fun k e => by cases e), hzz, hbww, Nat.le_of_eq HB.out.symm⟩
  case round =>
    clear hbx hzz hbww
    obtain ⟨j, v2, v3, hj, rfl, hbx, ho2, ho3, hap, hzz, hbr, hsz⟩ := hrel
    by_cases hlt : j < m
    · have c2 : wr.cell? ⟨xb, 2, none⟩ = some v2 := hbx.cell rfl
      have c3 : wr.cell? ⟨xb, 3, none⟩ = some v3 := hbx.cell rfl
      have hlen : (castL (List.replicate j 0)).length < 2 ^ 40 := by rw [length_castL, List.length_replicate]; omega
      have Hnx := Lib.hid (show castL (List.replicate j 0) ++ [(0 : Int)] = castL (List.replicate (j + 1) 0) by simp [castL, List.replicate_succ'])
      have hwx : w.heap.size < xb := hwl
      generalize castL (List.replicate j 0) = xs at *
      have hll : (xs ++ [(0 : Int)]).length = xs.length + 1 := by simp
      have Hll := Lib.hid hll
      clear hll
      go_wp2_with (first | (at_builtin; refine wpList_push_int rfl _ _ rfl rfl (ho2.next ((Below.refl _ _).alloc (Nat.le_refl _) _)) _ 0 rfl (cell_of_row _ _ 0 _ _ _ (heap_alloc_new _ _)) hlen (by simp; omega) ?_; intro v2' w1 ho2' hgr1 hblk1 hbl1; obtain ⟨A2, k2, rfl, hi2⟩ := OwnI.form ho2'; have hbz1 := hbl1 wr ((Below.refl _ _).alloc hsz _); have hbx1 := hbx.below hbz1 hB1; have c2' := hbx1.cell (k := 2) rfl; have f2' := hbx1.free 2; have c3' := hbx1.cell (k := 3) rfl; have f3' := hbx1.free 3; have ho3a : OwnI w1 B v3 xs := World.ownsRow.kept (OwnI.next ho3 ((Below.refl _ wr).alloc (Nat.le_refl _) (.cells #[.int .i64 0] 3))) hgr1 hap.kept; have Hap1 := Lib.hid (hap.grown (OwnI.next ho3 ((Below.refl _ wr).alloc (Nat.le_refl _) (.cells #[.int .i64 0] 3))) (hblk1.imp id fun h => ⟨_, Nat.le_refl _, h⟩)); have hs1 := hbz1.size; have ho3b := OwnI.setOut ho3a (a := ⟨xb, 2, none⟩) hB1 (.slice A2 (xs.length + 1) k2)) | (at_builtin; refine wpList_push_int rfl _ _ rfl rfl (OwnI.next ho3b ((Below.refl _ _).alloc (Nat.le_refl _) _)) _ 0 rfl (alloc_cell0 _ _ (by simp) _ _) hlen (by simp; omega) ?_; intro v3' w2 ho3' hgr2 hblk2 hbl2; obtain ⟨A3, k3, rfl, hi3⟩ := OwnI.form ho3'; have hbz2 := hbl2 _ ((Below.refl _ _).alloc (by simp; omega) _); have hbx2 := BoxN.below (hbx1.set 2 (.slice A2 (xs.length + 1) k2)) hbz2 hB1; have c3'' := hbx2.cell (k := 3) rfl; have f3'' := hbx2.free 3))
      have hl1 : (xs ++ [(0 : Int)]).length = xs.length + 1 := by simp
      rw [hl1] at ho2' ho3' Hap1 hblk2
      have HA := Hap1.out.symm
      have ho2c : OwnI w2 B (.slice A2 (xs.length + 1) k2) (xs ++ [0]) := World.ownsRow.kept (OwnI.next (OwnI.setOut ho2' (a := ⟨xb, 2, none⟩) hB1 (.slice A2 (xs.length + 1) k2)) ((Below.refl _ _).alloc (Nat.le_refl _) _)) hgr2 HA.kept
      have hA' := (HA.grown (OwnI.setOut ho2' (a := ⟨xb, 2, none⟩) hB1 (.slice A2 (xs.length + 1) k2)) (hblk2.imp id fun h => ⟨_, by simp, h⟩)).symm
      have hwB : w.heap.size < B := by omega
      have hz1 := (hzz.below hbz1 hwB).other (a := ⟨xb, 2, none⟩) (by show w.heap.size ≠ xb; omega) (.slice A2 (xs.length + 1) k2)
      have hz2 := (hz1.below hbz2 hwB).other (a := ⟨xb, 3, none⟩) (by show w.heap.size ≠ xb; omega) (.slice A3 (xs.length + 1) k3)
      have hs2 := hbz2.size
      have hb1 := (hbr.trans (hbz1.mono (by omega))).setCell (p := ⟨xb, 2, none⟩) (by show w.heap.size ≤ xb; omega) (.slice A2 (xs.length + 1) k2)
      have hb2 := (hb1.trans (hbz2.mono (by omega))).setCell (p := ⟨xb, 3, none⟩) (by show w.heap.size ≤ xb; omega) (.slice A3 (xs.length + 1) k3)
      rw [Hnx.out] at ho2c ho3'
      refine ⟨⟨j + 1, _, _, by omega, by go_num, hbx2.set 3 _, ho2c.setOut (a := ⟨xb, 3, none⟩) hB1 _, ho3'.setOut (a := ⟨xb, 3, none⟩) hB1 _, hA', hz2, hb2, by simp at hs2 ⊢; omega⟩, ?_⟩
      simp [intOf]; omega
    · obtain rfl : j = m := by omega
      obtain ⟨A2, k2, rfl, i2⟩ := ho2.form
      obtain ⟨A3, k3, rfl, i3⟩ := ho3.form
      have hlo2 : ∀ b off, A2 = some ⟨b, off, none⟩ → w.heap.size ≤ b := fun b off e => Nat.le_trans (by omega) (World.ownsRow.lt ho2 b (by rw [e]; rfl)).1
      have hlo3 : ∀ b off, A3 = some ⟨b, off, none⟩ → w.heap.size ≤ b := fun b off e => Nat.le_trans (by omega) (World.ownsRow.lt ho3 b (by rw [e]; rfl)).1
      have Hlo2 := Lib.hid hlo2
      have Hlo3 := Lib.hid hlo3
      clear hlo2 hlo3
      rw [length_castL, List.length_replicate] at hbx
      clear ho2 ho3 hap hj hlt
      obtain ⟨wa, rfl⟩ : ∃ wa : World, wa = wr := ⟨_, rfl⟩
      have hNr : Near xb wa wa := fun _ _ _ => rfl
      obtain ⟨B2, hB2⟩ : ∃ B2, wa.heap.size = B2 := ⟨_, rfl⟩
      have hB21 : xb < B2 := by omega
      have HB2 := Lib.hid hB2
      clear hB2 hsz
      go_wp2_with fail
      go_loopw [9] (fun i wr => ∃ (q : Nat) (v : Value), q ≤ n ∧ i = .int .i64 q ∧ BoxN wr xb 99 #[.slice Ua j c, .slice Fa n d, .slice A2 j k2, .slice A3 j k3, v] ∧ OwnI wr B2 v (castL (pows q)) ∧ Near xb wa wr ∧ Below w.heap.size w wr ∧ B2 ≤ wr.heap.size) (fun i _ => n - (intOf i).toNat)
      case atStart => exact ⟨0, _, Nat.zero_le _, rfl, hbx, OwnI.nil _ _, hNr, hbr, Nat.le_of_eq HB2.out.symm⟩
      case round =>
        have hbx0 := hbx
        clear hbx hbr hNr
        obtain ⟨q, v, hq, rfl, hbx, hown, hNr, hbr, hsz⟩ := hrel
        by_cases hlt : q < n
        · have c4 : wr.cell? ⟨xb, 4, none⟩ = some v := hbx.cell rfl
          have hlen : (castL (pows q)).length < 2 ^ 40 := by rw [length_castL, length_pows]; omega
          have Hnx := Lib.hid (show castL (pows q) ++ [((2 ^ q : Nat) : Int)] = castL (pows (q + 1)) by rw [pows_succ]; simp [castL])
          have HP := Lib.hid (fun V => Pow2_any q V (by omega))
          generalize castL (pows q) = xs at *
          generalize 2 ^ q = pq at *
          go_wp2_with fail
          have hpl : xb < wr.heap.size := hbx.lt
          have hne := World.new_ne wr ⟨xb, 4, none⟩ c4
          go_region_law ((first | (refine step_push_int (by rfl) _ _ (by rfl) (by rfl) (hown.next (w' := _) (by repeat (first | exact Below.refl _ _ | refine Below.drew ?_ | refine Below.alloc ?_ (Nat.le_refl _) _))) wr.heap.size pq (by rfl) (cell_of_row _ _ 0 _ _ _ (heap_alloc_new wr _)) hlen (by simp; omega) ?_; intro B' cc w' hown' hi' hbl; have hbw := hbl wr (by repeat (first | exact Below.refl _ _ | refine Below.drew ?_ | refine Below.alloc ?_ hsz _)); have hbx' := hbx.below hbw (by omega); have c4' := hbx'.cell (k := 4) rfl; have f4' := hbx'.free 4) | (go_simp; go_at_call 124; with_reducible refine (HP.out _).mono ?_; rintro e w' ⟨rfl, rfl⟩)))
          all_goals
            try go_wp2_with fail
            have hlen1 : (xs ++ [(pq : Int)]).length = xs.length + 1 := by simp
            rw [Hnx.out] at hown'
            have hszn := hbw.size
            have hNr' : Near xb wa (w'.setCell ⟨xb, 4, none⟩ (.slice B' (xs.length + 1) cc)) := fun b hb hne => ((Below.heap_setCell _ _ _ _ hne).trans (hbw.block b (by rw [HB2.out] at hb; exact hb))).trans (hNr b hb hne)
            refine ⟨⟨q + 1, _, by omega, by go_num, hbx'.set 4 _, hown'.setOut (a := ⟨xb, 4, none⟩) hB21 _, hNr', (hbr.trans (hbw.mono (by omega))).setCell (p := ⟨xb, 4, none⟩) (by show w.heap.size ≤ xb; omega) _, by simp; omega⟩, ?_⟩
            simp [intOf]; omega
        · obtain rfl : q = n := by omega
          obtain ⟨A4, k4, rfl, i4⟩ := hown.form
          have hlo4 : ∀ b off, A4 = some ⟨b, off, none⟩ → w.heap.size ≤ b := fun b off e => Nat.le_trans (by omega) (World.ownsRow.lt hown b (by rw [e]; rfl)).1
          have Hlo4 := Lib.hid hlo4
          clear hlo4
          rw [length_castL, length_pows] at hbx
          have hno : noInt #[.slice Ua j c, .slice Fa q d, .slice A2 j k2, .slice A3 j k3, .slice none 0 0] := noInt_of rfl
          have i2 := i2.near hbx0 hno hNr
          have i3 := i3.near hbx0 hno hNr
          have hz := (hNr w.heap.size (by rw [HB2.out]; omega) (by omega)).trans hzz
          have hz : BoxN wr w.heap.size 99 #[.slice none 0 0, .slice none 0 0, .slice none 0 0, .slice none 0 0, .slice none 0 0] := hz
          have iU := iU.below hbr
          have iF := iF.below hbr
          clear hbx0 hNr hown hzz
          have x0 := hbx.cell (k := 0) rfl
          have x1 := hbx.cell (k := 1) rfl
          have x2 := hbx.cell (k := 2) rfl
          have x3 := hbx.cell (k := 3) rfl
          have x4 := hbx.cell (k := 4) rfl
          have z0 := hz.cell (k := 0) rfl
          have z1 := hz.cell (k := 1) rfl
          have z2 := hz.cell (k := 2) rfl
          have z3 := hz.cell (k := 3) rfl
          have z4 := hz.cell (k := 4) rfl
          have fz0 := hz.free 0
          have fz1 := hz.free 1
          have fz2 := hz.free 2
          have fz3 := hz.free 3
          have fz4 := hz.free 4
          go_wp2_with fail
          have hR := (((((hz.set 0 (.slice Ua j c)).set 1 (.slice Fa q d)).set 2 (.slice A2 j k2)).set 3 (.slice A3 j k3)).set 4 (.slice A4 q k4))
          have hO := ((((((OnlyAt.refl w.heap.size wr).set 0 (.slice Ua j c)).set 1 (.slice Fa q d)).set 2 (.slice A2 j k2)).set 3 (.slice A3 j k3)).set 4 (.slice A4 q k4))
          have hn0 : noInt #[.slice none 0 0, .slice none 0 0, .slice none 0 0, .slice none 0 0, .slice none 0 0] := noInt_of rfl
          refine bodyPost_ret (results_row_tmp rfl _ _ w.heap.size 99 #[.slice Ua j c, .slice Fa q d, .slice A2 j k2, .slice A3 j k3, .slice A4 q k4] (0, 0) _ rfl hR Tryz.underlying99 rfl (by kernel_rfl)) rfl ?_
          exact ⟨⟨_, rfl, Ua, Fa, A2, A3, A4, c, d, k2, k3, k4, by simp [lStart, length_pows], ⟨iU.box hz hn0 hO.cell, fun b off e hl => .inl ⟨hl, off, e⟩⟩, ⟨iF.box hz hn0 hO.cell, fun b off e hl => .inr (.inl ⟨hl, off, e⟩)⟩, ⟨i2.box hz hn0 hO.cell, fun b off e _ => .inr (.inr (Hlo2.out b off e))⟩, ⟨i3.box hz hn0 hO.cell, fun b off e _ => .inr (.inr (Hlo3.out b off e))⟩, ⟨i4.box hz hn0 hO.cell, fun b off e _ => .inr (.inr (Hlo4.out b off e))⟩⟩, (((((hbr.setCell (p := ⟨w.heap.size, 0, none⟩) (Nat.le_refl _) (.slice Ua j c)).setCell (p := ⟨w.heap.size, 1, none⟩) (Nat.le_refl _) (.slice Fa q d)).setCell (p := ⟨w.heap.size, 2, none⟩) (Nat.le_refl _) (.slice A2 j k2)).setCell (p := ⟨w.heap.size, 3, none⟩) (Nat.le_refl _) (.slice A3 j k3)).setCell (p := ⟨w.heap.size, 4, none⟩) (Nat.le_refl _) (.slice A4 q k4))⟩
end Go.Proofs.YtanlmfnhlldkeaaGreatDoor
