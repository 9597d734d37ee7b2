/-
  The walk of KernelLoads.
-/
import Derived.Test.YtanlmfnhlldkeaaGreatDoorKLdD
import Derived.Test.YtanlmfnhlldkeaaGreatDoorRLoad
import Derived.Test.YtanlmfnhlldkeaaGreatDoorKRSys
import Derived.Test.YtanlmfnhlldkeaaGreatDoorAsA
import Derived.Deep.QuietTactic
import Derived.BigQuiet
import Derived.Deep.RegionHeld3
namespace Go.Proofs.YtanlmfnhlldkeaaGreatDoor
open Go.RowKit
set_option maxRecDepth 100000
set_option linter.unusedVariables false

theorem wordsK_err : ∀ {a : List (List UInt8)} {k : Nat}, wordsK a = .error k → k ≠ 0
  | [], k, h => by cases h
  | x :: r, k, h => by
    rw [wordsK] at h
    split at h
    · injection h with h; omega
    · split at h
      · injection h with h; omega
      · split at h
        · rename_i k' e
          injection h with h
          subst h
          exact wordsK_err e
        · cases h
theorem rowsK_err : ∀ {a : List (List UInt8)} {k : Nat}, rowsK a = .error k → k ≠ 0
  | [], k, h => by cases h
  | x :: r, k, h => by
    rw [rowsK] at h
    split at h
    · rename_i k' e
      injection h with h
      subst h
      unfold rowK at e
      split at e
      · cases e
      · exact wordsK_err e
    · split at h
      · rename_i k' e
        injection h with h
        subst h
        exact rowsK_err e
      · cases h
theorem loadK_err {t : List UInt8} {n q k : Nat} (h : loadK t n q = .error k) : k ≠ 0 := by
  unfold loadK at h
  split at h
  · injection h with h; omega
  · split at h
    · rename_i k' e
      injection h with h
      subst h
      unfold textK at e
      split at e
      · rename_i k2 e2
        injection e with e
        subst e
        exact rowsK_err e2
      · split at e
        · cases e
        · injection e with e; omega
    · split at h
      · cases h
      · rename_i e
        injection h with h
        subst h
        exact e
theorem heap_put6n {V : World} {g b : Nat} (y0 y1 y2 y3 y4 y5 : Value) (ha : b ≠ g) : ((((((V.setCell ⟨g, 0, none⟩ y0).setCell ⟨g, 1, none⟩ y1).setCell ⟨g, 2, none⟩ y2).setCell ⟨g, 3, none⟩ y3).setCell ⟨g, 4, none⟩ y4).setCell ⟨g, 5, none⟩ y5).heap[b]? = V.heap[b]? := by
  rw [Below.heap_setCell _ _ _ _ ha, Below.heap_setCell _ _ _ _ ha, Below.heap_setCell _ _ _ _ ha, Below.heap_setCell _ _ _ _ ha, Below.heap_setCell _ _ _ _ ha, Below.heap_setCell _ _ _ _ ha]
section
variable {L : List (List Int)} {P T : List Int} {q k : Nat} {Ap Ao At : Option Addr} {cp co ct : Nat} {w : World}
set_option maxHeartbeats 4000000 in
theorem KernelLoads_bad (s : ByteArray) (hL : RowsIn anyB 3 w Ap L) (hP : IntsIn anyB w Ao P) (hl : P.length = q * 2) (hT : IntsIn anyB w At T) (nL : L.length ≤ maxLen) (nq : q ≤ maxLen) (nT : T.length ≤ maxLen)
    (hc : sysCode L P q T = k) (h0 : k ≠ 0) (hE : ErrT w) :
    Calls Tryz.prog 3 #[.agg #[.slice Ap L.length cp, .slice Ao q co, .slice At T.length ct], .string s] w fun e w' => e = .returned (.bool true) ∧ Below w.heap.size w w' := by
  have hx0 := BoxN.new w 26 #[.slice Ap L.length cp, .slice Ao q co, .slice At T.length ct]
  have hb0 := (Below.refl w.heap.size w).alloc (Nat.le_refl _) (.cells #[.slice Ap L.length cp, .slice Ao q co, .slice At T.length ct] 26)
  have d1 : ((k : Int) != 0) = true := by simp; omega
  have d2 : decide (k = 0) = false := by simpa using h0
  have d3 : ((k : Int) == 0) = false := by simp; omega
  have HS := Lib.hid (fun V (hV : Below w.heap.size w V) => RSystem_any (cp := cp) (co := co) (ct := ct) (hL.below hV) (hP.below hV) hl (hT.below hV) rfl rfl nL nq nT)
  have HK := Lib.hid (fun V (hV : Below w.heap.size w V) => Load_bad (cp := cp) (co := co) (ct := ct) (hL.below hV) (hP.below hV) hl (hT.below hV) rfl rfl nL nq nT hc h0 s)
  have HEr := Lib.hid (fun V (hV : Below w.heap.size w V) => Error_is k (k : Int) true V (hE.next hV) (by simp))
  rw [hc] at HS
  rw [errVal_pos h0] at HEr
  clear hL hP hT hc hE
  go_enter Tryz.func3, Tryz.ntmps3
  go_wp2_with fail
  generalize w.alloc (.cells #[.slice Ap L.length cp, .slice Ao q co, .slice At T.length ct] 26) = W0 at *
  refine (HS.out _ hb0).mono ?_
  rintro e w1 ⟨rfl, hb1⟩
  have hba : Below w1.heap.size w1 (w1.alloc (.cells #[.slice none 0 0, .slice none 0 0, .slice none 0 0, .int .i64 0, .slice none 0 0, .slice none 0 0] 30)) := (Below.refl _ _).alloc (Nat.le_refl _) _
  have hx1 := (hx0.all hb1).all hba
  have hw1 := (hb0.trans (hb1.mono hb0.size))
  have hw2 := hw1.trans (hba.mono hw1.size)
  clear hx0 hb0 hb1 hba hw1
  have x0 := hx1.cell (k := 0) rfl
  have x1 := hx1.cell (k := 1) rfl
  have x2 := hx1.cell (k := 2) rfl
  have HX1 := Lib.hid hx1
  have Hw2 := Lib.hid hw2
  clear hx1 hw2
  go_wp2_with fail
  generalize w1.alloc (.cells #[.slice none 0 0, .slice none 0 0, .slice none 0 0, .int .i64 0, .slice none 0 0, .slice none 0 0] 30) = w2 at *
  refine (HK.out _ Hw2.out).mono ?_
  rintro e w3 ⟨rfl, hb3⟩
  have hw3 := Hw2.out.trans (hb3.mono Hw2.out.size)
  clear x0 x1 x2
  go_wp2_with fail
  refine (HEr.out _ hw3).mono ?_
  rintro e w4 ⟨rfl, hb4⟩
  go_wp2_with fail
  go_ret
  exact ⟨rfl, hw3.trans (hb4.mono hw3.size)⟩
set_option maxHeartbeats 4000000 in
theorem KernelLoads_err (s : ByteArray) (hL : RowsIn anyB 3 w Ap L) (hP : IntsIn anyB w Ao P) (hl : P.length = q * 2) (hT : IntsIn anyB w At T) (nL : L.length ≤ maxLen) (nq : q ≤ maxLen) (nT : T.length ≤ maxLen)
    (hc : sysCode L P q T = 0) (hk : loadK s.data.toList L.length q = .error k) (hG : Glob w) :
    Calls Tryz.prog 3 #[.agg #[.slice Ap L.length cp, .slice Ao q co, .slice At T.length ct], .string s] w fun e w' => e = .returned (.bool true) ∧ Below w.heap.size w w' := by
  have h0 := loadK_err hk
  have hx0 := BoxN.new w 26 #[.slice Ap L.length cp, .slice Ao q co, .slice At T.length ct]
  have hb0 := (Below.refl w.heap.size w).alloc (Nat.le_refl _) (.cells #[.slice Ap L.length cp, .slice Ao q co, .slice At T.length ct] 26)
  have d1 : ((k : Int) != 0) = true := by simp; omega
  have d2 : decide (k = 0) = false := by simpa using h0
  have d3 : ((k : Int) == 0) = false := by simp; omega
  have Hok := Lib.hid (sysOk hc)
  have HS := Lib.hid (fun V (hV : Below w.heap.size w V) => RSystem_any (cp := cp) (co := co) (ct := ct) (hL.below hV) (hP.below hV) hl (hT.below hV) rfl rfl nL nq nT)
  have HR := Lib.hid (fun V => RLoad_any (w := V) (Ap := Ap) (Ao := Ao) (At := At) (cp := cp) (co := co) (ct := ct) (m := T.length) Hok.out.parts.2 Hok.out.parts.1 Hok.out.few s)
  have HK := Lib.hid (fun V (hV : Below w.heap.size w V) => Load_any (cp := cp) (co := co) (ct := ct) (hG.next hV) (hL.below hV) (hP.below hV) hl (hT.below hV) rfl rfl hc s)
  have HEr := Lib.hid (fun V (hV : Below w.heap.size w V) => Error_is k (k : Int) true V (hG.err.next hV) (by simp))
  rw [hc] at HS
  rw [hk] at HR HK
  rw [errVal_pos h0] at HEr
  clear hL hP hT hc hG hk
  go_enter Tryz.func3, Tryz.ntmps3
  go_wp2_with fail
  generalize w.alloc (.cells #[.slice Ap L.length cp, .slice Ao q co, .slice At T.length ct] 26) = W0 at *
  refine (HS.out _ hb0).mono ?_
  rintro e w1 ⟨rfl, hb1⟩
  have hba : Below w1.heap.size w1 (w1.alloc (.cells #[.slice none 0 0, .slice none 0 0, .slice none 0 0, .int .i64 0, .slice none 0 0, .slice none 0 0] 30)) := (Below.refl _ _).alloc (Nat.le_refl _) _
  have hz1 : BoxN (w1.alloc (.cells #[.slice none 0 0, .slice none 0 0, .slice none 0 0, .int .i64 0, .slice none 0 0, .slice none 0 0] 30)) w1.heap.size 30 #[.slice none 0 0, .slice none 0 0, .slice none 0 0, .int .i64 0, .slice none 0 0, .slice none 0 0] := BoxN.new _ _ _
  have hx1 := (hx0.all hb1).all hba
  have hw1 := (hb0.trans (hb1.mono hb0.size))
  have hw2 := hw1.trans (hba.mono hw1.size)
  have Hlt := Lib.hid (show w.heap.size < w1.heap.size from (hx0.all hb1).lt)
  clear hx0 hb0 hb1 hba
  have x0 := hx1.cell (k := 0) rfl
  have x1 := hx1.cell (k := 1) rfl
  have x2 := hx1.cell (k := 2) rfl
  have HX1 := Lib.hid hx1
  have Hw1 := Lib.hid hw1
  have Hw2 := Lib.hid hw2
  have HZ1 := Lib.hid hz1
  clear hx1 hw2 hw1 hz1
  go_wp2_with fail
  generalize w1.alloc (.cells #[.slice none 0 0, .slice none 0 0, .slice none 0 0, .int .i64 0, .slice none 0 0, .slice none 0 0] 30) = w2 at *
  refine (HR.out _).mono ?_
  rintro e w3 ⟨rfl, hb3⟩
  have hx3 := HX1.out.all hb3
  have hz3 := HZ1.out.all hb3
  have hw3 := Hw2.out.trans (hb3.mono Hw2.out.size)
  obtain ⟨⟨z0, z1, z2, z3, z4, z5⟩, f0, f1, f2, f3, f4, f5⟩ := BoxN.st6 hz3
  have hlt := Hlt.out
  have HX4 := Lib.hid (fun y0 y1 y2 y3 y4 y5 => (((((hx3.other (a := ⟨w1.heap.size, 0, none⟩) (by show w.heap.size ≠ w1.heap.size; omega) y0).other (a := ⟨w1.heap.size, 1, none⟩) (by show w.heap.size ≠ w1.heap.size; omega) y1).other (a := ⟨w1.heap.size, 2, none⟩) (by show w.heap.size ≠ w1.heap.size; omega) y2).other (a := ⟨w1.heap.size, 3, none⟩) (by show w.heap.size ≠ w1.heap.size; omega) y3).other (a := ⟨w1.heap.size, 4, none⟩) (by show w.heap.size ≠ w1.heap.size; omega) y4).other (a := ⟨w1.heap.size, 5, none⟩) (by show w.heap.size ≠ w1.heap.size; omega) y5)
  have Hw4 := Lib.hid (fun y0 y1 y2 y3 y4 y5 => below_put6k hw3 (show w.heap.size ≤ w1.heap.size by omega) y0 y1 y2 y3 y4 y5)
  have x0' := hx3.cell (k := 0) rfl
  have x1' := hx3.cell (k := 1) rfl
  have x2' := hx3.cell (k := 2) rfl
  have hne : ¬ w.heap.size = w1.heap.size := by omega
  clear x0 x1 x2 hx3 hz3 hw3
  go_wp2_with fail
  with_reducible refine (HK.out _ (Hw4.out _ _ _ _ _ _)).mono ?_
  rintro e w5 ⟨rfl, hb5⟩
  have hw5 := (Hw4.out _ _ _ _ _ _).trans (hb5.mono (Hw4.out _ _ _ _ _ _).size)
  clear z0 z1 z2 z3 z4 z5 f0 f1 f2 f3 f4 f5 x0' x1' x2'
  go_wp2_with fail
  refine (HEr.out _ hw5).mono ?_
  rintro e w6 ⟨rfl, hb6⟩
  go_wp2_with fail
  go_ret
  exact ⟨rfl, hw5.trans (hb6.mono hw5.size)⟩
set_option maxHeartbeats 4000000 in
theorem KernelLoads_ok (s : ByteArray) (hL : RowsIn anyB 3 w Ap L) (hP : IntsIn anyB w Ao P) (hl : P.length = q * 2) (hT : IntsIn anyB w At T) (nL : L.length ≤ maxLen) (nq : q ≤ maxLen) (nT : T.length ≤ maxLen)
    (hc : sysCode L P q T = 0) {R : List (List Int)} (hk : loadK s.data.toList L.length q = .ok R) (hG : Glob w) :
    Calls Tryz.prog 3 #[.agg #[.slice Ap L.length cp, .slice Ao q co, .slice At T.length ct], .string s] w fun e w' => e = .returned (.bool true) ∧ Below w.heap.size w w' := by
  obtain ⟨hro, hrn⟩ := loadK_ok hk
  have HInv := Lib.hid (stOf_inv hro hrn)
  have ht300 : tickOf R ≤ 300 := by have := hro.tick; unfold tickOf; omega
  have hx0 := BoxN.new w 26 #[.slice Ap L.length cp, .slice Ao q co, .slice At T.length ct]
  have hb0 := (Below.refl w.heap.size w).alloc (Nat.le_refl _) (.cells #[.slice Ap L.length cp, .slice Ao q co, .slice At T.length ct] 26)
  have Hok := Lib.hid (sysOk hc)
  have HS := Lib.hid (fun V (hV : Below w.heap.size w V) => RSystem_any (cp := cp) (co := co) (ct := ct) (hL.below hV) (hP.below hV) hl (hT.below hV) rfl rfl nL nq nT)
  have HR := Lib.hid (fun V => RLoad_any (w := V) (Ap := Ap) (Ao := Ao) (At := At) (cp := cp) (co := co) (ct := ct) (m := T.length) Hok.out.parts.2 Hok.out.parts.1 Hok.out.few s)
  have HK := Lib.hid (fun V (hV : Below w.heap.size w V) => Load_any (cp := cp) (co := co) (ct := ct) (hG.next hV) (hL.below hV) (hP.below hV) hl (hT.below hV) rfl rfl hc s)
  have HG := Lib.hid hG
  rw [hc] at HS
  rw [hk] at HR HK
  clear hL hP hT hc hG hk hro hrn
  go_enter Tryz.func3, Tryz.ntmps3
  go_wp2_with fail
  generalize w.alloc (.cells #[.slice Ap L.length cp, .slice Ao q co, .slice At T.length ct] 26) = W0 at *
  refine (HS.out _ hb0).mono ?_
  rintro e w1 ⟨rfl, hb1⟩
  have hba : Below w1.heap.size w1 (w1.alloc (.cells #[.slice none 0 0, .slice none 0 0, .slice none 0 0, .int .i64 0, .slice none 0 0, .slice none 0 0] 30)) := (Below.refl _ _).alloc (Nat.le_refl _) _
  have hz1 : BoxN (w1.alloc (.cells #[.slice none 0 0, .slice none 0 0, .slice none 0 0, .int .i64 0, .slice none 0 0, .slice none 0 0] 30)) w1.heap.size 30 #[.slice none 0 0, .slice none 0 0, .slice none 0 0, .int .i64 0, .slice none 0 0, .slice none 0 0] := BoxN.new _ _ _
  have hx1 := (hx0.all hb1).all hba
  have hw1 := (hb0.trans (hb1.mono hb0.size))
  have hw2 := hw1.trans (hba.mono hw1.size)
  have Hlt := Lib.hid (show w.heap.size < w1.heap.size from (hx0.all hb1).lt)
  clear hx0 hb0 hb1 hba
  have x0 := hx1.cell (k := 0) rfl
  have x1 := hx1.cell (k := 1) rfl
  have x2 := hx1.cell (k := 2) rfl
  have HX1 := Lib.hid hx1
  have Hw1 := Lib.hid hw1
  have Hw2 := Lib.hid hw2
  have HZ1 := Lib.hid hz1
  clear hx1 hw2 hw1 hz1
  go_wp2_with fail
  generalize w1.alloc (.cells #[.slice none 0 0, .slice none 0 0, .slice none 0 0, .int .i64 0, .slice none 0 0, .slice none 0 0] 30) = w2 at *
  refine (HR.out _).mono ?_
  rintro e w3 ⟨⟨Pp, Hp, cP, cH, rfl, hPp, hHp⟩, hb3⟩
  have hx3 := HX1.out.all hb3
  have hz3 := HZ1.out.all hb3
  have hw3 := Hw2.out.trans (hb3.mono Hw2.out.size)
  obtain ⟨⟨z0, z1, z2, z3, z4, z5⟩, f0, f1, f2, f3, f4, f5⟩ := BoxN.st6 hz3
  have hlt := Hlt.out
  have hlt2 := HZ1.out.lt
  obtain ⟨t, ht⟩ : ∃ t, tickOf R = t := ⟨_, rfl⟩
  obtain ⟨st, hst⟩ : ∃ st, stOf R L.length q = st := ⟨_, rfl⟩
  rw [ht] at ht300
  rw [ht]
  rw [hst] at hPp hHp HInv
  have Ht := Lib.hid ht
  have Hst := Lib.hid hst
  clear ht hst
  have hx4 := (((((hx3.other (a := ⟨w1.heap.size, 0, none⟩) (by show w.heap.size ≠ w1.heap.size; omega) (.slice Ap L.length cp)).other (a := ⟨w1.heap.size, 1, none⟩) (by show w.heap.size ≠ w1.heap.size; omega) (.slice Ao q co)).other (a := ⟨w1.heap.size, 2, none⟩) (by show w.heap.size ≠ w1.heap.size; omega) (.slice At T.length ct)).other (a := ⟨w1.heap.size, 3, none⟩) (by show w.heap.size ≠ w1.heap.size; omega) (.int .i64 t)).other (a := ⟨w1.heap.size, 4, none⟩) (by show w.heap.size ≠ w1.heap.size; omega) (.slice Pp L.length cP)).other (a := ⟨w1.heap.size, 5, none⟩) (by show w.heap.size ≠ w1.heap.size; omega) (.slice Hp q cH)
  have hw4 := below_put6k hw3 (show w.heap.size ≤ w1.heap.size by omega) (.slice Ap L.length cp) (.slice Ao q co) (.slice At T.length ct) (.int .i64 t) (.slice Pp L.length cP) (.slice Hp q cH)
  have hz4 := hz3.put6k (.slice Ap L.length cp) (.slice Ao q co) (.slice At T.length ct) (.int .i64 t) (.slice Pp L.length cP) (.slice Hp q cH)
  have hkp : ∀ b, b < w3.heap.size → w2.heap.size ≤ b → _ := fun b _ hb => heap_put6n (V := w3) (g := w1.heap.size) (b := b) (.slice Ap L.length cp) (.slice Ao q co) (.slice At T.length ct) (.int .i64 t) (.slice Pp L.length cP) (.slice Hp q cH) (by omega)
  have hP4 := hPp.keep hkp
  have hH4 := hHp.keep hkp
  have HX4 := Lib.hid hx4
  have Hw4 := Lib.hid hw4
  have HZ4 := Lib.hid hz4
  have HP4 := Lib.hid hP4
  have HH4 := Lib.hid hH4
  have x0' := hx3.cell (k := 0) rfl
  have x1' := hx3.cell (k := 1) rfl
  have x2' := hx3.cell (k := 2) rfl
  have hne : ¬ w.heap.size = w1.heap.size := by omega
  clear x0 x1 x2 hx3 hz3 hw3 hx4 hw4 hz4 hkp hP4 hH4 hPp hHp hb3
  go_wp2_with fail
  generalize ((((((w3.setCell ⟨w1.heap.size, 0, none⟩ (.slice Ap L.length cp)).setCell ⟨w1.heap.size, 1, none⟩ (.slice Ao q co)).setCell ⟨w1.heap.size, 2, none⟩ (.slice At T.length ct)).setCell ⟨w1.heap.size, 3, none⟩ (.int .i64 t)).setCell ⟨w1.heap.size, 4, none⟩ (.slice Pp L.length cP)).setCell ⟨w1.heap.size, 5, none⟩ (.slice Hp q cH)) = w4 at *
  clear z0 z1 z2 z3 z4 z5 f0 f1 f2 f3 f4 f5 x0' x1' x2'
  with_reducible refine (HK.out _ Hw4.out).mono ?_
  rintro e w5 ⟨⟨p, role, hi, K, rfl, hK⟩, hb5⟩
  rw [Ht.out, Hst.out] at hK
  have hw5 := Hw4.out.trans (hb5.mono Hw4.out.size)
  have hz5 := HZ4.out.all hb5
  have HP5 := Lib.hid (HP4.out.below hb5)
  have HH5 := Lib.hid (HH4.out.below hb5)
  have HTk := Lib.hid (fun V (hV : Below w5.heap.size w5 V) => Tick_any (hK.below hV))
  have HSa := Lib.hid (fun V (hV : Below w5.heap.size w5 V) => (Save_any (hK.below hV) HInv.out (by omega) ht300 Hok.out.parts.2 Hok.out.few (HG.out.pow.next (hw5.trans (hV.mono hw5.size)) (Nat.le_trans hw5.size hV.size) (Nat.le_refl _))).mono fun e w' ⟨he, hb⟩ => (⟨he, hV.trans (hb.mono hV.size)⟩ : _ ∧ Below w5.heap.size w5 w'))
  have HRS := Lib.hid (fun V (hV : Below w5.heap.size w5 V) => (RSave_any (Ap := Ap) (Ao := Ao) (At := At) (cp := cp) (co := co) (ct := ct) (m := T.length) (cP := cP) (cH := cH) ((HP5.out.below hV).mono fun _ _ _ => trivial) ((HH5.out.below hV).mono fun _ _ _ => trivial) HInv.out (by omega) ht300 Hok.out.parts.2 Hok.out.few).mono fun e w' ⟨he, hb⟩ => (⟨he, hV.trans (hb.mono hV.size)⟩ : _ ∧ Below w5.heap.size w5 w'))
  obtain ⟨str, hstr⟩ : ∃ str, saveH st t L.length q = str := ⟨_, rfl⟩
  simp only [hstr] at HSa HRS
  have HSv := Lib.hid (fun V (hV : Below w5.heap.size w5 V) => (BoxN.st6 (hz5.all hV)).1)
  have Hw5 := Lib.hid hw5
  have hpd := (Below.refl w5.heap.size w5).drew
  have y3 := hz5.cell (k := 3) rfl
  clear hstr hz5 hK hb5 hw5 HK HR HS HInv
  go_wp2_with fail
  go_region_held3 (fun V => V.cell? ⟨w1.heap.size, 0, none⟩ = some (.slice Ap L.length cp) ∧ V.cell? ⟨w1.heap.size, 1, none⟩ = some (.slice Ao q co) ∧ V.cell? ⟨w1.heap.size, 2, none⟩ = some (.slice At T.length ct) ∧ V.cell? ⟨w1.heap.size, 3, none⟩ = some (.int .i64 t) ∧ V.cell? ⟨w1.heap.size, 4, none⟩ = some (.slice Pp L.length cP) ∧ V.cell? ⟨w1.heap.size, 5, none⟩ = some (.slice Hp q cH))
    ((first | exact HSv.out _ hp4 | exact HSv.out _ hp3 | exact HSv.out _ hpd))
    ((first
      | (go_at_call 13; with_reducible refine (HTk.out _ hpd).mono ?_; rintro e w' ⟨rfl, rfl⟩)
      | (go_at_call 14; with_reducible refine (HSa.out _ hpd).mono ?_; rintro e w6 ⟨rfl, hp3⟩)
      | (go_at_call 15; refine (HRS.out _ hp3).mono ?_; rintro e w7 ⟨rfl, hp4⟩)
      | fail))
  go_wp2_with fail
  go_ret
  exact ⟨by simp, Hw5.out.trans (hp4.mono Hw5.out.size)⟩
theorem KernelLoads_walk (L : List (List Int)) (P T : List Int) (q : Nat) (Ap Ao At : Option Addr) (cp co ct : Nat) {W : World} (hL : RowsIn anyB 3 W Ap L) (hP : IntsIn anyB W Ao P) (hl : P.length = q * 2) (hT : IntsIn anyB W At T) (nL : L.length ≤ maxLen) (nq : q ≤ maxLen) (nT : T.length ≤ maxLen)
    (s : ByteArray) (_ : s.size < 2 ^ 47) (w : World) (hw : w = W) (hG : Glob W) :
    Calls Tryz.prog 3 #[.agg #[.slice Ap L.length cp, .slice Ao q co, .slice At T.length ct], .string s] w fun e w' => e = .returned (.bool true) ∧ Below W.heap.size W w' := by
  subst hw
  by_cases hc : sysCode L P q T = 0
  · cases hk : loadK s.data.toList L.length q with
    | error k => exact KernelLoads_err s hL hP hl hT nL nq nT hc hk hG
    | ok R => exact KernelLoads_ok s hL hP hl hT nL nq nT hc hk hG
  · exact KernelLoads_bad s hL hP hl hT nL nq nT rfl hc hG.err
end
end Go.Proofs.YtanlmfnhlldkeaaGreatDoor
