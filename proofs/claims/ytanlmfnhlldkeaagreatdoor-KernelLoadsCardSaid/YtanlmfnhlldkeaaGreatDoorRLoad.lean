/-
  Contract: quietwingref5.Load.
-/
import Derived.Test.YtanlmfnhlldkeaaGreatDoorKLdC
import Derived.Test.YtanlmfnhlldkeaaGreatDoorKerF
import Derived.Test.YtanlmfnhlldkeaaGreatDoorRCut
import Derived.Test.YtanlmfnhlldkeaaGreatDoorRNum
import Derived.Deep.RegionHeld3
namespace Go.Proofs.YtanlmfnhlldkeaaGreatDoor
open Go.RowKit
set_option maxRecDepth 100000
set_option linter.unusedVariables false

abbrev rkZ : Array Value := #[.slice none 0 0, .slice none 0 0, .slice none 0 0, .int .i64 0, .slice none 0 0, .slice none 0 0]
/-- What the reference's Load hands on. -/
def RLoadPost (w0 : Nat) (Ap Ao At : Option Addr) (cp co ct n q m : Nat) (r : Except Nat (List (List Int))) (e : Ending) (w' : World) : Prop := match r with
  | .error k => e = .returned (.tuple #[.agg rkZ, .int .i64 k])
  | .ok R => ∃ Pp Hp cP cH, e = .returned (.tuple #[.agg (rkV Ap Ao At cp co ct n q m (tickOf R) Pp Hp cP cH), .int .i64 0]) ∧ RowsIn (fromB w0) 1 w' Pp (partRows (stOf R n q) n) ∧ RowsIn (fromB w0) 1 w' Hp (heldRows (stOf R n q) q)
theorem results_row_tmpK {P : Program} {fn : Func} {p u : Tmp} {ty : TypeId} (h : fn.results = #[.cell p ty, .tmp u]) (tmps : Array Value) (w : World) (g : Nat) (t : TypeId) (cs : Array Value) (fr : Nat × Nat) (d : TypeDesc)
    (hp : tmps.getD p undef = .pointer (some ⟨g, 0, none⟩)) (hg : w.heap[g]? = some (.cells cs t fr))
    (hu : P.underlying ty = some d) (hd : (match d with | .struct _ | .array _ _ => true | _ => false) = true) (hi : (P.info? ty).map (·.size) = some cs.size) :
    (results fn tmps).run P w = .ok (.tuple #[.agg cs, tmps.getD u undef]) w := by
  rw [results_cell_tmp h, hp]
  simp [asAddr, Result.andThen, run_loadVar_row w g t ty cs fr d hg hu hd hi]
section
variable {w w' : World} {b g B : Nat} {t : TypeId}
theorem BoxN.put6k {y0 y1 y2 y3 y4 y5 : Value} (h : BoxN w b t #[y0, y1, y2, y3, y4, y5]) (x0 x1 x2 x3 x4 x5 : Value) : BoxN ((((((w.setCell ⟨b, 0, none⟩ x0).setCell ⟨b, 1, none⟩ x1).setCell ⟨b, 2, none⟩ x2).setCell ⟨b, 3, none⟩ x3).setCell ⟨b, 4, none⟩ x4).setCell ⟨b, 5, none⟩ x5) b t #[x0, x1, x2, x3, x4, x5] := by
  have := (((((h.set 0 x0).set 1 x1).set 2 x2).set 3 x3).set 4 x4).set 5 x5
  simp only [List.setIfInBounds_toArray, List.set_cons_succ, List.set_cons_zero] at this
  exact this
theorem below_put6k (h : Below B w w') (hg : B ≤ g) (x0 x1 x2 x3 x4 x5 : Value) : Below B w ((((((w'.setCell ⟨g, 0, none⟩ x0).setCell ⟨g, 1, none⟩ x1).setCell ⟨g, 2, none⟩ x2).setCell ⟨g, 3, none⟩ x3).setCell ⟨g, 4, none⟩ x4).setCell ⟨g, 5, none⟩ x5) :=
  (((((h.setCell (p := ⟨g, 0, none⟩) hg _).setCell (p := ⟨g, 1, none⟩) hg _).setCell (p := ⟨g, 2, none⟩) hg _).setCell (p := ⟨g, 3, none⟩) hg _).setCell (p := ⟨g, 4, none⟩) hg _).setCell (p := ⟨g, 5, none⟩) hg _
theorem BoxN.st6 {x0 x1 x2 x3 x4 x5 : Value} (h : BoxN w b t #[x0, x1, x2, x3, x4, x5]) : (w.cell? ⟨b, 0, none⟩ = some x0 ∧ w.cell? ⟨b, 1, none⟩ = some x1 ∧ w.cell? ⟨b, 2, none⟩ = some x2 ∧ w.cell? ⟨b, 3, none⟩ = some x3 ∧ w.cell? ⟨b, 4, none⟩ = some x4 ∧ w.cell? ⟨b, 5, none⟩ = some x5) ∧ w.frozen? ⟨b, 0, none⟩ = false ∧ w.frozen? ⟨b, 1, none⟩ = false ∧ w.frozen? ⟨b, 2, none⟩ = false ∧ w.frozen? ⟨b, 3, none⟩ = false ∧ w.frozen? ⟨b, 4, none⟩ = false ∧ w.frozen? ⟨b, 5, none⟩ = false :=
  ⟨⟨h.cell rfl, h.cell rfl, h.cell rfl, h.cell rfl, h.cell rfl, h.cell rfl⟩, h.free 0, h.free 1, h.free 2, h.free 3, h.free 4, h.free 5⟩
end
theorem wpList_push_row {w : World} {ops : Array Oper} {rest : List Oper} {o : Oper} {a : Act} {Q : Exit → Act → World → Prop} (hgd : o.guard = none) (s x : Operand)
    (ho : o.op = .call { callee := .builtin .append, args := #[s, x], argTypes := #[28, 28] })
    {base : Nat} {v : Value} {k : Nat} {xs : List Value} (hs : a.eval s = v) (hown : w.ownsRow base 24 1 v k xs) (g : Nat) (u : Value) (hu : u.oneCell' = true) (hx : a.eval x = .slice (some ⟨g, 0, none⟩) 1 1) (hc : w.cell? ⟨g, 0, none⟩ = some u)
    (hn : k < 2 ^ 40) (hbase : base ≤ w.heap.size)
    (h : ∀ v' w', Pushed w w' base 24 1 v v' k 1 xs [u] → wpList Tryz.prog ops Q rest (a.put o.dst v') w') : wpList Tryz.prog ops Q (o :: rest) a w := by
  refine wpList_append_cells hgd s x ho eRowsI hs hown (some ⟨g, 0, none⟩) 1 1 [u] hx (fun _ => ⟨g, 0, rfl, fun j y hj => ?_⟩) rfl (fun y hy => ?_) (by omega) (by omega) hbase h
  · match j, hj with
    | 0, hj => simp at hj; subst hj; simpa using hc
    | j + 1, hj => simp at hj
  · simp at hy; subst hy; exact hu
/-- Rows behind a place. -/
theorem Rws.part {rr : Nat → Nat} {B c g k w0 : Nat} {Y : World} {Ls L' : List (List Int)} {xs : List Value} (h : Rws rr B Y (some ⟨g, 0, none⟩) c Ls xs) (hg : B ≤ g) (hB : w0 ≤ B) (hcl : ∀ j x, xs[j]? = some x → Y.cell? ⟨g, j, none⟩ = some x) (hL : ∀ i l, L'[i]? = some l → Ls[k + i]? = some l) (hl : ∀ l ∈ Ls, l.length ≤ 4001) : RowsIn (fromB w0) 1 Y (some ⟨g, k, none⟩) L' := fun _ => by
  refine ⟨g, k, rfl, Nat.le_trans hB hg, fun i l hi => ?_⟩
  have h2 := hL i l hi
  have hj := (List.getElem?_eq_some_iff.1 h2).1
  have hxl := h.xl
  obtain ⟨x, hx⟩ : ∃ x, xs[k + i]? = some x := ⟨_, List.getElem?_eq_getElem (i := k + i) (by omega)⟩
  have hr := h.row _ x l hx h2
  have h41 := hl l (List.mem_of_getElem? h2)
  have hr2 := hr
  obtain ⟨A1, c1, rfl, hA⟩ := hr.form
  refine ⟨A1, l.length, c1, hcl _ _ hx, by omega, by unfold maxLen; omega, fun hne => ?_⟩
  obtain ⟨b, off, e, hc⟩ := hA hne
  refine ⟨b, off, e, ?_, hc⟩
  rcases hr2 with ⟨_, h0⟩ | ⟨g1, off1, cc, cur, h1, h2, h3, h4, h5, h6, h7⟩
  · exact absurd h0 hne
  · injection h1 with h1
    rw [e] at h1
    injection h1 with h1
    injection h1 with h1
    have h8 := (h.low g1 (by omega)).1
    exact Nat.le_trans hB (by omega)
set_option maxHeartbeats 4000000 in
theorem RLoad_long {w : World} {Ap Ao At : Option Addr} {cp co ct n q m : Nat} (s : ByteArray) (h4 : 4000 < s.size) :
    Calls Tryz.prog 10 #[.agg #[.slice Ap n cp, .slice Ao q co, .slice At m ct], .string s] w fun e w' => e = .returned (.tuple #[.agg rkZ, .int .i64 4]) ∧ Below w.heap.size w w' := by
  have hz : BoxN ((w.alloc (.cells #[.slice Ap n cp, .slice Ao q co, .slice At m ct] 26)).alloc (.cells rkZ 30)) (w.heap.size + 1) 30 rkZ := BoxN.new' _ _ _ _ (by simp)
  have hb : Below w.heap.size w ((w.alloc (.cells #[.slice Ap n cp, .slice Ao q co, .slice At m ct] 26)).alloc (.cells rkZ 30)) := ((Below.refl _ _).alloc (Nat.le_refl _) _).alloc (by simp) _
  have g0 : decide ((s.size : Int) > 4000) = true := by simp; omega
  obtain ⟨⟨z0, z1, z2, z3, z4, z5⟩, f0, f1, f2, f3, f4, f5⟩ := BoxN.st6 hz
  have HZ := Lib.hid hz
  have Hb := Lib.hid hb
  clear hz hb h4
  unfold rkZ at *
  go_enter Tryz.func10, Tryz.ntmps10
  go_wp2_with fail
  refine bodyPost_ret (results_row_tmpK rfl _ _ (w.heap.size + 1) 30 rkZ (0, 0) _ rfl HZ.out Tryz.underlying30 rfl (by kernel_rfl)) rfl ?_
  exact ⟨rfl, Hb.out⟩
theorem take_one {Lc : List (List UInt8)} {nl : Nat} (h : nl = Lc.length + 1) : Lc.take nl = Lc := List.take_of_length_le (by omega)
theorem own_ge {Y : World} {base n c : Nat} {A : Option Addr} {l : List Int} (h : OwnI Y base (.slice A n c) l) (g : Nat) (e : A = some ⟨g, 0, none⟩) : base ≤ g := by
  have h2 : Y.ownsRow base 3 1 (.slice A n c) l.length (l.map (.int .i64)) := h
  exact (h2.lt g (by rw [e]; rfl)).1
theorem run_rows_mid (g n N c : Nat) (hn : 1 ≤ n) (h1 : n + 1 ≤ N) (h2 : N ≤ c) : ∃ c', ∀ V : World, (Instr.sliceAt 28 (.slice (some ⟨g, 0, none⟩) N c) (some (.int .i64 1)) (some (.int .i64 ((n : Int) + 1))) none).run Tryz.prog V = .ok (.slice (some ⟨g, 1, none⟩) n c') V := by
  have e := Tryz.underlying28
  obtain ⟨i, z, hi, hz, hsize, -⟩ := eRowsI.info
  have e1 : (1 : Int) ≤ (n : Int) + 1 := by omega
  have e2 : (n : Int) + 1 ≤ c := by omega
  have e3 : ¬ c = 1 := by omega
  have e4 : ((n : Int) + 1).toNat = n + 1 := by omega
  have e5 : (0 : Int) ≤ (n : Int) + 1 := by omega
  refine ⟨c - 1, fun V => ?_⟩
  simp [Instr.sliceAt, Instr.slice, Instr.sliceBounds, run_underlying e, sizeOf, typeInfo, hi, hsize, go_sem, e1, e2, e3, e4, e5]
theorem cell_put6 {V : World} {g : Nat} {a : Addr} {v : Value} (y0 y1 y2 y3 y4 y5 : Value) (ha : a.block ≠ g) (h : V.cell? a = some v) : ((((((V.setCell ⟨g, 0, none⟩ y0).setCell ⟨g, 1, none⟩ y1).setCell ⟨g, 2, none⟩ y2).setCell ⟨g, 3, none⟩ y3).setCell ⟨g, 4, none⟩ y4).setCell ⟨g, 5, none⟩ y5).cell? a = some v := by
  refine (World.cell?_of_block (a := a) ?_).trans h
  rw [Below.heap_setCell _ _ _ _ ha, Below.heap_setCell _ _ _ _ ha, Below.heap_setCell _ _ _ _ ha, Below.heap_setCell _ _ _ _ ha, Below.heap_setCell _ _ _ _ ha, Below.heap_setCell _ _ _ _ ha]
theorem drew_heapK (V : World) : V.drew.heap = V.heap := rfl
theorem drew_cellK (V : World) (a : Addr) : V.drew.cell? a = V.cell? a := rfl
theorem drew_boxK {V : World} {b : Nat} {t : TypeId} {vs : Array Value} (h : BoxN V b t vs) : BoxN V.drew b t vs := h
theorem drew_belowK {B : Nat} {w V : World} (h : Below B w V) : Below B w V.drew := ⟨h.os, h.tape, h.output, h.size, h.block⟩
theorem heap_put6 {V : World} {g b : Nat} (y0 y1 y2 y3 y4 y5 : Value) (ha : b ≠ g) : ((((((V.setCell ⟨g, 0, none⟩ y0).setCell ⟨g, 1, none⟩ y1).setCell ⟨g, 2, none⟩ y2).setCell ⟨g, 3, none⟩ y3).setCell ⟨g, 4, none⟩ y4).setCell ⟨g, 5, none⟩ y5).drew.heap[b]? = V.heap[b]? := by
  rw [drew_heapK]
  rw [Below.heap_setCell _ _ _ _ ha, Below.heap_setCell _ _ _ _ ha, Below.heap_setCell _ _ _ _ ha, Below.heap_setCell _ _ _ _ ha, Below.heap_setCell _ _ _ _ ha, Below.heap_setCell _ _ _ _ ha]
theorem stOf_partRow {R : List (List Int)} {n q : Nat} (h : RowsOk R n q) (hR : ∀ l ∈ R, Nums6 l) {i : Nat} {l : List Int} (hl : (partRows (stOf R n q) n)[i]? = some l) : R[1 + i]? = some l := by
  have hi := (List.getElem?_eq_some_iff.1 hl).1
  rw [partRows_len] at hi
  have h1 := partRows_get (stOf R n q) hi
  rw [List.getD_eq_getElem?_getD, hl, stOf_part h hR hi] at h1
  have hlt : 1 + i < R.length := by have := h.len; omega
  rw [List.getD_eq_getElem?_getD, List.getElem?_eq_getElem hlt] at h1
  rw [List.getElem?_eq_getElem hlt]
  exact congrArg some h1.symm
theorem stOf_heldRow {R : List (List Int)} {n q : Nat} (h : RowsOk R n q) {i : Nat} {l : List Int} (hl : (heldRows (stOf R n q) q)[i]? = some l) : R[n + 1 + i]? = some l := by
  have hi := (List.getElem?_eq_some_iff.1 hl).1
  rw [heldRows_len] at hi
  have h1 := heldRows_get (stOf R n q) hi
  rw [List.getD_eq_getElem?_getD, hl, stOf_held R n hi, Nat.add_comm 1 n] at h1
  have hlt : n + 1 + i < R.length := by have := h.len; omega
  rw [List.getD_eq_getElem?_getD, List.getElem?_eq_getElem hlt] at h1
  rw [List.getElem?_eq_getElem hlt]
  exact congrArg some h1.symm
theorem put6_keep {V : World} {g : Nat} {a1 a2 a3 a4 a5 : Addr} {v1 v2 v3 v4 v5 : Value} (y0 y1 y2 y3 y4 y5 : Value) (h1 : a1.block ≠ g) (h2 : a2.block ≠ g) (h3 : a3.block ≠ g) (h4 : a4.block ≠ g) (h5 : a5.block ≠ g) (k1 : V.cell? a1 = some v1) (k2 : V.cell? a2 = some v2) (k3 : V.cell? a3 = some v3) (k4 : V.cell? a4 = some v4) (k5 : V.cell? a5 = some v5) :
    ((((((V.setCell ⟨g, 0, none⟩ y0).setCell ⟨g, 1, none⟩ y1).setCell ⟨g, 2, none⟩ y2).setCell ⟨g, 3, none⟩ y3).setCell ⟨g, 4, none⟩ y4).setCell ⟨g, 5, none⟩ y5).drew.cell? a1 = some v1 ∧ ((((((V.setCell ⟨g, 0, none⟩ y0).setCell ⟨g, 1, none⟩ y1).setCell ⟨g, 2, none⟩ y2).setCell ⟨g, 3, none⟩ y3).setCell ⟨g, 4, none⟩ y4).setCell ⟨g, 5, none⟩ y5).drew.cell? a2 = some v2 ∧ ((((((V.setCell ⟨g, 0, none⟩ y0).setCell ⟨g, 1, none⟩ y1).setCell ⟨g, 2, none⟩ y2).setCell ⟨g, 3, none⟩ y3).setCell ⟨g, 4, none⟩ y4).setCell ⟨g, 5, none⟩ y5).drew.cell? a3 = some v3 ∧ ((((((V.setCell ⟨g, 0, none⟩ y0).setCell ⟨g, 1, none⟩ y1).setCell ⟨g, 2, none⟩ y2).setCell ⟨g, 3, none⟩ y3).setCell ⟨g, 4, none⟩ y4).setCell ⟨g, 5, none⟩ y5).drew.cell? a4 = some v4 ∧ ((((((V.setCell ⟨g, 0, none⟩ y0).setCell ⟨g, 1, none⟩ y1).setCell ⟨g, 2, none⟩ y2).setCell ⟨g, 3, none⟩ y3).setCell ⟨g, 4, none⟩ y4).setCell ⟨g, 5, none⟩ y5).drew.cell? a5 = some v5 :=
  ⟨(drew_cellK _ _).trans (cell_put6 _ _ _ _ _ _ h1 k1), (drew_cellK _ _).trans (cell_put6 _ _ _ _ _ _ h2 k2), (drew_cellK _ _).trans (cell_put6 _ _ _ _ _ _ h3 k3), (drew_cellK _ _).trans (cell_put6 _ _ _ _ _ _ h4 k4), (drew_cellK _ _).trans (cell_put6 _ _ _ _ _ _ h5 k5)⟩
theorem shape_three {R : List (List Int)} {n q : Nat} (h : R.length ≠ 1 + n + q ∨ (R.getD 0 []).length ≠ 1) : shapeK R n q = 3 := by unfold shapeK; rw [if_pos h]
set_option maxHeartbeats 16000000 in
theorem RLoad_short {w : World} {Ap Ao At : Option Addr} {cp co ct n q m : Nat} (hn : n ≤ 5) (hn1 : 1 ≤ n) (hq : q ≤ 6) (s : ByteArray) (h4 : s.size ≤ 4000) :
    Calls Tryz.prog 10 #[.agg #[.slice Ap n cp, .slice Ao q co, .slice At m ct], .string s] w fun e w' => RLoadPost w.heap.size Ap Ao At cp co ct n q m (loadK s.data.toList n q) e w' ∧ Below w.heap.size w w' := by
  obtain ⟨W, hW⟩ : ∃ W, (w.alloc (.cells #[.slice Ap n cp, .slice Ao q co, .slice At m ct] 26)).alloc (.cells rkZ 30) = W := ⟨_, rfl⟩
  have hx : BoxN W w.heap.size 26 #[.slice Ap n cp, .slice Ao q co, .slice At m ct] := by rw [← hW]; exact (BoxN.new w _ _).alloc _
  have hz : BoxN W (w.heap.size + 1) 30 rkZ := by rw [← hW]; exact BoxN.new' _ _ _ _ (by simp)
  have hb : Below w.heap.size w W := by rw [← hW]; exact ((Below.refl _ _).alloc (Nat.le_refl _) _).alloc (by simp) _
  have Hs := Lib.hid (show W.heap.size = w.heap.size + 2 by rw [← hW]; simp)
  have g0 : decide ((s.size : Int) > 4000) = false := by simp; omega
  obtain ⟨Lc, z, hcut, hlines, hfree, hzz⟩ := lines_cut s.data.toList
  have Hcut := Lib.hid hcut
  have CC := fun V => RCut_any 10 s (by omega) V
  simp only [show (((10 : UInt8).toNat : Nat) : Int) = 10 from rfl] at CC
  replace CC := Lib.hid CC
  have CW := fun (x : ByteArray) (hx : x.size ≤ 4000) V => RCut_any 32 x (by omega) V
  simp only [show (((32 : UInt8).toNat : Nat) : Int) = 32 from rfl] at CW
  replace CW := Lib.hid CW
  have CN := Lib.hid (fun x V => RNumber_any x V)
  have H4 := Lib.hid h4
  have Hx := Lib.hid hx
  have Hz := Lib.hid hz
  have Hb := Lib.hid hb
  clear hcut hlines hfree hzz hx hz hb h4
  unfold rkZ at hW
  go_enter Tryz.func10, Tryz.ntmps10
  go_wp2_with fail
  try rw [hW]
  clear hW
  with_reducible refine (CC.out _).mono ?_
  rintro e w1 ⟨⟨v, ls, rfl, hown, hls⟩, hb1⟩
  obtain ⟨Al, cl, rfl, hcells⟩ := hown.form
  rw [Hcut.out] at hls
  have hll : ls.length = Lc.length + 1 := by
    have := congrArg List.length hls
    simpa using this
  have HX1 := Lib.hid (Hx.out.all hb1)
  have HZ1 := Lib.hid (Hz.out.all hb1)
  have Hw1 := Lib.hid (Hb.out.trans (hb1.mono Hb.out.size))
  have Hs1 := Lib.hid (show w.heap.size + 2 ≤ w1.heap.size by rw [← Hs.out]; exact hb1.size)
  obtain ⟨gl, ol, rfl, hcl⟩ := hcells (by rw [Ne, List.map_eq_nil_iff]; rintro rfl; simp at hll)
  have Hls := Lib.hid hls
  have Hcl := Lib.hid (show ∀ j x, ls[j]? = some x → w1.cell? ⟨gl, ol + j, none⟩ = some (.string x) from fun j x hj => hcl j _ (by rw [List.getElem?_map, hj]; rfl))
  have hlen : Lc.length ≤ 4000 := by
    have h2 := cutL_length 10 s.data.toList
    rw [Hcut.out, List.length_append, List.length_singleton] at h2
    have h3 := List.count_le_length (a := (10 : UInt8)) (l := s.data.toList)
    rw [← ba_size] at h3
    have := H4.out
    omega
  obtain ⟨nl, hnl⟩ : ∃ nl, ls.length = nl := ⟨_, rfl⟩
  rw [hnl]
  have Hlsn := Lib.hid hnl
  have Hnl := Lib.hid (show nl = Lc.length + 1 by omega)
  have hnl41 : nl ≤ 4001 := by omega
  clear hls hll hnl hown hcells hcl CC hlen hb1
  go_wp2_with fail
  go_loopw [7, 8, 9, 10, 11, 12, 13] (fun v7 i _ _ _ _ _ wr => ∃ (a : Nat) (A : Option Addr) (c : Nat) (Ls : List (List Int)), a ≤ nl ∧ i = .int .i64 a ∧ v7 = .slice A Ls.length c ∧ Hid (rowsK (Lc.take a) = .ok Ls) ∧ Hid (a = nl → z = []) ∧ Hid (∃ rr xs, Rws rr w1.heap.size wr A c Ls xs) ∧ Hid (Below w1.heap.size w1 wr)) (fun _ i _ _ _ _ _ _ => nl - (intOf i).toNat)
  case atStart => exact ⟨0, none, 0, [], Nat.zero_le _, rfl, rfl, Lib.hid rfl, Lib.hid (fun h => by have := Hnl.out; omega), Lib.hid ⟨_, _, Rws.nil _ _⟩, Lib.hid (Below.refl _ _)⟩
  case round =>
    obtain ⟨wo, rfl⟩ : ∃ wo : World, wo = wr := ⟨_, rfl⟩
    obtain ⟨a, A, c, Ls, ha, rfl, rfl, Hrk, Hza, HR, Hb1⟩ := hrel
    obtain ⟨rr, xs, hR⟩ := HR.out
    have hwwr := Hw1.out.trans (Hb1.out.mono Hw1.out.size)
    have Hwwr := Lib.hid hwwr
    have hzr := HZ1.out.all Hb1.out
    have HZr := Lib.hid hzr
    have hs1 := Hs1.out
    have HLa := Lib.hid (show a ≤ Lc.length → Ls.length = a from fun h => by
      have := (rowsK_ok Hrk.out).1
      rw [List.length_take] at this
      omega)
    clear hwwr
    by_cases hlt : a < nl
    · obtain ⟨x, hx⟩ : ∃ x, ls[a]? = some x := ⟨_, List.getElem?_eq_getElem (i := a) (by have := Hlsn.out; omega)⟩
      have cx : wo.cell? ⟨gl, ol + a, none⟩ = some (.string x) := (Hb1.out.cell (p := ⟨gl, ol + a, none⟩) (block_lt (Hcl.out a x hx))).trans (Hcl.out a x hx)
      have hxd : (Lc ++ [z])[a]? = some x.data.toList := by rw [← Hls.out, List.getElem?_map, hx]; rfl
      clear hx
      by_cases hlast : a = Lc.length
      · have hxz : x.data.toList = z := by
          rw [hlast, List.getElem?_append_right (Nat.le_refl _), Nat.sub_self] at hxd
          injection hxd with hxd
          exact hxd.symm
        have dl : ((a : Int) == (nl : Int) - 1) = true := by rw [beq_iff_eq]; have := Hnl.out; omega
        have Hall := Lib.hid (show rowsK Lc = .ok Ls by have := Hrk.out; rwa [hlast, List.take_length] at this)
        have Hla := Lib.hid hlast
        clear hxd hlast
        by_cases hz0 : z = []
        · obtain rfl : x = ⟨#[]⟩ := ba_ext (by rw [hxz, hz0])
          have Hz0 := Lib.hid hz0
          clear hz0 hxz
          go_wp2_with fail
          refine ⟨⟨a + 1, A, c, Ls, ?ya, ?yb, rfl, ?yc, Lib.hid (fun _ => Hz0.out), HR, Hb1⟩, ?yd⟩
          case ya => omega
          case yb => go_num
          case yc => exact Lib.hid (by rw [List.take_of_length_le (by have := Hla.out; omega)]; exact Hall.out)
          case yd => simp [intOf]; omega
        · have hE : loadK s.data.toList n q = .error 2 := load_end_bad Hcut.out (by rw [← ba_size]; exact H4.out) n q Hall.out hz0
          have e0 : ¬ x.toList = [] := fun e => hz0 (by rw [← hxz, ← Lib.toList_data]; exact e)
          have e1 : (x.toList == []) = false := beq_eq_false_iff_ne.2 e0
          clear hz0 hxz
          obtain ⟨⟨z0, z1, z2, z3, z4, z5⟩, f0, f1, f2, f3, f4, f5⟩ := BoxN.st6 hzr
          go_wp2_with fail
          refine bodyPost_ret (results_row_tmpK rfl _ _ (w.heap.size + 1) 30 rkZ (0, 0) _ rfl (HZr.out.put6k _ _ _ _ _ _) Tryz.underlying30 rfl (by kernel_rfl)) rfl ?_
          exact ⟨by rw [hE]; exact rfl, below_put6k Hwwr.out (by omega) _ _ _ _ _ _⟩
      · have hal : a < Lc.length := by have := Hnl.out; omega
        have dl : ((a : Int) == (nl : Int) - 1) = false := by rw [beq_eq_false_iff_ne]; have := Hnl.out; omega
        have hyl : Lc[a]? = some x.data.toList := by rwa [List.getElem?_append_left hal] at hxd
        have Htk := Lib.hid (take_succ_getD hyl)
        have Hsp := Lib.hid (split_at hyl)
        have HB := Lib.hid (fun k (hk : rowK x.data.toList = .error k) => show loadK s.data.toList n q = .error k from load_rows_bad Hcut.out (by rw [← ba_size]; exact H4.out) n q (by rw [Hsp.out]; exact rowsK_bad _ Hrk.out hk))
        have hxs : x.size ≤ 4000 := by
          have h2 := cutL_le' 10 (t := s.data.toList) (x := x.data.toList) (by rw [Hcut.out]; exact List.mem_append_left _ (List.mem_of_getElem? hyl))
          rw [← ba_size, ← ba_size] at h2
          have := H4.out
          omega
        have CX := Lib.hid (CW.out x hxs)
        have hLsa : Ls.length ≤ 4001 := by have := HLa.out (by omega); omega
        clear hxd hlast hyl
        by_cases hx0 : x.size = 0
        · obtain rfl : x = ⟨#[]⟩ := ByteArray.ext (Array.size_eq_zero_iff.1 hx0)
          clear hx0 hxs
          go_wp2_with fail
          with_reducible refine (CX.out _).mono ?_
          rintro e w2 ⟨⟨v, ws, rfl, hown2, hws⟩, hb2⟩
          obtain ⟨A2, cc2, rfl, -⟩ := hown2.form
          have hws1 : ws.length = 1 := by have := congrArg List.length hws; rw [List.length_map] at this; exact this
          rw [hws1]
          have cx2 := (hb2.cell (p := ⟨gl, ol + a, none⟩) (block_lt cx)).trans cx
          have HO9 := Lib.hid (show ∀ g, (none : Option Addr) = some ⟨g, 0, none⟩ → wo.heap.size ≤ g from fun g e => by cases e)
          have Hb2 := Lib.hid hb2
          clear cx hown2 hws hws1 hb2
          go_wp2_with fail
          go_loopw [9, 11, 12, 13] (fun v9 k _ _ wi => v9 = .slice none 0 0 ∧ k = .int .i64 0 ∧ wi = w2) (fun _ _ _ _ _ => 0)
          case atStart => exact ⟨rfl, rfl, rfl⟩
          case round =>
            obtain ⟨wi, rfl⟩ : ∃ wi : World, wi = wr := ⟨_, rfl⟩
            obtain ⟨rfl, rfl, hwi⟩ := hrel
            have hwi2 : w2 = wi := hwi.symm
            clear hwi
            subst hwi2
            have hbi : Below wo.heap.size wo w2 := Hb2.out
            have HRi := Lib.hid (hR.below hbi)
            have hB1i := Lib.hid (Hb1.out.trans (hbi.mono Hb1.out.size))
            have Hba := Lib.hid ((Below.refl w2.heap.size w2).alloc (Nat.le_refl _) (.cells #[.slice none ([] : List Int).length 0] 24))
            have HRa := Lib.hid (HRi.out.below Hba.out)
            have Hown := Lib.hid ((OwnI.nil w2 w1.heap.size).next Hba.out)
            have Hall := Lib.hid (show rowsK (Lc.take (a + 1)) = .ok (Ls ++ [([] : List Int)]) by rw [Htk.out]; exact rowsK_snoc Hrk.out rfl)
            have hL40 : Ls.length < 2 ^ 40 := by omega
            have hsz1 : w1.heap.size ≤ w2.heap.size := hB1i.out.size
            clear hbi
            go_wp2_with (at_builtin; refine wpList_push_row rfl _ _ rfl rfl HRa.out.own w2.heap.size (.slice none ([] : List Int).length 0) rfl rfl (cell_of_row _ _ 0 _ _ _ (heap_alloc_new _ _)) hL40 (by simp; omega) ?_; intro v7 w7 hp7; obtain ⟨A7, c7, rfl⟩ := ownsRow_form hp7.own; have HP7 := Lib.hid hp7; clear hp7)
            have hp7 := HP7.out
            obtain ⟨rr', A', c', hv7, hR'⟩ := HRa.out.push rfl Hown.out (fun g e => by
              rcases Nat.eq_zero_or_pos (rr g) with h | h
              · exact h
              · exfalso
                obtain ⟨_, cur, fr, hc⟩ := hR.low g (by omega)
                have h1 := (Array.getElem?_eq_some_iff.1 hc).1
                exact Nat.lt_irrefl _ (Nat.lt_of_lt_of_le h1 (HO9.out g e))) hp7
            obtain ⟨e1, e2⟩ : A7 = A' ∧ c7 = c' := by injection hv7 with a b d; exact ⟨a, d⟩
            rw [← e1, ← e2] at hR'
            have hb7 := hp7.below HRa.out.own (hB1i.out.alloc hsz1 _) (by simp; omega)
            refine ⟨⟨a + 1, A7, c7, Ls ++ [([] : List Int)], ?ya, ?yb, ?yc, Hall, Lib.hid (fun h => absurd h (by have := Hnl.out; omega)), Lib.hid ⟨rr', _, hR'⟩, Lib.hid hb7⟩, ?yd⟩
            case ya => omega
            case yb => go_num
            case yc => rw [List.length_append, List.length_singleton]
            case yd => simp [intOf]; omega
        · have hne : x.data.toList ≠ [] := fun e => hx0 (by rw [ba_size, e]; rfl)
          have e0 : ¬ x.toList = [] := fun e => hne (by rw [← Lib.toList_data]; exact e)
          have e1 : (x.toList == []) = false := beq_eq_false_iff_ne.2 e0
          have HRow := Lib.hid (rowK_cut hne)
          have HXs := Lib.hid hxs
          clear hne hx0 hxs
          go_wp2_with fail
          with_reducible refine (CX.out _).mono ?_
          rintro e w2 ⟨⟨v, ws, rfl, hown2, hws⟩, hb2⟩
          obtain ⟨A2, cc2, rfl, hc2⟩ := hown2.form
          rw [← hws] at HRow
          have hwl : 1 ≤ ws.length ∧ ws.length ≤ 4001 := by
            have h1 := congrArg List.length hws
            rw [List.length_map, cutL_length] at h1
            have h3 := List.count_le_length (a := (32 : UInt8)) (l := x.data.toList)
            have h5 := HXs.out
            rw [ba_size] at h5
            omega
          obtain ⟨nw, hnw⟩ : ∃ nw, ws.length = nw := ⟨_, rfl⟩
          obtain ⟨g2, o2, rfl, hcl2⟩ := hc2 (by rw [Ne, List.map_eq_nil_iff]; rintro rfl; simp at hwl)
          have Hc2 := Lib.hid (show ∀ j y, ws[j]? = some y → w2.cell? ⟨g2, o2 + j, none⟩ = some (.string y) from fun j y hj => hcl2 j _ (by rw [List.getElem?_map, hj]; rfl))
          have cx2 := (hb2.cell (p := ⟨gl, ol + a, none⟩) (block_lt cx)).trans cx
          have Hb2 := Lib.hid hb2
          rw [hnw] at hwl ⊢
          have Hnw := Lib.hid hnw
          obtain ⟨hw1, hw4⟩ := hwl
          have HB1i := Lib.hid (fun V (hV : Below w2.heap.size w2 V) => Hb1.out.trans ((Hb2.out.trans (hV.mono Hb2.out.size)).mono Hb1.out.size))
          clear cx hown2 hws hnw hb2 hc2 hcl2 hzr
          go_wp2_with fail
          go_loopw [9, 11, 12, 13] (fun v9 k _ _ wi => ∃ (j : Nat) (l : List Int) (A9 : Option Addr) (c9 : Nat), j ≤ nw ∧ l.length = j ∧ k = .int .i64 j ∧ v9 = .slice A9 j c9 ∧ Hid (wordsK ((ws.map (·.data.toList)).take j) = .ok l) ∧ Hid (OwnI wi w2.heap.size (.slice A9 j c9) l) ∧ Hid (Below w2.heap.size w2 wi)) (fun _ k _ _ _ => nw - (intOf k).toNat)
          case atStart => exact ⟨0, [], none, 0, Nat.zero_le _, rfl, rfl, rfl, Lib.hid rfl, Lib.hid (OwnI.nil _ _), Lib.hid (Below.refl _ _)⟩
          case round =>
            obtain ⟨wi, rfl⟩ : ∃ wi : World, wi = wr := ⟨_, rfl⟩
            obtain ⟨j, l, A9, c9, hj, hlj, rfl, rfl, Hwk, Hown9, Hbi⟩ := hrel
            have cxi := (Hbi.out.cell (p := ⟨gl, ol + a, none⟩) (block_lt cx2)).trans cx2
            clear cx2
            by_cases hjw : j < nw
            · obtain ⟨y, hy⟩ : ∃ y, ws[j]? = some y := ⟨_, List.getElem?_eq_getElem (i := j) (by have := Hnw.out; omega)⟩
              have hM : (ws.map (·.data.toList))[j]? = some y.data.toList := by rw [List.getElem?_map, hy]; rfl
              have cy : wi.cell? ⟨g2, o2 + j, none⟩ = some (.string y) := (Hbi.out.cell (p := ⟨g2, o2 + j, none⟩) (block_lt (Hc2.out j y hy))).trans (Hc2.out j y hy)
              have Hsp2 := Lib.hid (split_at hM)
              have Htk2 := Lib.hid (take_succ_getD hM)
              have HBd := Lib.hid (fun c (hc : (numV y.data.toList = none ∧ c = 2) ∨ ∃ n, numV y.data.toList = some n ∧ 999999 < n ∧ c = 1) => HB.out c (by rw [HRow.out, Hsp2.out]; exact wordsK_bad _ Hwk.out hc))
              have CY := Lib.hid (CN.out y)
              clear hy hM
              go_wp2_with fail
              with_reducible refine (CY.out _).mono ?_
              rintro e w5 ⟨⟨nv, bv, rfl, hok, hno⟩, hw5⟩
              have hw5' : wi = w5 := hw5
              subst hw5'
              clear hw5
              have hB1i := HB1i.out _ Hbi.out
              have hzi := HZ1.out.all hB1i
              have HZi := Lib.hid hzi
              have HBi := Lib.hid (Hw1.out.trans (hB1i.mono Hw1.out.size))
              clear hB1i
              cases hnv : numV y.data.toList with
              | none =>
                obtain rfl := hno hnv
                have hE := HBd.out 2 (.inl ⟨hnv, rfl⟩)
                clear hok hno hnv CY
                obtain ⟨⟨z0, z1, z2, z3, z4, z5⟩, f0, f1, f2, f3, f4, f5⟩ := BoxN.st6 hzi
                go_wp2_with fail
                refine bodyPost_ret (results_row_tmpK rfl _ _ (w.heap.size + 1) 30 rkZ (0, 0) _ rfl (HZi.out.put6k _ _ _ _ _ _) Tryz.underlying30 rfl (by kernel_rfl)) rfl ?_
                exact ⟨by rw [hE]; exact rfl, below_put6k HBi.out (by omega) _ _ _ _ _ _⟩
              | some nn =>
                obtain ⟨rfl, rfl⟩ := hok nn hnv
                by_cases h6 : nn ≤ 999999
                · have f6 : decide ((nn : Int) > 999999) = false := by simp; omega
                  have Hall2 := Lib.hid (show wordsK ((ws.map (·.data.toList)).take (j + 1)) = .ok (l ++ [(nn : Int)]) by rw [Htk2.out]; exact wordsK_snoc Hwk.out hnv h6)
                  have hl40 : l.length < 2 ^ 40 := by omega
                  have Hlk := Lib.hid (show (l ++ [(nn : Int)]).length = j + 1 by rw [List.length_append, hlj]; rfl)
                  have hs6 := Hbi.out.size
                  clear hok hno hnv CY hzi
                  go_wp2_with (at_builtin; refine wpList_push_int rfl _ _ rfl rfl (Hown9.out.next ((Below.refl _ _).alloc (Nat.le_refl _) _)) _ (nn : Int) rfl (cell_of_row _ _ 0 _ _ _ (heap_alloc_new _ _)) hl40 (by simp; omega) ?_; intro u1 w7 hown7 hgr7 hblk7 hbl7; obtain ⟨A1, k1, rfl, -⟩ := hown7.form; rw [Hlk.out] at hown7 ⊢; have hb17 := hbl7 w2 (Hbi.out.alloc hs6 _))
                  refine ⟨⟨j + 1, l ++ [(nn : Int)], A1, k1, ?ya, Hlk.out, ?yb, rfl, Hall2, Lib.hid hown7, Lib.hid hb17⟩, ?yd⟩
                  case ya => omega
                  case yb => go_num
                  case yd => simp [intOf]; omega
                · have f6 : decide ((nn : Int) > 999999) = true := by simp; omega
                  have hE := HBd.out 1 (.inr ⟨nn, hnv, by omega, rfl⟩)
                  clear hok hno hnv CY
                  obtain ⟨⟨z0, z1, z2, z3, z4, z5⟩, f0, f1, f2, f3, f4, f5⟩ := BoxN.st6 hzi
                  go_wp2_with fail
                  refine bodyPost_ret (results_row_tmpK rfl _ _ (w.heap.size + 1) 30 rkZ (0, 0) _ rfl (HZi.out.put6k _ _ _ _ _ _) Tryz.underlying30 rfl (by kernel_rfl)) rfl ?_
                  exact ⟨by rw [hE]; exact rfl, below_put6k HBi.out (by omega) _ _ _ _ _ _⟩
            · have hjn : j = nw := by omega
              have hRowF := Lib.hid (show rowK x.data.toList = .ok l by rw [HRow.out, ← Hwk.out, List.take_of_length_le (by rw [List.length_map, Hnw.out]; omega)])
              have HO9 := Lib.hid (show ∀ g, A9 = some ⟨g, 0, none⟩ → wo.heap.size ≤ g from fun g e => Nat.le_trans Hb2.out.size (own_ge (c := c9) (n := j) (l := l) Hown9.out g e))
              have djn : decide ((j : Int) < (nw : Int)) = false := by simp; omega
              have Hown9' := Lib.hid (Hown9.out.low (Nat.le_trans Hb1.out.size Hb2.out.size))
              clear Hwk hjn Hown9
              subst hlj
              have hbi : Below wo.heap.size wo wi := Hb2.out.trans (Hbi.out.mono Hb2.out.size)
              have HRi := Lib.hid (hR.below hbi)
              have hB1i := Lib.hid (Hb1.out.trans (hbi.mono Hb1.out.size))
              have Hba := Lib.hid ((Below.refl wi.heap.size wi).alloc (Nat.le_refl _) (.cells #[.slice A9 l.length c9] 24))
              have HRa := Lib.hid (HRi.out.below Hba.out)
              have Hown := Lib.hid ((Hown9'.out).next Hba.out)
              have Hall := Lib.hid (show rowsK (Lc.take (a + 1)) = .ok (Ls ++ [l]) by rw [Htk.out]; exact rowsK_snoc Hrk.out hRowF.out)
              have hL40 : Ls.length < 2 ^ 40 := by omega
              have hsz1 : w1.heap.size ≤ wi.heap.size := hB1i.out.size
              clear hbi
              go_wp2_with (at_builtin; refine wpList_push_row rfl _ _ rfl rfl HRa.out.own wi.heap.size (.slice A9 l.length c9) rfl rfl (cell_of_row _ _ 0 _ _ _ (heap_alloc_new _ _)) hL40 (by simp; omega) ?_; intro v7 w7 hp7; obtain ⟨A7, c7, rfl⟩ := ownsRow_form hp7.own; have HP7 := Lib.hid hp7; clear hp7)
              have hp7 := HP7.out
              obtain ⟨rr', A', c', hv7, hR'⟩ := HRa.out.push rfl Hown.out (fun g e => by
                rcases Nat.eq_zero_or_pos (rr g) with h | h
                · exact h
                · exfalso
                  obtain ⟨_, cur, fr, hc⟩ := hR.low g (by omega)
                  have h1 := (Array.getElem?_eq_some_iff.1 hc).1
                  exact Nat.lt_irrefl _ (Nat.lt_of_lt_of_le h1 (HO9.out g e))) hp7
              obtain ⟨e1, e2⟩ : A7 = A' ∧ c7 = c' := by injection hv7 with a b d; exact ⟨a, d⟩
              rw [← e1, ← e2] at hR'
              have hb7 := hp7.below HRa.out.own (hB1i.out.alloc hsz1 _) (by simp; omega)
              refine ⟨⟨a + 1, A7, c7, Ls ++ [l], ?ya, ?yb, ?yc, Hall, Lib.hid (fun h => absurd h (by have := Hnl.out; omega)), Lib.hid ⟨rr', _, hR'⟩, Lib.hid hb7⟩, ?yd⟩
              case ya => omega
              case yb => go_num
              case yc => rw [List.length_append, List.length_singleton]
              case yd => simp [intOf]; omega
    · have hanl : a = nl := by omega
      subst hanl
      have hz0 := Hza.out rfl
      have hend : rowsK Lc = .ok Ls := by have := Hrk.out; rwa [take_one Hnl.out] at this
      have Hload := Lib.hid (load_rows_ok (by rw [← hz0]; exact Hcut.out) (by rw [← ba_size]; exact H4.out) n q hend)
      have hLl : Ls.length ≤ 4001 := by
        have h1 := (rowsK_ok hend).1
        have := Hnl.out
        omega
      have Hnums := Lib.hid (show ∀ l ∈ Ls, Nums6 l ∧ l.length ≤ 4001 from fun l hl => by
        obtain ⟨h1, x, hx, h2⟩ := (rowsK_ok hend).2 l hl
        have h3 := cutL_le' 10 (t := s.data.toList) (x := x) (by rw [Hcut.out]; exact List.mem_append_left _ hx)
        rw [← ba_size] at h3
        have := H4.out
        exact ⟨h1, by omega⟩)
      have hx1r := HX1.out.all Hb1.out
      have x0 := hx1r.cell (k := 0) rfl
      have x1 := hx1r.cell (k := 1) rfl
      have x2 := hx1r.cell (k := 2) rfl
      have hnn : (n : Int) ≤ 5 := by omega
      have hqq : (q : Int) ≤ 6 := by omega
      have Hza2 := Lib.hid hz0
      clear hx1r hend hz0 Hza
      by_cases hlen : Ls.length = 1 + n + q
      · have hne : ((Ls.length : Int) != 1 + (n : Int) + (q : Int)) = false := by simp; omega
        obtain ⟨ga, hA, hga, hga2, hcl⟩ := hR.bnd (fun e => by rw [e, List.length_nil] at hlen; omega)
        have hxl := hR.xl
        have Hrow := Lib.hid (show ∀ j, j < 1 + n + q → ∃ l A1 c1, Ls.getD j [] = l ∧ l ∈ Ls ∧ wo.cell? ⟨ga, j, none⟩ = some (.slice A1 l.length c1) ∧ RowW rr (j + 1) wo (.slice A1 l.length c1) l from fun j hj => by
          obtain ⟨x, hx⟩ : ∃ x, xs[j]? = some x := ⟨_, List.getElem?_eq_getElem (i := j) (by omega)⟩
          obtain ⟨l, hl⟩ : ∃ l, Ls[j]? = some l := ⟨_, List.getElem?_eq_getElem (i := j) (by omega)⟩
          have hr := hR.row j x l hx hl
          have e : Ls.getD j [] = l := by rw [List.getD_eq_getElem?_getD, hl]; rfl
          obtain ⟨A1, c1, rfl, _⟩ := hr.form
          exact ⟨l, A1, c1, e, List.mem_of_getElem? hl, hcl j _ hx, hr⟩)
        subst hA
        obtain ⟨l0, A0, c0, hl0, hm0, m0, hr0⟩ := Hrow.out 0 (by omega)
        have hmn : (0 : Int) < Ls.length := by omega
        have hmn' : 0 < Ls.length := by omega
        have Hcl2 := Lib.hid hcl
        have HRw := Lib.hid hR
        clear hxl hcl
        by_cases h01 : l0.length = 1
        · have g01 : ((l0.length : Int) != 1) = false := by simp; omega
          obtain ⟨v0, rfl⟩ : ∃ v, l0 = [v] := by
            match l0, h01 with
            | [v], _ => exact ⟨v, rfl⟩
          obtain ⟨g0, o0, rfl, m00, hg0⟩ : ∃ g off, A0 = some ⟨g, off, none⟩ ∧ wo.cell? ⟨g, off, none⟩ = some (.int .i64 v0) ∧ w1.heap.size ≤ g := by
            rcases hr0 with ⟨h, h'⟩ | ⟨g, off, cc, cur, h1, h2, h3, h4, h5, h6, h7⟩
            · cases h'
            · injection h1 with h1
              exact ⟨g, off, h1, by rw [cell_of_row wo g off cur _ _ h4]; exact h7 0 v0 rfl, (HRw.out.low g (by omega)).1⟩
          have hv0 := (Hnums.out _ hm0).1 v0 (List.mem_singleton_self _)
          have Hl0 := Lib.hid hl0
          have hlen1 : [v0].length = 1 := rfl
          rw [hlen1] at m0 g01
          clear hr0 hm0 hl0 h01
          obtain ⟨t0, rfl⟩ : ∃ t : Nat, v0 = t := ⟨v0.toNat, by omega⟩
          by_cases h300 : t0 ≤ 300
          · have g3 : decide ((t0 : Int) > 300) = false := by simp; omega
            have H30 := Lib.hid (show (Ls.getD 0 []).getD 0 0 ≤ 300 by rw [Hl0.out]; show (t0 : Int) ≤ 300; omega)
            have H1 := Lib.hid (show (Ls.getD 0 []).length = 1 by rw [Hl0.out]; rfl)
            have Hlen := Lib.hid hlen
            have hcap : Ls.length ≤ c := HRw.out.cap
            have hle1 : Ls.length ≤ 1 + n + q := by omega
            have hle2 : 1 + n + q ≤ Ls.length := by omega
            clear hlen
            obtain ⟨⟨z0, z1, z2, z3, z4, z5⟩, f0, f1, f2, f3, f4, f5⟩ := BoxN.st6 hzr
            go_wp2_with fail
            clear g01 hne
            go_loopw [15] (fun v wz => ∃ i : Nat, 1 ≤ i ∧ i ≤ n + 1 ∧ v = .int .i64 i ∧ Hid (∀ b, b + 1 < i → partC Ls b = 0) ∧ wz = wo) (fun v _ => n + 1 - (intOf v).toNat)
            case atStart => exact ⟨1, Nat.le_refl _, by omega, rfl, Lib.hid (fun b hb => by omega), rfl⟩
            case round =>
              obtain ⟨wz, rfl⟩ : ∃ wz : World, wz = wr := ⟨_, rfl⟩
              obtain ⟨i, hi1, hi2, rfl, Hpc, hwz⟩ := hrel
              have hwz2 : wo = wz := hwz.symm
              clear hwz
              subst hwz2
              by_cases hin : i ≤ n
              · have di : decide ((i : Int) ≤ (n : Int)) = true := by simp; omega
                obtain ⟨l, Ax, cx, hl, hlm, hlc, hlr⟩ := Hrow.out i (by omega)
                have k1 : (i : Int) < Ls.length := by omega
                have k2 : i < Ls.length := by omega
                have Hll := Lib.hid hl
                have hl41 := (Hnums.out l hlm).2
                clear hl
                by_cases h5 : l.length < 5
                · have g5 : decide ((l.length : Int) < 5) = true := by simp; omega
                  have hE : loadK s.data.toList n q = .error 3 := by
                    have hp : partC Ls (i - 1) = 3 := by unfold partC; rw [show 1 + (i - 1) = i by omega, Hll.out, if_pos h5]
                    rw [Hload.out, shape_part Hlen.out H1.out H30.out (a := i - 1) (by omega) (fun b hb => Hpc.out b (by omega)) (by omega), hp]; rfl
                  go_wp2_with fail
                  refine bodyPost_ret (results_row_tmpK rfl _ _ (w.heap.size + 1) 30 rkZ (0, 0) _ rfl (HZr.out.put6k _ _ _ _ _ _) Tryz.underlying30 rfl (by kernel_rfl)) rfl ?_
                  exact ⟨by rw [hE]; exact rfl, below_put6k Hwwr.out (by omega) _ _ _ _ _ _⟩
                · obtain ⟨u0, u1, u2, u3, u4, r, hlv⟩ := five_of h5
                  have g5 : decide ((l.length : Int) < 5) = false := by simp; omega
                  have hu0 := (Hnums.out l hlm).1 u0 (by rw [hlv]; exact List.mem_cons_self ..)
                  obtain ⟨pc, rfl⟩ : ∃ t : Nat, u0 = t := ⟨u0.toNat, by omega⟩
                  obtain ⟨g, o, rfl, d0⟩ : ∃ g off, Ax = some ⟨g, off, none⟩ ∧ wo.cell? ⟨g, off, none⟩ = some (.int .i64 pc) := by
                    rcases hlr with ⟨h, h'⟩ | ⟨g, off, cc, cur, h1, h2, h3, h4, h5, h6, h7⟩
                    · rw [h'] at hlv; cases hlv
                    · injection h1 with h1
                      exact ⟨g, off, h1, by rw [cell_of_row wo g off cur _ _ h4]; exact h7 0 _ (by rw [hlv]; rfl)⟩
                  have Hlv := Lib.hid hlv
                  have k3 : (0 : Int) < l.length := by omega
                  have k4 : 0 < l.length := by omega
                  clear hlv hlr hlm
                  by_cases h12 : pc ≤ 12
                  · have g12 : decide ((pc : Int) > 12) = false := by simp; omega
                    have Hpc2 := Lib.hid (show ∀ b, b + 1 < i + 1 → partC Ls b = 0 from fun b hb => by
                      by_cases e : b + 1 = i
                      · unfold partC
                        rw [show 1 + b = i by omega, Hll.out, if_neg h5, if_neg (by rw [Hlv.out]; show ¬ (12 : Int) < pc; omega)]
                      · exact Hpc.out b (by omega))
                    go_wp2_with fail
                    refine ⟨⟨i + 1, ?ya, ?yb, ?yc, Hpc2, trivial⟩, ?yd⟩
                    case ya => omega
                    case yb => omega
                    case yc => go_num
                    case yd => simp [intOf]; omega
                  · have g12 : decide ((pc : Int) > 12) = true := by simp; omega
                    have hE : loadK s.data.toList n q = .error 1 := by
                      have hp : partC Ls (i - 1) = 1 := by
                        unfold partC
                        rw [show 1 + (i - 1) = i by omega, Hll.out, if_neg h5, if_pos (by rw [Hlv.out]; show (12 : Int) < pc; omega)]
                      rw [Hload.out, shape_part Hlen.out H1.out H30.out (a := i - 1) (by omega) (fun b hb => Hpc.out b (by omega)) (by omega), hp]; rfl
                    go_wp2_with fail
                    refine bodyPost_ret (results_row_tmpK rfl _ _ (w.heap.size + 1) 30 rkZ (0, 0) _ rfl (HZr.out.put6k _ _ _ _ _ _) Tryz.underlying30 rfl (by kernel_rfl)) rfl ?_
                    exact ⟨by rw [hE]; exact rfl, below_put6k Hwwr.out (by omega) _ _ _ _ _ _⟩
              · have hin2 : i = n + 1 := by omega
                have di : decide ((i : Int) ≤ (n : Int)) = false := by simp; omega
                have Hpcs := Lib.hid (show ∀ b, b < n → partC Ls b = 0 from fun b hb => Hpc.out b (by omega))
                clear Hpc hin2 hi2
                go_wp2_with fail
                go_loopw [16] (fun v wz => ∃ i : Nat, n + 1 ≤ i ∧ i ≤ Ls.length ∧ v = .int .i64 i ∧ Hid (∀ b, n + 1 + b < i → heldC Ls n b = 0) ∧ wz = wo) (fun v _ => Ls.length - (intOf v).toNat)
                case atStart => exact ⟨n + 1, Nat.le_refl _, by omega, by go_num, Lib.hid (fun b hb => by omega), rfl⟩
                case round =>
                  obtain ⟨wz, rfl⟩ : ∃ wz : World, wz = wr := ⟨_, rfl⟩
                  obtain ⟨i2, hi3, hi4, rfl, Hhc, hwz⟩ := hrel
                  have hwz2 : wo = wz := hwz.symm
                  clear hwz
                  subst hwz2
                  by_cases hin3 : i2 < Ls.length
                  · obtain ⟨l, Ax, cx, hl, hlm, hlc, hlr⟩ := Hrow.out i2 (by omega)
                    have k1 : (i2 : Int) < Ls.length := by omega
                    have hl41 := (Hnums.out l hlm).2
                    have Hll := Lib.hid hl
                    clear hl hlm hlr
                    by_cases h4l : 4 < l.length
                    · have g5 : decide ((l.length : Int) > 4) = true := by simp; omega
                      have hE : loadK s.data.toList n q = .error 4 := by
                        have hp : heldC Ls n (i2 - (n + 1)) = 4 := by unfold heldC; rw [show 1 + n + (i2 - (n + 1)) = i2 by omega, Hll.out, if_pos h4l]
                        rw [Hload.out, shape_held Hlen.out H1.out H30.out Hpcs.out (a := i2 - (n + 1)) (by omega) (fun b hb => Hhc.out b (by omega)) (by omega), hp]; rfl
                      go_wp2_with fail
                      refine bodyPost_ret (results_row_tmpK rfl _ _ (w.heap.size + 1) 30 rkZ (0, 0) _ rfl (HZr.out.put6k _ _ _ _ _ _) Tryz.underlying30 rfl (by kernel_rfl)) rfl ?_
                      exact ⟨by rw [hE]; exact rfl, below_put6k Hwwr.out (by omega) _ _ _ _ _ _⟩
                    · have g5 : decide ((l.length : Int) > 4) = false := by simp; omega
                      have Hhc2 := Lib.hid (show ∀ b, n + 1 + b < i2 + 1 → heldC Ls n b = 0 from fun b hb => by
                        by_cases e : n + 1 + b = i2
                        · unfold heldC
                          rw [show 1 + n + b = i2 by omega, Hll.out, if_neg h4l]
                        · exact Hhc.out b (by omega))
                      go_wp2_with fail
                      refine ⟨⟨i2 + 1, ?ya2, ?yb2, ?yc2, Hhc2, trivial⟩, ?yd2⟩
                      case ya2 => omega
                      case yb2 => omega
                      case yc2 => go_num
                      case yd2 => simp [intOf]; omega
                  · have hi5 : i2 = Ls.length := by omega
                    have di2 : decide ((i2 : Int) < (Ls.length : Int)) = false := by simp; omega
                    have hsh : shapeK Ls n q = 0 := shape_good Hlen.out H1.out H30.out Hpcs.out (fun b hb => Hhc.out b (by omega))
                    have hE : loadK s.data.toList n q = .ok Ls := by rw [Hload.out, if_pos hsh]
                    have Hsh := Lib.hid hsh
                    clear hsh Hhc hi5
                    have hc1 : (n : Int) + 1 ≤ c := by omega
                    have hc2 : n + 1 ≤ c := by omega
                    have hc3 : (n : Int) + 1 ≤ Ls.length := by omega
                    have hc4 : n + 1 ≤ Ls.length := by omega
                    have hc5 : (Ls.length : Int) ≤ c := by omega
                    have hc6 : ¬ c = 1 := by omega
                    have hc7 : (1 : Int) ≤ (n : Int) + 1 := by omega
                    obtain ⟨⟨z0, z1, z2, z3, z4, z5⟩, f0, f1, f2, f3, f4, f5⟩ := BoxN.st6 hzr
                    go_wp2_with fail
                    have finish : ∀ (k2 cP cH : Nat) (w' : World), (k2 = n + 1 ∨ q = 0) → (∀ b, b ≠ w.heap.size + 1 → w'.heap[b]? = wo.heap[b]?) → wo.heap.size ≤ w'.heap.size → Below w.heap.size w w' →
                        RLoadPost w.heap.size Ap Ao At cp co ct n q m (loadK s.data.toList n q) (.returned (.tuple #[.agg (rkV Ap Ao At cp co ct n q m t0 (some ⟨ga, 1, none⟩) (some ⟨ga, k2, none⟩) cP cH), .int .i64 0])) w' ∧ Below w.heap.size w w' := fun k2 cP cH w' hk hw hsz hbw => by
                      have hok := shape_ok Hsh.out
                      have hRw := HRw.out.keep (fun b hb _ => hw b (by omega)) hsz
                      have hcl' : ∀ j x, xs[j]? = some x → w'.cell? ⟨ga, j, none⟩ = some x := fun j x hj => (World.cell?_of_block (a := ⟨ga, j, none⟩) (hw ga (by omega))).trans (Hcl2.out j x hj)
                      have ht : tickOf Ls = t0 := by
                        unfold tickOf
                        rw [Hl0.out]
                        exact Int.toNat_natCast t0
                      rw [hE]
                      refine ⟨⟨some ⟨ga, 1, none⟩, some ⟨ga, k2, none⟩, cP, cH, by rw [ht], ?_, ?_⟩, hbw⟩
                      · exact hRw.part hga (by omega) hcl' (fun i l hi => stOf_partRow hok (fun l hl => (Hnums.out l hl).1) hi) (fun l hl => (Hnums.out l hl).2)
                      · rcases hk with rfl | hq0
                        · exact hRw.part hga (by omega) hcl' (fun i l hi => stOf_heldRow hok hi) (fun l hl => (Hnums.out l hl).2)
                        · exact fun hne => absurd (List.length_eq_zero_iff.1 (by rw [heldRows_len]; exact hq0)) hne
                    have hwn : IntKind.i64.wrap ((n : Int) + 1) = (n : Int) + 1 := by rw [IntKind.wrap_i64]; omega
                    obtain ⟨c1, hS1⟩ := run_rows_mid ga n Ls.length c hn1 (by omega) (by omega)
                    obtain ⟨k2, c2, hk2, hS2⟩ := run_rows_from ga 0 Ls.length c (n + 1) (by omega) (by omega)
                    have hk3 : 0 + k2 = n + 1 ∨ q = 0 := by omega
                    rw [show (((n + 1 : Nat)) : Int) = (n : Int) + 1 from rfl, show Ls.length - (n + 1) = q by omega] at hS2
                    generalize 0 + k2 = k3 at *
                    clear hk2
                    have HSt := Lib.hid (fun y0 y1 y2 y3 y4 y5 => put6_keep (V := wo) (g := w.heap.size + 1) y0 y1 y2 y3 y4 y5 (by show w.heap.size ≠ _; omega) (by show w.heap.size ≠ _; omega) (by show w.heap.size ≠ _; omega) (by show ga ≠ _; omega) (by show g0 ≠ _; omega) x0 x1 x2 m0 m00)
                    have HSd := Lib.hid (show wo.drew.cell? ⟨w.heap.size, 0, none⟩ = some (.slice Ap n cp) ∧ wo.drew.cell? ⟨w.heap.size, 1, none⟩ = some (.slice Ao q co) ∧ wo.drew.cell? ⟨w.heap.size, 2, none⟩ = some (.slice At m ct) ∧ wo.drew.cell? ⟨ga, 0, none⟩ = some (.slice (some ⟨g0, o0, none⟩) 1 c0) ∧ wo.drew.cell? ⟨g0, o0, none⟩ = some (.int .i64 t0) from ⟨x0, x1, x2, m0, m00⟩)
                    have Hfin := Lib.hid finish
                    clear finish
                    clear Hcut CW CN H4 Hx Hz Hb Hs HX1 HZ1 Hw1 Hs1 Hls Hcl Hlsn Hnl Hrk HR Hb1 hR HLa Hnums Hload Hrow HRw Hcl2 Hl0 H30 H1 Hlen Hpcs
                    go_region_held3 (fun V => V.cell? ⟨w.heap.size, 0, none⟩ = some (.slice Ap n cp) ∧ V.cell? ⟨w.heap.size, 1, none⟩ = some (.slice Ao q co) ∧ V.cell? ⟨w.heap.size, 2, none⟩ = some (.slice At m ct) ∧ V.cell? ⟨ga, 0, none⟩ = some (.slice (some ⟨g0, o0, none⟩) 1 c0) ∧ V.cell? ⟨g0, o0, none⟩ = some (.int .i64 t0))
                      ((first | with_reducible exact HSd.out | with_reducible exact HSt.out _ _ _ _ _ _ | exact HSt.out _ _ _ _ _ _))
                      ((fail))
                    go_wp2_with fail
                    refine bodyPost_ret (results_row_tmpK rfl _ _ (w.heap.size + 1) 30 (rkV Ap Ao At cp co ct n q m t0 (some ⟨ga, 1, none⟩) (some ⟨ga, k3, none⟩) c1 c2) (0, 0) _ rfl (drew_boxK (HZr.out.put6k _ _ _ _ _ _)) Tryz.underlying30 rfl (by kernel_rfl)) rfl ?_
                    exact Hfin.out k3 c1 c2 _ hk3 (fun b hb => heap_put6 _ _ _ _ _ _ hb) (by rw [drew_heapK]; simp) (drew_belowK (below_put6k Hwwr.out (by omega) _ _ _ _ _ _))
          · have g3 : decide ((t0 : Int) > 300) = true := by simp; omega
            have hE : loadK s.data.toList n q = .error 1 := by
              rw [Hload.out]
              have : shapeK Ls n q = 1 := by
                unfold shapeK
                rw [Hl0.out, if_neg (by rintro (e | e) <;> omega), if_pos (by show (300 : Int) < t0; omega)]
              rw [this]; rfl
            obtain ⟨⟨z0, z1, z2, z3, z4, z5⟩, f0, f1, f2, f3, f4, f5⟩ := BoxN.st6 hzr
            go_wp2_with fail
            refine bodyPost_ret (results_row_tmpK rfl _ _ (w.heap.size + 1) 30 rkZ (0, 0) _ rfl (HZr.out.put6k _ _ _ _ _ _) Tryz.underlying30 rfl (by kernel_rfl)) rfl ?_
            exact ⟨by rw [hE]; exact rfl, below_put6k Hwwr.out (by omega) _ _ _ _ _ _⟩
        · have g01 : ((l0.length : Int) != 1) = true := by simp; omega
          have hE : loadK s.data.toList n q = .error 3 := by
            rw [Hload.out, shape_three (.inr (by rw [hl0]; exact h01))]; rfl
          clear hr0 hm0 hl0
          obtain ⟨⟨z0, z1, z2, z3, z4, z5⟩, f0, f1, f2, f3, f4, f5⟩ := BoxN.st6 hzr
          go_wp2_with fail
          refine bodyPost_ret (results_row_tmpK rfl _ _ (w.heap.size + 1) 30 rkZ (0, 0) _ rfl (HZr.out.put6k _ _ _ _ _ _) Tryz.underlying30 rfl (by kernel_rfl)) rfl ?_
          exact ⟨by rw [hE]; exact rfl, below_put6k Hwwr.out (by omega) _ _ _ _ _ _⟩
      · have hne : ((Ls.length : Int) != 1 + (n : Int) + (q : Int)) = true := by simp; omega
        have hE : loadK s.data.toList n q = .error 3 := by
          rw [Hload.out, shape_three (.inl hlen)]; rfl
        obtain ⟨⟨z0, z1, z2, z3, z4, z5⟩, f0, f1, f2, f3, f4, f5⟩ := BoxN.st6 hzr
        go_wp2_with fail
        refine bodyPost_ret (results_row_tmpK rfl _ _ (w.heap.size + 1) 30 rkZ (0, 0) _ rfl (HZr.out.put6k _ _ _ _ _ _) Tryz.underlying30 rfl (by kernel_rfl)) rfl ?_
        exact ⟨by rw [hE]; exact rfl, below_put6k Hwwr.out (by omega) _ _ _ _ _ _⟩






theorem RLoad_any {w : World} {Ap Ao At : Option Addr} {cp co ct n q m : Nat} (hn : n ≤ 5) (hn1 : 1 ≤ n) (hq : q ≤ 6) (s : ByteArray) :
    Calls Tryz.prog 10 #[.agg #[.slice Ap n cp, .slice Ao q co, .slice At m ct], .string s] w fun e w' => RLoadPost w.heap.size Ap Ao At cp co ct n q m (loadK s.data.toList n q) e w' ∧ Below w.heap.size w w' := by
  by_cases h4 : 4000 < s.size
  · rw [show loadK s.data.toList n q = .error 4 by unfold loadK; rw [if_pos (by rw [← ba_size]; exact h4)]]
    exact RLoad_long s h4
  · exact RLoad_short hn hn1 hq s (by omega)
end Go.Proofs.YtanlmfnhlldkeaaGreatDoor
