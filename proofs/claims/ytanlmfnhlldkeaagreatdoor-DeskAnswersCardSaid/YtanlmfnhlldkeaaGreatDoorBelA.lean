/-
  Words: the monitor of labels, in memory; contracts of Reads, Writes, Holds, below.
  Contract: the monitor's all; what Ask asks of a file.
  Contract: the monitor's Ask. (printed by askbell.py)
  Contract: the monitor's Ask, whole. (printed by askbell.py)
  Contracts: slices.Clone at labels; bell.labels.
  Contract: bell.New.
-/
import Derived.Test.YtanlmfnhlldkeaaGreatDoorBaseA
import Derived.Test.YtanlmfnhlldkeaaGreatDoorRowsA
import Derived.Test.YtanlmfnhlldkeaaGreatDoorLoopA
import Derived.Lib.QuietBelow
import Derived.Deep.RegionHeld3
import Derived.Deep.CutRange
import Derived.Deep.RegionLaw
namespace Go.Proofs.YtanlmfnhlldkeaaGreatDoor
open Go.RowKit
set_option maxRecDepth 100000
set_option linter.unusedVariables false

theorem OwnAt.ne_own {w : World} {g g' : Nat} {e e' : TypeId} {l l' : List Value} (h : OwnAt w g e l) (h' : OwnAt w g' e' l') (hne : e ≠ e') : g ≠ g' := by
  rintro rfl
  obtain ⟨cur, hg, _⟩ := h
  obtain ⟨cur', hg', _⟩ := h'
  rw [hg] at hg'
  injection hg' with hg'
  injection hg' with _ h2
  exact hne h2
theorem int_ne_label : (3 : TypeId) ≠ 144 := by decide
theorem int_ne_bell : (3 : TypeId) ≠ 226 := by decide
theorem label_ne_bell : (144 : TypeId) ≠ 226 := by decide
/-- The five rows, where there are users and files. -/
structure LOwn (w : World) (base : Nat) (U F : List Int) (S : LS) (gu gf gr gw gh : Nat) : Prop where
  bu : base ≤ gu
  bf : base ≤ gf
  br : base ≤ gr
  bw : base ≤ gw
  bh : base ≤ gh
  ou : OwnAt w gu 144 (vI U)
  of_ : OwnAt w gf 144 (vI F)
  or_ : OwnAt w gr 3 (vI (castL S.Re))
  ow : OwnAt w gw 3 (vI (castL S.Wr))
  oh : OwnAt w gh 3 (vI (castL S.Ho))
  rw : gr ≠ gw
  rh : gr ≠ gh
  wh : gw ≠ gh
section
variable {w w' : World} {base : Nat} {U F : List Int} {S : LS} {gu gf gr gw gh : Nat}
theorem LOwn.all (h : LOwn w base U F S gu gf gr gw gh) (hb : Below w.heap.size w w') : LOwn w' base U F S gu gf gr gw gh :=
  ⟨h.bu, h.bf, h.br, h.bw, h.bh, h.ou.all hb, h.of_.all hb, h.or_.all hb, h.ow.all hb, h.oh.all hb, h.rw, h.rh, h.wh⟩
theorem LOwn.setR (h : LOwn w base U F S gu gf gr gw gh) {i : Nat} (hi : i < S.Re.length) (x : Nat) : LOwn (w.setCell ⟨gr, i, none⟩ (.int .i64 (x : Int))) base U F { S with Re := S.Re.set i x } gu gf gr gw gh :=
  ⟨h.bu, h.bf, h.br, h.bw, h.bh, h.ou.far (a := ⟨gr, i, none⟩) (h.ou.ne_own h.or_ int_ne_label.symm) _, h.of_.far (a := ⟨gr, i, none⟩) (h.of_.ne_own h.or_ int_ne_label.symm) _, by show OwnAt _ _ _ (vI (castL (S.Re.set i x))); rw [vN_set]; exact h.or_.set (by simpa [castL] using hi) _, h.ow.far (a := ⟨gr, i, none⟩) h.rw.symm _, h.oh.far (a := ⟨gr, i, none⟩) h.rh.symm _, h.rw, h.rh, h.wh⟩
theorem LOwn.setW (h : LOwn w base U F S gu gf gr gw gh) {i : Nat} (hi : i < S.Wr.length) (x : Nat) : LOwn (w.setCell ⟨gw, i, none⟩ (.int .i64 (x : Int))) base U F { S with Wr := S.Wr.set i x } gu gf gr gw gh :=
  ⟨h.bu, h.bf, h.br, h.bw, h.bh, h.ou.far (a := ⟨gw, i, none⟩) (h.ou.ne_own h.ow int_ne_label.symm) _, h.of_.far (a := ⟨gw, i, none⟩) (h.of_.ne_own h.ow int_ne_label.symm) _, h.or_.far (a := ⟨gw, i, none⟩) h.rw _, by show OwnAt _ _ _ (vI (castL (S.Wr.set i x))); rw [vN_set]; exact h.ow.set (by simpa [castL] using hi) _, h.oh.far (a := ⟨gw, i, none⟩) h.wh.symm _, h.rw, h.rh, h.wh⟩
theorem LOwn.setH (h : LOwn w base U F S gu gf gr gw gh) {i : Nat} (hi : i < S.Ho.length) (x : Nat) : LOwn (w.setCell ⟨gh, i, none⟩ (.int .i64 (x : Int))) base U F { S with Ho := S.Ho.set i x } gu gf gr gw gh :=
  ⟨h.bu, h.bf, h.br, h.bw, h.bh, h.ou.far (a := ⟨gh, i, none⟩) (h.ou.ne_own h.oh int_ne_label.symm) _, h.of_.far (a := ⟨gh, i, none⟩) (h.of_.ne_own h.oh int_ne_label.symm) _, h.or_.far (a := ⟨gh, i, none⟩) h.rh _, h.ow.far (a := ⟨gh, i, none⟩) h.wh _, by show OwnAt _ _ _ (vI (castL (S.Ho.set i x))); rw [vN_set]; exact h.oh.set (by simpa [castL] using hi) _, h.rw, h.rh, h.wh⟩
end

/-- The addresses and rooms of a monitor's five slices. -/
structure LA where
  Au : Option Addr
  Af : Option Addr
  Ar : Option Addr
  Aw : Option Addr
  Ah : Option Addr
  cu : Nat
  cf : Nat
  cr : Nat
  cw : Nat
  ch : Nat
/-- The monitor at p. -/
structure BellAt (w : World) (base p : Nat) (U F : List Int) (S : LS) (A : LA) : Prop where
  bp : base ≤ p
  box : BoxN w p 226 #[.slice A.Au S.Re.length A.cu, .slice A.Af S.Ho.length A.cf, .slice A.Ar S.Re.length A.cr, .slice A.Aw S.Re.length A.cw, .slice A.Ah S.Ho.length A.ch]
  lu : U.length = S.Re.length * 2
  lf : F.length = S.Ho.length * 2
  lw : S.Wr.length = S.Re.length
  iu : IntsAt w A.Au U
  if_ : IntsAt w A.Af F
  ir : IntsAt w A.Ar (castL S.Re)
  iw : IntsAt w A.Aw (castL S.Wr)
  ih : IntsAt w A.Ah (castL S.Ho)
  own : S.Re ≠ [] → S.Ho ≠ [] → ∃ gu gf gr gw gh, A.Au = some ⟨gu, 0, none⟩ ∧ A.Af = some ⟨gf, 0, none⟩ ∧ A.Ar = some ⟨gr, 0, none⟩ ∧ A.Aw = some ⟨gw, 0, none⟩ ∧ A.Ah = some ⟨gh, 0, none⟩ ∧ LOwn w base U F S gu gf gr gw gh
section
variable {w w' : World} {base p : Nat} {U F : List Int} {S : LS} {A : LA}
theorem BellAt.all (h : BellAt w base p U F S A) (hb : Below w.heap.size w w') : BellAt w' base p U F S A :=
  ⟨h.bp, h.box.all hb, h.lu, h.lf, h.lw, h.iu.below hb, h.if_.below hb, h.ir.below hb, h.iw.below hb, h.ih.below hb, fun h1 h2 => by
    obtain ⟨gu, gf, gr, gw, gh, e1, e2, e3, e4, e5, ho⟩ := h.own h1 h2
    exact ⟨gu, gf, gr, gw, gh, e1, e2, e3, e4, e5, ho.all hb⟩⟩
theorem LReads_any (h : BellAt w base p U F S A) (hl : S.Re.length < 2 ^ 60) (u : Int) :
    Calls Tryz.prog 114 #[.pointer (some ⟨p, 0, none⟩), .int .i64 u] w fun e w' => e = .returned (.int .i64 (told S.Re u : Nat)) ∧ w = w' := by
  have c0 : w.cell? ⟨p, 0, none⟩ = some (.slice A.Au S.Re.length A.cu) := h.box.cell rfl
  have c1 : w.cell? ⟨p, 2, none⟩ = some (.slice A.Ar S.Re.length A.cr) := h.box.cell rfl
  by_cases hu : 0 ≤ u ∧ u < S.Re.length
  · obtain ⟨un, rfl⟩ := Int.eq_ofNat_of_zero_le hu.1
    have hun : un < S.Re.length := by omega
    obtain ⟨b, off, hA, hc⟩ := h.ir.row hun
    rw [hA] at c1
    have C1 := Lib.hid (fun V => Within3_is (un : Int) 0 ((S.Re.length : Int) - 1) true V (by simp; omega))
    have Hv := Lib.hid (show told S.Re un = row S.Re un by unfold told; rw [if_pos hu]; rfl)
    clear h hu hA
    generalize row S.Re un = x at *
    generalize S.Re.length = n at *
    go_enter Tryz.func114, Tryz.ntmps114
    go_wp2_with (go_at_call 41; with_reducible refine (C1.out _).mono ?_; rintro e w' ⟨rfl, rfl⟩)
    go_ret
    exact ⟨ret_int (by rw [Hv.out]), rfl⟩
  · have C1 := Lib.hid (fun V => Within3_is u 0 ((S.Re.length : Int) - 1) false V (by simp; omega))
    have Hv := Lib.hid (show told S.Re u = 0 by unfold told; rw [if_neg hu])
    clear h hu
    generalize S.Re.length = n at *
    go_enter Tryz.func114, Tryz.ntmps114
    go_wp2_with (go_at_call 41; with_reducible refine (C1.out _).mono ?_; rintro e w' ⟨rfl, rfl⟩)
    go_ret
    exact ⟨ret_int (by rw [Hv.out]; rfl), rfl⟩
theorem LWrites_any (h : BellAt w base p U F S A) (hl : S.Re.length < 2 ^ 60) (u : Int) :
    Calls Tryz.prog 115 #[.pointer (some ⟨p, 0, none⟩), .int .i64 u] w fun e w' => e = .returned (.int .i64 (told S.Wr u : Nat)) ∧ w = w' := by
  have c0 : w.cell? ⟨p, 0, none⟩ = some (.slice A.Au S.Re.length A.cu) := h.box.cell rfl
  have c1 : w.cell? ⟨p, 3, none⟩ = some (.slice A.Aw S.Re.length A.cw) := h.box.cell rfl
  have hlw := h.lw
  by_cases hu : 0 ≤ u ∧ u < S.Re.length
  · obtain ⟨un, rfl⟩ := Int.eq_ofNat_of_zero_le hu.1
    have hun : un < S.Re.length := by omega
    obtain ⟨b, off, hA, hc⟩ := h.iw.row (k := un) (by omega)
    rw [hA] at c1
    have C1 := Lib.hid (fun V => Within3_is (un : Int) 0 ((S.Re.length : Int) - 1) true V (by simp; omega))
    have Hv := Lib.hid (show told S.Wr un = row S.Wr un by unfold told; rw [if_pos (by omega)]; rfl)
    clear h hu hA hlw
    generalize row S.Wr un = x at *
    generalize S.Re.length = n at *
    go_enter Tryz.func115, Tryz.ntmps115
    go_wp2_with (go_at_call 41; with_reducible refine (C1.out _).mono ?_; rintro e w' ⟨rfl, rfl⟩)
    go_ret
    exact ⟨ret_int (by rw [Hv.out]), rfl⟩
  · have C1 := Lib.hid (fun V => Within3_is u 0 ((S.Re.length : Int) - 1) false V (by simp; omega))
    have Hv := Lib.hid (show told S.Wr u = 0 by unfold told; rw [if_neg (by omega)])
    clear h hu hlw
    generalize S.Re.length = n at *
    go_enter Tryz.func115, Tryz.ntmps115
    go_wp2_with (go_at_call 41; with_reducible refine (C1.out _).mono ?_; rintro e w' ⟨rfl, rfl⟩)
    go_ret
    exact ⟨ret_int (by rw [Hv.out]; rfl), rfl⟩
theorem LHolds_any (h : BellAt w base p U F S A) (hl : S.Ho.length < 2 ^ 60) (u : Int) :
    Calls Tryz.prog 116 #[.pointer (some ⟨p, 0, none⟩), .int .i64 u] w fun e w' => e = .returned (.int .i64 (told S.Ho u : Nat)) ∧ w = w' := by
  have c0 : w.cell? ⟨p, 1, none⟩ = some (.slice A.Af S.Ho.length A.cf) := h.box.cell rfl
  have c1 : w.cell? ⟨p, 4, none⟩ = some (.slice A.Ah S.Ho.length A.ch) := h.box.cell rfl
  by_cases hu : 0 ≤ u ∧ u < S.Ho.length
  · obtain ⟨un, rfl⟩ := Int.eq_ofNat_of_zero_le hu.1
    have hun : un < S.Ho.length := by omega
    obtain ⟨b, off, hA, hc⟩ := h.ih.row hun
    rw [hA] at c1
    have C1 := Lib.hid (fun V => Within3_is (un : Int) 0 ((S.Ho.length : Int) - 1) true V (by simp; omega))
    have Hv := Lib.hid (show told S.Ho un = row S.Ho un by unfold told; rw [if_pos hu]; rfl)
    clear h hu hA
    generalize row S.Ho un = x at *
    generalize S.Ho.length = n at *
    go_enter Tryz.func116, Tryz.ntmps116
    go_wp2_with (go_at_call 41; with_reducible refine (C1.out _).mono ?_; rintro e w' ⟨rfl, rfl⟩)
    go_ret
    exact ⟨ret_int (by rw [Hv.out]), rfl⟩
  · have C1 := Lib.hid (fun V => Within3_is u 0 ((S.Ho.length : Int) - 1) false V (by simp; omega))
    have Hv := Lib.hid (show told S.Ho u = 0 by unfold told; rw [if_neg hu])
    clear h hu
    generalize S.Ho.length = n at *
    go_enter Tryz.func116, Tryz.ntmps116
    go_wp2_with (go_at_call 41; with_reducible refine (C1.out _).mono ?_; rintro e w' ⟨rfl, rfl⟩)
    go_ret
    exact ⟨ret_int (by rw [Hv.out]; rfl), rfl⟩
end

/-- A label as a value. -/
theorem lbelow_any (v v' s s' : Int) (h : labOk v s) (h' : labOk v' s') (w : World) {r : Bool} (hr : (decide (v ≤ v') && within s.toNat s'.toNat) = r) :
    Calls Tryz.prog 146 #[.agg #[.int .i64 v, .int .i64 s], .agg #[.int .i64 v', .int .i64 s']] w fun e w' => e = .returned (.bool r) ∧ Below w.heap.size w w' := by
  obtain ⟨sn, rfl⟩ := Int.eq_ofNat_of_zero_le h.2.2.1
  obtain ⟨sn', rfl⟩ := Int.eq_ofNat_of_zero_le h'.2.2.1
  simp only [Int.toNat_natCast] at hr
  have H := fun V => Below_ok v v' sn sn' V h h'
  rw [hr] at H
  have H := Lib.hid H
  clear h h' hr
  go_enter Tryz.func146, Tryz.ntmps146
  go_wp2_with fail
  refine (H.out _).mono ?_
  rintro e w1 ⟨rfl, hb1⟩
  go_wp2_with fail
  go_ret
  exact ⟨rfl, (((Below.refl _ w).alloc (Nat.le_refl _) _).alloc (by simp) _).trans (hb1.mono (by simp; omega))⟩
end Go.Proofs.YtanlmfnhlldkeaaGreatDoor

namespace Go.Proofs.YtanlmfnhlldkeaaGreatDoor
open Go.RowKit
attribute [local go_sem] Oper.semAt_some
attribute [local simp, local go_sem] wide_fn
set_option maxRecDepth 100000
set_option linter.unusedVariables false

section
variable {w w' : World} {base p : Nat} {U F : List Int} {S : LS} {A : LA}
set_option maxHeartbeats 4000000 in
theorem all_any (h : BellAt w base p U F S A) (hT : Tab w) (hn8 : S.Ho.length ≤ 8) (s : Nat) (hs8 : s < 2 ^ S.Ho.length) (ok : Nat → Bool) (fn : FuncId) (caps : Array Value) (hen : Enters Tryz.prog fn)
    (hw : ∀ V i, Below w.heap.size w V → i < S.Ho.length → Calls Tryz.prog fn (#[.agg #[.int .i64 (gI F (i * 2)), .int .i64 (gI F (i * 2 + 1))]] ++ caps) V fun e w' => e = .returned (.bool (ok i)) ∧ Below V.heap.size V w') {r : Bool} (hr : allIn s ok = r) :
    Calls Tryz.prog 147 #[.pointer (some ⟨p, 0, none⟩), .int .i64 s, .func (.func fn) #[] caps] w fun e w' => e = .returned (.bool r) ∧ Below w.heap.size w w' := by
  refine (callsIn_wide (n := 8)).1 ?_
  have hg := hT.lt
  have hs256 : s < 256 := lt256 hs8 hn8
  have c0 : w.cell? ⟨p, 1, none⟩ = some (.slice A.Af S.Ho.length A.cf) := h.box.cell rfl
  have hp := h.box.lt
  have Hot := Lib.hid (show r = (bitsOf s).all ok from hr.symm)
  have Hbit := Lib.hid (fun x (hx : s.testBit x = true) => bit_below hs8 hx)
  have Hmem := Lib.hid (fun i => mem_bitsOf (r := s) (i := i) (by omega))
  have Hf := Lib.hid h.if_
  have Hlf := Lib.hid h.lf
  clear h hs8 hr
  generalize S.Ho.length = n at *
  have hrc : ∀ (args : Array Value) (V : World), (callFunc fn args).run Tryz.prog V = .ok (.enter fn args) V := fun args V => hen args V
  refine callsIn_of_wp_marks Tryz.func147 rfl trivial ?_ rfl
  simp only [Tryz.ntmps147, List.size_toArray, List.length_cons, List.length_nil, Nat.reduceAdd, Nat.reduceSub, Array.replicate_succ, Array.replicate_zero, List.push_toArray, List.append_toArray, List.nil_append, List.cons_append]
  gi_wp2_with fail
  have hx1 := ((BoxN.new w 189 #[.pointer (some ⟨p, 0, none⟩)]).alloc (.cells #[.func (.func fn) #[] caps] 230)).alloc (.cells #[.bool false] 4)
  have hx2 := (BoxN.new (w.alloc (.cells #[.pointer (some ⟨p, 0, none⟩)] 189)) 230 #[.func (.func fn) #[] caps]).alloc (.cells #[.bool false] 4)
  have hx3 := BoxN.new ((w.alloc (.cells #[.pointer (some ⟨p, 0, none⟩)] 189)).alloc (.cells #[.func (.func fn) #[] caps] 230)) 4 #[.bool false]
  have hbl : Below w.heap.size w (((w.alloc (.cells #[.pointer (some ⟨p, 0, none⟩)] 189)).alloc (.cells #[.func (.func fn) #[] caps] 230)).alloc (.cells #[.bool false] 4)) := (((Below.refl _ _).alloc (Nat.le_refl _) _).alloc (by simp) _).alloc (by simp; omega) _
  have hsz : (((w.alloc (.cells #[.pointer (some ⟨p, 0, none⟩)] 189)).alloc (.cells #[.func (.func fn) #[] caps] 230)).alloc (.cells #[.bool false] 4)).heap.size = w.heap.size + 1 + 1 + 1 := by simp
  simp only [World.size_alloc] at hx2 hx3
  generalize hWW : ((w.alloc (.cells #[.pointer (some ⟨p, 0, none⟩)] 189)).alloc (.cells #[.func (.func fn) #[] caps] 230)).alloc (.cells #[.bool false] 4) = W at *
  have Hsz := Lib.hid hsz
  clear hsz hWW
  refine (callsIn_wide.2 (Bits_any (s : Nat) _)).mono ?_
  rintro e w4 ⟨rfl, rfl⟩
  have hbX : Below W.heap.size W (W.alloc (.cells #[.int .i64 (s : Nat)] 3)) := (Below.refl _ _).alloc (Nat.le_refl _) _
  have hxd : BoxN (W.alloc (.cells #[.int .i64 (s : Nat)] 3)) W.heap.size 3 #[.int .i64 (s : Nat)] := BoxN.new W _ _
  have hsX : (W.alloc (.cells #[.int .i64 (s : Nat)] 3)).heap.size = W.heap.size + 1 := by simp
  gi_wp2_with fail
  generalize W.alloc (.cells #[.int .i64 (s : Nat)] 3) = X at *
  have hy1 := hx1.all hbX
  have hy2 := hx2.all hbX
  have hy3 := hx3.all hbX
  have hsz1 : w.heap.size + 1 + 1 < W.heap.size := by rw [Hsz.out]; omega
  have hsz2 : W.heap.size < X.heap.size := by omega
  clear hsX
  have hblX := hbl.trans (hbX.mono (by omega))
  have hTX : Tab X := hT.next hblX
  clear hx1 hx2 hx3 hbX hbl hT
  refine wp_bits1 (by decide) 7 (B := W.heap.size) (s := s) rfl (hxd.cell rfl) (by omega) hTX
    (fun pre Y => Below X.heap.size X Y ∧ Hid (∀ x, x ∈ pre → ok x = true))
    (fun cd _ Y => cd = .ret ∧ r = false ∧ BoxN Y (w.heap.size + 1 + 1) 4 #[.bool false] ∧ Below w.heap.size w Y)
    (fun _ _ _ _ hs hg hr => ⟨below_own hs.1 (Nat.le_refl _) (Nat.le_refl _) hg hr, hs.2⟩)
    (fun _ _ _ _ _ hs hg hr => ⟨hs.1, hs.2.1, hs.2.2.1.own hg (fun r e => (hr r e).2), below_own hs.2.2.2 (Nat.le_refl _) (by omega) hg hr⟩)
    ⟨Below.refl _ _, fun x hx => by cases hx⟩ ?assign ?body ?done ?stop
  case assign =>
    intro l x Y K hK
    gi_wp2
    exact hK
  case body =>
    rintro l pre x Y hx hlen' ⟨hY, hpre⟩
    have hxn : x < n := Hbit.out x hx
    have hY1 := hy1.all hY
    have hY2 := hy2.all hY
    have hY3 := hy3.all hY
    have hblY := hblX.trans (hY.mono hblX.size)
    have a1 : Y.cell? ⟨w.heap.size, 0, none⟩ = some (.pointer (some ⟨p, 0, none⟩)) := hY1.cell rfl
    have a2 : Y.cell? ⟨w.heap.size + 1, 0, none⟩ = some (.func (.func fn) #[] caps) := hY2.cell rfl
    obtain ⟨bt, ot, hA, hct⟩ := Hf.out (by intro e; have := Hlf.out; simp [e] at this; omega)
    have b0 := (hblY.cell (p := ⟨p, 1, none⟩) (by show p < _; omega)).trans c0
    rw [hA] at b0
    have hlf := Hlf.out
    have p1 := hct (x * 2) _ (get_gI (by omega))
    have p2 : w.cell? ⟨bt, ot + x * 2 + 1, none⟩ = some (.int .i64 (gI F (x * 2 + 1))) := hct (x * 2 + 1) _ (get_gI (by omega))
    have hbt : bt < w.heap.size := block_lt p1
    have b1 := (hblY.cell (p := ⟨bt, ot + x * 2, none⟩) hbt).trans p1
    have b2 := (hblY.cell (p := ⟨bt, ot + x * 2 + 1, none⟩) hbt).trans p2
    have HW := Lib.hid (fun V (hV : Below Y.heap.size Y V) => (hw V x (hblY.trans (hV.mono hblY.size)) hxn).mono fun e w' ⟨he, hb⟩ => (⟨he, hV.trans (hb.mono hV.size)⟩ : _ ∧ Below Y.heap.size Y w'))
    have hp1 : ok x = true → ∀ y, y ∈ pre ++ [x] → ok y = true := fun h y hy => by
      rcases List.mem_append.1 hy with hy | hy
      · exact hpre.out y hy
      · obtain rfl := List.mem_singleton.1 hy; exact h
    have Hp1 := Lib.hid hp1
    have Hr1 := Lib.hid (fun (h : ok x = false) => show r = false from by
      rw [Hot.out, List.all_eq_false]; exact ⟨x, (Hmem.out x).2 hx, by rw [h]; decide⟩)
    clear hpre hp1 p1 p2 hct hA hlf
    generalize gI F (x * 2) = lv at *
    generalize gI F (x * 2 + 1) = ls at *
    simp only [List.setIfInBounds_toArray, List.set_cons_succ, List.set_cons_zero]
    cases hok : ok x with
    | true =>
      rw [hok] at HW Hp1
      have Hp2 := Lib.hid (Hp1.out rfl)
      clear Hr1 Hp1 hok hw
      gi_wp2_with fail
      refine wpIn_round_still_tail 8 (by kernel_rfl) (by kernel_rfl) (by kernel_rfl) ?_
      simp only [List.take_succ_cons, List.take_zero, List.drop_succ_cons, List.drop_zero]
      repeat still_step
      refine wpStill_nil ?_
      go_wp2_with fail
      refine (HW.out _ ((Below.refl _ _).drew)).mono ?_
      rintro e w5 ⟨rfl, hb5⟩
      go_wp2_with fail
      simp only [OnlyNormal]
      gi_wp2_with fail
      exact ⟨(keepsOthers_below hb5).from _, hb5.mono (by have := hY.size; omega), hY.trans (hb5.mono (by have := hY.size; omega)), Hp2⟩
    | false =>
      rw [hok] at HW
      have hr := Hr1.out hok
      clear Hr1 Hp1 hok hw
      gi_wp2_with fail
      refine wpIn_round_still_tail 8 (by kernel_rfl) (by kernel_rfl) (by kernel_rfl) ?_
      simp only [List.take_succ_cons, List.take_zero, List.drop_succ_cons, List.drop_zero]
      repeat still_step
      refine wpStill_nil ?_
      go_wp2_with fail
      refine (HW.out _ ((Below.refl _ _).drew)).mono ?_
      rintro e w5 ⟨rfl, hb5⟩
      have hY3' := hY3.all hb5
      have a3 : w5.cell? ⟨w.heap.size + 1 + 1, 0, none⟩ = some (.bool false) := hY3'.cell rfl
      have f3 := hY3'.free 0
      go_wp2_with fail
      simp only [OnlyNormal]
      gi_wp2_with fail
      exact ⟨((keepsOthers_below hb5).trans (KeepsOthers.setCell _ _ _)).from _, rfl, hr, hY3'.set 0 (.bool false), (hblY.trans (hb5.mono hblY.size)).setCell (by simp; omega) _⟩
  case done =>
    rintro D Z hD ⟨hZ, hpre⟩ hK
    have hr : r = true := by
      rw [Hot.out, List.all_eq_true]
      exact fun x hx => hpre.out x hx
    subst hr
    clear hpre Hot
    have hZ3 := hy3.all hZ
    have a3 : Z.cell? ⟨w.heap.size + 1 + 1, 0, none⟩ = some (.bool false) := hZ3.cell rfl
    have f3 := hZ3.free 0
    gi_wp2_with fail
    refine leaves_marks (B := w.heap.size) [D] _ ((MarksAt.nil.cons (by omega) (by simp) hK).setCell _ _) fun w' hsc hb' _ => ?_
    have d3 : w'.cell? ⟨w.heap.size + 1 + 1, 0, none⟩ = some (.bool true) := (hsc.cell _).trans ((hZ3.set 0 (.bool true)).cell rfl)
    refine ⟨.bool true, by simp [results, Tryz.f147, go_sem, d3], rfl, ((hblX.trans (hZ.mono (by omega))).setCell (by simp; omega) _).trans hb'⟩
  case stop =>
    rintro D cd pre Z hD _ ⟨rfl, hord, b3, hblZ⟩ hK
    subst hord
    gi_wp2_with fail
    refine leaves_marks (B := w.heap.size) [D] Z (MarksAt.nil.cons (by omega) (by simp) hK) fun w' hsc hb' _ => ?_
    have d3 : w'.cell? ⟨w.heap.size + 1 + 1, 0, none⟩ = some (.bool false) := (hsc.cell _).trans (b3.cell rfl)
    refine ⟨.bool false, by simp [results, Tryz.f147, go_sem, d3], rfl, hblZ.trans hb'⟩
/-- Is the file below another one? -/
theorem askOne_any (v v' s s' : Int) (h : labOk v s) (h' : labOk v' s') {x : Nat} (hx : BoxN w x 144 #[.int .i64 v, .int .i64 s]) {r : Bool} (hr : (decide (v ≤ v') && within s.toNat s'.toNat) = r) :
    Calls Tryz.prog 148 #[.agg #[.int .i64 v', .int .i64 s'], .pointer (some ⟨x, 0, none⟩)] w fun e w' => e = .returned (.bool r) ∧ Below w.heap.size w w' := by
  have H := Lib.hid (fun V => lbelow_any v v' s s' h h' V hr)
  have hlt := hx.lt
  have c0 := hx.cell (k := 0) rfl
  have c1 := hx.cell (k := 1) rfl
  clear h h' hr
  go_enter Tryz.func148, Tryz.ntmps148
  go_wp2_with fail
  refine (H.out _).mono ?_
  rintro e w1 ⟨rfl, hb1⟩
  go_wp2_with fail
  go_ret
  exact ⟨rfl, ((Below.refl _ w).alloc (Nat.le_refl _) _).trans (hb1.mono (by simp))⟩
theorem askTwo_any (v v' s s' : Int) (h : labOk v s) (h' : labOk v' s') {x : Nat} (hx : BoxN w x 144 #[.int .i64 v', .int .i64 s']) {r : Bool} (hr : (decide (v ≤ v') && within s.toNat s'.toNat) = r) :
    Calls Tryz.prog 149 #[.agg #[.int .i64 v, .int .i64 s], .pointer (some ⟨x, 0, none⟩)] w fun e w' => e = .returned (.bool r) ∧ Below w.heap.size w w' := by
  have H := Lib.hid (fun V => lbelow_any v v' s s' h h' V hr)
  have hlt := hx.lt
  have c0 := hx.cell (k := 0) rfl
  have c1 := hx.cell (k := 1) rfl
  clear h h' hr
  go_enter Tryz.func149, Tryz.ntmps149
  go_wp2_with fail
  refine (H.out _).mono ?_
  rintro e w1 ⟨rfl, hb1⟩
  go_wp2_with fail
  go_ret
  exact ⟨rfl, ((Below.refl _ w).alloc (Nat.le_refl _) _).trans (hb1.mono (by simp))⟩
end
end Go.Proofs.YtanlmfnhlldkeaaGreatDoor

namespace Go.Proofs.YtanlmfnhlldkeaaGreatDoor
open Go.RowKit
set_option maxRecDepth 100000
set_option linter.unusedVariables false

section
variable {w V : World} {base p : Nat} {U F : List Int} {S : LS} {A : LA} {gu gf gr gw gh : Nat}
/-- The monitor's addresses are those of its rows. -/
structure Rows5 (A : LA) (gu gf gr gw gh : Nat) : Prop where
  eu : A.Au = some ⟨gu, 0, none⟩
  ef : A.Af = some ⟨gf, 0, none⟩
  er : A.Ar = some ⟨gr, 0, none⟩
  ew : A.Aw = some ⟨gw, 0, none⟩
  eh : A.Ah = some ⟨gh, 0, none⟩
theorem BellAt.of (h : BellAt w base p U F S A) (e : Rows5 A gu gf gr gw gh) {V : World} {S' : LS} (hbox : BoxN V p 226 #[.slice A.Au S'.Re.length A.cu, .slice A.Af S'.Ho.length A.cf, .slice A.Ar S'.Re.length A.cr, .slice A.Aw S'.Re.length A.cw, .slice A.Ah S'.Ho.length A.ch])
    (l1 : S'.Re.length = S.Re.length) (l2 : S'.Ho.length = S.Ho.length) (l3 : S'.Wr.length = S.Wr.length) (ho : LOwn V base U F S' gu gf gr gw gh) : BellAt V base p U F S' A :=
  ⟨h.bp, hbox, by rw [l1]; exact h.lu, by rw [l2]; exact h.lf, by rw [l1, l3]; exact h.lw, by rw [e.eu]; exact ho.ou.ints, by rw [e.ef]; exact ho.of_.ints, by rw [e.er]; exact ho.or_.ints, by rw [e.ew]; exact ho.ow.ints, by rw [e.eh]; exact ho.oh.ints, fun _ _ => ⟨gu, gf, gr, gw, gh, e.eu, e.ef, e.er, e.ew, e.eh, ho⟩⟩
theorem BellAt.setR {ok : Nat → Prop} (ng : ¬ ok gr) (h : BellAt w base p U F S A) (e : Rows5 A gu gf gr gw gh) (ho : LOwn w base U F S gu gf gr gw gh) (hB : base ≤ w.heap.size) (hb : Below w.heap.size w V) {i x : Nat} (hi : i < S.Re.length) {z : Int} (hz : z = x) :
    BellAt (V.setCell ⟨gr, i, none⟩ (.int .i64 z)) base p U F { S with Re := S.Re.set i x } A ∧ LOwn (V.setCell ⟨gr, i, none⟩ (.int .i64 z)) base U F { S with Re := S.Re.set i x } gu gf gr gw gh ∧ Below base w (V.setCell ⟨gr, i, none⟩ (.int .i64 z)) ∧ KeepsT 3 w (V.setCell ⟨gr, i, none⟩ (.int .i64 z)) ∧ Spares ok w (V.setCell ⟨gr, i, none⟩ (.int .i64 z)) := by
  subst hz
  have hV := ho.all hb
  have hS := hV.setR hi x
  have hbx : BoxN (V.setCell ⟨gr, i, none⟩ (.int .i64 (x : Int))) p 226 #[.slice A.Au ({ S with Re := S.Re.set i x } : LS).Re.length A.cu, .slice A.Af ({ S with Re := S.Re.set i x } : LS).Ho.length A.cf, .slice A.Ar ({ S with Re := S.Re.set i x } : LS).Re.length A.cr, .slice A.Aw ({ S with Re := S.Re.set i x } : LS).Re.length A.cw, .slice A.Ah ({ S with Re := S.Re.set i x } : LS).Ho.length A.ch] := by
    show BoxN _ _ _ #[.slice A.Au (S.Re.set i x).length A.cu, .slice A.Af S.Ho.length A.cf, .slice A.Ar (S.Re.set i x).length A.cr, .slice A.Aw (S.Re.set i x).length A.cw, .slice A.Ah S.Ho.length A.ch]
    rw [List.length_set]
    exact (h.box.all hb).other (a := ⟨gr, i, none⟩) (ho.or_.ne_box h.box int_ne_bell).symm _
  refine ⟨h.of e hbx (by simp) (by simp) (by simp) hS, hS, (hb.mono hB).setCell (p := ⟨gr, i, none⟩) ho.br _, ?_⟩
  obtain ⟨cur, hg, _⟩ := hV.or_
  refine ⟨(KeepsT.of_below hb).setCell hg _ _, fun b hok hbl => ?_⟩
  rw [Below.heap_setCell _ _ _ _ (fun e' => ng (by have e' : b = gr := e'; rw [← e']; exact hok))]
  exact hb.block b hbl
theorem BellAt.setW {ok : Nat → Prop} (ng : ¬ ok gw) (h : BellAt w base p U F S A) (e : Rows5 A gu gf gr gw gh) (ho : LOwn w base U F S gu gf gr gw gh) (hB : base ≤ w.heap.size) (hb : Below w.heap.size w V) {i x : Nat} (hi : i < S.Wr.length) {z : Int} (hz : z = x) :
    BellAt (V.setCell ⟨gw, i, none⟩ (.int .i64 z)) base p U F { S with Wr := S.Wr.set i x } A ∧ LOwn (V.setCell ⟨gw, i, none⟩ (.int .i64 z)) base U F { S with Wr := S.Wr.set i x } gu gf gr gw gh ∧ Below base w (V.setCell ⟨gw, i, none⟩ (.int .i64 z)) ∧ KeepsT 3 w (V.setCell ⟨gw, i, none⟩ (.int .i64 z)) ∧ Spares ok w (V.setCell ⟨gw, i, none⟩ (.int .i64 z)) := by
  subst hz
  have hV := ho.all hb
  have hS := hV.setW hi x
  have hbx : BoxN (V.setCell ⟨gw, i, none⟩ (.int .i64 (x : Int))) p 226 #[.slice A.Au ({ S with Wr := S.Wr.set i x } : LS).Re.length A.cu, .slice A.Af ({ S with Wr := S.Wr.set i x } : LS).Ho.length A.cf, .slice A.Ar ({ S with Wr := S.Wr.set i x } : LS).Re.length A.cr, .slice A.Aw ({ S with Wr := S.Wr.set i x } : LS).Re.length A.cw, .slice A.Ah ({ S with Wr := S.Wr.set i x } : LS).Ho.length A.ch] := (h.box.all hb).other (a := ⟨gw, i, none⟩) (ho.ow.ne_box h.box int_ne_bell).symm _
  refine ⟨h.of e hbx (by simp) (by simp) (by simp) hS, hS, (hb.mono hB).setCell (p := ⟨gw, i, none⟩) ho.bw _, ?_⟩
  obtain ⟨cur, hg, _⟩ := hV.ow
  refine ⟨(KeepsT.of_below hb).setCell hg _ _, fun b hok hbl => ?_⟩
  rw [Below.heap_setCell _ _ _ _ (fun e' => ng (by have e' : b = gw := e'; rw [← e']; exact hok))]
  exact hb.block b hbl
theorem BellAt.setH {ok : Nat → Prop} (ng : ¬ ok gh) (h : BellAt w base p U F S A) (e : Rows5 A gu gf gr gw gh) (ho : LOwn w base U F S gu gf gr gw gh) (hB : base ≤ w.heap.size) (hb : Below w.heap.size w V) {i x : Nat} (hi : i < S.Ho.length) {z : Int} (hz : z = x) :
    BellAt (V.setCell ⟨gh, i, none⟩ (.int .i64 z)) base p U F { S with Ho := S.Ho.set i x } A ∧ LOwn (V.setCell ⟨gh, i, none⟩ (.int .i64 z)) base U F { S with Ho := S.Ho.set i x } gu gf gr gw gh ∧ Below base w (V.setCell ⟨gh, i, none⟩ (.int .i64 z)) ∧ KeepsT 3 w (V.setCell ⟨gh, i, none⟩ (.int .i64 z)) ∧ Spares ok w (V.setCell ⟨gh, i, none⟩ (.int .i64 z)) := by
  subst hz
  have hV := ho.all hb
  have hS := hV.setH hi x
  have hbx : BoxN (V.setCell ⟨gh, i, none⟩ (.int .i64 (x : Int))) p 226 #[.slice A.Au ({ S with Ho := S.Ho.set i x } : LS).Re.length A.cu, .slice A.Af ({ S with Ho := S.Ho.set i x } : LS).Ho.length A.cf, .slice A.Ar ({ S with Ho := S.Ho.set i x } : LS).Re.length A.cr, .slice A.Aw ({ S with Ho := S.Ho.set i x } : LS).Re.length A.cw, .slice A.Ah ({ S with Ho := S.Ho.set i x } : LS).Ho.length A.ch] := by
    show BoxN _ _ _ #[.slice A.Au S.Re.length A.cu, .slice A.Af (S.Ho.set i x).length A.cf, .slice A.Ar S.Re.length A.cr, .slice A.Aw S.Re.length A.cw, .slice A.Ah (S.Ho.set i x).length A.ch]
    rw [List.length_set]
    exact (h.box.all hb).other (a := ⟨gh, i, none⟩) (ho.oh.ne_box h.box int_ne_bell).symm _
  refine ⟨h.of e hbx (by simp) (by simp) (by simp) hS, hS, (hb.mono hB).setCell (p := ⟨gh, i, none⟩) ho.bh _, ?_⟩
  obtain ⟨cur, hg, _⟩ := hV.oh
  refine ⟨(KeepsT.of_below hb).setCell hg _ _, fun b hok hbl => ?_⟩
  rw [Below.heap_setCell _ _ _ _ (fun e' => ng (by have e' : b = gh := e'; rw [← e']; exact hok))]
  exact hb.block b hbl
set_option maxHeartbeats 1000000 in
theorem LAsk_range (h : BellAt w base p U F S A) (hl : S.Re.length ≤ 100) (hl2 : S.Ho.length ≤ 100) (k u f t : Int) (hno : ¬ lOk S k u f t) :
    Calls Tryz.prog 119 #[.pointer (some ⟨p, 0, none⟩), .agg #[.int .i64 k, .int .i64 u, .int .i64 f, .int .i64 t]] w fun e w' => e = .returned (.iface 63 (.int .i64 1)) ∧ Below w.heap.size w w' := by
  have c0 : w.cell? ⟨p, 0, none⟩ = some (.slice A.Au S.Re.length A.cu) := h.box.cell rfl
  have c1 : w.cell? ⟨p, 1, none⟩ = some (.slice A.Af S.Ho.length A.cf) := h.box.cell rfl
  have hp := h.box.lt
  unfold lOk at hno
  by_cases h1 : 0 ≤ k ∧ k ≤ 3
  · have C1 := Lib.hid (fun V => Within3_is k 0 3 true V (by simp; omega))
    by_cases h2 : 0 ≤ u ∧ u < S.Re.length
    · have C2 := Lib.hid (fun V => Within3_is u 0 ((S.Re.length : Int) - 1) true V (by simp; omega))
      by_cases h3 : 0 ≤ f ∧ f < S.Ho.length
      · have C3 := Lib.hid (fun V => Within3_is f 0 ((S.Ho.length : Int) - 1) true V (by simp; omega))
        have hk3 : k = 3 := Classical.byContradiction fun e => hno ⟨⟨h1, h2, h3⟩, fun e' => absurd e' e⟩
        have ht : ¬ (0 ≤ t ∧ t < S.Ho.length) := fun e => hno ⟨⟨h1, h2, h3⟩, fun _ => e⟩
        have C4 := Lib.hid (fun V => Within3_is t 0 ((S.Ho.length : Int) - 1) false V (by simp; omega))
        subst hk3
        clear h1 h2 h3 hno ht
        have hb : Below w.heap.size w (w.alloc (.cells #[.int .i64 3, .int .i64 u, .int .i64 f, .int .i64 t] 157)) := (Below.refl _ _).alloc (Nat.le_refl _) _
        have hx2 := BoxN.new w 157 #[.int .i64 3, .int .i64 u, .int .i64 f, .int .i64 t]
        have hsz : (w.alloc (.cells #[.int .i64 3, .int .i64 u, .int .i64 f, .int .i64 t] 157)).heap.size = w.heap.size + 1 := by simp
        generalize hWA : (w.alloc (.cells #[.int .i64 3, .int .i64 u, .int .i64 f, .int .i64 t] 157)) = WA at *
        have Hsz := Lib.hid hsz
        clear hsz
        have e0 : WA.cell? ⟨p, 0, none⟩ = some (.slice A.Au S.Re.length A.cu) := (hb.cell (p := ⟨p, 0, none⟩) hp).trans c0
        have e1 : WA.cell? ⟨p, 1, none⟩ = some (.slice A.Af S.Ho.length A.cf) := (hb.cell (p := ⟨p, 1, none⟩) hp).trans c1
        have y0 : WA.cell? ⟨w.heap.size, 0, none⟩ = some (.int .i64 3) := hx2.cell rfl
        have y1 : WA.cell? ⟨w.heap.size, 1, none⟩ = some (.int .i64 u) := hx2.cell rfl
        have y2 : WA.cell? ⟨w.heap.size, 2, none⟩ = some (.int .i64 f) := hx2.cell rfl
        have y3 : WA.cell? ⟨w.heap.size, 3, none⟩ = some (.int .i64 t) := hx2.cell rfl
        clear h
        generalize S.Re.length = nu at *
        generalize S.Ho.length = nf at *
        go_enter Tryz.func119, Tryz.ntmps119
        go_wp2_with fail
        go_quiet (first | (with_reducible exact quiet1 (C1.out _)) | (with_reducible exact quiet1 (C2.out _)) | (with_reducible exact quiet1 (C3.out _)))
        go_wp2_with fail
        go_quiet (with_reducible exact quiet2 (C4.out _))
        go_wp2_with fail
        go_ret
        exact ⟨rfl, belowD hb _⟩

      · have C3 := Lib.hid (fun V => Within3_is f 0 ((S.Ho.length : Int) - 1) false V (by simp; omega))
        clear h1 h2 h3 hno
        have hb : Below w.heap.size w (w.alloc (.cells #[.int .i64 k, .int .i64 u, .int .i64 f, .int .i64 t] 157)) := (Below.refl _ _).alloc (Nat.le_refl _) _
        have hx2 := BoxN.new w 157 #[.int .i64 k, .int .i64 u, .int .i64 f, .int .i64 t]
        have hsz : (w.alloc (.cells #[.int .i64 k, .int .i64 u, .int .i64 f, .int .i64 t] 157)).heap.size = w.heap.size + 1 := by simp
        generalize hWA : (w.alloc (.cells #[.int .i64 k, .int .i64 u, .int .i64 f, .int .i64 t] 157)) = WA at *
        have Hsz := Lib.hid hsz
        clear hsz
        have e0 : WA.cell? ⟨p, 0, none⟩ = some (.slice A.Au S.Re.length A.cu) := (hb.cell (p := ⟨p, 0, none⟩) hp).trans c0
        have e1 : WA.cell? ⟨p, 1, none⟩ = some (.slice A.Af S.Ho.length A.cf) := (hb.cell (p := ⟨p, 1, none⟩) hp).trans c1
        have y0 : WA.cell? ⟨w.heap.size, 0, none⟩ = some (.int .i64 k) := hx2.cell rfl
        have y1 : WA.cell? ⟨w.heap.size, 1, none⟩ = some (.int .i64 u) := hx2.cell rfl
        have y2 : WA.cell? ⟨w.heap.size, 2, none⟩ = some (.int .i64 f) := hx2.cell rfl
        have y3 : WA.cell? ⟨w.heap.size, 3, none⟩ = some (.int .i64 t) := hx2.cell rfl
        clear h
        generalize S.Re.length = nu at *
        generalize S.Ho.length = nf at *
        go_enter Tryz.func119, Tryz.ntmps119
        go_wp2_with fail
        go_quiet (first | (with_reducible exact quiet1 (C1.out _)) | (with_reducible exact quiet1 (C2.out _)) | (with_reducible exact quiet1 (C3.out _)))
        go_wp2_with fail
        go_ret
        exact ⟨rfl, belowD hb nq⟩

    · have C2 := Lib.hid (fun V => Within3_is u 0 ((S.Re.length : Int) - 1) false V (by simp; omega))
      clear h1 h2 hno
      have hb : Below w.heap.size w (w.alloc (.cells #[.int .i64 k, .int .i64 u, .int .i64 f, .int .i64 t] 157)) := (Below.refl _ _).alloc (Nat.le_refl _) _
      have hx2 := BoxN.new w 157 #[.int .i64 k, .int .i64 u, .int .i64 f, .int .i64 t]
      have hsz : (w.alloc (.cells #[.int .i64 k, .int .i64 u, .int .i64 f, .int .i64 t] 157)).heap.size = w.heap.size + 1 := by simp
      generalize hWA : (w.alloc (.cells #[.int .i64 k, .int .i64 u, .int .i64 f, .int .i64 t] 157)) = WA at *
      have Hsz := Lib.hid hsz
      clear hsz
      have e0 : WA.cell? ⟨p, 0, none⟩ = some (.slice A.Au S.Re.length A.cu) := (hb.cell (p := ⟨p, 0, none⟩) hp).trans c0
      have e1 : WA.cell? ⟨p, 1, none⟩ = some (.slice A.Af S.Ho.length A.cf) := (hb.cell (p := ⟨p, 1, none⟩) hp).trans c1
      have y0 : WA.cell? ⟨w.heap.size, 0, none⟩ = some (.int .i64 k) := hx2.cell rfl
      have y1 : WA.cell? ⟨w.heap.size, 1, none⟩ = some (.int .i64 u) := hx2.cell rfl
      have y2 : WA.cell? ⟨w.heap.size, 2, none⟩ = some (.int .i64 f) := hx2.cell rfl
      have y3 : WA.cell? ⟨w.heap.size, 3, none⟩ = some (.int .i64 t) := hx2.cell rfl
      clear h
      generalize S.Re.length = nu at *
      generalize S.Ho.length = nf at *
      go_enter Tryz.func119, Tryz.ntmps119
      go_wp2_with fail
      go_quiet (first | (with_reducible exact quiet1 (C1.out _)) | (with_reducible exact quiet1 (C2.out _)))
      go_wp2_with fail
      go_ret
      exact ⟨rfl, belowD hb nq⟩

  · have C1 := Lib.hid (fun V => Within3_is k 0 3 false V (by simp; omega))
    clear h1 hno
    have hb : Below w.heap.size w (w.alloc (.cells #[.int .i64 k, .int .i64 u, .int .i64 f, .int .i64 t] 157)) := (Below.refl _ _).alloc (Nat.le_refl _) _
    have hx2 := BoxN.new w 157 #[.int .i64 k, .int .i64 u, .int .i64 f, .int .i64 t]
    have hsz : (w.alloc (.cells #[.int .i64 k, .int .i64 u, .int .i64 f, .int .i64 t] 157)).heap.size = w.heap.size + 1 := by simp
    generalize hWA : (w.alloc (.cells #[.int .i64 k, .int .i64 u, .int .i64 f, .int .i64 t] 157)) = WA at *
    have Hsz := Lib.hid hsz
    clear hsz
    have e0 : WA.cell? ⟨p, 0, none⟩ = some (.slice A.Au S.Re.length A.cu) := (hb.cell (p := ⟨p, 0, none⟩) hp).trans c0
    have e1 : WA.cell? ⟨p, 1, none⟩ = some (.slice A.Af S.Ho.length A.cf) := (hb.cell (p := ⟨p, 1, none⟩) hp).trans c1
    have y0 : WA.cell? ⟨w.heap.size, 0, none⟩ = some (.int .i64 k) := hx2.cell rfl
    have y1 : WA.cell? ⟨w.heap.size, 1, none⟩ = some (.int .i64 u) := hx2.cell rfl
    have y2 : WA.cell? ⟨w.heap.size, 2, none⟩ = some (.int .i64 f) := hx2.cell rfl
    have y3 : WA.cell? ⟨w.heap.size, 3, none⟩ = some (.int .i64 t) := hx2.cell rfl
    clear h
    generalize S.Re.length = nu at *
    generalize S.Ho.length = nf at *
    go_enter Tryz.func119, Tryz.ntmps119
    go_wp2_with fail
    go_quiet (first | (with_reducible exact quiet1 (C1.out _)))
    go_wp2_with fail
    go_ret
    exact ⟨rfl, belowD hb nq⟩
set_option maxHeartbeats 4000000 in
theorem LAsk_read {ok : Nat → Prop} (h : BellAt w base p U F S A) (hT : Tab w) (hI : LInv U F S) (hU : ∀ i, i < S.Re.length → labOk (gI U (i * 2)) (gI U (i * 2 + 1))) (hF : ∀ i, i < S.Ho.length → labOk (gI F (i * 2)) (gI F (i * 2 + 1))) (hB : base ≤ w.heap.size) (hno : S.Re ≠ [] → S.Ho ≠ [] → ∀ g, (A.Ar = some ⟨g, 0, none⟩ ∨ A.Aw = some ⟨g, 0, none⟩ ∨ A.Ah = some ⟨g, 0, none⟩) → ¬ ok g) (u f : Nat) (t : Int) (hu : u < S.Re.length) (hf : f < S.Ho.length) :
    Calls Tryz.prog 119 #[.pointer (some ⟨p, 0, none⟩), .agg #[.int .i64 0, .int .i64 u, .int .i64 f, .int .i64 t]] w fun e w' => e = .returned (errVal (lAsk U F S 0 u f t).2) ∧ BellAt w' base p U F (lAsk U F S 0 u f t).1 A ∧ Below base w w' ∧ KeepsT 3 w w' ∧ Spares ok w w' := by
  have hn8 := hI.ln
  have hm8 := hI.lm
  have hlw := hI.lw
  obtain ⟨gu, gf, gr, gw, gh, eu, ef, er, ew, eh, ho⟩ := h.own (by intro e; simp [e] at hu) (by intro e; simp [e] at hf)
  have hno := hno (by intro e; simp [e] at hu) (by intro e; simp [e] at hf)
  have nr : ¬ ok gr := hno gr (.inl er)
  have nw : ¬ ok gw := hno gw (.inr (.inl ew))
  have nh : ¬ ok gh := hno gh (.inr (.inr eh))
  have hE : Rows5 A gu gf gr gw gh := ⟨eu, ef, er, ew, eh⟩
  clear hno
  have c0 : w.cell? ⟨p, 0, none⟩ = some (.slice A.Au S.Re.length A.cu) := h.box.cell rfl
  have c1 : w.cell? ⟨p, 1, none⟩ = some (.slice A.Af S.Ho.length A.cf) := h.box.cell rfl
  have hp := h.box.lt
  have c2 : w.cell? ⟨p, 2, none⟩ = some (.slice A.Ar S.Re.length A.cr) := h.box.cell rfl
  have c3 : w.cell? ⟨p, 3, none⟩ = some (.slice A.Aw S.Re.length A.cw) := h.box.cell rfl
  have c4 : w.cell? ⟨p, 4, none⟩ = some (.slice A.Ah S.Ho.length A.ch) := h.box.cell rfl
  have C1 := Lib.hid (fun V => Within3_is 0 0 3 true V (by simp))
  have C2 := Lib.hid (fun V => Within3_is (u : Int) 0 ((S.Re.length : Int) - 1) true V (by simp; omega))
  have C3 := Lib.hid (fun V => Within3_is (f : Int) 0 ((S.Ho.length : Int) - 1) true V (by simp; omega))
  have lu := h.lu
  have lf := h.lf
  have pf0 := ho.of_.cell (k := f * 2) (v := .int .i64 (gI F (f * 2))) (by rw [List.getElem?_map, get_gI (by omega)]; rfl)
  have pf1 := ho.of_.cell (k := f * 2 + 1) (v := .int .i64 (gI F (f * 2 + 1))) (by rw [List.getElem?_map, get_gI (by omega)]; rfl)
  have pu0 := ho.ou.cell (k := u * 2) (v := .int .i64 (gI U (u * 2))) (by rw [List.getElem?_map, get_gI (by omega)]; rfl)
  have pu1 := ho.ou.cell (k := u * 2 + 1) (v := .int .i64 (gI U (u * 2 + 1))) (by rw [List.getElem?_map, get_gI (by omega)]; rfl)
  have pr := ho.or_.row_ hu
  have pw := ho.ow.row_ (i := u) (by omega)
  have lgf := ho.of_.lt
  have lgu := ho.ou.lt
  have lgr := ho.or_.lt
  have lgw := ho.ow.lt
  have lgh := ho.oh.lt
  have fr := ho.or_.free u
  have fw := ho.ow.free u
  have labF := hF f hf
  have labU := hU u hu
  have hp2 : 2 ^ f < 2 ^ 62 := Nat.pow_lt_pow_right (by decide) (by omega)
  obtain ⟨pf, hpf⟩ : ∃ pf : Nat, 2 ^ f = pf := ⟨_, rfl⟩
  have hpw : IntKind.i64.wrap (2 ^ f) = ((2 ^ f : Nat) : Int) := wrap_pow f (by omega)
  have hpw2 : wrap64 (2 ^ f) = ((2 ^ f : Nat) : Int) := wrap64_pow f (by omega)
  rw [hpf] at hpw hpw2 hp2
  have Hpf := Lib.hid hpf
  clear hpf
  have hr256 := hI.re_lt u
  have hw256 := hI.wr_lt u
  have hf62 : f < 62 := by omega
  have hres : lAsk U F S 0 u f t = if belowL F f U u && allIn (row S.Wr u) (fun x => belowL F f F x) then ({ S with Re := S.Re.set u (row S.Re u ||| pf) }, 0) else (S, 7) := by
    rw [← Hpf.out]; unfold lAsk; rw [if_pos ⟨⟨by omega, by omega, by omega⟩, fun e => by omega⟩, if_pos rfl]; rfl
  obtain ⟨b1, hb1⟩ : ∃ b1, belowL F f U u = b1 := ⟨_, rfl⟩
  obtain ⟨b2, hb2⟩ : ∃ b2, allIn (row S.Wr u) (fun x => belowL F f F x) = b2 := ⟨_, rfl⟩
  obtain ⟨xn, hxn⟩ : ∃ xn, row S.Re u ||| pf = xn := ⟨_, rfl⟩
  have hbits := bits_or_nat (row S.Re u) pf (by omega) (by omega)
  rw [hres, hb1, hb2, hxn]
  rw [hxn] at hbits
  have HB1 := Lib.hid hb1
  have HB2 := Lib.hid hb2
  clear hb1 hb2 hres hxn
  have hf2 : f * 2 < F.length := by omega
  rw [eu] at c0
  rw [ef] at c1
  rw [er] at c2
  rw [ew] at c3
  rw [eh] at c4
  have hb : Below w.heap.size w (w.alloc (.cells #[.int .i64 0, .int .i64 u, .int .i64 f, .int .i64 t] 157)) := (Below.refl _ _).alloc (Nat.le_refl _) _
  have hx2 := BoxN.new w 157 #[.int .i64 0, .int .i64 u, .int .i64 f, .int .i64 t]
  have hsz : (w.alloc (.cells #[.int .i64 0, .int .i64 u, .int .i64 f, .int .i64 t] 157)).heap.size = w.heap.size + 1 := by simp
  generalize hWA : (w.alloc (.cells #[.int .i64 0, .int .i64 u, .int .i64 f, .int .i64 t] 157)) = WA at *
  have Hsz := Lib.hid hsz
  clear hsz
  have e0 : WA.cell? ⟨p, 0, none⟩ = some (.slice (some ⟨gu, 0, none⟩) S.Re.length A.cu) := (hb.cell (p := ⟨p, 0, none⟩) hp).trans c0
  have e1 : WA.cell? ⟨p, 1, none⟩ = some (.slice (some ⟨gf, 0, none⟩) S.Ho.length A.cf) := (hb.cell (p := ⟨p, 1, none⟩) hp).trans c1
  have y0 : WA.cell? ⟨w.heap.size, 0, none⟩ = some (.int .i64 0) := hx2.cell rfl
  have y1 : WA.cell? ⟨w.heap.size, 1, none⟩ = some (.int .i64 u) := hx2.cell rfl
  have y2 : WA.cell? ⟨w.heap.size, 2, none⟩ = some (.int .i64 f) := hx2.cell rfl
  have y3 : WA.cell? ⟨w.heap.size, 3, none⟩ = some (.int .i64 t) := hx2.cell rfl
  have HA := Lib.hid (fun V (hV : Below WA.heap.size WA V) => hb.trans (hV.mono hb.size))
  go_enter Tryz.func119, Tryz.ntmps119
  go_wp2_with fail
  go_quiet (first | (with_reducible exact quiet1 (C1.out _)) | (with_reducible exact quiet1 (C2.out _)) | (with_reducible exact quiet1 (C3.out _)))
  go_wp2_with fail
  obtain ⟨q1, rfl⟩ : ∃ q1, q1 = nq := ⟨_, rfl⟩
  go_quiet (fail)
  go_wp2_with fail
  have hbW : Below WA.heap.size WA (WA.drewN (q1 + nq)) := belowD (Below.refl _ _) _
  have hbl := HA.out _ hbW
  have hxq := hx2.all hbW
  have hsW : (WA.drewN (q1 + nq)).heap.size = WA.heap.size := rfl
  generalize WA.drewN (q1 + nq) = W1 at *
  have hxs := hxq.lt
  have z1 : W1.cell? ⟨p, 1, none⟩ = some (.slice (some ⟨gf, 0, none⟩) S.Ho.length A.cf) := (hbl.cell (p := ⟨p, 1, none⟩) hp).trans c1
  have z2 : W1.cell? ⟨w.heap.size, 2, none⟩ = some (.int .i64 f) := hxq.cell rfl
  have z3 := (hbl.cell (p := ⟨gf, f * 2, none⟩) lgf).trans pf0
  have z4 := (hbl.cell (p := ⟨gf, f * 2 + 1, none⟩) lgf).trans pf1
  clear e0 e1 y0 y1 y2 y3 hx2 hb hbW HA hsW
  have hKeep := Lib.hid (fun V (hV : Below W1.heap.size W1 V) => (⟨(hV.cell (p := ⟨p, 1, none⟩) (block_lt z1)).trans z1, (hV.cell (p := ⟨w.heap.size, 2, none⟩) hxs).trans z2, (hV.cell (p := ⟨gf, f * 2, none⟩) (block_lt z3)).trans z3, (hV.cell (p := ⟨gf, f * 2 + 1, none⟩) (block_lt z4)).trans z4⟩ : V.cell? ⟨p, 1, none⟩ = some (.slice (some ⟨gf, 0, none⟩) S.Ho.length A.cf) ∧ V.cell? ⟨w.heap.size, 2, none⟩ = some (.int .i64 f) ∧ V.cell? ⟨gf, f * 2, none⟩ = some (.int .i64 (gI F (f * 2))) ∧ V.cell? ⟨gf, f * 2 + 1, none⟩ = some (.int .i64 (gI F (f * 2 + 1)))))
  go_region_held3 (fun V => V.cell? ⟨p, 1, none⟩ = some (.slice (some ⟨gf, 0, none⟩) S.Ho.length A.cf) ∧ V.cell? ⟨w.heap.size, 2, none⟩ = some (.int .i64 f) ∧ V.cell? ⟨gf, f * 2, none⟩ = some (.int .i64 (gI F (f * 2))) ∧ V.cell? ⟨gf, f * 2 + 1, none⟩ = some (.int .i64 (gI F (f * 2 + 1)))) ((refine hKeep.out _ ?_; repeat (first | exact Below.refl _ _ | refine Below.setCell ?_ (by simp) _ | refine Below.alloc ?_ (by simp) _ | refine Below.drew ?_))) (fail)
  have hbZ : Below W1.heap.size W1 (W1.alloc (.cells #[.int .i64 (gI F (f * 2)), .int .i64 (gI F (f * 2 + 1))] 144)).drew := ((Below.refl _ _).alloc (Nat.le_refl _) _).drew
  have hxf : BoxN (W1.alloc (.cells #[.int .i64 (gI F (f * 2)), .int .i64 (gI F (f * 2 + 1))] 144)).drew W1.heap.size 144 #[.int .i64 (gI F (f * 2)), .int .i64 (gI F (f * 2 + 1))] := (BoxN.new W1 _ _).drew
  have hxq2 := hxq.all hbZ
  have hbl2 := hbl.trans (hbZ.mono hbl.size)
  have hxfl := hxf.lt
  generalize (W1.alloc (.cells #[.int .i64 (gI F (f * 2)), .int .i64 (gI F (f * 2 + 1))] 144)).drew = W2 at *
  clear z1 z2 z3 z4 hKeep hbZ hxq hbl
  have y0 : W2.cell? ⟨w.heap.size, 0, none⟩ = some (.int .i64 0) := hxq2.cell rfl
  have y1 : W2.cell? ⟨w.heap.size, 1, none⟩ = some (.int .i64 u) := hxq2.cell rfl
  have y2 : W2.cell? ⟨w.heap.size, 2, none⟩ = some (.int .i64 f) := hxq2.cell rfl
  have y3 : W2.cell? ⟨w.heap.size, 3, none⟩ = some (.int .i64 t) := hxq2.cell rfl
  have f0 : W2.cell? ⟨W1.heap.size, 0, none⟩ = some (.int .i64 (gI F (f * 2))) := hxf.cell rfl
  have f1 : W2.cell? ⟨W1.heap.size, 1, none⟩ = some (.int .i64 (gI F (f * 2 + 1))) := hxf.cell rfl
  have d0 := (hbl2.cell (p := ⟨p, 0, none⟩) hp).trans c0
  have d2 := (hbl2.cell (p := ⟨p, 2, none⟩) hp).trans c2
  have d3 := (hbl2.cell (p := ⟨p, 3, none⟩) hp).trans c3
  have d4 := (hbl2.cell (p := ⟨p, 4, none⟩) hp).trans c4
  have du0 := (hbl2.cell (p := ⟨gu, u * 2, none⟩) lgu).trans pu0
  have du1 := (hbl2.cell (p := ⟨gu, u * 2 + 1, none⟩) lgu).trans pu1
  have dr := (hbl2.cell (p := ⟨gr, u, none⟩) lgr).trans pr
  have dw := (hbl2.cell (p := ⟨gw, u, none⟩) lgw).trans pw
  have gr_ := (hbl2.frozen (p := ⟨gr, u, none⟩) lgr).trans fr
  have gw_ := (hbl2.frozen (p := ⟨gw, u, none⟩) lgw).trans fw
  clear c0 c1 c2 c3 c4 pf0 pf1 pu0 pu1 pr pw fr fw
  have Q1 := Lib.hid (fun (d : Nat) (os : Array Obj) => Calls.regrown_of (lbelow_any _ _ _ _ labF labU (Sort.grow (redrawn W2 d) os) (r := b1) HB1.out))
  have Q2 := Lib.hid (fun (d : Nat) (os : Array Obj) => Calls.regrown_of (all_any ((h.all hbl2).all (below_regrown W2 d os)) (hT.next (hbl2.trans ((below_regrown W2 d os).mono hbl2.size))) hn8 (row S.Wr u) (hI.bw u) (fun x => belowL F f F x) 148 #[.pointer (some ⟨W1.heap.size, 0, none⟩)] (enters_of Tryz.func148 (by kernel_rfl) rfl) (fun V i hV hi => askOne_any _ _ _ _ labF (hF i hi) (BoxN.all (BoxN.all hxf (below_regrown W2 d os)) hV) rfl) (r := b2) HB2.out))
  have H0 := Lib.hid h
  have HO := Lib.hid (fun V hb => h.setR nr hE ho hB (V := V) hb hu (x := xn) rfl)
  clear h hI hU hF labF labU hT ho
  generalize gI F (f * 2) = xf0 at *
  generalize gI F (f * 2 + 1) = xf1 at *
  generalize gI U (u * 2) = xu0 at *
  generalize gI U (u * 2 + 1) = xu1 at *
  generalize row S.Re u = xr at *
  generalize row S.Wr u = xw at *

  have e0 := cell_regrown f0
  have e1 := cell_regrown f1
  have e2 := cell_regrown y1
  have e3 := cell_regrown d0
  have e4 := cell_regrown du0
  have e5 := cell_regrown du1
  have e6 := cell_regrown d3
  have e7 := cell_regrown dw
  have e8 := cell_regrown d2
  have e9 := cell_regrown dr
  cases b1 with
  | false =>
    go_wp2_with fail
    refine wp_region_quiet_below (by kernel_rfl) (by kernel_rfl) ?_
    repeat (go_big_quiet_step (with_reducible exact Q1.out _ _))
    refine wpQuiet_nil ?_
    rintro _ ⟨pq, rfl⟩
    have hbq := below_regrown W2 pq.d pq.os
    generalize Sort.grow (redrawn W2 pq.d) pq.os = W3 at *
    have hbf := hbl2.trans (hbq.mono hbl2.size)
    clear e0 e1 e2 e3 e4 e5 e6 e7 e8 e9
    go_wp2_with fail
    go_ret
    exact ⟨rfl, H0.out.all hbf, hbf.mono hB, KeepsT.of_below hbf, Spares.of_below hbf⟩
  | true =>
    cases b2 with
    | false =>
      go_wp2_with fail
      refine wp_region_quiet_below (by kernel_rfl) (by kernel_rfl) ?_
      repeat (go_big_quiet_step (first | (with_reducible exact Q1.out _ _) | (with_reducible exact Q2.out _ _)))
      refine wpQuiet_nil ?_
      rintro _ ⟨pq, rfl⟩
      have hbq := below_regrown W2 pq.d pq.os
      generalize Sort.grow (redrawn W2 pq.d) pq.os = W3 at *
      have hbf := hbl2.trans (hbq.mono hbl2.size)
      clear e0 e1 e2 e3 e4 e5 e6 e7 e8 e9
      go_wp2_with fail
      go_ret
      exact ⟨rfl, H0.out.all hbf, hbf.mono hB, KeepsT.of_below hbf, Spares.of_below hbf⟩
    | true =>
      go_wp2_with fail
      refine wp_region_quiet_below (by kernel_rfl) (by kernel_rfl) ?_
      repeat (go_big_quiet_step (first | (with_reducible exact Q1.out _ _) | (with_reducible exact Q2.out _ _)))
      refine wpQuiet_nil ?_
      rintro _ ⟨pq, rfl⟩
      have hbq := below_regrown W2 pq.d pq.os
      generalize Sort.grow (redrawn W2 pq.d) pq.os = W3 at *
      have hbf := hbl2.trans (hbq.mono hbl2.size)
      clear e0 e1 e2 e3 e4 e5 e6 e7 e8 e9
      have k1 := (hbq.cell (p := ⟨w.heap.size, 1, none⟩) hxq2.lt).trans y1
      have k2 := (hbq.cell (p := ⟨p, 2, none⟩) (block_lt d2)).trans d2
      have k3 := (hbq.cell (p := ⟨gr, u, none⟩) (block_lt dr)).trans dr
      have k4 := (hbq.frozen (p := ⟨gr, u, none⟩) (block_lt dr)).trans gr_
      go_wp2_with fail
      refine wp_still_tailD 11 (by kernel_rfl) (by kernel_rfl) ?_
      simp only [List.take_succ_cons, List.take_zero, List.drop_succ_cons, List.drop_zero]
      repeat still_step
      refine wpStill_nil ?_
      go_wp2_with fail
      go_ret
      obtain ⟨r1, _, r2, r3, r4⟩ := HO.out (W3.drewN 1) (belowD hbf 1)
      exact ⟨rfl, r1, r2, r3, r4⟩
end
end Go.Proofs.YtanlmfnhlldkeaaGreatDoor

namespace Go.Proofs.YtanlmfnhlldkeaaGreatDoor
open Go.RowKit
set_option maxRecDepth 100000
set_option linter.unusedVariables false

section
variable {w V : World} {base p : Nat} {U F : List Int} {S : LS} {A : LA} {gu gf gr gw gh : Nat}

set_option maxHeartbeats 4000000 in
theorem LAsk_write {ok : Nat → Prop} (h : BellAt w base p U F S A) (hT : Tab w) (hI : LInv U F S) (hU : ∀ i, i < S.Re.length → labOk (gI U (i * 2)) (gI U (i * 2 + 1))) (hF : ∀ i, i < S.Ho.length → labOk (gI F (i * 2)) (gI F (i * 2 + 1))) (hB : base ≤ w.heap.size) (hno : S.Re ≠ [] → S.Ho ≠ [] → ∀ g, (A.Ar = some ⟨g, 0, none⟩ ∨ A.Aw = some ⟨g, 0, none⟩ ∨ A.Ah = some ⟨g, 0, none⟩) → ¬ ok g) (u f : Nat) (t : Int) (hu : u < S.Re.length) (hf : f < S.Ho.length) :
    Calls Tryz.prog 119 #[.pointer (some ⟨p, 0, none⟩), .agg #[.int .i64 1, .int .i64 u, .int .i64 f, .int .i64 t]] w fun e w' => e = .returned (errVal (lAsk U F S 1 u f t).2) ∧ BellAt w' base p U F (lAsk U F S 1 u f t).1 A ∧ Below base w w' ∧ KeepsT 3 w w' ∧ Spares ok w w' := by
  have hn8 := hI.ln
  have hm8 := hI.lm
  have hlw := hI.lw
  obtain ⟨gu, gf, gr, gw, gh, eu, ef, er, ew, eh, ho⟩ := h.own (by intro e; simp [e] at hu) (by intro e; simp [e] at hf)
  have hno := hno (by intro e; simp [e] at hu) (by intro e; simp [e] at hf)
  have nr : ¬ ok gr := hno gr (.inl er)
  have nw : ¬ ok gw := hno gw (.inr (.inl ew))
  have nh : ¬ ok gh := hno gh (.inr (.inr eh))
  have hE : Rows5 A gu gf gr gw gh := ⟨eu, ef, er, ew, eh⟩
  clear hno
  have c0 : w.cell? ⟨p, 0, none⟩ = some (.slice A.Au S.Re.length A.cu) := h.box.cell rfl
  have c1 : w.cell? ⟨p, 1, none⟩ = some (.slice A.Af S.Ho.length A.cf) := h.box.cell rfl
  have hp := h.box.lt
  have c2 : w.cell? ⟨p, 2, none⟩ = some (.slice A.Ar S.Re.length A.cr) := h.box.cell rfl
  have c3 : w.cell? ⟨p, 3, none⟩ = some (.slice A.Aw S.Re.length A.cw) := h.box.cell rfl
  have c4 : w.cell? ⟨p, 4, none⟩ = some (.slice A.Ah S.Ho.length A.ch) := h.box.cell rfl
  have C1 := Lib.hid (fun V => Within3_is 1 0 3 true V (by simp))
  have C2 := Lib.hid (fun V => Within3_is (u : Int) 0 ((S.Re.length : Int) - 1) true V (by simp; omega))
  have C3 := Lib.hid (fun V => Within3_is (f : Int) 0 ((S.Ho.length : Int) - 1) true V (by simp; omega))
  have lu := h.lu
  have lf := h.lf
  have pf0 := ho.of_.cell (k := f * 2) (v := .int .i64 (gI F (f * 2))) (by rw [List.getElem?_map, get_gI (by omega)]; rfl)
  have pf1 := ho.of_.cell (k := f * 2 + 1) (v := .int .i64 (gI F (f * 2 + 1))) (by rw [List.getElem?_map, get_gI (by omega)]; rfl)
  have pu0 := ho.ou.cell (k := u * 2) (v := .int .i64 (gI U (u * 2))) (by rw [List.getElem?_map, get_gI (by omega)]; rfl)
  have pu1 := ho.ou.cell (k := u * 2 + 1) (v := .int .i64 (gI U (u * 2 + 1))) (by rw [List.getElem?_map, get_gI (by omega)]; rfl)
  have pr := ho.or_.row_ hu
  have pw := ho.ow.row_ (i := u) (by omega)
  have lgf := ho.of_.lt
  have lgu := ho.ou.lt
  have lgr := ho.or_.lt
  have lgw := ho.ow.lt
  have lgh := ho.oh.lt
  have fr := ho.or_.free u
  have fw := ho.ow.free u
  have labF := hF f hf
  have labU := hU u hu
  have hp2 : 2 ^ f < 2 ^ 62 := Nat.pow_lt_pow_right (by decide) (by omega)
  obtain ⟨pf, hpf⟩ : ∃ pf : Nat, 2 ^ f = pf := ⟨_, rfl⟩
  have hpw : IntKind.i64.wrap (2 ^ f) = ((2 ^ f : Nat) : Int) := wrap_pow f (by omega)
  have hpw2 : wrap64 (2 ^ f) = ((2 ^ f : Nat) : Int) := wrap64_pow f (by omega)
  rw [hpf] at hpw hpw2 hp2
  have Hpf := Lib.hid hpf
  clear hpf
  have hr256 := hI.re_lt u
  have hw256 := hI.wr_lt u
  have hf62 : f < 62 := by omega
  have hres : lAsk U F S 1 u f t = if allIn (row S.Re u) (fun x => belowL F x F f) then ({ S with Wr := S.Wr.set u (row S.Wr u ||| pf) }, 0) else (S, 7) := by
    rw [← Hpf.out]; unfold lAsk; rw [if_pos ⟨⟨by omega, by omega, by omega⟩, fun e => by omega⟩, if_neg (by decide), if_pos rfl]; rfl
  obtain ⟨b2, hb2⟩ : ∃ b2, allIn (row S.Re u) (fun x => belowL F x F f) = b2 := ⟨_, rfl⟩
  obtain ⟨xn, hxn⟩ : ∃ xn, row S.Wr u ||| pf = xn := ⟨_, rfl⟩
  have hbits := bits_or_nat (row S.Wr u) pf (by omega) (by omega)
  rw [hres, hb2, hxn]
  rw [hxn] at hbits
  have HB2 := Lib.hid hb2
  clear hb2 hres hxn
  have hf2 : f * 2 < F.length := by omega
  rw [eu] at c0
  rw [ef] at c1
  rw [er] at c2
  rw [ew] at c3
  rw [eh] at c4
  have hb : Below w.heap.size w (w.alloc (.cells #[.int .i64 1, .int .i64 u, .int .i64 f, .int .i64 t] 157)) := (Below.refl _ _).alloc (Nat.le_refl _) _
  have hx2 := BoxN.new w 157 #[.int .i64 1, .int .i64 u, .int .i64 f, .int .i64 t]
  have hsz : (w.alloc (.cells #[.int .i64 1, .int .i64 u, .int .i64 f, .int .i64 t] 157)).heap.size = w.heap.size + 1 := by simp
  generalize hWA : (w.alloc (.cells #[.int .i64 1, .int .i64 u, .int .i64 f, .int .i64 t] 157)) = WA at *
  have Hsz := Lib.hid hsz
  clear hsz
  have e0 : WA.cell? ⟨p, 0, none⟩ = some (.slice (some ⟨gu, 0, none⟩) S.Re.length A.cu) := (hb.cell (p := ⟨p, 0, none⟩) hp).trans c0
  have e1 : WA.cell? ⟨p, 1, none⟩ = some (.slice (some ⟨gf, 0, none⟩) S.Ho.length A.cf) := (hb.cell (p := ⟨p, 1, none⟩) hp).trans c1
  have y0 : WA.cell? ⟨w.heap.size, 0, none⟩ = some (.int .i64 1) := hx2.cell rfl
  have y1 : WA.cell? ⟨w.heap.size, 1, none⟩ = some (.int .i64 u) := hx2.cell rfl
  have y2 : WA.cell? ⟨w.heap.size, 2, none⟩ = some (.int .i64 f) := hx2.cell rfl
  have y3 : WA.cell? ⟨w.heap.size, 3, none⟩ = some (.int .i64 t) := hx2.cell rfl
  have HA := Lib.hid (fun V (hV : Below WA.heap.size WA V) => hb.trans (hV.mono hb.size))
  go_enter Tryz.func119, Tryz.ntmps119
  go_wp2_with fail
  go_quiet (first | (with_reducible exact quiet1 (C1.out _)) | (with_reducible exact quiet1 (C2.out _)) | (with_reducible exact quiet1 (C3.out _)))
  go_wp2_with fail
  obtain ⟨q1, rfl⟩ : ∃ q1, q1 = nq := ⟨_, rfl⟩
  go_quiet (fail)
  go_wp2_with fail
  have hbW : Below WA.heap.size WA (WA.drewN (q1 + nq)) := belowD (Below.refl _ _) _
  have hbl := HA.out _ hbW
  have hxq := hx2.all hbW
  have hsW : (WA.drewN (q1 + nq)).heap.size = WA.heap.size := rfl
  generalize WA.drewN (q1 + nq) = W1 at *
  have hxs := hxq.lt
  have z1 : W1.cell? ⟨p, 1, none⟩ = some (.slice (some ⟨gf, 0, none⟩) S.Ho.length A.cf) := (hbl.cell (p := ⟨p, 1, none⟩) hp).trans c1
  have z2 : W1.cell? ⟨w.heap.size, 2, none⟩ = some (.int .i64 f) := hxq.cell rfl
  have z3 := (hbl.cell (p := ⟨gf, f * 2, none⟩) lgf).trans pf0
  have z4 := (hbl.cell (p := ⟨gf, f * 2 + 1, none⟩) lgf).trans pf1
  clear e0 e1 y0 y1 y2 y3 hx2 hb hbW HA hsW
  have hKeep := Lib.hid (fun V (hV : Below W1.heap.size W1 V) => (⟨(hV.cell (p := ⟨p, 1, none⟩) (block_lt z1)).trans z1, (hV.cell (p := ⟨w.heap.size, 2, none⟩) hxs).trans z2, (hV.cell (p := ⟨gf, f * 2, none⟩) (block_lt z3)).trans z3, (hV.cell (p := ⟨gf, f * 2 + 1, none⟩) (block_lt z4)).trans z4⟩ : V.cell? ⟨p, 1, none⟩ = some (.slice (some ⟨gf, 0, none⟩) S.Ho.length A.cf) ∧ V.cell? ⟨w.heap.size, 2, none⟩ = some (.int .i64 f) ∧ V.cell? ⟨gf, f * 2, none⟩ = some (.int .i64 (gI F (f * 2))) ∧ V.cell? ⟨gf, f * 2 + 1, none⟩ = some (.int .i64 (gI F (f * 2 + 1)))))
  go_region_held3 (fun V => V.cell? ⟨p, 1, none⟩ = some (.slice (some ⟨gf, 0, none⟩) S.Ho.length A.cf) ∧ V.cell? ⟨w.heap.size, 2, none⟩ = some (.int .i64 f) ∧ V.cell? ⟨gf, f * 2, none⟩ = some (.int .i64 (gI F (f * 2))) ∧ V.cell? ⟨gf, f * 2 + 1, none⟩ = some (.int .i64 (gI F (f * 2 + 1)))) ((refine hKeep.out _ ?_; repeat (first | exact Below.refl _ _ | refine Below.setCell ?_ (by simp) _ | refine Below.alloc ?_ (by simp) _ | refine Below.drew ?_))) (fail)
  have hbZ : Below W1.heap.size W1 (W1.alloc (.cells #[.int .i64 (gI F (f * 2)), .int .i64 (gI F (f * 2 + 1))] 144)).drew := ((Below.refl _ _).alloc (Nat.le_refl _) _).drew
  have hxf : BoxN (W1.alloc (.cells #[.int .i64 (gI F (f * 2)), .int .i64 (gI F (f * 2 + 1))] 144)).drew W1.heap.size 144 #[.int .i64 (gI F (f * 2)), .int .i64 (gI F (f * 2 + 1))] := (BoxN.new W1 _ _).drew
  have hxq2 := hxq.all hbZ
  have hbl2 := hbl.trans (hbZ.mono hbl.size)
  have hxfl := hxf.lt
  generalize (W1.alloc (.cells #[.int .i64 (gI F (f * 2)), .int .i64 (gI F (f * 2 + 1))] 144)).drew = W2 at *
  clear z1 z2 z3 z4 hKeep hbZ hxq hbl
  have y0 : W2.cell? ⟨w.heap.size, 0, none⟩ = some (.int .i64 1) := hxq2.cell rfl
  have y1 : W2.cell? ⟨w.heap.size, 1, none⟩ = some (.int .i64 u) := hxq2.cell rfl
  have y2 : W2.cell? ⟨w.heap.size, 2, none⟩ = some (.int .i64 f) := hxq2.cell rfl
  have y3 : W2.cell? ⟨w.heap.size, 3, none⟩ = some (.int .i64 t) := hxq2.cell rfl
  have f0 : W2.cell? ⟨W1.heap.size, 0, none⟩ = some (.int .i64 (gI F (f * 2))) := hxf.cell rfl
  have f1 : W2.cell? ⟨W1.heap.size, 1, none⟩ = some (.int .i64 (gI F (f * 2 + 1))) := hxf.cell rfl
  have d0 := (hbl2.cell (p := ⟨p, 0, none⟩) hp).trans c0
  have d2 := (hbl2.cell (p := ⟨p, 2, none⟩) hp).trans c2
  have d3 := (hbl2.cell (p := ⟨p, 3, none⟩) hp).trans c3
  have d4 := (hbl2.cell (p := ⟨p, 4, none⟩) hp).trans c4
  have du0 := (hbl2.cell (p := ⟨gu, u * 2, none⟩) lgu).trans pu0
  have du1 := (hbl2.cell (p := ⟨gu, u * 2 + 1, none⟩) lgu).trans pu1
  have dr := (hbl2.cell (p := ⟨gr, u, none⟩) lgr).trans pr
  have dw := (hbl2.cell (p := ⟨gw, u, none⟩) lgw).trans pw
  have gr_ := (hbl2.frozen (p := ⟨gr, u, none⟩) lgr).trans fr
  have gw_ := (hbl2.frozen (p := ⟨gw, u, none⟩) lgw).trans fw
  clear c0 c1 c2 c3 c4 pf0 pf1 pu0 pu1 pr pw fr fw
  have Q2 := Lib.hid (fun (d : Nat) (os : Array Obj) => Calls.regrown_of (all_any ((h.all hbl2).all (below_regrown W2 d os)) (hT.next (hbl2.trans ((below_regrown W2 d os).mono hbl2.size))) hn8 (row S.Re u) (hI.br u) (fun x => belowL F x F f) 149 #[.pointer (some ⟨W1.heap.size, 0, none⟩)] (enters_of Tryz.func149 (by kernel_rfl) rfl) (fun V i hV hi => askTwo_any _ _ _ _ (hF i hi) labF (BoxN.all (BoxN.all hxf (below_regrown W2 d os)) hV) rfl) (r := b2) HB2.out))
  have H0 := Lib.hid h
  have HO := Lib.hid (fun V hb => h.setW nw hE ho hB (V := V) hb (i := u) (by omega) (x := xn) rfl)
  clear h hI hU hF labF labU hT ho
  generalize gI F (f * 2) = xf0 at *
  generalize gI F (f * 2 + 1) = xf1 at *
  generalize gI U (u * 2) = xu0 at *
  generalize gI U (u * 2 + 1) = xu1 at *
  generalize row S.Re u = xr at *
  generalize row S.Wr u = xw at *
  have e0 := cell_regrown f0
  have e1 := cell_regrown f1
  have e2 := cell_regrown y1
  have e3 := cell_regrown d0
  have e4 := cell_regrown du0
  have e5 := cell_regrown du1
  have e6 := cell_regrown d3
  have e7 := cell_regrown dw
  have e8 := cell_regrown d2
  have e9 := cell_regrown dr
  cases b2 with
  | false =>
    go_wp2_with fail
    refine wp_region_quiet_below (by kernel_rfl) (by kernel_rfl) ?_
    repeat (go_big_quiet_step (with_reducible exact Q2.out _ _))
    refine wpQuiet_nil ?_
    rintro _ ⟨pq, rfl⟩
    have hbq := below_regrown W2 pq.d pq.os
    generalize Sort.grow (redrawn W2 pq.d) pq.os = W3 at *
    have hbf := hbl2.trans (hbq.mono hbl2.size)
    clear e0 e1 e2 e3 e4 e5 e6 e7 e8 e9
    go_wp2_with fail
    go_ret
    exact ⟨rfl, H0.out.all hbf, hbf.mono hB, KeepsT.of_below hbf, Spares.of_below hbf⟩
  | true =>
    go_wp2_with fail
    refine wp_region_quiet_below (by kernel_rfl) (by kernel_rfl) ?_
    repeat (go_big_quiet_step (with_reducible exact Q2.out _ _))
    refine wpQuiet_nil ?_
    rintro _ ⟨pq, rfl⟩
    have hbq := below_regrown W2 pq.d pq.os
    generalize Sort.grow (redrawn W2 pq.d) pq.os = W3 at *
    have hbf := hbl2.trans (hbq.mono hbl2.size)
    clear e0 e1 e2 e3 e4 e5 e6 e7 e8 e9
    have k1 := (hbq.cell (p := ⟨w.heap.size, 1, none⟩) hxq2.lt).trans y1
    have k2 := (hbq.cell (p := ⟨p, 3, none⟩) (block_lt d3)).trans d3
    have k3 := (hbq.cell (p := ⟨gw, u, none⟩) (block_lt dw)).trans dw
    have k4 := (hbq.frozen (p := ⟨gw, u, none⟩) (block_lt dw)).trans gw_
    go_wp2_with fail
    refine wp_still_tailD 11 (by kernel_rfl) (by kernel_rfl) ?_
    simp only [List.take_succ_cons, List.take_zero, List.drop_succ_cons, List.drop_zero]
    repeat still_step
    refine wpStill_nil ?_
    go_wp2_with fail
    go_ret
    obtain ⟨r1, _, r2, r3, r4⟩ := HO.out (W3.drewN 1) (belowD hbf 1)
    exact ⟨rfl, r1, r2, r3, r4⟩
set_option maxHeartbeats 4000000 in
theorem LAsk_drop {ok : Nat → Prop} (h : BellAt w base p U F S A) (hT : Tab w) (hI : LInv U F S) (hU : ∀ i, i < S.Re.length → labOk (gI U (i * 2)) (gI U (i * 2 + 1))) (hF : ∀ i, i < S.Ho.length → labOk (gI F (i * 2)) (gI F (i * 2 + 1))) (hB : base ≤ w.heap.size) (hno : S.Re ≠ [] → S.Ho ≠ [] → ∀ g, (A.Ar = some ⟨g, 0, none⟩ ∨ A.Aw = some ⟨g, 0, none⟩ ∨ A.Ah = some ⟨g, 0, none⟩) → ¬ ok g) (u f : Nat) (t : Int) (hu : u < S.Re.length) (hf : f < S.Ho.length) :
    Calls Tryz.prog 119 #[.pointer (some ⟨p, 0, none⟩), .agg #[.int .i64 2, .int .i64 u, .int .i64 f, .int .i64 t]] w fun e w' => e = .returned (errVal (lAsk U F S 2 u f t).2) ∧ BellAt w' base p U F (lAsk U F S 2 u f t).1 A ∧ Below base w w' ∧ KeepsT 3 w w' ∧ Spares ok w w' := by
  have hn8 := hI.ln
  have hm8 := hI.lm
  have hlw := hI.lw
  obtain ⟨gu, gf, gr, gw, gh, eu, ef, er, ew, eh, ho⟩ := h.own (by intro e; simp [e] at hu) (by intro e; simp [e] at hf)
  have hno := hno (by intro e; simp [e] at hu) (by intro e; simp [e] at hf)
  have nr : ¬ ok gr := hno gr (.inl er)
  have nw : ¬ ok gw := hno gw (.inr (.inl ew))
  have nh : ¬ ok gh := hno gh (.inr (.inr eh))
  have hE : Rows5 A gu gf gr gw gh := ⟨eu, ef, er, ew, eh⟩
  clear hno
  have c0 : w.cell? ⟨p, 0, none⟩ = some (.slice A.Au S.Re.length A.cu) := h.box.cell rfl
  have c1 : w.cell? ⟨p, 1, none⟩ = some (.slice A.Af S.Ho.length A.cf) := h.box.cell rfl
  have hp := h.box.lt
  have c2 : w.cell? ⟨p, 2, none⟩ = some (.slice A.Ar S.Re.length A.cr) := h.box.cell rfl
  have c3 : w.cell? ⟨p, 3, none⟩ = some (.slice A.Aw S.Re.length A.cw) := h.box.cell rfl
  have c4 : w.cell? ⟨p, 4, none⟩ = some (.slice A.Ah S.Ho.length A.ch) := h.box.cell rfl
  have C1 := Lib.hid (fun V => Within3_is 2 0 3 true V (by simp))
  have C2 := Lib.hid (fun V => Within3_is (u : Int) 0 ((S.Re.length : Int) - 1) true V (by simp; omega))
  have C3 := Lib.hid (fun V => Within3_is (f : Int) 0 ((S.Ho.length : Int) - 1) true V (by simp; omega))
  have lu := h.lu
  have lf := h.lf
  have pf0 := ho.of_.cell (k := f * 2) (v := .int .i64 (gI F (f * 2))) (by rw [List.getElem?_map, get_gI (by omega)]; rfl)
  have pf1 := ho.of_.cell (k := f * 2 + 1) (v := .int .i64 (gI F (f * 2 + 1))) (by rw [List.getElem?_map, get_gI (by omega)]; rfl)
  have pu0 := ho.ou.cell (k := u * 2) (v := .int .i64 (gI U (u * 2))) (by rw [List.getElem?_map, get_gI (by omega)]; rfl)
  have pu1 := ho.ou.cell (k := u * 2 + 1) (v := .int .i64 (gI U (u * 2 + 1))) (by rw [List.getElem?_map, get_gI (by omega)]; rfl)
  have pr := ho.or_.row_ hu
  have pw := ho.ow.row_ (i := u) (by omega)
  have lgf := ho.of_.lt
  have lgu := ho.ou.lt
  have lgr := ho.or_.lt
  have lgw := ho.ow.lt
  have lgh := ho.oh.lt
  have fr := ho.or_.free u
  have fw := ho.ow.free u
  have labF := hF f hf
  have labU := hU u hu
  have hp2 : 2 ^ f < 2 ^ 62 := Nat.pow_lt_pow_right (by decide) (by omega)
  obtain ⟨pf, hpf⟩ : ∃ pf : Nat, 2 ^ f = pf := ⟨_, rfl⟩
  have hpw : IntKind.i64.wrap (2 ^ f) = ((2 ^ f : Nat) : Int) := wrap_pow f (by omega)
  have hpw2 : wrap64 (2 ^ f) = ((2 ^ f : Nat) : Int) := wrap64_pow f (by omega)
  rw [hpf] at hpw hpw2 hp2
  have Hpf := Lib.hid hpf
  clear hpf
  have hr256 := hI.re_lt u
  have hw256 := hI.wr_lt u
  have hf62 : f < 62 := by omega
  have hres : lAsk U F S 2 u f t = ({ S with Re := S.Re.set u (diff (row S.Re u) pf), Wr := S.Wr.set u (diff (row S.Wr u) pf) }, 0) := by
    rw [← Hpf.out]; exact lAsk_drop hI t hu hf
  have hbits1 := bits_andNot_nat (row S.Re u) pf (by omega) (by omega)
  have hbits2 := bits_andNot_nat (row S.Wr u) pf (by omega) (by omega)
  obtain ⟨x1, hx1⟩ : ∃ xn, diff (row S.Re u) pf = xn := ⟨_, rfl⟩
  obtain ⟨x2, hx2⟩ : ∃ xn, diff (row S.Wr u) pf = xn := ⟨_, rfl⟩
  rw [hres, hx1, hx2]
  rw [hx1] at hbits1
  rw [hx2] at hbits2
  clear hres hx1 hx2
  have hf2 : f * 2 < F.length := by omega
  rw [eu] at c0
  rw [ef] at c1
  rw [er] at c2
  rw [ew] at c3
  rw [eh] at c4
  have hb : Below w.heap.size w (w.alloc (.cells #[.int .i64 2, .int .i64 u, .int .i64 f, .int .i64 t] 157)) := (Below.refl _ _).alloc (Nat.le_refl _) _
  have hx2 := BoxN.new w 157 #[.int .i64 2, .int .i64 u, .int .i64 f, .int .i64 t]
  have hsz : (w.alloc (.cells #[.int .i64 2, .int .i64 u, .int .i64 f, .int .i64 t] 157)).heap.size = w.heap.size + 1 := by simp
  generalize hWA : (w.alloc (.cells #[.int .i64 2, .int .i64 u, .int .i64 f, .int .i64 t] 157)) = WA at *
  have Hsz := Lib.hid hsz
  clear hsz
  have e0 : WA.cell? ⟨p, 0, none⟩ = some (.slice (some ⟨gu, 0, none⟩) S.Re.length A.cu) := (hb.cell (p := ⟨p, 0, none⟩) hp).trans c0
  have e1 : WA.cell? ⟨p, 1, none⟩ = some (.slice (some ⟨gf, 0, none⟩) S.Ho.length A.cf) := (hb.cell (p := ⟨p, 1, none⟩) hp).trans c1
  have y0 : WA.cell? ⟨w.heap.size, 0, none⟩ = some (.int .i64 2) := hx2.cell rfl
  have y1 : WA.cell? ⟨w.heap.size, 1, none⟩ = some (.int .i64 u) := hx2.cell rfl
  have y2 : WA.cell? ⟨w.heap.size, 2, none⟩ = some (.int .i64 f) := hx2.cell rfl
  have y3 : WA.cell? ⟨w.heap.size, 3, none⟩ = some (.int .i64 t) := hx2.cell rfl
  have HA := Lib.hid (fun V (hV : Below WA.heap.size WA V) => hb.trans (hV.mono hb.size))
  go_enter Tryz.func119, Tryz.ntmps119
  go_wp2_with fail
  go_quiet (first | (with_reducible exact quiet1 (C1.out _)) | (with_reducible exact quiet1 (C2.out _)) | (with_reducible exact quiet1 (C3.out _)))
  go_wp2_with fail
  obtain ⟨q1, rfl⟩ : ∃ q1, q1 = nq := ⟨_, rfl⟩
  go_quiet (fail)
  go_wp2_with fail
  have hbW : Below WA.heap.size WA (WA.drewN (q1 + nq)) := belowD (Below.refl _ _) _
  have hbl := HA.out _ hbW
  have hxq := hx2.all hbW
  have hsW : (WA.drewN (q1 + nq)).heap.size = WA.heap.size := rfl
  generalize WA.drewN (q1 + nq) = W1 at *
  have hxs := hxq.lt
  have z1 : W1.cell? ⟨p, 1, none⟩ = some (.slice (some ⟨gf, 0, none⟩) S.Ho.length A.cf) := (hbl.cell (p := ⟨p, 1, none⟩) hp).trans c1
  have z2 : W1.cell? ⟨w.heap.size, 2, none⟩ = some (.int .i64 f) := hxq.cell rfl
  have z3 := (hbl.cell (p := ⟨gf, f * 2, none⟩) lgf).trans pf0
  have z4 := (hbl.cell (p := ⟨gf, f * 2 + 1, none⟩) lgf).trans pf1
  clear e0 e1 y0 y1 y2 y3 hx2 hb hbW HA hsW
  have hKeep := Lib.hid (fun V (hV : Below W1.heap.size W1 V) => (⟨(hV.cell (p := ⟨p, 1, none⟩) (block_lt z1)).trans z1, (hV.cell (p := ⟨w.heap.size, 2, none⟩) hxs).trans z2, (hV.cell (p := ⟨gf, f * 2, none⟩) (block_lt z3)).trans z3, (hV.cell (p := ⟨gf, f * 2 + 1, none⟩) (block_lt z4)).trans z4⟩ : V.cell? ⟨p, 1, none⟩ = some (.slice (some ⟨gf, 0, none⟩) S.Ho.length A.cf) ∧ V.cell? ⟨w.heap.size, 2, none⟩ = some (.int .i64 f) ∧ V.cell? ⟨gf, f * 2, none⟩ = some (.int .i64 (gI F (f * 2))) ∧ V.cell? ⟨gf, f * 2 + 1, none⟩ = some (.int .i64 (gI F (f * 2 + 1)))))
  go_region_held3 (fun V => V.cell? ⟨p, 1, none⟩ = some (.slice (some ⟨gf, 0, none⟩) S.Ho.length A.cf) ∧ V.cell? ⟨w.heap.size, 2, none⟩ = some (.int .i64 f) ∧ V.cell? ⟨gf, f * 2, none⟩ = some (.int .i64 (gI F (f * 2))) ∧ V.cell? ⟨gf, f * 2 + 1, none⟩ = some (.int .i64 (gI F (f * 2 + 1)))) ((refine hKeep.out _ ?_; repeat (first | exact Below.refl _ _ | refine Below.setCell ?_ (by simp) _ | refine Below.alloc ?_ (by simp) _ | refine Below.drew ?_))) (fail)
  have hbZ : Below W1.heap.size W1 (W1.alloc (.cells #[.int .i64 (gI F (f * 2)), .int .i64 (gI F (f * 2 + 1))] 144)).drew := ((Below.refl _ _).alloc (Nat.le_refl _) _).drew
  have hxf : BoxN (W1.alloc (.cells #[.int .i64 (gI F (f * 2)), .int .i64 (gI F (f * 2 + 1))] 144)).drew W1.heap.size 144 #[.int .i64 (gI F (f * 2)), .int .i64 (gI F (f * 2 + 1))] := (BoxN.new W1 _ _).drew
  have hxq2 := hxq.all hbZ
  have hbl2 := hbl.trans (hbZ.mono hbl.size)
  have hxfl := hxf.lt
  generalize (W1.alloc (.cells #[.int .i64 (gI F (f * 2)), .int .i64 (gI F (f * 2 + 1))] 144)).drew = W2 at *
  clear z1 z2 z3 z4 hKeep hbZ hxq hbl
  have y0 : W2.cell? ⟨w.heap.size, 0, none⟩ = some (.int .i64 2) := hxq2.cell rfl
  have y1 : W2.cell? ⟨w.heap.size, 1, none⟩ = some (.int .i64 u) := hxq2.cell rfl
  have y2 : W2.cell? ⟨w.heap.size, 2, none⟩ = some (.int .i64 f) := hxq2.cell rfl
  have y3 : W2.cell? ⟨w.heap.size, 3, none⟩ = some (.int .i64 t) := hxq2.cell rfl
  have f0 : W2.cell? ⟨W1.heap.size, 0, none⟩ = some (.int .i64 (gI F (f * 2))) := hxf.cell rfl
  have f1 : W2.cell? ⟨W1.heap.size, 1, none⟩ = some (.int .i64 (gI F (f * 2 + 1))) := hxf.cell rfl
  have d0 := (hbl2.cell (p := ⟨p, 0, none⟩) hp).trans c0
  have d2 := (hbl2.cell (p := ⟨p, 2, none⟩) hp).trans c2
  have d3 := (hbl2.cell (p := ⟨p, 3, none⟩) hp).trans c3
  have d4 := (hbl2.cell (p := ⟨p, 4, none⟩) hp).trans c4
  have du0 := (hbl2.cell (p := ⟨gu, u * 2, none⟩) lgu).trans pu0
  have du1 := (hbl2.cell (p := ⟨gu, u * 2 + 1, none⟩) lgu).trans pu1
  have dr := (hbl2.cell (p := ⟨gr, u, none⟩) lgr).trans pr
  have dw := (hbl2.cell (p := ⟨gw, u, none⟩) lgw).trans pw
  have gr_ := (hbl2.frozen (p := ⟨gr, u, none⟩) lgr).trans fr
  have gw_ := (hbl2.frozen (p := ⟨gw, u, none⟩) lgw).trans fw
  clear c0 c1 c2 c3 c4 pf0 pf1 pu0 pu1 pr pw fr fw
  have HO := Lib.hid (fun V hb => h.setR nr hE ho hB (V := V) hb hu (x := x1) rfl)
  have ngr : p ≠ gr := (ho.or_.ne_box h.box int_ne_bell).symm
  clear h hI hU hF labF labU hT ho
  generalize gI F (f * 2) = xf0 at *
  generalize gI F (f * 2 + 1) = xf1 at *
  generalize gI U (u * 2) = xu0 at *
  generalize gI U (u * 2 + 1) = xu1 at *
  go_wp2_with fail
  refine wp_still_tailD 11 (by kernel_rfl) (by kernel_rfl) ?_
  simp only [List.take_succ_cons, List.take_zero, List.drop_succ_cons, List.drop_zero]
  repeat still_step
  refine wpStill_nil ?_
  go_wp2_with fail
  obtain ⟨r1, ro, r2, r3, r4⟩ := HO.out (W2.drewN 1) (belowD hbl2 1)
  have hxq3 := (hxq2.drewN 1).other (a := ⟨gr, u, none⟩) (by show w.heap.size ≠ gr; omega) (.int .i64 (x1 : Int))
  have k0 := hxq3.cell (k := 1) (v := .int .i64 u) rfl
  have k2 := r1.box.cell (k := 3) rfl
  rw [ew, List.length_set] at k2
  have k3 := ro.ow.row_ (i := u) (by show u < S.Wr.length; omega)
  have k4 := ro.ow.free u
  have hszV : base ≤ ((W2.drewN 1).setCell ⟨gr, u, none⟩ (.int .i64 (x1 : Int))).heap.size := by have := r2.size; omega
  have hszw : w.heap.size ≤ ((W2.drewN 1).setCell ⟨gr, u, none⟩ (.int .i64 (x1 : Int))).heap.size := r2.size
  clear y0 y1 y2 y3 f0 f1 d0 d2 d3 d4 du0 du1 dr dw gr_ gw_ hxq2 hxf hbl2 HO
  generalize (W2.drewN 1).setCell ⟨gr, u, none⟩ (.int .i64 (x1 : Int)) = V1 at *
  have kk3 : V1.cell? ⟨gw, u, none⟩ = some (.int .i64 (row S.Wr u : Nat)) := k3
  clear k3
  have HW := Lib.hid (r1.setW nw hE ro hszV (V := V1.drewN 1) (belowD (Below.refl _ _) 1) (i := u) (by show u < S.Wr.length; omega) (x := x2) rfl)
  clear r1 ro hxq3
  refine wp_still_tailD 11 (by kernel_rfl) (by kernel_rfl) ?_
  simp only [List.take_succ_cons, List.take_zero, List.drop_succ_cons, List.drop_zero]
  repeat still_step
  refine wpStill_nil ?_
  go_wp2_with fail
  go_ret
  obtain ⟨t1, _, t2, t3, t4⟩ := HW.out
  exact ⟨rfl, t1, r2.trans t2, r3.trans t3, r4.trans t4 hszw⟩
set_option maxHeartbeats 4000000 in
theorem LAsk_copy {ok : Nat → Prop} (h : BellAt w base p U F S A) (hT : Tab w) (hI : LInv U F S) (hU : ∀ i, i < S.Re.length → labOk (gI U (i * 2)) (gI U (i * 2 + 1))) (hF : ∀ i, i < S.Ho.length → labOk (gI F (i * 2)) (gI F (i * 2 + 1))) (hB : base ≤ w.heap.size) (hno : S.Re ≠ [] → S.Ho ≠ [] → ∀ g, (A.Ar = some ⟨g, 0, none⟩ ∨ A.Aw = some ⟨g, 0, none⟩ ∨ A.Ah = some ⟨g, 0, none⟩) → ¬ ok g) (u f : Nat) (t : Int) (hu : u < S.Re.length) (hf : f < S.Ho.length) (ht : 0 ≤ t ∧ t < S.Ho.length) :
    Calls Tryz.prog 119 #[.pointer (some ⟨p, 0, none⟩), .agg #[.int .i64 3, .int .i64 u, .int .i64 f, .int .i64 t]] w fun e w' => e = .returned (errVal (lAsk U F S 3 u f t).2) ∧ BellAt w' base p U F (lAsk U F S 3 u f t).1 A ∧ Below base w w' ∧ KeepsT 3 w w' ∧ Spares ok w w' := by
  have hn8 := hI.ln
  have hm8 := hI.lm
  have hlw := hI.lw
  obtain ⟨gu, gf, gr, gw, gh, eu, ef, er, ew, eh, ho⟩ := h.own (by intro e; simp [e] at hu) (by intro e; simp [e] at hf)
  have hno := hno (by intro e; simp [e] at hu) (by intro e; simp [e] at hf)
  have nr : ¬ ok gr := hno gr (.inl er)
  have nw : ¬ ok gw := hno gw (.inr (.inl ew))
  have nh : ¬ ok gh := hno gh (.inr (.inr eh))
  have hE : Rows5 A gu gf gr gw gh := ⟨eu, ef, er, ew, eh⟩
  clear hno
  have c0 : w.cell? ⟨p, 0, none⟩ = some (.slice A.Au S.Re.length A.cu) := h.box.cell rfl
  have c1 : w.cell? ⟨p, 1, none⟩ = some (.slice A.Af S.Ho.length A.cf) := h.box.cell rfl
  have hp := h.box.lt
  have c2 : w.cell? ⟨p, 2, none⟩ = some (.slice A.Ar S.Re.length A.cr) := h.box.cell rfl
  have c3 : w.cell? ⟨p, 3, none⟩ = some (.slice A.Aw S.Re.length A.cw) := h.box.cell rfl
  have c4 : w.cell? ⟨p, 4, none⟩ = some (.slice A.Ah S.Ho.length A.ch) := h.box.cell rfl
  have C1 := Lib.hid (fun V => Within3_is 3 0 3 true V (by simp))
  have C2 := Lib.hid (fun V => Within3_is (u : Int) 0 ((S.Re.length : Int) - 1) true V (by simp; omega))
  have C3 := Lib.hid (fun V => Within3_is (f : Int) 0 ((S.Ho.length : Int) - 1) true V (by simp; omega))
  have lu := h.lu
  have lf := h.lf
  have pf0 := ho.of_.cell (k := f * 2) (v := .int .i64 (gI F (f * 2))) (by rw [List.getElem?_map, get_gI (by omega)]; rfl)
  have pf1 := ho.of_.cell (k := f * 2 + 1) (v := .int .i64 (gI F (f * 2 + 1))) (by rw [List.getElem?_map, get_gI (by omega)]; rfl)
  have pu0 := ho.ou.cell (k := u * 2) (v := .int .i64 (gI U (u * 2))) (by rw [List.getElem?_map, get_gI (by omega)]; rfl)
  have pu1 := ho.ou.cell (k := u * 2 + 1) (v := .int .i64 (gI U (u * 2 + 1))) (by rw [List.getElem?_map, get_gI (by omega)]; rfl)
  have pr := ho.or_.row_ hu
  have pw := ho.ow.row_ (i := u) (by omega)
  have lgf := ho.of_.lt
  have lgu := ho.ou.lt
  have lgr := ho.or_.lt
  have lgw := ho.ow.lt
  have lgh := ho.oh.lt
  have fr := ho.or_.free u
  have fw := ho.ow.free u
  have labF := hF f hf
  have labU := hU u hu
  have hp2 : 2 ^ f < 2 ^ 62 := Nat.pow_lt_pow_right (by decide) (by omega)
  obtain ⟨pf, hpf⟩ : ∃ pf : Nat, 2 ^ f = pf := ⟨_, rfl⟩
  have hpw : IntKind.i64.wrap (2 ^ f) = ((2 ^ f : Nat) : Int) := wrap_pow f (by omega)
  have hpw2 : wrap64 (2 ^ f) = ((2 ^ f : Nat) : Int) := wrap64_pow f (by omega)
  rw [hpf] at hpw hpw2 hp2
  have Hpf := Lib.hid hpf
  clear hpf
  have hr256 := hI.re_lt u
  have hw256 := hI.wr_lt u
  have hf62 : f < 62 := by omega
  obtain ⟨tn, rfl⟩ := Int.eq_ofNat_of_zero_le ht.1
  have htl : tn < S.Ho.length := by omega
  have hres : lAsk U F S 3 u f tn = if (row S.Re u).testBit f && (row S.Wr u).testBit tn then ({ S with Ho := S.Ho.set tn (row S.Ho tn ||| row S.Ho f) }, 0) else (S, 8) := by
    unfold lAsk; rw [if_pos ⟨⟨by omega, by omega, by omega⟩, fun e => by omega⟩, if_neg (by decide), if_neg (by decide), if_neg (by decide)]; rfl
  have hh1 := hI.ho_lt tn
  have hh2 := hI.ho_lt f
  have hbits := bits_or_nat (row S.Ho tn) (row S.Ho f) (by omega) (by omega)
  obtain ⟨xn, hxn⟩ : ∃ xn, row S.Ho tn ||| row S.Ho f = xn := ⟨_, rfl⟩
  obtain ⟨b1, hb1⟩ : ∃ b1, (row S.Re u).testBit f = b1 := ⟨_, rfl⟩
  obtain ⟨b2, hb2⟩ : ∃ b2, (row S.Wr u).testBit tn = b2 := ⟨_, rfl⟩
  rw [hres, hxn, hb1, hb2]
  rw [hxn] at hbits
  have C4 := Lib.hid (fun V => Within3_is (tn : Int) 0 ((S.Ho.length : Int) - 1) true V (by simp; omega))
  have C5 := Lib.hid (fun V => Has_is (row S.Re u) f b1 V (by omega) (by omega) hb1)
  have C6 := Lib.hid (fun V => Has_is (row S.Wr u) tn b2 V (by omega) (by omega) hb2)
  have pt := ho.oh.row_ htl
  have ph := ho.oh.row_ hf
  have fh := ho.oh.free tn
  clear hres hxn hb1 hb2 ht
  have hf2 : f * 2 < F.length := by omega
  rw [eu] at c0
  rw [ef] at c1
  rw [er] at c2
  rw [ew] at c3
  rw [eh] at c4
  have hb : Below w.heap.size w (w.alloc (.cells #[.int .i64 3, .int .i64 u, .int .i64 f, .int .i64 tn] 157)) := (Below.refl _ _).alloc (Nat.le_refl _) _
  have hx2 := BoxN.new w 157 #[.int .i64 3, .int .i64 u, .int .i64 f, .int .i64 tn]
  have hsz : (w.alloc (.cells #[.int .i64 3, .int .i64 u, .int .i64 f, .int .i64 tn] 157)).heap.size = w.heap.size + 1 := by simp
  generalize hWA : (w.alloc (.cells #[.int .i64 3, .int .i64 u, .int .i64 f, .int .i64 tn] 157)) = WA at *
  have Hsz := Lib.hid hsz
  clear hsz
  have e0 : WA.cell? ⟨p, 0, none⟩ = some (.slice (some ⟨gu, 0, none⟩) S.Re.length A.cu) := (hb.cell (p := ⟨p, 0, none⟩) hp).trans c0
  have e1 : WA.cell? ⟨p, 1, none⟩ = some (.slice (some ⟨gf, 0, none⟩) S.Ho.length A.cf) := (hb.cell (p := ⟨p, 1, none⟩) hp).trans c1
  have y0 : WA.cell? ⟨w.heap.size, 0, none⟩ = some (.int .i64 3) := hx2.cell rfl
  have y1 : WA.cell? ⟨w.heap.size, 1, none⟩ = some (.int .i64 u) := hx2.cell rfl
  have y2 : WA.cell? ⟨w.heap.size, 2, none⟩ = some (.int .i64 f) := hx2.cell rfl
  have y3 : WA.cell? ⟨w.heap.size, 3, none⟩ = some (.int .i64 tn) := hx2.cell rfl
  have HA := Lib.hid (fun V (hV : Below WA.heap.size WA V) => hb.trans (hV.mono hb.size))
  go_enter Tryz.func119, Tryz.ntmps119
  go_wp2_with fail
  go_quiet (first | (with_reducible exact quiet1 (C1.out _)) | (with_reducible exact quiet1 (C2.out _)) | (with_reducible exact quiet1 (C3.out _)))
  go_wp2_with fail
  obtain ⟨q1, rfl⟩ : ∃ q1, q1 = nq := ⟨_, rfl⟩
  go_quiet (with_reducible exact quiet2 (C4.out _))
  go_wp2_with fail
  have hbW : Below WA.heap.size WA (WA.drewN (q1 + nq)) := belowD (Below.refl _ _) _
  have hbl := HA.out _ hbW
  have hxq := hx2.all hbW
  have hsW : (WA.drewN (q1 + nq)).heap.size = WA.heap.size := rfl
  generalize WA.drewN (q1 + nq) = W1 at *
  have hxs := hxq.lt
  have z1 : W1.cell? ⟨p, 1, none⟩ = some (.slice (some ⟨gf, 0, none⟩) S.Ho.length A.cf) := (hbl.cell (p := ⟨p, 1, none⟩) hp).trans c1
  have z2 : W1.cell? ⟨w.heap.size, 2, none⟩ = some (.int .i64 f) := hxq.cell rfl
  have z3 := (hbl.cell (p := ⟨gf, f * 2, none⟩) lgf).trans pf0
  have z4 := (hbl.cell (p := ⟨gf, f * 2 + 1, none⟩) lgf).trans pf1
  clear e0 e1 y0 y1 y2 y3 hx2 hb hbW HA hsW
  have hKeep := Lib.hid (fun V (hV : Below W1.heap.size W1 V) => (⟨(hV.cell (p := ⟨p, 1, none⟩) (block_lt z1)).trans z1, (hV.cell (p := ⟨w.heap.size, 2, none⟩) hxs).trans z2, (hV.cell (p := ⟨gf, f * 2, none⟩) (block_lt z3)).trans z3, (hV.cell (p := ⟨gf, f * 2 + 1, none⟩) (block_lt z4)).trans z4⟩ : V.cell? ⟨p, 1, none⟩ = some (.slice (some ⟨gf, 0, none⟩) S.Ho.length A.cf) ∧ V.cell? ⟨w.heap.size, 2, none⟩ = some (.int .i64 f) ∧ V.cell? ⟨gf, f * 2, none⟩ = some (.int .i64 (gI F (f * 2))) ∧ V.cell? ⟨gf, f * 2 + 1, none⟩ = some (.int .i64 (gI F (f * 2 + 1)))))
  go_region_held3 (fun V => V.cell? ⟨p, 1, none⟩ = some (.slice (some ⟨gf, 0, none⟩) S.Ho.length A.cf) ∧ V.cell? ⟨w.heap.size, 2, none⟩ = some (.int .i64 f) ∧ V.cell? ⟨gf, f * 2, none⟩ = some (.int .i64 (gI F (f * 2))) ∧ V.cell? ⟨gf, f * 2 + 1, none⟩ = some (.int .i64 (gI F (f * 2 + 1)))) ((refine hKeep.out _ ?_; repeat (first | exact Below.refl _ _ | refine Below.setCell ?_ (by simp) _ | refine Below.alloc ?_ (by simp) _ | refine Below.drew ?_))) (fail)
  have hbZ : Below W1.heap.size W1 (W1.alloc (.cells #[.int .i64 (gI F (f * 2)), .int .i64 (gI F (f * 2 + 1))] 144)).drew := ((Below.refl _ _).alloc (Nat.le_refl _) _).drew
  have hxf : BoxN (W1.alloc (.cells #[.int .i64 (gI F (f * 2)), .int .i64 (gI F (f * 2 + 1))] 144)).drew W1.heap.size 144 #[.int .i64 (gI F (f * 2)), .int .i64 (gI F (f * 2 + 1))] := (BoxN.new W1 _ _).drew
  have hxq2 := hxq.all hbZ
  have hbl2 := hbl.trans (hbZ.mono hbl.size)
  have hxfl := hxf.lt
  generalize (W1.alloc (.cells #[.int .i64 (gI F (f * 2)), .int .i64 (gI F (f * 2 + 1))] 144)).drew = W2 at *
  clear z1 z2 z3 z4 hKeep hbZ hxq hbl
  have y0 : W2.cell? ⟨w.heap.size, 0, none⟩ = some (.int .i64 3) := hxq2.cell rfl
  have y1 : W2.cell? ⟨w.heap.size, 1, none⟩ = some (.int .i64 u) := hxq2.cell rfl
  have y2 : W2.cell? ⟨w.heap.size, 2, none⟩ = some (.int .i64 f) := hxq2.cell rfl
  have y3 : W2.cell? ⟨w.heap.size, 3, none⟩ = some (.int .i64 tn) := hxq2.cell rfl
  have f0 : W2.cell? ⟨W1.heap.size, 0, none⟩ = some (.int .i64 (gI F (f * 2))) := hxf.cell rfl
  have f1 : W2.cell? ⟨W1.heap.size, 1, none⟩ = some (.int .i64 (gI F (f * 2 + 1))) := hxf.cell rfl
  have d0 := (hbl2.cell (p := ⟨p, 0, none⟩) hp).trans c0
  have d2 := (hbl2.cell (p := ⟨p, 2, none⟩) hp).trans c2
  have d3 := (hbl2.cell (p := ⟨p, 3, none⟩) hp).trans c3
  have d4 := (hbl2.cell (p := ⟨p, 4, none⟩) hp).trans c4
  have du0 := (hbl2.cell (p := ⟨gu, u * 2, none⟩) lgu).trans pu0
  have du1 := (hbl2.cell (p := ⟨gu, u * 2 + 1, none⟩) lgu).trans pu1
  have dr := (hbl2.cell (p := ⟨gr, u, none⟩) lgr).trans pr
  have dw := (hbl2.cell (p := ⟨gw, u, none⟩) lgw).trans pw
  have gr_ := (hbl2.frozen (p := ⟨gr, u, none⟩) lgr).trans fr
  have gw_ := (hbl2.frozen (p := ⟨gw, u, none⟩) lgw).trans fw
  clear c0 c1 c2 c3 c4 pf0 pf1 pu0 pu1 pr pw fr fw
  have dt := (hbl2.cell (p := ⟨gh, tn, none⟩) lgh).trans pt
  have dh := (hbl2.cell (p := ⟨gh, f, none⟩) lgh).trans ph
  have gh_ := (hbl2.frozen (p := ⟨gh, tn, none⟩) lgh).trans fh
  have H0 := Lib.hid h
  have HO := Lib.hid (fun V hb => h.setH nh hE ho hB (V := V) hb htl (x := xn) rfl)
  clear h hI hU hF labF labU hT ho pt ph fh
  generalize gI F (f * 2) = xf0 at *
  generalize gI F (f * 2 + 1) = xf1 at *
  generalize gI U (u * 2) = xu0 at *
  generalize gI U (u * 2 + 1) = xu1 at *
  generalize row S.Re u = xr at *
  generalize row S.Wr u = xw at *
  generalize row S.Ho tn = h1 at *
  generalize row S.Ho f = h2 at *
  cases b1 with
  | false =>
    go_wp2_with fail
    go_quiet (first | (with_reducible exact quiet1 (C5.out _)) | (with_reducible exact quiet1 (C6.out _)))
    go_wp2_with fail
    go_ret
    have hbf := belowD hbl2 nq
    exact ⟨rfl, H0.out.all hbf, hbf.mono hB, KeepsT.of_below hbf, Spares.of_below hbf⟩
  | true =>
    cases b2 with
    | false =>
      go_wp2_with fail
      go_quiet (first | (with_reducible exact quiet1 (C5.out _)) | (with_reducible exact quiet1 (C6.out _)))
      go_wp2_with fail
      go_ret
      have hbf := belowD hbl2 nq
      exact ⟨rfl, H0.out.all hbf, hbf.mono hB, KeepsT.of_below hbf, Spares.of_below hbf⟩
    | true =>
      go_wp2_with fail
      go_quiet (first | (with_reducible exact quiet1 (C5.out _)) | (with_reducible exact quiet1 (C6.out _)))
      go_wp2_with fail
      refine wp_still_tailD2 18 (by kernel_rfl) (by kernel_rfl) ?_
      simp only [List.take_succ_cons, List.take_zero, List.drop_succ_cons, List.drop_zero]
      repeat still_step
      refine wpStill_nil ?_
      go_wp2_with fail
      go_ret
      obtain ⟨r1, _, r2, r3, r4⟩ := HO.out (W2.drewN (nq + 1)) (belowD hbl2 _)
      exact ⟨rfl, r1, r2, r3, r4⟩
theorem LAsk_any2 {ok : Nat → Prop} (h : BellAt w base p U F S A) (hT : Tab w) (hI : LInv U F S) (hU : ∀ i, i < S.Re.length → labOk (gI U (i * 2)) (gI U (i * 2 + 1))) (hF : ∀ i, i < S.Ho.length → labOk (gI F (i * 2)) (gI F (i * 2 + 1))) (hB : base ≤ w.heap.size) (hno : S.Re ≠ [] → S.Ho ≠ [] → ∀ g, (A.Ar = some ⟨g, 0, none⟩ ∨ A.Aw = some ⟨g, 0, none⟩ ∨ A.Ah = some ⟨g, 0, none⟩) → ¬ ok g) (k u f t : Int) :
    Calls Tryz.prog 119 #[.pointer (some ⟨p, 0, none⟩), .agg #[.int .i64 k, .int .i64 u, .int .i64 f, .int .i64 t]] w fun e w' => e = .returned (errVal (lAsk U F S k u f t).2) ∧ BellAt w' base p U F (lAsk U F S k u f t).1 A ∧ Below base w w' ∧ KeepsT 3 w w' ∧ Spares ok w w' := by
  have hn8 := hI.ln
  have hm8 := hI.lm
  by_cases hok : lOk S k u f t
  · obtain ⟨⟨hk, ⟨hu0, hu1⟩, hf0, hf1⟩, ht⟩ := id hok
    obtain ⟨un, rfl⟩ := Int.eq_ofNat_of_zero_le hu0
    obtain ⟨fn, rfl⟩ := Int.eq_ofNat_of_zero_le hf0
    rcases (by omega : k = 0 ∨ k = 1 ∨ k = 2 ∨ k = 3) with rfl | rfl | rfl | rfl
    · exact LAsk_read h hT hI hU hF hB hno un fn t (by omega) (by omega)
    · exact LAsk_write h hT hI hU hF hB hno un fn t (by omega) (by omega)
    · exact LAsk_drop h hT hI hU hF hB hno un fn t (by omega) (by omega)
    · exact LAsk_copy h hT hI hU hF hB hno un fn t (by omega) (by omega) (ht rfl)
  · unfold lAsk
    rw [if_neg hok]
    exact (LAsk_range h (by omega) (by omega) k u f t hok).mono fun e w' ⟨he, hb⟩ => ⟨he, h.all hb, hb.mono hB, KeepsT.of_below hb, Spares.of_below hb⟩
end
end Go.Proofs.YtanlmfnhlldkeaaGreatDoor

namespace Go.Proofs.YtanlmfnhlldkeaaGreatDoor
open Go.RowKit
set_option maxRecDepth 100000
set_option linter.unusedVariables false

theorem eLabs : EInfo Tryz.prog 91 144 2 16 := EInfo.of (z := .agg #[.int .i64 0, .int .i64 0]) Tryz.underlying91 (by kernel_rfl) rfl (by decide)
theorem OwnAt.of_owns2 {w : World} {e : TypeId} {base n c size : Nat} {A : Option Addr} {l : List Value} (h : w.ownsRow base e size (.slice A n c) n l) (hl : l ≠ []) : ∃ g, A = some ⟨g, 0, none⟩ ∧ base ≤ g ∧ OwnAt w g e l := by
  rcases h.2 with ⟨_, h0⟩ | ⟨g, cap, cur, hv, hb, hg, hnc, _, hs, ht⟩
  · have := h.1; rw [h0, Nat.zero_mul] at this; exact absurd (List.length_eq_zero_iff.1 this) hl
  · refine ⟨g, by injection hv, hb, cur, hg, ?_, ?_⟩
    · have h1 := h.1
      rw [hs, h1]
      exact Nat.mul_le_mul_right _ hnc
    · intro j v hj
      rw [← ht, List.getElem?_take] at hj
      split at hj
      · simpa using hj
      · cases hj
set_option maxHeartbeats 400000 in
theorem CloneL_any (L : List Int) (n : Nat) (hL : L.length = n * 2) (A : Option Addr) (c : Nat) (w : World) (h : IntsAt w A L) (hn : n ≤ 100) :
    Calls Tryz.prog 142 #[.slice A n c] w fun e w' => (∃ A' c', e = .returned (.slice A' n c') ∧ IntsAt w' A' L ∧ (L ≠ [] → ∃ g, A' = some ⟨g, 0, none⟩ ∧ w.heap.size ≤ g ∧ OwnAt w' g 144 (vI L))) ∧ Below w.heap.size w w' := by
  have q22 := fun (w : World) (a : Option Addr) (n c n' c' : Nat) => Lib.run_eql_slice_nil w _ _ a n c n' c' Tryz.underlying91
  cases A with
  | none =>
    have hL0 : L = [] := Classical.byContradiction fun e => by obtain ⟨b, off, hA, _⟩ := h e; cases hA
    subst hL0
    obtain rfl : n = 0 := by simp at hL; omega
    go_enter Tryz.func142, Tryz.ntmps142
    go_wp2
    go_ret
    exact ⟨⟨none, 0, rfl, IntsAt.nil, fun e => absurd rfl e⟩, Below.refl _ _⟩
  | some a =>
    have hown : (w.alloc (.cells #[] 144)).ownsRow w.heap.size 144 2 (.slice (some ⟨w.heap.size, 0, none⟩) 0 0) 0 [] := ⟨rfl, .inr ⟨w.heap.size, 0, #[], rfl, Nat.le_refl _, heap_alloc_new w _, Nat.le_refl _, by unfold maxLen; omega, rfl, rfl⟩⟩
    have hcells : CellsAt (w.alloc (.cells #[] 144)) (some a) (vI L) := (h.below ((Below.refl _ w).alloc (Nat.le_refl _) _)).cells
    have Hc := Lib.hid h
    go_enter Tryz.func142, Tryz.ntmps142
    go_wp2_with (at_builtin; refine wpList_append_cells rfl _ _ rfl eLabs rfl hown (some a) n c (vI L) rfl hcells (by simp [vI, hL]) (fun u hu => by obtain ⟨x, _, rfl⟩ := List.mem_map.1 hu; rfl) (by omega) (by omega) (by simp) ?_; intro v' w1 hp)
    have hbl : Below w.heap.size w w1 := hp.below hown ((Below.refl _ w).alloc (Nat.le_refl _) _) (by simp)
    have hown1 := hp.own
    rw [Nat.zero_add, List.nil_append] at hown1
    obtain ⟨A', c', rfl⟩ := ownsRow_form hown1
    clear hp
    go_wp2
    go_ret
    refine ⟨⟨A', c', rfl, (CellsAt.own hown1).ints, fun hne => ?_⟩, hbl⟩
    exact OwnAt.of_owns2 hown1 (by simpa [vI] using hne)
set_option maxHeartbeats 1000000 in
theorem labels_any (L : List Int) (n most : Nat) (hL : L.length = n * 2) (hm : most ≤ 100) (A : Option Addr) (c : Nat) (w : World) (h : IntsAt w A L) (hl : n < 2 ^ 60) :
    Calls Tryz.prog 141 #[.slice A n c, .int .i64 most] w fun e w' => e = .returned (errVal (labsCode L n most)) ∧ Below w.heap.size w w' := by
  by_cases h12 : most < n
  · have Hc := Lib.hid (show labsCode L n most = 4 by unfold labsCode; rw [if_pos h12])
    clear hL
    go_enter Tryz.func141, Tryz.ntmps141
    go_wp2
    go_ret
    exact ⟨by rw [Hc.out]; rfl, Below.refl _ _⟩
  · have Hc := Lib.hid (show labsCode L n most = if (List.range n).all (labOkB L) then 0 else 1 by unfold labsCode; rw [if_neg h12])
    have HL := Lib.hid hL
    clear hL
    go_enter Tryz.func141, Tryz.ntmps141
    go_wp2
    go_loopw [15] (fun i wr => ∃ k : Nat, k ≤ n ∧ i = .int .i64 k ∧ Hid (∀ x, x < k → labOkB L x = true) ∧ Below w.heap.size w wr) (fun i _ => n - (intOf i).toNat)
    case atStart => exact ⟨0, Nat.zero_le _, rfl, Lib.hid (fun x hx => by omega), Below.refl _ _⟩
    case round =>
      obtain ⟨k, hk, rfl, hall, hbw⟩ := hrel
      by_cases hlt : k < n
      · have hA := h.below hbw
        have hL := HL.out
        obtain ⟨b, off, rfl, hc⟩ := hA (by intro e; simp [e] at hL; omega)
        have p0 := hc (k * 2) _ (get_gI (by omega))
        have p1 : wr.cell? ⟨b, off + k * 2 + 1, none⟩ = some (.int .i64 (gI L (k * 2 + 1))) := hc (k * 2 + 1) _ (get_gI (by omega))
        have hbl := block_lt p0
        have hbz : Below wr.heap.size wr (wr.alloc (.cells #[.int .i64 (gI L (k * 2)), .int .i64 (gI L (k * 2 + 1))] 144)) := (Below.refl _ _).alloc (Nat.le_refl _) _
        clear hc hL hA
        cases hb : labOkB L k with
        | true =>
          have hok : labOk (gI L (k * 2)) (gI L (k * 2 + 1)) := by unfold labOkB at hb; exact of_decide_eq_true hb
          have Hb := Lib.hid (fun V => LabCheck_ok _ _ V hok)
          have Hnew := Lib.hid (show ∀ y, y < k + 1 → labOkB L y = true from fun y hy => by
            rcases Nat.lt_or_ge y k with h1 | h1
            · exact hall.out y h1
            · obtain rfl : y = k := by omega
              exact hb)
          clear hb hall hok
          generalize gI L (k * 2) = v0 at *
          generalize gI L (k * 2 + 1) = v1 at *
          go_wp2_with (go_at_call 167; with_reducible refine (Hb.out _).mono ?_; rintro e w5 ⟨rfl, hb5⟩)
          refine ⟨⟨k + 1, ?xa, ?xb, Hnew, ?xc⟩, ?xd⟩
          case xa => omega
          case xb => go_num
          case xc => exact hbw.trans ((hbz.trans (hb5.mono hbz.size)).mono hbw.size)
          case xd => simp [intOf]; omega
        | false =>
          have hok : ¬ labOk (gI L (k * 2)) (gI L (k * 2 + 1)) := by unfold labOkB at hb; exact of_decide_eq_false hb
          have Hb := Lib.hid (fun V => LabCheck_bad _ _ V hok)
          have Hno := Lib.hid (show (List.range n).all (labOkB L) = false from by
            rw [List.all_eq_false]; exact ⟨k, List.mem_range.2 hlt, by rw [hb]; decide⟩)
          clear hb hall hok
          generalize gI L (k * 2) = v0 at *
          generalize gI L (k * 2 + 1) = v1 at *
          go_wp2_with (go_at_call 167; with_reducible refine (Hb.out _).mono ?_; rintro e w5 ⟨rfl, hb5⟩)
          go_ret
          exact ⟨by rw [Hc.out, Hno.out]; rfl, hbw.trans ((hbz.trans (hb5.mono hbz.size)).mono hbw.size)⟩
      · obtain rfl : k = n := by omega
        have Hyes := Lib.hid (show (List.range k).all (labOkB L) = true from by
          rw [List.all_eq_true]
          intro x hx
          exact hall.out x (List.mem_range.1 hx))
        clear hall
        go_wp2
        go_ret
        exact ⟨by rw [Hc.out, Hyes.out]; rfl, hbw⟩
end Go.Proofs.YtanlmfnhlldkeaaGreatDoor

namespace Go.Proofs.YtanlmfnhlldkeaaGreatDoor
open Go.RowKit
set_option maxRecDepth 100000
set_option linter.unusedVariables false

/-- The rows that the loop leaves alone. -/
def LRest (W0 B : Nat) (U F : List Int) (Au Af : Option Addr) (gr gw m : Nat) (V : World) : Prop :=
  (U ≠ [] → ∃ g, Au = some ⟨g, 0, none⟩ ∧ W0 ≤ g ∧ g < B ∧ OwnAt V g 144 (vI U)) ∧ (F ≠ [] → ∃ g, Af = some ⟨g, 0, none⟩ ∧ W0 ≤ g ∧ g < B ∧ OwnAt V g 144 (vI F)) ∧
  gr < B ∧ OwnAt V gr 3 (vI (castL (List.replicate m 0))) ∧ gw < B ∧ OwnAt V gw 3 (vI (castL (List.replicate m 0)))
section
variable {W0 B : Nat} {U F : List Int} {Au Af : Option Addr} {gr gw m : Nat} {V V' : World}
theorem LRest.below (h : LRest W0 B U F Au Af gr gw m V) (hb : Below B V V') : LRest W0 B U F Au Af gr gw m V' :=
  ⟨fun hne => by
    obtain ⟨g, e, h1, h2, h3⟩ := h.1 hne
    exact ⟨g, e, h1, h2, h3.below hb h2⟩, fun hne => by
    obtain ⟨g, e, h1, h2, h3⟩ := h.2.1 hne
    exact ⟨g, e, h1, h2, h3.below hb h2⟩, h.2.2.1, h.2.2.2.1.below hb h.2.2.1, h.2.2.2.2.1, h.2.2.2.2.2.below hb h.2.2.2.2.1⟩
theorem LRest.set {p i : Nat} {vs : Array Value} (h : LRest W0 B U F Au Af gr gw m V) (hx : BoxN V p 226 vs) (v : Value) : LRest W0 B U F Au Af gr gw m (V.setCell ⟨p, i, none⟩ v) :=
  ⟨fun hne => by
    obtain ⟨g, e, h1, h2, h3⟩ := h.1 hne
    exact ⟨g, e, h1, h2, h3.far (a := ⟨p, i, none⟩) (h3.ne_box hx label_ne_bell) _⟩, fun hne => by
    obtain ⟨g, e, h1, h2, h3⟩ := h.2.1 hne
    exact ⟨g, e, h1, h2, h3.far (a := ⟨p, i, none⟩) (h3.ne_box hx label_ne_bell) _⟩, h.2.2.1, h.2.2.2.1.far (a := ⟨p, i, none⟩) (h.2.2.2.1.ne_box hx int_ne_bell) _, h.2.2.2.2.1, h.2.2.2.2.2.far (a := ⟨p, i, none⟩) (h.2.2.2.2.2.ne_box hx int_ne_bell) _⟩
end

theorem BoxN.new' (w : World) (t : TypeId) (vs : Array Value) (p : Nat) (hp : p = w.heap.size) : BoxN (w.alloc (.cells vs t)) p t vs := by subst hp; exact BoxN.new w t vs
theorem own_zeros' (w : World) (m g : Nat) (hg : g = w.heap.size) : OwnAt (w.alloc (.cells (madeCells #[Value.int .i64 0] m) 3)) g 3 (vI (castL (List.replicate m 0))) := by subst hg; exact own_zeros w m
/-- Where the rows of a monitor lie, those that hold something. -/
def LA.low (A : LA) (base : Nat) (U F : List Int) : Prop :=
  (U ≠ [] → ∃ g, A.Au = some ⟨g, 0, none⟩ ∧ base ≤ g) ∧ (F ≠ [] → ∃ g, A.Af = some ⟨g, 0, none⟩ ∧ base ≤ g) ∧ (U ≠ [] → ∃ g, A.Ar = some ⟨g, 0, none⟩ ∧ base ≤ g) ∧ (U ≠ [] → ∃ g, A.Aw = some ⟨g, 0, none⟩ ∧ base ≤ g) ∧ (F ≠ [] → ∃ g, A.Ah = some ⟨g, 0, none⟩ ∧ base ≤ g)
set_option maxHeartbeats 8000000 in
theorem LNew_low (U F : List Int) (m n : Nat) (hU : U.length = m * 2) (hF : F.length = n * 2) (Ua Fa : Option Addr) (c d : Nat) (w : World) (iU : IntsAt w Ua U) (iF : IntsAt w Fa F) (h1 : labsCode U m 8 = 0) (h2 : labsCode F n 8 = 0) :
    Calls Tryz.prog 112 #[.slice Ua m c, .slice Fa n d] w fun e w' => (∃ p A, e = .returned (.tuple #[.pointer (some ⟨p, 0, none⟩), .nilIface]) ∧ BellAt w' w.heap.size p U F (lStart m n) A ∧ A.low w.heap.size U F) ∧ Below w.heap.size w w' := by
  have hm8 := (labsCode_ok h1).1
  have hn8 := (labsCode_ok h2).1
  have L1 := fun V (hV : IntsAt V Ua U) => labels_any U m 8 hU (by omega) Ua c V hV (by omega)
  have L2 := fun V (hV : IntsAt V Fa F) => labels_any F n 8 hF (by omega) Fa d V hV (by omega)
  rw [h1, errVal_zero] at L1
  rw [h2, errVal_zero] at L2
  have M1 := Lib.hid L1
  have M2 := Lib.hid L2
  have hmk : ∀ V : World, (Instr.makeSlice 24 (.int .i64 m) (.int .i64 m)).run Tryz.prog V = .ok (.slice (some ⟨V.heap.size, 0, none⟩) m m) (V.alloc (.cells (madeCells #[Value.int .i64 0] m) 3)) := fun V => by
    obtain ⟨ti, hi, hz0, hz1, hz2⟩ := info_parts intInfo
    have := run_make (P := Tryz.prog) (w := V) 24 3 ti _ Tryz.underlying24 hi hz0 .i64 .i64 m m (by omega) (Int.le_refl _) (by rw [hz2]; omega) (by omega)
    rw [hz1, Int.toNat_natCast, Nat.mul_one] at this
    exact this
  clear L1 L2 h1 h2
  go_enter Tryz.func112, Tryz.ntmps112
  go_wp2_with fail
  refine (M1.out _ iU).mono ?_
  rintro e wA ⟨rfl, hbA⟩
  go_wp2_with fail
  refine (M2.out _ (iF.below hbA)).mono ?_
  rintro e wB ⟨rfl, hbB⟩
  have hbw := hbA.trans (hbB.mono hbA.size)
  have K1 := Lib.hid (fun V (hV : Below wB.heap.size wB V) => (CloneL_any U m hU Ua c V ((iU.below hbw).below hV) (by omega)).mono fun e w' ⟨he, hb⟩ => (⟨he, hb, hV.trans (hb.mono hV.size)⟩ : _ ∧ Below V.heap.size V w' ∧ Below wB.heap.size wB w'))
  have K2 := Lib.hid (fun V (hV : Below wB.heap.size wB V) => (CloneL_any F n hF Fa d V ((iF.below hbw).below hV) (by omega)).mono fun e w' ⟨he, hb⟩ => (⟨he, hb, hV.trans (hb.mono hV.size)⟩ : _ ∧ Below V.heap.size V w' ∧ Below wB.heap.size wB w'))
  clear M1 M2 hbA hbB iU iF
  have hs0 := hbw.size
  go_wp2_with fail
  go_cut [8] from 20 to 32 (fun x8 wx => ∃ p Au Af cu cf gr gw, x8 = .pointer (some ⟨p, 0, none⟩) ∧ wB.heap.size ≤ p ∧ BoxN wx p 226 #[.slice Au m cu, .slice Af n cf, .slice (some ⟨gr, 0, none⟩) m m, .slice (some ⟨gw, 0, none⟩) m m, .slice none 0 0] ∧
    IntsAt wx Au U ∧ (U ≠ [] → ∃ g, Au = some ⟨g, 0, none⟩ ∧ wB.heap.size ≤ g ∧ OwnAt wx g 144 (vI U)) ∧ IntsAt wx Af F ∧ (F ≠ [] → ∃ g, Af = some ⟨g, 0, none⟩ ∧ wB.heap.size ≤ g ∧ OwnAt wx g 144 (vI F)) ∧
    wB.heap.size ≤ gr ∧ OwnAt wx gr 3 (vI (castL (List.replicate m 0))) ∧ wB.heap.size ≤ gw ∧ OwnAt wx gw 3 (vI (castL (List.replicate m 0))) ∧ gr ≠ gw ∧ Below wB.heap.size wB wx)
  case first =>
    go_region_held3 (fun V => True) (trivial) ((first | (go_at_call 142; with_reducible refine (K1.out _ (by repeat (first | assumption | exact Below.refl _ _ | refine Below.alloc ?_ (by first | exact Nat.le_refl _ | exact Below.size (by assumption) | (have hq := Below.size hbw1; simp; omega) | (simp; done)) _ | refine Below.drew ?_))).mono ?_; rintro e w1 ⟨⟨Au, cu, rfl, iu, ou⟩, hb1, hbw1⟩) | (go_at_call 142; with_reducible refine (K2.out _ (by repeat (first | assumption | exact Below.refl _ _ | refine Below.alloc ?_ (by first | exact Nat.le_refl _ | exact Below.size (by assumption) | (have hq := Below.size hbw1; simp; omega) | (simp; done)) _ | refine Below.drew ?_))).mono ?_; rintro e w2 ⟨⟨Af, cf, rfl, if_, of_⟩, hb2, hbw2⟩)))
    all_goals (go_wp2_with fail; go_meet)
    all_goals
      have s1 := hb1.size
      have s2 := hb2.size
      have s3 := hbw1.size
      have s4 := hbw2.size
      try simp at s1
      try simp at s2
      have hb12 : Below w1.heap.size w1 w2 := by
        refine Below.trans ?_ (Below.mono hb2 ?_)
        · repeat (first | exact Below.refl _ _ | refine Below.drew ?_ | refine Below.alloc ?_ (by first | exact Nat.le_refl _ | simp) _)
        · first | exact Nat.le_refl _ | (simp; done) | (simp; omega)
      refine ⟨_, Au, Af, cu, cf, _, _, rfl, ?_, BoxN.new' _ _ _ _ ?_, ?_, ?_, ?_, ?_, ?_, ?_, ?_, ?_, ?_, ?_⟩
      · omega
      · first | rfl | (simp; done) | (simp; omega)
      · refine (iu.below hb12).below ?_
        repeat (first | exact Below.refl _ _ | refine Below.drew ?_ | refine Below.alloc ?_ (by first | exact Nat.le_refl _ | (simp; done) | (simp; omega)) _)
      · intro hne
        obtain ⟨g, e, hg, og⟩ := ou hne
        try simp at hg
        refine ⟨g, e, by omega, (og.all hb12).all ?_⟩
        repeat (first | exact Below.refl _ _ | refine Below.drew ?_ | refine Below.alloc ?_ (by first | exact Nat.le_refl _ | (simp; done) | (simp; omega)) _)
      · refine if_.below ?_
        repeat (first | exact Below.refl _ _ | refine Below.drew ?_ | refine Below.alloc ?_ (by first | exact Nat.le_refl _ | (simp; done) | (simp; omega)) _)
      · intro hne
        obtain ⟨g, e, hg, og⟩ := of_ hne
        try simp at hg
        refine ⟨g, e, by omega, og.all ?_⟩
        repeat (first | exact Below.refl _ _ | refine Below.drew ?_ | refine Below.alloc ?_ (by first | exact Nat.le_refl _ | (simp; done) | (simp; omega)) _)
      · omega
      · repeat (first | (refine own_zeros' _ _ _ ?_; first | rfl | (simp; done)) | refine OwnAt.all ?_ hb2 | refine OwnAt.all ?_ hb1 | refine OwnAt.drew ?_ | refine OwnAt.all ?_ ((Below.refl _ _).alloc (Nat.le_refl _) _))
      · omega
      · repeat (first | (refine own_zeros' _ _ _ ?_; first | rfl | (simp; done)) | refine OwnAt.all ?_ hb2 | refine OwnAt.all ?_ hb1 | refine OwnAt.drew ?_ | refine OwnAt.all ?_ ((Below.refl _ _).alloc (Nat.le_refl _) _))
      · omega
      · refine Below.trans hbw2 (Below.mono (?_ : Below w2.heap.size w2 _) s4)
        repeat (first | exact Below.refl _ _ | refine Below.drew ?_ | refine Below.alloc ?_ (by first | exact Nat.le_refl _ | (simp; done) | (simp; omega)) _)
  case rest =>
    obtain ⟨p, Au, Af, cu, cf, gr, gw, rfl, hp, hbx, iu, ou, if_, of_, hgr, ogr, hgw, ogw, hrw, hbx2⟩ := hcut
    clear K1 K2 hmk
    have hps := hbx.lt
    have hgl := ogr.lt
    have hgl2 := ogw.lt
    have hszw := hbx2.size
    have hrest : LRest wB.heap.size wc.heap.size U F Au Af gr gw m wc := ⟨fun hne => by
      obtain ⟨g, e, h1, h2⟩ := ou hne
      exact ⟨g, e, h1, h2.lt, h2⟩, fun hne => by
      obtain ⟨g, e, h1, h2⟩ := of_ hne
      exact ⟨g, e, h1, h2.lt, h2⟩, hgl, ogr, hgl2, ogw⟩
    have hbwc := hbw.trans (hbx2.mono hs0)
    clear iu ou if_ of_ hgl hgl2 ogr ogw hbx2
    go_wp2_with fail
    go_loopw [34] (fun i wr => ∃ (j : Nat) (v : Value), j ≤ n ∧ i = .int .i64 j ∧ BoxN wr p 226 #[.slice Au m cu, .slice Af n cf, .slice (some ⟨gr, 0, none⟩) m m, .slice (some ⟨gw, 0, none⟩) m m, v] ∧ OwnI wr wc.heap.size v (castL (pows j)) ∧ LRest wB.heap.size wc.heap.size U F Au Af gr gw m wr ∧ Below w.heap.size w wr ∧ wc.heap.size ≤ wr.heap.size) (fun i _ => n - (intOf i).toNat)
    case atStart => exact ⟨0, _, Nat.zero_le _, rfl, hbx, OwnI.nil _ _, hrest, hbwc, Nat.le_refl _⟩
    case round =>
      clear hbx hrest hbwc
      obtain ⟨j, v, hj, rfl, hbx, hown, hrest, hbr, hsz⟩ := hrel
      by_cases hlt : j < n
      · have h62 : j < 62 := by omega
        have hp1 : IntKind.i64.wrap (2 ^ j) = ((2 ^ j : Nat) : Int) := wrap_pow j h62
        have hp2 : wrap64 (2 ^ j) = ((2 ^ j : Nat) : Int) := wrap64_pow j h62
        have c2 : wr.cell? ⟨p, 4, none⟩ = some v := hbx.cell rfl
        have hlen : (castL (pows j)).length < 2 ^ 40 := by rw [length_castL, length_pows]; omega
        have Hnx := Lib.hid (show castL (pows j) ++ [((2 ^ j : Nat) : Int)] = castL (pows (j + 1)) by rw [pows_succ]; simp [castL])
        generalize castL (pows j) = xs at *
        generalize 2 ^ j = pj at *
        go_wp2_with fail
        have hpl : p < wr.heap.size := hbx.lt
        have hne := World.new_ne wr ⟨p, 4, none⟩ c2
        go_region_law ((refine step_push_int (by rfl) _ _ (by rfl) (by rfl) (hown.next (w' := _) (by repeat (first | exact Below.refl _ _ | refine Below.drew ?_ | refine Below.alloc ?_ (Nat.le_refl _) _))) wr.heap.size pj (by rfl) (cell_of_row _ _ 0 _ _ _ (heap_alloc_new wr _)) hlen (by simp; omega) ?_; intro B' cc w' hown' hi' hbl; have hbz := hbl wr (by repeat (first | exact Below.refl _ _ | refine Below.drew ?_ | refine Below.alloc ?_ hsz _)); have hbx' := hbx.below hbz hps; have c2' := hbx'.cell (k := 4) rfl; have f2' := hbx'.free 4))
        all_goals
          try go_wp2_with fail
          have hlen1 : (xs ++ [(pj : Int)]).length = xs.length + 1 := by simp
          rw [Hnx.out] at hown'
          have hszn := hbz.size
          refine ⟨⟨j + 1, _, by omega, by go_num, hbx'.set 4 _, hown'.setOut (a := ⟨p, 4, none⟩) hps _, (hrest.below hbz).set hbx' _, (hbr.trans (hbz.mono (by omega))).setCell (p := ⟨p, 4, none⟩) (by show _ ≤ p; omega) _, by simp; omega⟩, ?_⟩
          simp [intOf]; omega
      · obtain rfl : j = n := by omega
        go_wp2_with fail
        go_ret2
        obtain ⟨B', cc, rfl, hi'⟩ := hown.form
        obtain ⟨r1, r2, r3, r4, r5, r6⟩ := hrest
        refine ⟨⟨p, ⟨Au, Af, some ⟨gr, 0, none⟩, some ⟨gw, 0, none⟩, B', cu, cf, m, m, cc⟩, rfl, ⟨by omega, ?_, ?_, ?_, ?_, ?_, ?_, r4.ints, r6.ints, hi', ?_⟩, ?_⟩, hbr⟩
        · show BoxN _ _ _ #[.slice Au (List.replicate m 0).length cu, .slice Af (pows j).length cf, .slice _ (List.replicate m 0).length m, .slice _ (List.replicate m 0).length m, .slice B' (pows j).length cc]
          rw [List.length_replicate, length_pows]
          rw [length_castL, length_pows] at hbx
          exact hbx
        · show U.length = (List.replicate m 0).length * 2; rw [List.length_replicate]; exact hU
        · show F.length = (pows j).length * 2; rw [length_pows]; exact hF
        · rfl
        · by_cases hne : U = []
          · subst hne; exact IntsAt.nil
          · obtain ⟨g, rfl, _, _, og⟩ := r1 hne; exact og.ints
        · by_cases hne : F = []
          · subst hne; exact IntsAt.nil
          · obtain ⟨g, rfl, _, _, og⟩ := r2 hne; exact og.ints
        · intro hS hH
          have hm0 : m ≠ 0 := by rintro rfl; exact hS rfl
          have hj0 : j ≠ 0 := by rintro rfl; exact hH rfl
          obtain ⟨gu, eu, u1, u2, u3⟩ := r1 (by intro e; simp [e] at hU; omega)
          obtain ⟨gf, ef, f1, f2, f3⟩ := r2 (by intro e; simp [e] at hF; omega)
          have hlp : 0 < (castL (pows j)).length := by rw [length_castL, length_pows]; omega
          have hown2 : wr.ownsRow wc.heap.size 3 1 (.slice B' (castL (pows j)).length cc) (castL (pows j)).length ((castL (pows j)).map (.int .i64)) := hown
          obtain ⟨gh, eh, hgh, ogh⟩ := OwnAt.of_owns hown2 hlp
          exact ⟨gu, gf, gr, gw, gh, eu, ef, rfl, rfl, eh, by omega, by omega, by omega, by omega, by omega, u3, f3, r4, r6, ogh, hrw, by omega, by omega⟩
        · refine ⟨fun hne => ?_, fun hne => ?_, fun _ => ⟨gr, rfl, by omega⟩, fun _ => ⟨gw, rfl, by omega⟩, fun hne => ?_⟩
          · obtain ⟨gu, eu, u1, u2, u3⟩ := r1 hne; exact ⟨gu, eu, by omega⟩
          · obtain ⟨gf, ef, f1, f2, f3⟩ := r2 hne; exact ⟨gf, ef, by omega⟩
          · have hj0 : j ≠ 0 := by rintro rfl; exact hne (List.length_eq_zero_iff.1 (by omega))
            have hlp : 0 < (castL (pows j)).length := by rw [length_castL, length_pows]; omega
            have hown2 : wr.ownsRow wc.heap.size 3 1 (.slice B' (castL (pows j)).length cc) (castL (pows j)).length ((castL (pows j)).map (.int .i64)) := hown
            obtain ⟨gh, eh, hgh, ogh⟩ := OwnAt.of_owns hown2 hlp
            exact ⟨gh, eh, by omega⟩
end Go.Proofs.YtanlmfnhlldkeaaGreatDoor
