/-
  Words: the monitor of labels, in memory; contracts of Reads, Writes, Holds, below.
-/
import Derived.Test.YtanlmfnhlldkeaaGreatDoorBaseA
import Derived.Test.YtanlmfnhlldkeaaGreatDoorRowsA
namespace Go.Proofs.YtanlmfnhlldkeaaGreatDoor
open Go.RowKit
set_option maxRecDepth 100000
set_option linter.unusedVariables false

theorem OwnAt.ne_own {w : World} {g g' : Nat} {e e' : TypeId} {l l' : List Value} (h : OwnAt w g e l) (h' : OwnAt w g' e' l') (hne : e ≠ e') : g ≠ g' := by
  rintro rfl
  obtain ⟨cur, hg, _⟩ := h
  obtain ⟨cur', hg', _⟩ := h'
  rw [hg] at hg'
  injection hg' with hg'
  injection hg' with _ h2
  exact hne h2
theorem int_ne_label : (3 : TypeId) ≠ 144 := by decide
theorem int_ne_bell : (3 : TypeId) ≠ 226 := by decide
theorem label_ne_bell : (144 : TypeId) ≠ 226 := by decide

/-- The five rows, where there are users and files. -/
structure LOwn (w : World) (base : Nat) (U F : List Int) (S : LS) (gu gf gr gw gh : Nat) : Prop where
  bu : base ≤ gu
  bf : base ≤ gf
  br : base ≤ gr
  bw : base ≤ gw
  bh : base ≤ gh
  ou : OwnAt w gu 144 (vI U)
  of_ : OwnAt w gf 144 (vI F)
  or_ : OwnAt w gr 3 (vI (castL S.Re))
  ow : OwnAt w gw 3 (vI (castL S.Wr))
  oh : OwnAt w gh 3 (vI (castL S.Ho))
  rw : gr ≠ gw
  rh : gr ≠ gh
  wh : gw ≠ gh
section
variable {w w' : World} {base : Nat} {U F : List Int} {S : LS} {gu gf gr gw gh : Nat}
theorem LOwn.all (h : LOwn w base U F S gu gf gr gw gh) (hb : Below w.heap.size w w') : LOwn w' base U F S gu gf gr gw gh :=
  ⟨h.bu, h.bf, h.br, h.bw, h.bh, h.ou.all hb, h.of_.all hb, h.or_.all hb, h.ow.all hb, h.oh.all hb, h.rw, h.rh, h.wh⟩
theorem LOwn.setR (h : LOwn w base U F S gu gf gr gw gh) {i : Nat} (hi : i < S.Re.length) (x : Nat) : LOwn (w.setCell ⟨gr, i, none⟩ (.int .i64 (x : Int))) base U F { S with Re := S.Re.set i x } gu gf gr gw gh :=
  ⟨h.bu, h.bf, h.br, h.bw, h.bh, h.ou.far (a := ⟨gr, i, none⟩) (h.ou.ne_own h.or_ int_ne_label.symm) _, h.of_.far (a := ⟨gr, i, none⟩) (h.of_.ne_own h.or_ int_ne_label.symm) _, by show OwnAt _ _ _ (vI (castL (S.Re.set i x))); rw [vN_set]; exact h.or_.set (by simpa [castL] using hi) _, h.ow.far (a := ⟨gr, i, none⟩) h.rw.symm _, h.oh.far (a := ⟨gr, i, none⟩) h.rh.symm _, h.rw, h.rh, h.wh⟩
theorem LOwn.setW (h : LOwn w base U F S gu gf gr gw gh) {i : Nat} (hi : i < S.Wr.length) (x : Nat) : LOwn (w.setCell ⟨gw, i, none⟩ (.int .i64 (x : Int))) base U F { S with Wr := S.Wr.set i x } gu gf gr gw gh :=
  ⟨h.bu, h.bf, h.br, h.bw, h.bh, h.ou.far (a := ⟨gw, i, none⟩) (h.ou.ne_own h.ow int_ne_label.symm) _, h.of_.far (a := ⟨gw, i, none⟩) (h.of_.ne_own h.ow int_ne_label.symm) _, h.or_.far (a := ⟨gw, i, none⟩) h.rw _, by show OwnAt _ _ _ (vI (castL (S.Wr.set i x))); rw [vN_set]; exact h.ow.set (by simpa [castL] using hi) _, h.oh.far (a := ⟨gw, i, none⟩) h.wh.symm _, h.rw, h.rh, h.wh⟩
theorem LOwn.setH (h : LOwn w base U F S gu gf gr gw gh) {i : Nat} (hi : i < S.Ho.length) (x : Nat) : LOwn (w.setCell ⟨gh, i, none⟩ (.int .i64 (x : Int))) base U F { S with Ho := S.Ho.set i x } gu gf gr gw gh :=
  ⟨h.bu, h.bf, h.br, h.bw, h.bh, h.ou.far (a := ⟨gh, i, none⟩) (h.ou.ne_own h.oh int_ne_label.symm) _, h.of_.far (a := ⟨gh, i, none⟩) (h.of_.ne_own h.oh int_ne_label.symm) _, h.or_.far (a := ⟨gh, i, none⟩) h.rh _, h.ow.far (a := ⟨gh, i, none⟩) h.wh _, by show OwnAt _ _ _ (vI (castL (S.Ho.set i x))); rw [vN_set]; exact h.oh.set (by simpa [castL] using hi) _, h.rw, h.rh, h.wh⟩
end

/-- The addresses and rooms of a monitor's five slices. -/
structure LA where
  Au : Option Addr
  Af : Option Addr
  Ar : Option Addr
  Aw : Option Addr
  Ah : Option Addr
  cu : Nat
  cf : Nat
  cr : Nat
  cw : Nat
  ch : Nat
/-- The monitor at p. -/
structure BellAt (w : World) (base p : Nat) (U F : List Int) (S : LS) (A : LA) : Prop where
  bp : base ≤ p
  box : BoxN w p 226 #[.slice A.Au S.Re.length A.cu, .slice A.Af S.Ho.length A.cf, .slice A.Ar S.Re.length A.cr, .slice A.Aw S.Re.length A.cw, .slice A.Ah S.Ho.length A.ch]
  lu : U.length = S.Re.length * 2
  lf : F.length = S.Ho.length * 2
  lw : S.Wr.length = S.Re.length
  iu : IntsAt w A.Au U
  if_ : IntsAt w A.Af F
  ir : IntsAt w A.Ar (castL S.Re)
  iw : IntsAt w A.Aw (castL S.Wr)
  ih : IntsAt w A.Ah (castL S.Ho)
  own : S.Re ≠ [] → S.Ho ≠ [] → ∃ gu gf gr gw gh, A.Au = some ⟨gu, 0, none⟩ ∧ A.Af = some ⟨gf, 0, none⟩ ∧ A.Ar = some ⟨gr, 0, none⟩ ∧ A.Aw = some ⟨gw, 0, none⟩ ∧ A.Ah = some ⟨gh, 0, none⟩ ∧ LOwn w base U F S gu gf gr gw gh
section
variable {w w' : World} {base p : Nat} {U F : List Int} {S : LS} {A : LA}
theorem BellAt.all (h : BellAt w base p U F S A) (hb : Below w.heap.size w w') : BellAt w' base p U F S A :=
  ⟨h.bp, h.box.all hb, h.lu, h.lf, h.lw, h.iu.below hb, h.if_.below hb, h.ir.below hb, h.iw.below hb, h.ih.below hb, fun h1 h2 => by
    obtain ⟨gu, gf, gr, gw, gh, e1, e2, e3, e4, e5, ho⟩ := h.own h1 h2
    exact ⟨gu, gf, gr, gw, gh, e1, e2, e3, e4, e5, ho.all hb⟩⟩

theorem LReads_any (h : BellAt w base p U F S A) (hl : S.Re.length < 2 ^ 60) (u : Int) :
    Calls Tryz.prog 114 #[.pointer (some ⟨p, 0, none⟩), .int .i64 u] w fun e w' => e = .returned (.int .i64 (told S.Re u : Nat)) ∧ w = w' := by
  have c0 : w.cell? ⟨p, 0, none⟩ = some (.slice A.Au S.Re.length A.cu) := h.box.cell rfl
  have c1 : w.cell? ⟨p, 2, none⟩ = some (.slice A.Ar S.Re.length A.cr) := h.box.cell rfl
  by_cases hu : 0 ≤ u ∧ u < S.Re.length
  · obtain ⟨un, rfl⟩ := Int.eq_ofNat_of_zero_le hu.1
    have hun : un < S.Re.length := by omega
    obtain ⟨b, off, hA, hc⟩ := h.ir.row hun
    rw [hA] at c1
    have C1 := Lib.hid (fun V => Within3_is (un : Int) 0 ((S.Re.length : Int) - 1) true V (by simp; omega))
    have Hv := Lib.hid (show told S.Re un = row S.Re un by unfold told; rw [if_pos hu]; rfl)
    clear h hu hA
    generalize row S.Re un = x at *
    generalize S.Re.length = n at *
    go_enter Tryz.func114, Tryz.ntmps114
    go_wp2_with (go_at_call 41; with_reducible refine (C1.out _).mono ?_; rintro e w' ⟨rfl, rfl⟩)
    go_ret
    exact ⟨ret_int (by rw [Hv.out]), rfl⟩
  · have C1 := Lib.hid (fun V => Within3_is u 0 ((S.Re.length : Int) - 1) false V (by simp; omega))
    have Hv := Lib.hid (show told S.Re u = 0 by unfold told; rw [if_neg hu])
    clear h hu
    generalize S.Re.length = n at *
    go_enter Tryz.func114, Tryz.ntmps114
    go_wp2_with (go_at_call 41; with_reducible refine (C1.out _).mono ?_; rintro e w' ⟨rfl, rfl⟩)
    go_ret
    exact ⟨ret_int (by rw [Hv.out]; rfl), rfl⟩
theorem LWrites_any (h : BellAt w base p U F S A) (hl : S.Re.length < 2 ^ 60) (u : Int) :
    Calls Tryz.prog 115 #[.pointer (some ⟨p, 0, none⟩), .int .i64 u] w fun e w' => e = .returned (.int .i64 (told S.Wr u : Nat)) ∧ w = w' := by
  have c0 : w.cell? ⟨p, 0, none⟩ = some (.slice A.Au S.Re.length A.cu) := h.box.cell rfl
  have c1 : w.cell? ⟨p, 3, none⟩ = some (.slice A.Aw S.Re.length A.cw) := h.box.cell rfl
  have hlw := h.lw
  by_cases hu : 0 ≤ u ∧ u < S.Re.length
  · obtain ⟨un, rfl⟩ := Int.eq_ofNat_of_zero_le hu.1
    have hun : un < S.Re.length := by omega
    obtain ⟨b, off, hA, hc⟩ := h.iw.row (k := un) (by omega)
    rw [hA] at c1
    have C1 := Lib.hid (fun V => Within3_is (un : Int) 0 ((S.Re.length : Int) - 1) true V (by simp; omega))
    have Hv := Lib.hid (show told S.Wr un = row S.Wr un by unfold told; rw [if_pos (by omega)]; rfl)
    clear h hu hA hlw
    generalize row S.Wr un = x at *
    generalize S.Re.length = n at *
    go_enter Tryz.func115, Tryz.ntmps115
    go_wp2_with (go_at_call 41; with_reducible refine (C1.out _).mono ?_; rintro e w' ⟨rfl, rfl⟩)
    go_ret
    exact ⟨ret_int (by rw [Hv.out]), rfl⟩
  · have C1 := Lib.hid (fun V => Within3_is u 0 ((S.Re.length : Int) - 1) false V (by simp; omega))
    have Hv := Lib.hid (show told S.Wr u = 0 by unfold told; rw [if_neg (by omega)])
    clear h hu hlw
    generalize S.Re.length = n at *
    go_enter Tryz.func115, Tryz.ntmps115
    go_wp2_with (go_at_call 41; with_reducible refine (C1.out _).mono ?_; rintro e w' ⟨rfl, rfl⟩)
    go_ret
    exact ⟨ret_int (by rw [Hv.out]; rfl), rfl⟩
theorem LHolds_any (h : BellAt w base p U F S A) (hl : S.Ho.length < 2 ^ 60) (u : Int) :
    Calls Tryz.prog 116 #[.pointer (some ⟨p, 0, none⟩), .int .i64 u] w fun e w' => e = .returned (.int .i64 (told S.Ho u : Nat)) ∧ w = w' := by
  have c0 : w.cell? ⟨p, 1, none⟩ = some (.slice A.Af S.Ho.length A.cf) := h.box.cell rfl
  have c1 : w.cell? ⟨p, 4, none⟩ = some (.slice A.Ah S.Ho.length A.ch) := h.box.cell rfl
  by_cases hu : 0 ≤ u ∧ u < S.Ho.length
  · obtain ⟨un, rfl⟩ := Int.eq_ofNat_of_zero_le hu.1
    have hun : un < S.Ho.length := by omega
    obtain ⟨b, off, hA, hc⟩ := h.ih.row hun
    rw [hA] at c1
    have C1 := Lib.hid (fun V => Within3_is (un : Int) 0 ((S.Ho.length : Int) - 1) true V (by simp; omega))
    have Hv := Lib.hid (show told S.Ho un = row S.Ho un by unfold told; rw [if_pos hu]; rfl)
    clear h hu hA
    generalize row S.Ho un = x at *
    generalize S.Ho.length = n at *
    go_enter Tryz.func116, Tryz.ntmps116
    go_wp2_with (go_at_call 41; with_reducible refine (C1.out _).mono ?_; rintro e w' ⟨rfl, rfl⟩)
    go_ret
    exact ⟨ret_int (by rw [Hv.out]), rfl⟩
  · have C1 := Lib.hid (fun V => Within3_is u 0 ((S.Ho.length : Int) - 1) false V (by simp; omega))
    have Hv := Lib.hid (show told S.Ho u = 0 by unfold told; rw [if_neg hu])
    clear h hu
    generalize S.Ho.length = n at *
    go_enter Tryz.func116, Tryz.ntmps116
    go_wp2_with (go_at_call 41; with_reducible refine (C1.out _).mono ?_; rintro e w' ⟨rfl, rfl⟩)
    go_ret
    exact ⟨ret_int (by rw [Hv.out]; rfl), rfl⟩
end

/-- A label as a value. -/
theorem lbelow_any (v v' s s' : Int) (h : labOk v s) (h' : labOk v' s') (w : World) {r : Bool} (hr : (decide (v ≤ v') && within s.toNat s'.toNat) = r) :
    Calls Tryz.prog 146 #[.agg #[.int .i64 v, .int .i64 s], .agg #[.int .i64 v', .int .i64 s']] w fun e w' => e = .returned (.bool r) ∧ Below w.heap.size w w' := by
  obtain ⟨sn, rfl⟩ := Int.eq_ofNat_of_zero_le h.2.2.1
  obtain ⟨sn', rfl⟩ := Int.eq_ofNat_of_zero_le h'.2.2.1
  simp only [Int.toNat_natCast] at hr
  have H := fun V => Below_ok v v' sn sn' V h h'
  rw [hr] at H
  have H := Lib.hid H
  clear h h' hr
  go_enter Tryz.func146, Tryz.ntmps146
  go_wp2_with fail
  refine (H.out _).mono ?_
  rintro e w1 ⟨rfl, hb1⟩
  go_wp2_with fail
  go_ret
  exact ⟨rfl, (((Below.refl _ w).alloc (Nat.le_refl _) _).alloc (by simp) _).trans (hb1.mono (by simp; omega))⟩
end Go.Proofs.YtanlmfnhlldkeaaGreatDoor
