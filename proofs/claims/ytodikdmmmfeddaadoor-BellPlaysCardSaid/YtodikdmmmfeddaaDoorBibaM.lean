/-
  Words: the monitor of levels that sink, in memory.
-/
import Derived.Test.YtodikdmmmfeddaaDoorBox
import Derived.Test.YtodikdmmmfeddaaDoorBibaLaw
import Derived.Test.YtodikdmmmfeddaaDoorClone
import Derived.Test.YtodikdmmmfeddaaDoorWithin
import Derived.Test.YtodikdmmmfeddaaDoorErr
import Derived.Test.YtodikdmmmfeddaaDoorOver
namespace Go.Proofs.YtodikdmmmfeddaaDoor
open Go.RowKit
set_option linter.unusedVariables false

abbrev vI (l : List Int) : List Value := l.map (Value.int .i64)
theorem vI_set (l : List Int) (i : Nat) (x : Int) : vI (l.set i x) = (vI l).set i (.int .i64 x) := by unfold vI; rw [List.map_set]
theorem OwnAt.gI {w : World} {g : Nat} {l : List Int} (h : OwnAt w g 3 (vI l)) {i : Nat} (hi : i < l.length) : w.cell? ⟨g, i, none⟩ = some (.int .i64 (gI l i)) :=
  h.cell (by rw [List.getElem?_map, get_gI hi]; rfl)

/-- The four rows, where there are users and files. -/
structure BOwn (w : World) (base : Nat) (F : List Int) (S : BS) (gu gf gw gh : Nat) : Prop where
  bu : base ≤ gu
  bf : base ≤ gf
  bw : base ≤ gw
  bh : base ≤ gh
  ou : OwnAt w gu 3 (vI S.U)
  of_ : OwnAt w gf 3 (vI F)
  ow : OwnAt w gw 3 (vI S.Wo)
  oh : OwnAt w gh 3 (vI S.He)
  uf : gu ≠ gf
  uw : gu ≠ gw
  uh : gu ≠ gh
  fw : gf ≠ gw
  fh : gf ≠ gh
  wh : gw ≠ gh
section
variable {w w' : World} {base : Nat} {F : List Int} {S : BS} {gu gf gw gh : Nat}
theorem BOwn.all (h : BOwn w base F S gu gf gw gh) (hb : Below w.heap.size w w') : BOwn w' base F S gu gf gw gh :=
  ⟨h.bu, h.bf, h.bw, h.bh, h.ou.all hb, h.of_.all hb, h.ow.all hb, h.oh.all hb, h.uf, h.uw, h.uh, h.fw, h.fh, h.wh⟩
theorem BOwn.setU (h : BOwn w base F S gu gf gw gh) {i : Nat} (hi : i < S.U.length) (x : Int) : BOwn (w.setCell ⟨gu, i, none⟩ (.int .i64 x)) base F { S with U := S.U.set i x } gu gf gw gh :=
  ⟨h.bu, h.bf, h.bw, h.bh, by show OwnAt _ _ _ (vI (S.U.set i x)); rw [vI_set]; exact h.ou.set (by simpa using hi) _, h.of_.far (a := ⟨gu, i, none⟩) h.uf.symm _, h.ow.far (a := ⟨gu, i, none⟩) h.uw.symm _, h.oh.far (a := ⟨gu, i, none⟩) h.uh.symm _, h.uf, h.uw, h.uh, h.fw, h.fh, h.wh⟩
theorem BOwn.setH (h : BOwn w base F S gu gf gw gh) {i : Nat} (hi : i < S.He.length) (x : Int) : BOwn (w.setCell ⟨gh, i, none⟩ (.int .i64 x)) base F { S with He := S.He.set i x } gu gf gw gh :=
  ⟨h.bu, h.bf, h.bw, h.bh, h.ou.far (a := ⟨gh, i, none⟩) h.uh _, h.of_.far (a := ⟨gh, i, none⟩) h.fh _, h.ow.far (a := ⟨gh, i, none⟩) h.wh _, by show OwnAt _ _ _ (vI (S.He.set i x)); rw [vI_set]; exact h.oh.set (by simpa using hi) _, h.uf, h.uw, h.uh, h.fw, h.fh, h.wh⟩
theorem BOwn.setW (h : BOwn w base F S gu gf gw gh) {i : Nat} (hi : i < S.Wo.length) (x : Int) : BOwn (w.setCell ⟨gw, i, none⟩ (.int .i64 x)) base F { S with Wo := S.Wo.set i x } gu gf gw gh :=
  ⟨h.bu, h.bf, h.bw, h.bh, h.ou.far (a := ⟨gw, i, none⟩) h.uw _, h.of_.far (a := ⟨gw, i, none⟩) h.fw _, by show OwnAt _ _ _ (vI (S.Wo.set i x)); rw [vI_set]; exact h.ow.set (by simpa using hi) _, h.oh.far (a := ⟨gw, i, none⟩) h.wh.symm _, h.uf, h.uw, h.uh, h.fw, h.fh, h.wh⟩
end

/-- The monitor at p. -/
structure BibaAt (w : World) (base p : Nat) (F : List Int) (S : BS) (Au Af Aw Ah : Option Addr) (cu cf cw ch : Nat) : Prop where
  bp : base ≤ p
  box : BoxN w p 68 #[.slice Au S.U.length cu, .slice Af F.length cf, .slice Aw F.length cw, .slice Ah S.U.length ch]
  lw : S.Wo.length = F.length
  lh : S.He.length = S.U.length
  iu : IntsAt w Au S.U
  iw : IntsAt w Aw S.Wo
  own : S.U ≠ [] → F ≠ [] → ∃ gu gf gw gh, Au = some ⟨gu, 0, none⟩ ∧ Af = some ⟨gf, 0, none⟩ ∧ Aw = some ⟨gw, 0, none⟩ ∧ Ah = some ⟨gh, 0, none⟩ ∧ BOwn w base F S gu gf gw gh
section
variable {w w' : World} {base p : Nat} {F : List Int} {S : BS} {Au Af Aw Ah : Option Addr} {cu cf cw ch : Nat}
theorem BibaAt.all (h : BibaAt w base p F S Au Af Aw Ah cu cf cw ch) (hb : Below w.heap.size w w') : BibaAt w' base p F S Au Af Aw Ah cu cf cw ch :=
  ⟨h.bp, h.box.all hb, h.lw, h.lh, h.iu.below hb, h.iw.below hb, fun h1 h2 => by
    obtain ⟨gu, gf, gw, gh, e1, e2, e3, e4, ho⟩ := h.own h1 h2
    exact ⟨gu, gf, gw, gh, e1, e2, e3, e4, ho.all hb⟩⟩
theorem int_ne_monitor : (3 : TypeId) ≠ 68 := by decide
end

/-- The level of a user. -/
theorem Level_any {w : World} {base p : Nat} {F : List Int} {S : BS} {Au Af Aw Ah : Option Addr} {cu cf cw ch : Nat} (h : BibaAt w base p F S Au Af Aw Ah cu cf cw ch) (hl : S.U.length < 2 ^ 60) (u : Int) :
    Calls Tryd.prog 16 #[.pointer (some ⟨p, 0, none⟩), .int .i64 u] w fun e w' => e = .returned (.int .i64 (lev S.U u)) ∧ w = w' := by
  have c0 : w.cell? ⟨p, 0, none⟩ = some (.slice Au S.U.length cu) := h.box.cell rfl
  by_cases hu : 0 ≤ u ∧ u < S.U.length
  · obtain ⟨un, rfl⟩ := Int.eq_ofNat_of_zero_le hu.1
    have hun : un < S.U.length := by omega
    obtain ⟨b, off, x, rfl, hx, hc⟩ := h.iu.at_ hun
    have C1 := Lib.hid (fun V => Within3_is (un : Int) 0 ((S.U.length : Int) - 1) true V (by simp; omega))
    have Hv := Lib.hid (show lev S.U un = x by unfold lev; rw [if_pos hu]; exact gI_of hx.out)
    clear h hu hx
    generalize S.U.length = n at *
    go_enter Tryd.func16, Tryd.ntmps16
    go_wp2_with (go_at_call 41; with_reducible refine (C1.out _).mono ?_; rintro e w' ⟨rfl, rfl⟩)
    go_ret
    exact ⟨ret_int Hv.out.symm, rfl⟩
  · have C1 := Lib.hid (fun V => Within3_is u 0 ((S.U.length : Int) - 1) false V (by simp; omega))
    have Hv := Lib.hid (show lev S.U u = -1 by unfold lev; rw [if_neg hu])
    clear h hu
    generalize S.U.length = n at *
    go_enter Tryd.func16, Tryd.ntmps16
    go_wp2_with (go_at_call 41; with_reducible refine (C1.out _).mono ?_; rintro e w' ⟨rfl, rfl⟩)
    go_ret
    exact ⟨ret_int Hv.out.symm, rfl⟩
theorem Worst_any {w : World} {base p : Nat} {F : List Int} {S : BS} {Au Af Aw Ah : Option Addr} {cu cf cw ch : Nat} (h : BibaAt w base p F S Au Af Aw Ah cu cf cw ch) (hl : F.length < 2 ^ 60) (u : Int) :
    Calls Tryd.prog 18 #[.pointer (some ⟨p, 0, none⟩), .int .i64 u] w fun e w' => e = .returned (.int .i64 (lev S.Wo u)) ∧ w = w' := by
  have c0 : w.cell? ⟨p, 1, none⟩ = some (.slice Af F.length cf) := h.box.cell rfl
  have c1 : w.cell? ⟨p, 2, none⟩ = some (.slice Aw F.length cw) := h.box.cell rfl
  have hlw := h.lw
  by_cases hu : 0 ≤ u ∧ u < F.length
  · obtain ⟨un, rfl⟩ := Int.eq_ofNat_of_zero_le hu.1
    have hun : un < F.length := by omega
    obtain ⟨b, off, x, rfl, hx, hc⟩ := h.iw.at_ (k := un) (by omega)
    have C1 := Lib.hid (fun V => Within3_is (un : Int) 0 ((F.length : Int) - 1) true V (by simp; omega))
    have Hv := Lib.hid (show lev S.Wo un = x by unfold lev; rw [if_pos (by omega)]; exact gI_of hx.out)
    clear h hu hx hlw
    generalize F.length = n at *
    go_enter Tryd.func18, Tryd.ntmps18
    go_wp2_with (go_at_call 41; with_reducible refine (C1.out _).mono ?_; rintro e w' ⟨rfl, rfl⟩)
    go_ret
    exact ⟨ret_int Hv.out.symm, rfl⟩
  · have C1 := Lib.hid (fun V => Within3_is u 0 ((F.length : Int) - 1) false V (by simp; omega))
    have Hv := Lib.hid (show lev S.Wo u = -1 by unfold lev; rw [if_neg (by omega)])
    clear h hu hlw
    generalize F.length = n at *
    go_enter Tryd.func18, Tryd.ntmps18
    go_wp2_with (go_at_call 41; with_reducible refine (C1.out _).mono ?_; rintro e w' ⟨rfl, rfl⟩)
    go_ret
    exact ⟨ret_int Hv.out.symm, rfl⟩
end Go.Proofs.YtodikdmmmfeddaaDoor
