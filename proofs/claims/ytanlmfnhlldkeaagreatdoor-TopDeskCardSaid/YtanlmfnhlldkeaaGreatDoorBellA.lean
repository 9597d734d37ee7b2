/-
  Contract: the monitor's Ask. (printed by askbell.py)
-/
import Derived.Test.YtanlmfnhlldkeaaGreatDoorBellO
import Derived.Test.YtanlmfnhlldkeaaGreatDoorRowsA
import Derived.Test.YtanlmfnhlldkeaaGreatDoorLoopA
import Derived.Lib.QuietBelow
import Derived.Deep.RegionHeld3
import Derived.Deep.CutRange
namespace Go.Proofs.YtanlmfnhlldkeaaGreatDoor
open Go.RowKit
set_option maxRecDepth 100000
set_option linter.unusedVariables false

section
variable {w V : World} {base p : Nat} {U F : List Int} {S : LS} {A : LA} {gu gf gr gw gh : Nat}
/-- The monitor's addresses are those of its rows. -/
structure Rows5 (A : LA) (gu gf gr gw gh : Nat) : Prop where
  eu : A.Au = some ⟨gu, 0, none⟩
  ef : A.Af = some ⟨gf, 0, none⟩
  er : A.Ar = some ⟨gr, 0, none⟩
  ew : A.Aw = some ⟨gw, 0, none⟩
  eh : A.Ah = some ⟨gh, 0, none⟩
theorem BellAt.of (h : BellAt w base p U F S A) (e : Rows5 A gu gf gr gw gh) {V : World} {S' : LS} (hbox : BoxN V p 226 #[.slice A.Au S'.Re.length A.cu, .slice A.Af S'.Ho.length A.cf, .slice A.Ar S'.Re.length A.cr, .slice A.Aw S'.Re.length A.cw, .slice A.Ah S'.Ho.length A.ch])
    (l1 : S'.Re.length = S.Re.length) (l2 : S'.Ho.length = S.Ho.length) (l3 : S'.Wr.length = S.Wr.length) (ho : LOwn V base U F S' gu gf gr gw gh) : BellAt V base p U F S' A :=
  ⟨h.bp, hbox, by rw [l1]; exact h.lu, by rw [l2]; exact h.lf, by rw [l1, l3]; exact h.lw, by rw [e.eu]; exact ho.ou.ints, by rw [e.ef]; exact ho.of_.ints, by rw [e.er]; exact ho.or_.ints, by rw [e.ew]; exact ho.ow.ints, by rw [e.eh]; exact ho.oh.ints, fun _ _ => ⟨gu, gf, gr, gw, gh, e.eu, e.ef, e.er, e.ew, e.eh, ho⟩⟩
theorem BellAt.setR {ok : Nat → Prop} (ng : ¬ ok gr) (h : BellAt w base p U F S A) (e : Rows5 A gu gf gr gw gh) (ho : LOwn w base U F S gu gf gr gw gh) (hB : base ≤ w.heap.size) (hb : Below w.heap.size w V) {i x : Nat} (hi : i < S.Re.length) {z : Int} (hz : z = x) :
    BellAt (V.setCell ⟨gr, i, none⟩ (.int .i64 z)) base p U F { S with Re := S.Re.set i x } A ∧ LOwn (V.setCell ⟨gr, i, none⟩ (.int .i64 z)) base U F { S with Re := S.Re.set i x } gu gf gr gw gh ∧ Below base w (V.setCell ⟨gr, i, none⟩ (.int .i64 z)) ∧ KeepsT 3 w (V.setCell ⟨gr, i, none⟩ (.int .i64 z)) ∧ Spares ok w (V.setCell ⟨gr, i, none⟩ (.int .i64 z)) := by
  subst hz
  have hV := ho.all hb
  have hS := hV.setR hi x
  have hbx : BoxN (V.setCell ⟨gr, i, none⟩ (.int .i64 (x : Int))) p 226 #[.slice A.Au ({ S with Re := S.Re.set i x } : LS).Re.length A.cu, .slice A.Af ({ S with Re := S.Re.set i x } : LS).Ho.length A.cf, .slice A.Ar ({ S with Re := S.Re.set i x } : LS).Re.length A.cr, .slice A.Aw ({ S with Re := S.Re.set i x } : LS).Re.length A.cw, .slice A.Ah ({ S with Re := S.Re.set i x } : LS).Ho.length A.ch] := by
    show BoxN _ _ _ #[.slice A.Au (S.Re.set i x).length A.cu, .slice A.Af S.Ho.length A.cf, .slice A.Ar (S.Re.set i x).length A.cr, .slice A.Aw (S.Re.set i x).length A.cw, .slice A.Ah S.Ho.length A.ch]
    rw [List.length_set]
    exact (h.box.all hb).other (a := ⟨gr, i, none⟩) (ho.or_.ne_box h.box int_ne_bell).symm _
  refine ⟨h.of e hbx (by simp) (by simp) (by simp) hS, hS, (hb.mono hB).setCell (p := ⟨gr, i, none⟩) ho.br _, ?_⟩
  obtain ⟨cur, hg, _⟩ := hV.or_
  refine ⟨(KeepsT.of_below hb).setCell hg _ _, fun b hok hbl => ?_⟩
  rw [Below.heap_setCell _ _ _ _ (fun e' => ng (by have e' : b = gr := e'; rw [← e']; exact hok))]
  exact hb.block b hbl
theorem BellAt.setW {ok : Nat → Prop} (ng : ¬ ok gw) (h : BellAt w base p U F S A) (e : Rows5 A gu gf gr gw gh) (ho : LOwn w base U F S gu gf gr gw gh) (hB : base ≤ w.heap.size) (hb : Below w.heap.size w V) {i x : Nat} (hi : i < S.Wr.length) {z : Int} (hz : z = x) :
    BellAt (V.setCell ⟨gw, i, none⟩ (.int .i64 z)) base p U F { S with Wr := S.Wr.set i x } A ∧ LOwn (V.setCell ⟨gw, i, none⟩ (.int .i64 z)) base U F { S with Wr := S.Wr.set i x } gu gf gr gw gh ∧ Below base w (V.setCell ⟨gw, i, none⟩ (.int .i64 z)) ∧ KeepsT 3 w (V.setCell ⟨gw, i, none⟩ (.int .i64 z)) ∧ Spares ok w (V.setCell ⟨gw, i, none⟩ (.int .i64 z)) := by
  subst hz
  have hV := ho.all hb
  have hS := hV.setW hi x
  have hbx : BoxN (V.setCell ⟨gw, i, none⟩ (.int .i64 (x : Int))) p 226 #[.slice A.Au ({ S with Wr := S.Wr.set i x } : LS).Re.length A.cu, .slice A.Af ({ S with Wr := S.Wr.set i x } : LS).Ho.length A.cf, .slice A.Ar ({ S with Wr := S.Wr.set i x } : LS).Re.length A.cr, .slice A.Aw ({ S with Wr := S.Wr.set i x } : LS).Re.length A.cw, .slice A.Ah ({ S with Wr := S.Wr.set i x } : LS).Ho.length A.ch] := (h.box.all hb).other (a := ⟨gw, i, none⟩) (ho.ow.ne_box h.box int_ne_bell).symm _
  refine ⟨h.of e hbx (by simp) (by simp) (by simp) hS, hS, (hb.mono hB).setCell (p := ⟨gw, i, none⟩) ho.bw _, ?_⟩
  obtain ⟨cur, hg, _⟩ := hV.ow
  refine ⟨(KeepsT.of_below hb).setCell hg _ _, fun b hok hbl => ?_⟩
  rw [Below.heap_setCell _ _ _ _ (fun e' => ng (by have e' : b = gw := e'; rw [← e']; exact hok))]
  exact hb.block b hbl
theorem BellAt.setH {ok : Nat → Prop} (ng : ¬ ok gh) (h : BellAt w base p U F S A) (e : Rows5 A gu gf gr gw gh) (ho : LOwn w base U F S gu gf gr gw gh) (hB : base ≤ w.heap.size) (hb : Below w.heap.size w V) {i x : Nat} (hi : i < S.Ho.length) {z : Int} (hz : z = x) :
    BellAt (V.setCell ⟨gh, i, none⟩ (.int .i64 z)) base p U F { S with Ho := S.Ho.set i x } A ∧ LOwn (V.setCell ⟨gh, i, none⟩ (.int .i64 z)) base U F { S with Ho := S.Ho.set i x } gu gf gr gw gh ∧ Below base w (V.setCell ⟨gh, i, none⟩ (.int .i64 z)) ∧ KeepsT 3 w (V.setCell ⟨gh, i, none⟩ (.int .i64 z)) ∧ Spares ok w (V.setCell ⟨gh, i, none⟩ (.int .i64 z)) := by
  subst hz
  have hV := ho.all hb
  have hS := hV.setH hi x
  have hbx : BoxN (V.setCell ⟨gh, i, none⟩ (.int .i64 (x : Int))) p 226 #[.slice A.Au ({ S with Ho := S.Ho.set i x } : LS).Re.length A.cu, .slice A.Af ({ S with Ho := S.Ho.set i x } : LS).Ho.length A.cf, .slice A.Ar ({ S with Ho := S.Ho.set i x } : LS).Re.length A.cr, .slice A.Aw ({ S with Ho := S.Ho.set i x } : LS).Re.length A.cw, .slice A.Ah ({ S with Ho := S.Ho.set i x } : LS).Ho.length A.ch] := by
    show BoxN _ _ _ #[.slice A.Au S.Re.length A.cu, .slice A.Af (S.Ho.set i x).length A.cf, .slice A.Ar S.Re.length A.cr, .slice A.Aw S.Re.length A.cw, .slice A.Ah (S.Ho.set i x).length A.ch]
    rw [List.length_set]
    exact (h.box.all hb).other (a := ⟨gh, i, none⟩) (ho.oh.ne_box h.box int_ne_bell).symm _
  refine ⟨h.of e hbx (by simp) (by simp) (by simp) hS, hS, (hb.mono hB).setCell (p := ⟨gh, i, none⟩) ho.bh _, ?_⟩
  obtain ⟨cur, hg, _⟩ := hV.oh
  refine ⟨(KeepsT.of_below hb).setCell hg _ _, fun b hok hbl => ?_⟩
  rw [Below.heap_setCell _ _ _ _ (fun e' => ng (by have e' : b = gh := e'; rw [← e']; exact hok))]
  exact hb.block b hbl

set_option maxHeartbeats 1000000 in
theorem LAsk_range (h : BellAt w base p U F S A) (hl : S.Re.length ≤ 100) (hl2 : S.Ho.length ≤ 100) (k u f t : Int) (hno : ¬ lOk S k u f t) :
    Calls Tryz.prog 119 #[.pointer (some ⟨p, 0, none⟩), .agg #[.int .i64 k, .int .i64 u, .int .i64 f, .int .i64 t]] w fun e w' => e = .returned (.iface 63 (.int .i64 1)) ∧ Below w.heap.size w w' := by
  have c0 : w.cell? ⟨p, 0, none⟩ = some (.slice A.Au S.Re.length A.cu) := h.box.cell rfl
  have c1 : w.cell? ⟨p, 1, none⟩ = some (.slice A.Af S.Ho.length A.cf) := h.box.cell rfl
  have hp := h.box.lt
  unfold lOk at hno
  by_cases h1 : 0 ≤ k ∧ k ≤ 3
  · have C1 := Lib.hid (fun V => Within3_is k 0 3 true V (by simp; omega))
    by_cases h2 : 0 ≤ u ∧ u < S.Re.length
    · have C2 := Lib.hid (fun V => Within3_is u 0 ((S.Re.length : Int) - 1) true V (by simp; omega))
      by_cases h3 : 0 ≤ f ∧ f < S.Ho.length
      · have C3 := Lib.hid (fun V => Within3_is f 0 ((S.Ho.length : Int) - 1) true V (by simp; omega))
        have hk3 : k = 3 := Classical.byContradiction fun e => hno ⟨⟨h1, h2, h3⟩, fun e' => absurd e' e⟩
        have ht : ¬ (0 ≤ t ∧ t < S.Ho.length) := fun e => hno ⟨⟨h1, h2, h3⟩, fun _ => e⟩
        have C4 := Lib.hid (fun V => Within3_is t 0 ((S.Ho.length : Int) - 1) false V (by simp; omega))
        subst hk3
        clear h1 h2 h3 hno ht
        have hb : Below w.heap.size w (w.alloc (.cells #[.int .i64 3, .int .i64 u, .int .i64 f, .int .i64 t] 157)) := (Below.refl _ _).alloc (Nat.le_refl _) _
        have hx2 := BoxN.new w 157 #[.int .i64 3, .int .i64 u, .int .i64 f, .int .i64 t]
        have hsz : (w.alloc (.cells #[.int .i64 3, .int .i64 u, .int .i64 f, .int .i64 t] 157)).heap.size = w.heap.size + 1 := by simp
        generalize hWA : (w.alloc (.cells #[.int .i64 3, .int .i64 u, .int .i64 f, .int .i64 t] 157)) = WA at *
        have Hsz := Lib.hid hsz
        clear hsz
        have e0 : WA.cell? ⟨p, 0, none⟩ = some (.slice A.Au S.Re.length A.cu) := (hb.cell (p := ⟨p, 0, none⟩) hp).trans c0
        have e1 : WA.cell? ⟨p, 1, none⟩ = some (.slice A.Af S.Ho.length A.cf) := (hb.cell (p := ⟨p, 1, none⟩) hp).trans c1
        have y0 : WA.cell? ⟨w.heap.size, 0, none⟩ = some (.int .i64 3) := hx2.cell rfl
        have y1 : WA.cell? ⟨w.heap.size, 1, none⟩ = some (.int .i64 u) := hx2.cell rfl
        have y2 : WA.cell? ⟨w.heap.size, 2, none⟩ = some (.int .i64 f) := hx2.cell rfl
        have y3 : WA.cell? ⟨w.heap.size, 3, none⟩ = some (.int .i64 t) := hx2.cell rfl
        clear h
        generalize S.Re.length = nu at *
        generalize S.Ho.length = nf at *
        go_enter Tryz.func119, Tryz.ntmps119
        go_wp2_with fail
        go_quiet (first | (with_reducible exact quiet1 (C1.out _)) | (with_reducible exact quiet1 (C2.out _)) | (with_reducible exact quiet1 (C3.out _)))
        go_wp2_with fail
        go_quiet (with_reducible exact quiet2 (C4.out _))
        go_wp2_with fail
        go_ret
        exact ⟨rfl, belowD hb _⟩

      · have C3 := Lib.hid (fun V => Within3_is f 0 ((S.Ho.length : Int) - 1) false V (by simp; omega))
        clear h1 h2 h3 hno
        have hb : Below w.heap.size w (w.alloc (.cells #[.int .i64 k, .int .i64 u, .int .i64 f, .int .i64 t] 157)) := (Below.refl _ _).alloc (Nat.le_refl _) _
        have hx2 := BoxN.new w 157 #[.int .i64 k, .int .i64 u, .int .i64 f, .int .i64 t]
        have hsz : (w.alloc (.cells #[.int .i64 k, .int .i64 u, .int .i64 f, .int .i64 t] 157)).heap.size = w.heap.size + 1 := by simp
        generalize hWA : (w.alloc (.cells #[.int .i64 k, .int .i64 u, .int .i64 f, .int .i64 t] 157)) = WA at *
        have Hsz := Lib.hid hsz
        clear hsz
        have e0 : WA.cell? ⟨p, 0, none⟩ = some (.slice A.Au S.Re.length A.cu) := (hb.cell (p := ⟨p, 0, none⟩) hp).trans c0
        have e1 : WA.cell? ⟨p, 1, none⟩ = some (.slice A.Af S.Ho.length A.cf) := (hb.cell (p := ⟨p, 1, none⟩) hp).trans c1
        have y0 : WA.cell? ⟨w.heap.size, 0, none⟩ = some (.int .i64 k) := hx2.cell rfl
        have y1 : WA.cell? ⟨w.heap.size, 1, none⟩ = some (.int .i64 u) := hx2.cell rfl
        have y2 : WA.cell? ⟨w.heap.size, 2, none⟩ = some (.int .i64 f) := hx2.cell rfl
        have y3 : WA.cell? ⟨w.heap.size, 3, none⟩ = some (.int .i64 t) := hx2.cell rfl
        clear h
        generalize S.Re.length = nu at *
        generalize S.Ho.length = nf at *
        go_enter Tryz.func119, Tryz.ntmps119
        go_wp2_with fail
        go_quiet (first | (with_reducible exact quiet1 (C1.out _)) | (with_reducible exact quiet1 (C2.out _)) | (with_reducible exact quiet1 (C3.out _)))
        go_wp2_with fail
        go_ret
        exact ⟨rfl, belowD hb nq⟩

    · have C2 := Lib.hid (fun V => Within3_is u 0 ((S.Re.length : Int) - 1) false V (by simp; omega))
      clear h1 h2 hno
      have hb : Below w.heap.size w (w.alloc (.cells #[.int .i64 k, .int .i64 u, .int .i64 f, .int .i64 t] 157)) := (Below.refl _ _).alloc (Nat.le_refl _) _
      have hx2 := BoxN.new w 157 #[.int .i64 k, .int .i64 u, .int .i64 f, .int .i64 t]
      have hsz : (w.alloc (.cells #[.int .i64 k, .int .i64 u, .int .i64 f, .int .i64 t] 157)).heap.size = w.heap.size + 1 := by simp
      generalize hWA : (w.alloc (.cells #[.int .i64 k, .int .i64 u, .int .i64 f, .int .i64 t] 157)) = WA at *
      have Hsz := Lib.hid hsz
      clear hsz
      have e0 : WA.cell? ⟨p, 0, none⟩ = some (.slice A.Au S.Re.length A.cu) := (hb.cell (p := ⟨p, 0, none⟩) hp).trans c0
      have e1 : WA.cell? ⟨p, 1, none⟩ = some (.slice A.Af S.Ho.length A.cf) := (hb.cell (p := ⟨p, 1, none⟩) hp).trans c1
      have y0 : WA.cell? ⟨w.heap.size, 0, none⟩ = some (.int .i64 k) := hx2.cell rfl
      have y1 : WA.cell? ⟨w.heap.size, 1, none⟩ = some (.int .i64 u) := hx2.cell rfl
      have y2 : WA.cell? ⟨w.heap.size, 2, none⟩ = some (.int .i64 f) := hx2.cell rfl
      have y3 : WA.cell? ⟨w.heap.size, 3, none⟩ = some (.int .i64 t) := hx2.cell rfl
      clear h
      generalize S.Re.length = nu at *
      generalize S.Ho.length = nf at *
      go_enter Tryz.func119, Tryz.ntmps119
      go_wp2_with fail
      go_quiet (first | (with_reducible exact quiet1 (C1.out _)) | (with_reducible exact quiet1 (C2.out _)))
      go_wp2_with fail
      go_ret
      exact ⟨rfl, belowD hb nq⟩

  · have C1 := Lib.hid (fun V => Within3_is k 0 3 false V (by simp; omega))
    clear h1 hno
    have hb : Below w.heap.size w (w.alloc (.cells #[.int .i64 k, .int .i64 u, .int .i64 f, .int .i64 t] 157)) := (Below.refl _ _).alloc (Nat.le_refl _) _
    have hx2 := BoxN.new w 157 #[.int .i64 k, .int .i64 u, .int .i64 f, .int .i64 t]
    have hsz : (w.alloc (.cells #[.int .i64 k, .int .i64 u, .int .i64 f, .int .i64 t] 157)).heap.size = w.heap.size + 1 := by simp
    generalize hWA : (w.alloc (.cells #[.int .i64 k, .int .i64 u, .int .i64 f, .int .i64 t] 157)) = WA at *
    have Hsz := Lib.hid hsz
    clear hsz
    have e0 : WA.cell? ⟨p, 0, none⟩ = some (.slice A.Au S.Re.length A.cu) := (hb.cell (p := ⟨p, 0, none⟩) hp).trans c0
    have e1 : WA.cell? ⟨p, 1, none⟩ = some (.slice A.Af S.Ho.length A.cf) := (hb.cell (p := ⟨p, 1, none⟩) hp).trans c1
    have y0 : WA.cell? ⟨w.heap.size, 0, none⟩ = some (.int .i64 k) := hx2.cell rfl
    have y1 : WA.cell? ⟨w.heap.size, 1, none⟩ = some (.int .i64 u) := hx2.cell rfl
    have y2 : WA.cell? ⟨w.heap.size, 2, none⟩ = some (.int .i64 f) := hx2.cell rfl
    have y3 : WA.cell? ⟨w.heap.size, 3, none⟩ = some (.int .i64 t) := hx2.cell rfl
    clear h
    generalize S.Re.length = nu at *
    generalize S.Ho.length = nf at *
    go_enter Tryz.func119, Tryz.ntmps119
    go_wp2_with fail
    go_quiet (first | (with_reducible exact quiet1 (C1.out _)))
    go_wp2_with fail
    go_ret
    exact ⟨rfl, belowD hb nq⟩

set_option maxHeartbeats 4000000 in
theorem LAsk_read {ok : Nat → Prop} (h : BellAt w base p U F S A) (hT : Tab w) (hI : LInv U F S) (hU : ∀ i, i < S.Re.length → labOk (gI U (i * 2)) (gI U (i * 2 + 1))) (hF : ∀ i, i < S.Ho.length → labOk (gI F (i * 2)) (gI F (i * 2 + 1))) (hB : base ≤ w.heap.size) (hno : S.Re ≠ [] → S.Ho ≠ [] → ∀ g, (A.Ar = some ⟨g, 0, none⟩ ∨ A.Aw = some ⟨g, 0, none⟩ ∨ A.Ah = some ⟨g, 0, none⟩) → ¬ ok g) (u f : Nat) (t : Int) (hu : u < S.Re.length) (hf : f < S.Ho.length) :
    Calls Tryz.prog 119 #[.pointer (some ⟨p, 0, none⟩), .agg #[.int .i64 0, .int .i64 u, .int .i64 f, .int .i64 t]] w fun e w' => e = .returned (errVal (lAsk U F S 0 u f t).2) ∧ BellAt w' base p U F (lAsk U F S 0 u f t).1 A ∧ Below base w w' ∧ KeepsT 3 w w' ∧ Spares ok w w' := by
  have hn8 := hI.ln
  have hm8 := hI.lm
  have hlw := hI.lw
  obtain ⟨gu, gf, gr, gw, gh, eu, ef, er, ew, eh, ho⟩ := h.own (by intro e; simp [e] at hu) (by intro e; simp [e] at hf)
  have hno := hno (by intro e; simp [e] at hu) (by intro e; simp [e] at hf)
  have nr : ¬ ok gr := hno gr (.inl er)
  have nw : ¬ ok gw := hno gw (.inr (.inl ew))
  have nh : ¬ ok gh := hno gh (.inr (.inr eh))
  have hE : Rows5 A gu gf gr gw gh := ⟨eu, ef, er, ew, eh⟩
  clear hno
  have c0 : w.cell? ⟨p, 0, none⟩ = some (.slice A.Au S.Re.length A.cu) := h.box.cell rfl
  have c1 : w.cell? ⟨p, 1, none⟩ = some (.slice A.Af S.Ho.length A.cf) := h.box.cell rfl
  have hp := h.box.lt
  have c2 : w.cell? ⟨p, 2, none⟩ = some (.slice A.Ar S.Re.length A.cr) := h.box.cell rfl
  have c3 : w.cell? ⟨p, 3, none⟩ = some (.slice A.Aw S.Re.length A.cw) := h.box.cell rfl
  have c4 : w.cell? ⟨p, 4, none⟩ = some (.slice A.Ah S.Ho.length A.ch) := h.box.cell rfl
  have C1 := Lib.hid (fun V => Within3_is 0 0 3 true V (by simp))
  have C2 := Lib.hid (fun V => Within3_is (u : Int) 0 ((S.Re.length : Int) - 1) true V (by simp; omega))
  have C3 := Lib.hid (fun V => Within3_is (f : Int) 0 ((S.Ho.length : Int) - 1) true V (by simp; omega))
  have lu := h.lu
  have lf := h.lf
  have pf0 := ho.of_.cell (k := f * 2) (v := .int .i64 (gI F (f * 2))) (by rw [List.getElem?_map, get_gI (by omega)]; rfl)
  have pf1 := ho.of_.cell (k := f * 2 + 1) (v := .int .i64 (gI F (f * 2 + 1))) (by rw [List.getElem?_map, get_gI (by omega)]; rfl)
  have pu0 := ho.ou.cell (k := u * 2) (v := .int .i64 (gI U (u * 2))) (by rw [List.getElem?_map, get_gI (by omega)]; rfl)
  have pu1 := ho.ou.cell (k := u * 2 + 1) (v := .int .i64 (gI U (u * 2 + 1))) (by rw [List.getElem?_map, get_gI (by omega)]; rfl)
  have pr := ho.or_.row_ hu
  have pw := ho.ow.row_ (i := u) (by omega)
  have lgf := ho.of_.lt
  have lgu := ho.ou.lt
  have lgr := ho.or_.lt
  have lgw := ho.ow.lt
  have lgh := ho.oh.lt
  have fr := ho.or_.free u
  have fw := ho.ow.free u
  have labF := hF f hf
  have labU := hU u hu
  have hp2 : 2 ^ f < 2 ^ 62 := Nat.pow_lt_pow_right (by decide) (by omega)
  obtain ⟨pf, hpf⟩ : ∃ pf : Nat, 2 ^ f = pf := ⟨_, rfl⟩
  have hpw : IntKind.i64.wrap (2 ^ f) = ((2 ^ f : Nat) : Int) := wrap_pow f (by omega)
  have hpw2 : wrap64 (2 ^ f) = ((2 ^ f : Nat) : Int) := wrap64_pow f (by omega)
  rw [hpf] at hpw hpw2 hp2
  have Hpf := Lib.hid hpf
  clear hpf
  have hr256 := hI.re_lt u
  have hw256 := hI.wr_lt u
  have hf62 : f < 62 := by omega
  have hres : lAsk U F S 0 u f t = if belowL F f U u && allIn (row S.Wr u) (fun x => belowL F f F x) then ({ S with Re := S.Re.set u (row S.Re u ||| pf) }, 0) else (S, 7) := by
    rw [← Hpf.out]; unfold lAsk; rw [if_pos ⟨⟨by omega, by omega, by omega⟩, fun e => by omega⟩, if_pos rfl]; rfl
  obtain ⟨b1, hb1⟩ : ∃ b1, belowL F f U u = b1 := ⟨_, rfl⟩
  obtain ⟨b2, hb2⟩ : ∃ b2, allIn (row S.Wr u) (fun x => belowL F f F x) = b2 := ⟨_, rfl⟩
  obtain ⟨xn, hxn⟩ : ∃ xn, row S.Re u ||| pf = xn := ⟨_, rfl⟩
  have hbits := bits_or_nat (row S.Re u) pf (by omega) (by omega)
  rw [hres, hb1, hb2, hxn]
  rw [hxn] at hbits
  have HB1 := Lib.hid hb1
  have HB2 := Lib.hid hb2
  clear hb1 hb2 hres hxn
  have hf2 : f * 2 < F.length := by omega
  rw [eu] at c0
  rw [ef] at c1
  rw [er] at c2
  rw [ew] at c3
  rw [eh] at c4
  have hb : Below w.heap.size w (w.alloc (.cells #[.int .i64 0, .int .i64 u, .int .i64 f, .int .i64 t] 157)) := (Below.refl _ _).alloc (Nat.le_refl _) _
  have hx2 := BoxN.new w 157 #[.int .i64 0, .int .i64 u, .int .i64 f, .int .i64 t]
  have hsz : (w.alloc (.cells #[.int .i64 0, .int .i64 u, .int .i64 f, .int .i64 t] 157)).heap.size = w.heap.size + 1 := by simp
  generalize hWA : (w.alloc (.cells #[.int .i64 0, .int .i64 u, .int .i64 f, .int .i64 t] 157)) = WA at *
  have Hsz := Lib.hid hsz
  clear hsz
  have e0 : WA.cell? ⟨p, 0, none⟩ = some (.slice (some ⟨gu, 0, none⟩) S.Re.length A.cu) := (hb.cell (p := ⟨p, 0, none⟩) hp).trans c0
  have e1 : WA.cell? ⟨p, 1, none⟩ = some (.slice (some ⟨gf, 0, none⟩) S.Ho.length A.cf) := (hb.cell (p := ⟨p, 1, none⟩) hp).trans c1
  have y0 : WA.cell? ⟨w.heap.size, 0, none⟩ = some (.int .i64 0) := hx2.cell rfl
  have y1 : WA.cell? ⟨w.heap.size, 1, none⟩ = some (.int .i64 u) := hx2.cell rfl
  have y2 : WA.cell? ⟨w.heap.size, 2, none⟩ = some (.int .i64 f) := hx2.cell rfl
  have y3 : WA.cell? ⟨w.heap.size, 3, none⟩ = some (.int .i64 t) := hx2.cell rfl
  have HA := Lib.hid (fun V (hV : Below WA.heap.size WA V) => hb.trans (hV.mono hb.size))
  go_enter Tryz.func119, Tryz.ntmps119
  go_wp2_with fail
  go_quiet (first | (with_reducible exact quiet1 (C1.out _)) | (with_reducible exact quiet1 (C2.out _)) | (with_reducible exact quiet1 (C3.out _)))
  go_wp2_with fail
  obtain ⟨q1, rfl⟩ : ∃ q1, q1 = nq := ⟨_, rfl⟩
  go_quiet (fail)
  go_wp2_with fail
  have hbW : Below WA.heap.size WA (WA.drewN (q1 + nq)) := belowD (Below.refl _ _) _
  have hbl := HA.out _ hbW
  have hxq := hx2.all hbW
  have hsW : (WA.drewN (q1 + nq)).heap.size = WA.heap.size := rfl
  generalize WA.drewN (q1 + nq) = W1 at *
  have hxs := hxq.lt
  have z1 : W1.cell? ⟨p, 1, none⟩ = some (.slice (some ⟨gf, 0, none⟩) S.Ho.length A.cf) := (hbl.cell (p := ⟨p, 1, none⟩) hp).trans c1
  have z2 : W1.cell? ⟨w.heap.size, 2, none⟩ = some (.int .i64 f) := hxq.cell rfl
  have z3 := (hbl.cell (p := ⟨gf, f * 2, none⟩) lgf).trans pf0
  have z4 := (hbl.cell (p := ⟨gf, f * 2 + 1, none⟩) lgf).trans pf1
  clear e0 e1 y0 y1 y2 y3 hx2 hb hbW HA hsW
  have hKeep := Lib.hid (fun V (hV : Below W1.heap.size W1 V) => (⟨(hV.cell (p := ⟨p, 1, none⟩) (block_lt z1)).trans z1, (hV.cell (p := ⟨w.heap.size, 2, none⟩) hxs).trans z2, (hV.cell (p := ⟨gf, f * 2, none⟩) (block_lt z3)).trans z3, (hV.cell (p := ⟨gf, f * 2 + 1, none⟩) (block_lt z4)).trans z4⟩ : V.cell? ⟨p, 1, none⟩ = some (.slice (some ⟨gf, 0, none⟩) S.Ho.length A.cf) ∧ V.cell? ⟨w.heap.size, 2, none⟩ = some (.int .i64 f) ∧ V.cell? ⟨gf, f * 2, none⟩ = some (.int .i64 (gI F (f * 2))) ∧ V.cell? ⟨gf, f * 2 + 1, none⟩ = some (.int .i64 (gI F (f * 2 + 1)))))
  go_region_held3 (fun V => V.cell? ⟨p, 1, none⟩ = some (.slice (some ⟨gf, 0, none⟩) S.Ho.length A.cf) ∧ V.cell? ⟨w.heap.size, 2, none⟩ = some (.int .i64 f) ∧ V.cell? ⟨gf, f * 2, none⟩ = some (.int .i64 (gI F (f * 2))) ∧ V.cell? ⟨gf, f * 2 + 1, none⟩ = some (.int .i64 (gI F (f * 2 + 1)))) ((refine hKeep.out _ ?_; repeat (first | exact Below.refl _ _ | refine Below.setCell ?_ (by simp) _ | refine Below.alloc ?_ (by simp) _ | refine Below.drew ?_))) (fail)
  have hbZ : Below W1.heap.size W1 (W1.alloc (.cells #[.int .i64 (gI F (f * 2)), .int .i64 (gI F (f * 2 + 1))] 144)).drew := ((Below.refl _ _).alloc (Nat.le_refl _) _).drew
  have hxf : BoxN (W1.alloc (.cells #[.int .i64 (gI F (f * 2)), .int .i64 (gI F (f * 2 + 1))] 144)).drew W1.heap.size 144 #[.int .i64 (gI F (f * 2)), .int .i64 (gI F (f * 2 + 1))] := (BoxN.new W1 _ _).drew
  have hxq2 := hxq.all hbZ
  have hbl2 := hbl.trans (hbZ.mono hbl.size)
  have hxfl := hxf.lt
  generalize (W1.alloc (.cells #[.int .i64 (gI F (f * 2)), .int .i64 (gI F (f * 2 + 1))] 144)).drew = W2 at *
  clear z1 z2 z3 z4 hKeep hbZ hxq hbl
  have y0 : W2.cell? ⟨w.heap.size, 0, none⟩ = some (.int .i64 0) := hxq2.cell rfl
  have y1 : W2.cell? ⟨w.heap.size, 1, none⟩ = some (.int .i64 u) := hxq2.cell rfl
  have y2 : W2.cell? ⟨w.heap.size, 2, none⟩ = some (.int .i64 f) := hxq2.cell rfl
  have y3 : W2.cell? ⟨w.heap.size, 3, none⟩ = some (.int .i64 t) := hxq2.cell rfl
  have f0 : W2.cell? ⟨W1.heap.size, 0, none⟩ = some (.int .i64 (gI F (f * 2))) := hxf.cell rfl
  have f1 : W2.cell? ⟨W1.heap.size, 1, none⟩ = some (.int .i64 (gI F (f * 2 + 1))) := hxf.cell rfl
  have d0 := (hbl2.cell (p := ⟨p, 0, none⟩) hp).trans c0
  have d2 := (hbl2.cell (p := ⟨p, 2, none⟩) hp).trans c2
  have d3 := (hbl2.cell (p := ⟨p, 3, none⟩) hp).trans c3
  have d4 := (hbl2.cell (p := ⟨p, 4, none⟩) hp).trans c4
  have du0 := (hbl2.cell (p := ⟨gu, u * 2, none⟩) lgu).trans pu0
  have du1 := (hbl2.cell (p := ⟨gu, u * 2 + 1, none⟩) lgu).trans pu1
  have dr := (hbl2.cell (p := ⟨gr, u, none⟩) lgr).trans pr
  have dw := (hbl2.cell (p := ⟨gw, u, none⟩) lgw).trans pw
  have gr_ := (hbl2.frozen (p := ⟨gr, u, none⟩) lgr).trans fr
  have gw_ := (hbl2.frozen (p := ⟨gw, u, none⟩) lgw).trans fw
  clear c0 c1 c2 c3 c4 pf0 pf1 pu0 pu1 pr pw fr fw
  have Q1 := Lib.hid (fun (d : Nat) (os : Array Obj) => Calls.regrown_of (lbelow_any _ _ _ _ labF labU (Sort.grow (redrawn W2 d) os) (r := b1) HB1.out))
  have Q2 := Lib.hid (fun (d : Nat) (os : Array Obj) => Calls.regrown_of (all_any ((h.all hbl2).all (below_regrown W2 d os)) (hT.next (hbl2.trans ((below_regrown W2 d os).mono hbl2.size))) hn8 (row S.Wr u) (hI.bw u) (fun x => belowL F f F x) 148 #[.pointer (some ⟨W1.heap.size, 0, none⟩)] (enters_of Tryz.func148 (by kernel_rfl) rfl) (fun V i hV hi => askOne_any _ _ _ _ labF (hF i hi) (BoxN.all (BoxN.all hxf (below_regrown W2 d os)) hV) rfl) (r := b2) HB2.out))
  have H0 := Lib.hid h
  have HO := Lib.hid (fun V hb => h.setR nr hE ho hB (V := V) hb hu (x := xn) rfl)
  clear h hI hU hF labF labU hT ho
  generalize gI F (f * 2) = xf0 at *
  generalize gI F (f * 2 + 1) = xf1 at *
  generalize gI U (u * 2) = xu0 at *
  generalize gI U (u * 2 + 1) = xu1 at *
  generalize row S.Re u = xr at *
  generalize row S.Wr u = xw at *

  have e0 := cell_regrown f0
  have e1 := cell_regrown f1
  have e2 := cell_regrown y1
  have e3 := cell_regrown d0
  have e4 := cell_regrown du0
  have e5 := cell_regrown du1
  have e6 := cell_regrown d3
  have e7 := cell_regrown dw
  have e8 := cell_regrown d2
  have e9 := cell_regrown dr
  cases b1 with
  | false =>
    go_wp2_with fail
    refine wp_region_quiet_below (by kernel_rfl) (by kernel_rfl) ?_
    repeat (go_big_quiet_step (with_reducible exact Q1.out _ _))
    refine wpQuiet_nil ?_
    rintro _ ⟨pq, rfl⟩
    have hbq := below_regrown W2 pq.d pq.os
    generalize Sort.grow (redrawn W2 pq.d) pq.os = W3 at *
    have hbf := hbl2.trans (hbq.mono hbl2.size)
    clear e0 e1 e2 e3 e4 e5 e6 e7 e8 e9
    go_wp2_with fail
    go_ret
    exact ⟨rfl, H0.out.all hbf, hbf.mono hB, KeepsT.of_below hbf, Spares.of_below hbf⟩
  | true =>
    cases b2 with
    | false =>
      go_wp2_with fail
      refine wp_region_quiet_below (by kernel_rfl) (by kernel_rfl) ?_
      repeat (go_big_quiet_step (first | (with_reducible exact Q1.out _ _) | (with_reducible exact Q2.out _ _)))
      refine wpQuiet_nil ?_
      rintro _ ⟨pq, rfl⟩
      have hbq := below_regrown W2 pq.d pq.os
      generalize Sort.grow (redrawn W2 pq.d) pq.os = W3 at *
      have hbf := hbl2.trans (hbq.mono hbl2.size)
      clear e0 e1 e2 e3 e4 e5 e6 e7 e8 e9
      go_wp2_with fail
      go_ret
      exact ⟨rfl, H0.out.all hbf, hbf.mono hB, KeepsT.of_below hbf, Spares.of_below hbf⟩
    | true =>
      go_wp2_with fail
      refine wp_region_quiet_below (by kernel_rfl) (by kernel_rfl) ?_
      repeat (go_big_quiet_step (first | (with_reducible exact Q1.out _ _) | (with_reducible exact Q2.out _ _)))
      refine wpQuiet_nil ?_
      rintro _ ⟨pq, rfl⟩
      have hbq := below_regrown W2 pq.d pq.os
      generalize Sort.grow (redrawn W2 pq.d) pq.os = W3 at *
      have hbf := hbl2.trans (hbq.mono hbl2.size)
      clear e0 e1 e2 e3 e4 e5 e6 e7 e8 e9
      have k1 := (hbq.cell (p := ⟨w.heap.size, 1, none⟩) hxq2.lt).trans y1
      have k2 := (hbq.cell (p := ⟨p, 2, none⟩) (block_lt d2)).trans d2
      have k3 := (hbq.cell (p := ⟨gr, u, none⟩) (block_lt dr)).trans dr
      have k4 := (hbq.frozen (p := ⟨gr, u, none⟩) (block_lt dr)).trans gr_
      go_wp2_with fail
      refine wp_still_tailD 11 (by kernel_rfl) (by kernel_rfl) ?_
      simp only [List.take_succ_cons, List.take_zero, List.drop_succ_cons, List.drop_zero]
      repeat still_step
      refine wpStill_nil ?_
      go_wp2_with fail
      go_ret
      obtain ⟨r1, _, r2, r3, r4⟩ := HO.out (W3.drewN 1) (belowD hbf 1)
      exact ⟨rfl, r1, r2, r3, r4⟩
end
end Go.Proofs.YtanlmfnhlldkeaaGreatDoor
