/-
  Contract: the monitor's Ask, whole. (printed by askbell.py)
-/
import Derived.Test.YtanlmfnhlldkeaaGreatDoorBellA
namespace Go.Proofs.YtanlmfnhlldkeaaGreatDoor
open Go.RowKit
set_option maxRecDepth 100000
set_option linter.unusedVariables false

section
variable {w V : World} {base p : Nat} {U F : List Int} {S : LS} {A : LA} {gu gf gr gw gh : Nat}

set_option maxHeartbeats 4000000 in
theorem LAsk_write {ok : Nat → Prop} (h : BellAt w base p U F S A) (hT : Tab w) (hI : LInv U F S) (hU : ∀ i, i < S.Re.length → labOk (gI U (i * 2)) (gI U (i * 2 + 1))) (hF : ∀ i, i < S.Ho.length → labOk (gI F (i * 2)) (gI F (i * 2 + 1))) (hB : base ≤ w.heap.size) (hno : S.Re ≠ [] → S.Ho ≠ [] → ∀ g, (A.Ar = some ⟨g, 0, none⟩ ∨ A.Aw = some ⟨g, 0, none⟩ ∨ A.Ah = some ⟨g, 0, none⟩) → ¬ ok g) (u f : Nat) (t : Int) (hu : u < S.Re.length) (hf : f < S.Ho.length) :
    Calls Tryz.prog 119 #[.pointer (some ⟨p, 0, none⟩), .agg #[.int .i64 1, .int .i64 u, .int .i64 f, .int .i64 t]] w fun e w' => e = .returned (errVal (lAsk U F S 1 u f t).2) ∧ BellAt w' base p U F (lAsk U F S 1 u f t).1 A ∧ Below base w w' ∧ KeepsT 3 w w' ∧ Spares ok w w' := by
  have hn8 := hI.ln
  have hm8 := hI.lm
  have hlw := hI.lw
  obtain ⟨gu, gf, gr, gw, gh, eu, ef, er, ew, eh, ho⟩ := h.own (by intro e; simp [e] at hu) (by intro e; simp [e] at hf)
  have hno := hno (by intro e; simp [e] at hu) (by intro e; simp [e] at hf)
  have nr : ¬ ok gr := hno gr (.inl er)
  have nw : ¬ ok gw := hno gw (.inr (.inl ew))
  have nh : ¬ ok gh := hno gh (.inr (.inr eh))
  have hE : Rows5 A gu gf gr gw gh := ⟨eu, ef, er, ew, eh⟩
  clear hno
  have c0 : w.cell? ⟨p, 0, none⟩ = some (.slice A.Au S.Re.length A.cu) := h.box.cell rfl
  have c1 : w.cell? ⟨p, 1, none⟩ = some (.slice A.Af S.Ho.length A.cf) := h.box.cell rfl
  have hp := h.box.lt
  have c2 : w.cell? ⟨p, 2, none⟩ = some (.slice A.Ar S.Re.length A.cr) := h.box.cell rfl
  have c3 : w.cell? ⟨p, 3, none⟩ = some (.slice A.Aw S.Re.length A.cw) := h.box.cell rfl
  have c4 : w.cell? ⟨p, 4, none⟩ = some (.slice A.Ah S.Ho.length A.ch) := h.box.cell rfl
  have C1 := Lib.hid (fun V => Within3_is 1 0 3 true V (by simp))
  have C2 := Lib.hid (fun V => Within3_is (u : Int) 0 ((S.Re.length : Int) - 1) true V (by simp; omega))
  have C3 := Lib.hid (fun V => Within3_is (f : Int) 0 ((S.Ho.length : Int) - 1) true V (by simp; omega))
  have lu := h.lu
  have lf := h.lf
  have pf0 := ho.of_.cell (k := f * 2) (v := .int .i64 (gI F (f * 2))) (by rw [List.getElem?_map, get_gI (by omega)]; rfl)
  have pf1 := ho.of_.cell (k := f * 2 + 1) (v := .int .i64 (gI F (f * 2 + 1))) (by rw [List.getElem?_map, get_gI (by omega)]; rfl)
  have pu0 := ho.ou.cell (k := u * 2) (v := .int .i64 (gI U (u * 2))) (by rw [List.getElem?_map, get_gI (by omega)]; rfl)
  have pu1 := ho.ou.cell (k := u * 2 + 1) (v := .int .i64 (gI U (u * 2 + 1))) (by rw [List.getElem?_map, get_gI (by omega)]; rfl)
  have pr := ho.or_.row_ hu
  have pw := ho.ow.row_ (i := u) (by omega)
  have lgf := ho.of_.lt
  have lgu := ho.ou.lt
  have lgr := ho.or_.lt
  have lgw := ho.ow.lt
  have lgh := ho.oh.lt
  have fr := ho.or_.free u
  have fw := ho.ow.free u
  have labF := hF f hf
  have labU := hU u hu
  have hp2 : 2 ^ f < 2 ^ 62 := Nat.pow_lt_pow_right (by decide) (by omega)
  obtain ⟨pf, hpf⟩ : ∃ pf : Nat, 2 ^ f = pf := ⟨_, rfl⟩
  have hpw : IntKind.i64.wrap (2 ^ f) = ((2 ^ f : Nat) : Int) := wrap_pow f (by omega)
  have hpw2 : wrap64 (2 ^ f) = ((2 ^ f : Nat) : Int) := wrap64_pow f (by omega)
  rw [hpf] at hpw hpw2 hp2
  have Hpf := Lib.hid hpf
  clear hpf
  have hr256 := hI.re_lt u
  have hw256 := hI.wr_lt u
  have hf62 : f < 62 := by omega
  have hres : lAsk U F S 1 u f t = if allIn (row S.Re u) (fun x => belowL F x F f) then ({ S with Wr := S.Wr.set u (row S.Wr u ||| pf) }, 0) else (S, 7) := by
    rw [← Hpf.out]; unfold lAsk; rw [if_pos ⟨⟨by omega, by omega, by omega⟩, fun e => by omega⟩, if_neg (by decide), if_pos rfl]; rfl
  obtain ⟨b2, hb2⟩ : ∃ b2, allIn (row S.Re u) (fun x => belowL F x F f) = b2 := ⟨_, rfl⟩
  obtain ⟨xn, hxn⟩ : ∃ xn, row S.Wr u ||| pf = xn := ⟨_, rfl⟩
  have hbits := bits_or_nat (row S.Wr u) pf (by omega) (by omega)
  rw [hres, hb2, hxn]
  rw [hxn] at hbits
  have HB2 := Lib.hid hb2
  clear hb2 hres hxn
  have hf2 : f * 2 < F.length := by omega
  rw [eu] at c0
  rw [ef] at c1
  rw [er] at c2
  rw [ew] at c3
  rw [eh] at c4
  have hb : Below w.heap.size w (w.alloc (.cells #[.int .i64 1, .int .i64 u, .int .i64 f, .int .i64 t] 157)) := (Below.refl _ _).alloc (Nat.le_refl _) _
  have hx2 := BoxN.new w 157 #[.int .i64 1, .int .i64 u, .int .i64 f, .int .i64 t]
  have hsz : (w.alloc (.cells #[.int .i64 1, .int .i64 u, .int .i64 f, .int .i64 t] 157)).heap.size = w.heap.size + 1 := by simp
  generalize hWA : (w.alloc (.cells #[.int .i64 1, .int .i64 u, .int .i64 f, .int .i64 t] 157)) = WA at *
  have Hsz := Lib.hid hsz
  clear hsz
  have e0 : WA.cell? ⟨p, 0, none⟩ = some (.slice (some ⟨gu, 0, none⟩) S.Re.length A.cu) := (hb.cell (p := ⟨p, 0, none⟩) hp).trans c0
  have e1 : WA.cell? ⟨p, 1, none⟩ = some (.slice (some ⟨gf, 0, none⟩) S.Ho.length A.cf) := (hb.cell (p := ⟨p, 1, none⟩) hp).trans c1
  have y0 : WA.cell? ⟨w.heap.size, 0, none⟩ = some (.int .i64 1) := hx2.cell rfl
  have y1 : WA.cell? ⟨w.heap.size, 1, none⟩ = some (.int .i64 u) := hx2.cell rfl
  have y2 : WA.cell? ⟨w.heap.size, 2, none⟩ = some (.int .i64 f) := hx2.cell rfl
  have y3 : WA.cell? ⟨w.heap.size, 3, none⟩ = some (.int .i64 t) := hx2.cell rfl
  have HA := Lib.hid (fun V (hV : Below WA.heap.size WA V) => hb.trans (hV.mono hb.size))
  go_enter Tryz.func119, Tryz.ntmps119
  go_wp2_with fail
  go_quiet (first | (with_reducible exact quiet1 (C1.out _)) | (with_reducible exact quiet1 (C2.out _)) | (with_reducible exact quiet1 (C3.out _)))
  go_wp2_with fail
  obtain ⟨q1, rfl⟩ : ∃ q1, q1 = nq := ⟨_, rfl⟩
  go_quiet (fail)
  go_wp2_with fail
  have hbW : Below WA.heap.size WA (WA.drewN (q1 + nq)) := belowD (Below.refl _ _) _
  have hbl := HA.out _ hbW
  have hxq := hx2.all hbW
  have hsW : (WA.drewN (q1 + nq)).heap.size = WA.heap.size := rfl
  generalize WA.drewN (q1 + nq) = W1 at *
  have hxs := hxq.lt
  have z1 : W1.cell? ⟨p, 1, none⟩ = some (.slice (some ⟨gf, 0, none⟩) S.Ho.length A.cf) := (hbl.cell (p := ⟨p, 1, none⟩) hp).trans c1
  have z2 : W1.cell? ⟨w.heap.size, 2, none⟩ = some (.int .i64 f) := hxq.cell rfl
  have z3 := (hbl.cell (p := ⟨gf, f * 2, none⟩) lgf).trans pf0
  have z4 := (hbl.cell (p := ⟨gf, f * 2 + 1, none⟩) lgf).trans pf1
  clear e0 e1 y0 y1 y2 y3 hx2 hb hbW HA hsW
  have hKeep := Lib.hid (fun V (hV : Below W1.heap.size W1 V) => (⟨(hV.cell (p := ⟨p, 1, none⟩) (block_lt z1)).trans z1, (hV.cell (p := ⟨w.heap.size, 2, none⟩) hxs).trans z2, (hV.cell (p := ⟨gf, f * 2, none⟩) (block_lt z3)).trans z3, (hV.cell (p := ⟨gf, f * 2 + 1, none⟩) (block_lt z4)).trans z4⟩ : V.cell? ⟨p, 1, none⟩ = some (.slice (some ⟨gf, 0, none⟩) S.Ho.length A.cf) ∧ V.cell? ⟨w.heap.size, 2, none⟩ = some (.int .i64 f) ∧ V.cell? ⟨gf, f * 2, none⟩ = some (.int .i64 (gI F (f * 2))) ∧ V.cell? ⟨gf, f * 2 + 1, none⟩ = some (.int .i64 (gI F (f * 2 + 1)))))
  go_region_held3 (fun V => V.cell? ⟨p, 1, none⟩ = some (.slice (some ⟨gf, 0, none⟩) S.Ho.length A.cf) ∧ V.cell? ⟨w.heap.size, 2, none⟩ = some (.int .i64 f) ∧ V.cell? ⟨gf, f * 2, none⟩ = some (.int .i64 (gI F (f * 2))) ∧ V.cell? ⟨gf, f * 2 + 1, none⟩ = some (.int .i64 (gI F (f * 2 + 1)))) ((refine hKeep.out _ ?_; repeat (first | exact Below.refl _ _ | refine Below.setCell ?_ (by simp) _ | refine Below.alloc ?_ (by simp) _ | refine Below.drew ?_))) (fail)
  have hbZ : Below W1.heap.size W1 (W1.alloc (.cells #[.int .i64 (gI F (f * 2)), .int .i64 (gI F (f * 2 + 1))] 144)).drew := ((Below.refl _ _).alloc (Nat.le_refl _) _).drew
  have hxf : BoxN (W1.alloc (.cells #[.int .i64 (gI F (f * 2)), .int .i64 (gI F (f * 2 + 1))] 144)).drew W1.heap.size 144 #[.int .i64 (gI F (f * 2)), .int .i64 (gI F (f * 2 + 1))] := (BoxN.new W1 _ _).drew
  have hxq2 := hxq.all hbZ
  have hbl2 := hbl.trans (hbZ.mono hbl.size)
  have hxfl := hxf.lt
  generalize (W1.alloc (.cells #[.int .i64 (gI F (f * 2)), .int .i64 (gI F (f * 2 + 1))] 144)).drew = W2 at *
  clear z1 z2 z3 z4 hKeep hbZ hxq hbl
  have y0 : W2.cell? ⟨w.heap.size, 0, none⟩ = some (.int .i64 1) := hxq2.cell rfl
  have y1 : W2.cell? ⟨w.heap.size, 1, none⟩ = some (.int .i64 u) := hxq2.cell rfl
  have y2 : W2.cell? ⟨w.heap.size, 2, none⟩ = some (.int .i64 f) := hxq2.cell rfl
  have y3 : W2.cell? ⟨w.heap.size, 3, none⟩ = some (.int .i64 t) := hxq2.cell rfl
  have f0 : W2.cell? ⟨W1.heap.size, 0, none⟩ = some (.int .i64 (gI F (f * 2))) := hxf.cell rfl
  have f1 : W2.cell? ⟨W1.heap.size, 1, none⟩ = some (.int .i64 (gI F (f * 2 + 1))) := hxf.cell rfl
  have d0 := (hbl2.cell (p := ⟨p, 0, none⟩) hp).trans c0
  have d2 := (hbl2.cell (p := ⟨p, 2, none⟩) hp).trans c2
  have d3 := (hbl2.cell (p := ⟨p, 3, none⟩) hp).trans c3
  have d4 := (hbl2.cell (p := ⟨p, 4, none⟩) hp).trans c4
  have du0 := (hbl2.cell (p := ⟨gu, u * 2, none⟩) lgu).trans pu0
  have du1 := (hbl2.cell (p := ⟨gu, u * 2 + 1, none⟩) lgu).trans pu1
  have dr := (hbl2.cell (p := ⟨gr, u, none⟩) lgr).trans pr
  have dw := (hbl2.cell (p := ⟨gw, u, none⟩) lgw).trans pw
  have gr_ := (hbl2.frozen (p := ⟨gr, u, none⟩) lgr).trans fr
  have gw_ := (hbl2.frozen (p := ⟨gw, u, none⟩) lgw).trans fw
  clear c0 c1 c2 c3 c4 pf0 pf1 pu0 pu1 pr pw fr fw
  have Q2 := Lib.hid (fun (d : Nat) (os : Array Obj) => Calls.regrown_of (all_any ((h.all hbl2).all (below_regrown W2 d os)) (hT.next (hbl2.trans ((below_regrown W2 d os).mono hbl2.size))) hn8 (row S.Re u) (hI.br u) (fun x => belowL F x F f) 149 #[.pointer (some ⟨W1.heap.size, 0, none⟩)] (enters_of Tryz.func149 (by kernel_rfl) rfl) (fun V i hV hi => askTwo_any _ _ _ _ (hF i hi) labF (BoxN.all (BoxN.all hxf (below_regrown W2 d os)) hV) rfl) (r := b2) HB2.out))
  have H0 := Lib.hid h
  have HO := Lib.hid (fun V hb => h.setW nw hE ho hB (V := V) hb (i := u) (by omega) (x := xn) rfl)
  clear h hI hU hF labF labU hT ho
  generalize gI F (f * 2) = xf0 at *
  generalize gI F (f * 2 + 1) = xf1 at *
  generalize gI U (u * 2) = xu0 at *
  generalize gI U (u * 2 + 1) = xu1 at *
  generalize row S.Re u = xr at *
  generalize row S.Wr u = xw at *
  have e0 := cell_regrown f0
  have e1 := cell_regrown f1
  have e2 := cell_regrown y1
  have e3 := cell_regrown d0
  have e4 := cell_regrown du0
  have e5 := cell_regrown du1
  have e6 := cell_regrown d3
  have e7 := cell_regrown dw
  have e8 := cell_regrown d2
  have e9 := cell_regrown dr
  cases b2 with
  | false =>
    go_wp2_with fail
    refine wp_region_quiet_below (by kernel_rfl) (by kernel_rfl) ?_
    repeat (go_big_quiet_step (with_reducible exact Q2.out _ _))
    refine wpQuiet_nil ?_
    rintro _ ⟨pq, rfl⟩
    have hbq := below_regrown W2 pq.d pq.os
    generalize Sort.grow (redrawn W2 pq.d) pq.os = W3 at *
    have hbf := hbl2.trans (hbq.mono hbl2.size)
    clear e0 e1 e2 e3 e4 e5 e6 e7 e8 e9
    go_wp2_with fail
    go_ret
    exact ⟨rfl, H0.out.all hbf, hbf.mono hB, KeepsT.of_below hbf, Spares.of_below hbf⟩
  | true =>
    go_wp2_with fail
    refine wp_region_quiet_below (by kernel_rfl) (by kernel_rfl) ?_
    repeat (go_big_quiet_step (with_reducible exact Q2.out _ _))
    refine wpQuiet_nil ?_
    rintro _ ⟨pq, rfl⟩
    have hbq := below_regrown W2 pq.d pq.os
    generalize Sort.grow (redrawn W2 pq.d) pq.os = W3 at *
    have hbf := hbl2.trans (hbq.mono hbl2.size)
    clear e0 e1 e2 e3 e4 e5 e6 e7 e8 e9
    have k1 := (hbq.cell (p := ⟨w.heap.size, 1, none⟩) hxq2.lt).trans y1
    have k2 := (hbq.cell (p := ⟨p, 3, none⟩) (block_lt d3)).trans d3
    have k3 := (hbq.cell (p := ⟨gw, u, none⟩) (block_lt dw)).trans dw
    have k4 := (hbq.frozen (p := ⟨gw, u, none⟩) (block_lt dw)).trans gw_
    go_wp2_with fail
    refine wp_still_tailD 11 (by kernel_rfl) (by kernel_rfl) ?_
    simp only [List.take_succ_cons, List.take_zero, List.drop_succ_cons, List.drop_zero]
    repeat still_step
    refine wpStill_nil ?_
    go_wp2_with fail
    go_ret
    obtain ⟨r1, _, r2, r3, r4⟩ := HO.out (W3.drewN 1) (belowD hbf 1)
    exact ⟨rfl, r1, r2, r3, r4⟩

set_option maxHeartbeats 4000000 in
theorem LAsk_drop {ok : Nat → Prop} (h : BellAt w base p U F S A) (hT : Tab w) (hI : LInv U F S) (hU : ∀ i, i < S.Re.length → labOk (gI U (i * 2)) (gI U (i * 2 + 1))) (hF : ∀ i, i < S.Ho.length → labOk (gI F (i * 2)) (gI F (i * 2 + 1))) (hB : base ≤ w.heap.size) (hno : S.Re ≠ [] → S.Ho ≠ [] → ∀ g, (A.Ar = some ⟨g, 0, none⟩ ∨ A.Aw = some ⟨g, 0, none⟩ ∨ A.Ah = some ⟨g, 0, none⟩) → ¬ ok g) (u f : Nat) (t : Int) (hu : u < S.Re.length) (hf : f < S.Ho.length) :
    Calls Tryz.prog 119 #[.pointer (some ⟨p, 0, none⟩), .agg #[.int .i64 2, .int .i64 u, .int .i64 f, .int .i64 t]] w fun e w' => e = .returned (errVal (lAsk U F S 2 u f t).2) ∧ BellAt w' base p U F (lAsk U F S 2 u f t).1 A ∧ Below base w w' ∧ KeepsT 3 w w' ∧ Spares ok w w' := by
  have hn8 := hI.ln
  have hm8 := hI.lm
  have hlw := hI.lw
  obtain ⟨gu, gf, gr, gw, gh, eu, ef, er, ew, eh, ho⟩ := h.own (by intro e; simp [e] at hu) (by intro e; simp [e] at hf)
  have hno := hno (by intro e; simp [e] at hu) (by intro e; simp [e] at hf)
  have nr : ¬ ok gr := hno gr (.inl er)
  have nw : ¬ ok gw := hno gw (.inr (.inl ew))
  have nh : ¬ ok gh := hno gh (.inr (.inr eh))
  have hE : Rows5 A gu gf gr gw gh := ⟨eu, ef, er, ew, eh⟩
  clear hno
  have c0 : w.cell? ⟨p, 0, none⟩ = some (.slice A.Au S.Re.length A.cu) := h.box.cell rfl
  have c1 : w.cell? ⟨p, 1, none⟩ = some (.slice A.Af S.Ho.length A.cf) := h.box.cell rfl
  have hp := h.box.lt
  have c2 : w.cell? ⟨p, 2, none⟩ = some (.slice A.Ar S.Re.length A.cr) := h.box.cell rfl
  have c3 : w.cell? ⟨p, 3, none⟩ = some (.slice A.Aw S.Re.length A.cw) := h.box.cell rfl
  have c4 : w.cell? ⟨p, 4, none⟩ = some (.slice A.Ah S.Ho.length A.ch) := h.box.cell rfl
  have C1 := Lib.hid (fun V => Within3_is 2 0 3 true V (by simp))
  have C2 := Lib.hid (fun V => Within3_is (u : Int) 0 ((S.Re.length : Int) - 1) true V (by simp; omega))
  have C3 := Lib.hid (fun V => Within3_is (f : Int) 0 ((S.Ho.length : Int) - 1) true V (by simp; omega))
  have lu := h.lu
  have lf := h.lf
  have pf0 := ho.of_.cell (k := f * 2) (v := .int .i64 (gI F (f * 2))) (by rw [List.getElem?_map, get_gI (by omega)]; rfl)
  have pf1 := ho.of_.cell (k := f * 2 + 1) (v := .int .i64 (gI F (f * 2 + 1))) (by rw [List.getElem?_map, get_gI (by omega)]; rfl)
  have pu0 := ho.ou.cell (k := u * 2) (v := .int .i64 (gI U (u * 2))) (by rw [List.getElem?_map, get_gI (by omega)]; rfl)
  have pu1 := ho.ou.cell (k := u * 2 + 1) (v := .int .i64 (gI U (u * 2 + 1))) (by rw [List.getElem?_map, get_gI (by omega)]; rfl)
  have pr := ho.or_.row_ hu
  have pw := ho.ow.row_ (i := u) (by omega)
  have lgf := ho.of_.lt
  have lgu := ho.ou.lt
  have lgr := ho.or_.lt
  have lgw := ho.ow.lt
  have lgh := ho.oh.lt
  have fr := ho.or_.free u
  have fw := ho.ow.free u
  have labF := hF f hf
  have labU := hU u hu
  have hp2 : 2 ^ f < 2 ^ 62 := Nat.pow_lt_pow_right (by decide) (by omega)
  obtain ⟨pf, hpf⟩ : ∃ pf : Nat, 2 ^ f = pf := ⟨_, rfl⟩
  have hpw : IntKind.i64.wrap (2 ^ f) = ((2 ^ f : Nat) : Int) := wrap_pow f (by omega)
  have hpw2 : wrap64 (2 ^ f) = ((2 ^ f : Nat) : Int) := wrap64_pow f (by omega)
  rw [hpf] at hpw hpw2 hp2
  have Hpf := Lib.hid hpf
  clear hpf
  have hr256 := hI.re_lt u
  have hw256 := hI.wr_lt u
  have hf62 : f < 62 := by omega
  have hres : lAsk U F S 2 u f t = ({ S with Re := S.Re.set u (diff (row S.Re u) pf), Wr := S.Wr.set u (diff (row S.Wr u) pf) }, 0) := by
    rw [← Hpf.out]; exact lAsk_drop hI t hu hf
  have hbits1 := bits_andNot_nat (row S.Re u) pf (by omega) (by omega)
  have hbits2 := bits_andNot_nat (row S.Wr u) pf (by omega) (by omega)
  obtain ⟨x1, hx1⟩ : ∃ xn, diff (row S.Re u) pf = xn := ⟨_, rfl⟩
  obtain ⟨x2, hx2⟩ : ∃ xn, diff (row S.Wr u) pf = xn := ⟨_, rfl⟩
  rw [hres, hx1, hx2]
  rw [hx1] at hbits1
  rw [hx2] at hbits2
  clear hres hx1 hx2
  have hf2 : f * 2 < F.length := by omega
  rw [eu] at c0
  rw [ef] at c1
  rw [er] at c2
  rw [ew] at c3
  rw [eh] at c4
  have hb : Below w.heap.size w (w.alloc (.cells #[.int .i64 2, .int .i64 u, .int .i64 f, .int .i64 t] 157)) := (Below.refl _ _).alloc (Nat.le_refl _) _
  have hx2 := BoxN.new w 157 #[.int .i64 2, .int .i64 u, .int .i64 f, .int .i64 t]
  have hsz : (w.alloc (.cells #[.int .i64 2, .int .i64 u, .int .i64 f, .int .i64 t] 157)).heap.size = w.heap.size + 1 := by simp
  generalize hWA : (w.alloc (.cells #[.int .i64 2, .int .i64 u, .int .i64 f, .int .i64 t] 157)) = WA at *
  have Hsz := Lib.hid hsz
  clear hsz
  have e0 : WA.cell? ⟨p, 0, none⟩ = some (.slice (some ⟨gu, 0, none⟩) S.Re.length A.cu) := (hb.cell (p := ⟨p, 0, none⟩) hp).trans c0
  have e1 : WA.cell? ⟨p, 1, none⟩ = some (.slice (some ⟨gf, 0, none⟩) S.Ho.length A.cf) := (hb.cell (p := ⟨p, 1, none⟩) hp).trans c1
  have y0 : WA.cell? ⟨w.heap.size, 0, none⟩ = some (.int .i64 2) := hx2.cell rfl
  have y1 : WA.cell? ⟨w.heap.size, 1, none⟩ = some (.int .i64 u) := hx2.cell rfl
  have y2 : WA.cell? ⟨w.heap.size, 2, none⟩ = some (.int .i64 f) := hx2.cell rfl
  have y3 : WA.cell? ⟨w.heap.size, 3, none⟩ = some (.int .i64 t) := hx2.cell rfl
  have HA := Lib.hid (fun V (hV : Below WA.heap.size WA V) => hb.trans (hV.mono hb.size))
  go_enter Tryz.func119, Tryz.ntmps119
  go_wp2_with fail
  go_quiet (first | (with_reducible exact quiet1 (C1.out _)) | (with_reducible exact quiet1 (C2.out _)) | (with_reducible exact quiet1 (C3.out _)))
  go_wp2_with fail
  obtain ⟨q1, rfl⟩ : ∃ q1, q1 = nq := ⟨_, rfl⟩
  go_quiet (fail)
  go_wp2_with fail
  have hbW : Below WA.heap.size WA (WA.drewN (q1 + nq)) := belowD (Below.refl _ _) _
  have hbl := HA.out _ hbW
  have hxq := hx2.all hbW
  have hsW : (WA.drewN (q1 + nq)).heap.size = WA.heap.size := rfl
  generalize WA.drewN (q1 + nq) = W1 at *
  have hxs := hxq.lt
  have z1 : W1.cell? ⟨p, 1, none⟩ = some (.slice (some ⟨gf, 0, none⟩) S.Ho.length A.cf) := (hbl.cell (p := ⟨p, 1, none⟩) hp).trans c1
  have z2 : W1.cell? ⟨w.heap.size, 2, none⟩ = some (.int .i64 f) := hxq.cell rfl
  have z3 := (hbl.cell (p := ⟨gf, f * 2, none⟩) lgf).trans pf0
  have z4 := (hbl.cell (p := ⟨gf, f * 2 + 1, none⟩) lgf).trans pf1
  clear e0 e1 y0 y1 y2 y3 hx2 hb hbW HA hsW
  have hKeep := Lib.hid (fun V (hV : Below W1.heap.size W1 V) => (⟨(hV.cell (p := ⟨p, 1, none⟩) (block_lt z1)).trans z1, (hV.cell (p := ⟨w.heap.size, 2, none⟩) hxs).trans z2, (hV.cell (p := ⟨gf, f * 2, none⟩) (block_lt z3)).trans z3, (hV.cell (p := ⟨gf, f * 2 + 1, none⟩) (block_lt z4)).trans z4⟩ : V.cell? ⟨p, 1, none⟩ = some (.slice (some ⟨gf, 0, none⟩) S.Ho.length A.cf) ∧ V.cell? ⟨w.heap.size, 2, none⟩ = some (.int .i64 f) ∧ V.cell? ⟨gf, f * 2, none⟩ = some (.int .i64 (gI F (f * 2))) ∧ V.cell? ⟨gf, f * 2 + 1, none⟩ = some (.int .i64 (gI F (f * 2 + 1)))))
  go_region_held3 (fun V => V.cell? ⟨p, 1, none⟩ = some (.slice (some ⟨gf, 0, none⟩) S.Ho.length A.cf) ∧ V.cell? ⟨w.heap.size, 2, none⟩ = some (.int .i64 f) ∧ V.cell? ⟨gf, f * 2, none⟩ = some (.int .i64 (gI F (f * 2))) ∧ V.cell? ⟨gf, f * 2 + 1, none⟩ = some (.int .i64 (gI F (f * 2 + 1)))) ((refine hKeep.out _ ?_; repeat (first | exact Below.refl _ _ | refine Below.setCell ?_ (by simp) _ | refine Below.alloc ?_ (by simp) _ | refine Below.drew ?_))) (fail)
  have hbZ : Below W1.heap.size W1 (W1.alloc (.cells #[.int .i64 (gI F (f * 2)), .int .i64 (gI F (f * 2 + 1))] 144)).drew := ((Below.refl _ _).alloc (Nat.le_refl _) _).drew
  have hxf : BoxN (W1.alloc (.cells #[.int .i64 (gI F (f * 2)), .int .i64 (gI F (f * 2 + 1))] 144)).drew W1.heap.size 144 #[.int .i64 (gI F (f * 2)), .int .i64 (gI F (f * 2 + 1))] := (BoxN.new W1 _ _).drew
  have hxq2 := hxq.all hbZ
  have hbl2 := hbl.trans (hbZ.mono hbl.size)
  have hxfl := hxf.lt
  generalize (W1.alloc (.cells #[.int .i64 (gI F (f * 2)), .int .i64 (gI F (f * 2 + 1))] 144)).drew = W2 at *
  clear z1 z2 z3 z4 hKeep hbZ hxq hbl
  have y0 : W2.cell? ⟨w.heap.size, 0, none⟩ = some (.int .i64 2) := hxq2.cell rfl
  have y1 : W2.cell? ⟨w.heap.size, 1, none⟩ = some (.int .i64 u) := hxq2.cell rfl
  have y2 : W2.cell? ⟨w.heap.size, 2, none⟩ = some (.int .i64 f) := hxq2.cell rfl
  have y3 : W2.cell? ⟨w.heap.size, 3, none⟩ = some (.int .i64 t) := hxq2.cell rfl
  have f0 : W2.cell? ⟨W1.heap.size, 0, none⟩ = some (.int .i64 (gI F (f * 2))) := hxf.cell rfl
  have f1 : W2.cell? ⟨W1.heap.size, 1, none⟩ = some (.int .i64 (gI F (f * 2 + 1))) := hxf.cell rfl
  have d0 := (hbl2.cell (p := ⟨p, 0, none⟩) hp).trans c0
  have d2 := (hbl2.cell (p := ⟨p, 2, none⟩) hp).trans c2
  have d3 := (hbl2.cell (p := ⟨p, 3, none⟩) hp).trans c3
  have d4 := (hbl2.cell (p := ⟨p, 4, none⟩) hp).trans c4
  have du0 := (hbl2.cell (p := ⟨gu, u * 2, none⟩) lgu).trans pu0
  have du1 := (hbl2.cell (p := ⟨gu, u * 2 + 1, none⟩) lgu).trans pu1
  have dr := (hbl2.cell (p := ⟨gr, u, none⟩) lgr).trans pr
  have dw := (hbl2.cell (p := ⟨gw, u, none⟩) lgw).trans pw
  have gr_ := (hbl2.frozen (p := ⟨gr, u, none⟩) lgr).trans fr
  have gw_ := (hbl2.frozen (p := ⟨gw, u, none⟩) lgw).trans fw
  clear c0 c1 c2 c3 c4 pf0 pf1 pu0 pu1 pr pw fr fw
  have HO := Lib.hid (fun V hb => h.setR nr hE ho hB (V := V) hb hu (x := x1) rfl)
  have ngr : p ≠ gr := (ho.or_.ne_box h.box int_ne_bell).symm
  clear h hI hU hF labF labU hT ho
  generalize gI F (f * 2) = xf0 at *
  generalize gI F (f * 2 + 1) = xf1 at *
  generalize gI U (u * 2) = xu0 at *
  generalize gI U (u * 2 + 1) = xu1 at *
  go_wp2_with fail
  refine wp_still_tailD 11 (by kernel_rfl) (by kernel_rfl) ?_
  simp only [List.take_succ_cons, List.take_zero, List.drop_succ_cons, List.drop_zero]
  repeat still_step
  refine wpStill_nil ?_
  go_wp2_with fail
  obtain ⟨r1, ro, r2, r3, r4⟩ := HO.out (W2.drewN 1) (belowD hbl2 1)
  have hxq3 := (hxq2.drewN 1).other (a := ⟨gr, u, none⟩) (by show w.heap.size ≠ gr; omega) (.int .i64 (x1 : Int))
  have k0 := hxq3.cell (k := 1) (v := .int .i64 u) rfl
  have k2 := r1.box.cell (k := 3) rfl
  rw [ew, List.length_set] at k2
  have k3 := ro.ow.row_ (i := u) (by show u < S.Wr.length; omega)
  have k4 := ro.ow.free u
  have hszV : base ≤ ((W2.drewN 1).setCell ⟨gr, u, none⟩ (.int .i64 (x1 : Int))).heap.size := by have := r2.size; omega
  have hszw : w.heap.size ≤ ((W2.drewN 1).setCell ⟨gr, u, none⟩ (.int .i64 (x1 : Int))).heap.size := r2.size
  clear y0 y1 y2 y3 f0 f1 d0 d2 d3 d4 du0 du1 dr dw gr_ gw_ hxq2 hxf hbl2 HO
  generalize (W2.drewN 1).setCell ⟨gr, u, none⟩ (.int .i64 (x1 : Int)) = V1 at *
  have kk3 : V1.cell? ⟨gw, u, none⟩ = some (.int .i64 (row S.Wr u : Nat)) := k3
  clear k3
  have HW := Lib.hid (r1.setW nw hE ro hszV (V := V1.drewN 1) (belowD (Below.refl _ _) 1) (i := u) (by show u < S.Wr.length; omega) (x := x2) rfl)
  clear r1 ro hxq3
  refine wp_still_tailD 11 (by kernel_rfl) (by kernel_rfl) ?_
  simp only [List.take_succ_cons, List.take_zero, List.drop_succ_cons, List.drop_zero]
  repeat still_step
  refine wpStill_nil ?_
  go_wp2_with fail
  go_ret
  obtain ⟨t1, _, t2, t3, t4⟩ := HW.out
  exact ⟨rfl, t1, r2.trans t2, r3.trans t3, r4.trans t4 hszw⟩

set_option maxHeartbeats 4000000 in
theorem LAsk_copy {ok : Nat → Prop} (h : BellAt w base p U F S A) (hT : Tab w) (hI : LInv U F S) (hU : ∀ i, i < S.Re.length → labOk (gI U (i * 2)) (gI U (i * 2 + 1))) (hF : ∀ i, i < S.Ho.length → labOk (gI F (i * 2)) (gI F (i * 2 + 1))) (hB : base ≤ w.heap.size) (hno : S.Re ≠ [] → S.Ho ≠ [] → ∀ g, (A.Ar = some ⟨g, 0, none⟩ ∨ A.Aw = some ⟨g, 0, none⟩ ∨ A.Ah = some ⟨g, 0, none⟩) → ¬ ok g) (u f : Nat) (t : Int) (hu : u < S.Re.length) (hf : f < S.Ho.length) (ht : 0 ≤ t ∧ t < S.Ho.length) :
    Calls Tryz.prog 119 #[.pointer (some ⟨p, 0, none⟩), .agg #[.int .i64 3, .int .i64 u, .int .i64 f, .int .i64 t]] w fun e w' => e = .returned (errVal (lAsk U F S 3 u f t).2) ∧ BellAt w' base p U F (lAsk U F S 3 u f t).1 A ∧ Below base w w' ∧ KeepsT 3 w w' ∧ Spares ok w w' := by
  have hn8 := hI.ln
  have hm8 := hI.lm
  have hlw := hI.lw
  obtain ⟨gu, gf, gr, gw, gh, eu, ef, er, ew, eh, ho⟩ := h.own (by intro e; simp [e] at hu) (by intro e; simp [e] at hf)
  have hno := hno (by intro e; simp [e] at hu) (by intro e; simp [e] at hf)
  have nr : ¬ ok gr := hno gr (.inl er)
  have nw : ¬ ok gw := hno gw (.inr (.inl ew))
  have nh : ¬ ok gh := hno gh (.inr (.inr eh))
  have hE : Rows5 A gu gf gr gw gh := ⟨eu, ef, er, ew, eh⟩
  clear hno
  have c0 : w.cell? ⟨p, 0, none⟩ = some (.slice A.Au S.Re.length A.cu) := h.box.cell rfl
  have c1 : w.cell? ⟨p, 1, none⟩ = some (.slice A.Af S.Ho.length A.cf) := h.box.cell rfl
  have hp := h.box.lt
  have c2 : w.cell? ⟨p, 2, none⟩ = some (.slice A.Ar S.Re.length A.cr) := h.box.cell rfl
  have c3 : w.cell? ⟨p, 3, none⟩ = some (.slice A.Aw S.Re.length A.cw) := h.box.cell rfl
  have c4 : w.cell? ⟨p, 4, none⟩ = some (.slice A.Ah S.Ho.length A.ch) := h.box.cell rfl
  have C1 := Lib.hid (fun V => Within3_is 3 0 3 true V (by simp))
  have C2 := Lib.hid (fun V => Within3_is (u : Int) 0 ((S.Re.length : Int) - 1) true V (by simp; omega))
  have C3 := Lib.hid (fun V => Within3_is (f : Int) 0 ((S.Ho.length : Int) - 1) true V (by simp; omega))
  have lu := h.lu
  have lf := h.lf
  have pf0 := ho.of_.cell (k := f * 2) (v := .int .i64 (gI F (f * 2))) (by rw [List.getElem?_map, get_gI (by omega)]; rfl)
  have pf1 := ho.of_.cell (k := f * 2 + 1) (v := .int .i64 (gI F (f * 2 + 1))) (by rw [List.getElem?_map, get_gI (by omega)]; rfl)
  have pu0 := ho.ou.cell (k := u * 2) (v := .int .i64 (gI U (u * 2))) (by rw [List.getElem?_map, get_gI (by omega)]; rfl)
  have pu1 := ho.ou.cell (k := u * 2 + 1) (v := .int .i64 (gI U (u * 2 + 1))) (by rw [List.getElem?_map, get_gI (by omega)]; rfl)
  have pr := ho.or_.row_ hu
  have pw := ho.ow.row_ (i := u) (by omega)
  have lgf := ho.of_.lt
  have lgu := ho.ou.lt
  have lgr := ho.or_.lt
  have lgw := ho.ow.lt
  have lgh := ho.oh.lt
  have fr := ho.or_.free u
  have fw := ho.ow.free u
  have labF := hF f hf
  have labU := hU u hu
  have hp2 : 2 ^ f < 2 ^ 62 := Nat.pow_lt_pow_right (by decide) (by omega)
  obtain ⟨pf, hpf⟩ : ∃ pf : Nat, 2 ^ f = pf := ⟨_, rfl⟩
  have hpw : IntKind.i64.wrap (2 ^ f) = ((2 ^ f : Nat) : Int) := wrap_pow f (by omega)
  have hpw2 : wrap64 (2 ^ f) = ((2 ^ f : Nat) : Int) := wrap64_pow f (by omega)
  rw [hpf] at hpw hpw2 hp2
  have Hpf := Lib.hid hpf
  clear hpf
  have hr256 := hI.re_lt u
  have hw256 := hI.wr_lt u
  have hf62 : f < 62 := by omega
  obtain ⟨tn, rfl⟩ := Int.eq_ofNat_of_zero_le ht.1
  have htl : tn < S.Ho.length := by omega
  have hres : lAsk U F S 3 u f tn = if (row S.Re u).testBit f && (row S.Wr u).testBit tn then ({ S with Ho := S.Ho.set tn (row S.Ho tn ||| row S.Ho f) }, 0) else (S, 8) := by
    unfold lAsk; rw [if_pos ⟨⟨by omega, by omega, by omega⟩, fun e => by omega⟩, if_neg (by decide), if_neg (by decide), if_neg (by decide)]; rfl
  have hh1 := hI.ho_lt tn
  have hh2 := hI.ho_lt f
  have hbits := bits_or_nat (row S.Ho tn) (row S.Ho f) (by omega) (by omega)
  obtain ⟨xn, hxn⟩ : ∃ xn, row S.Ho tn ||| row S.Ho f = xn := ⟨_, rfl⟩
  obtain ⟨b1, hb1⟩ : ∃ b1, (row S.Re u).testBit f = b1 := ⟨_, rfl⟩
  obtain ⟨b2, hb2⟩ : ∃ b2, (row S.Wr u).testBit tn = b2 := ⟨_, rfl⟩
  rw [hres, hxn, hb1, hb2]
  rw [hxn] at hbits
  have C4 := Lib.hid (fun V => Within3_is (tn : Int) 0 ((S.Ho.length : Int) - 1) true V (by simp; omega))
  have C5 := Lib.hid (fun V => Has_is (row S.Re u) f b1 V (by omega) (by omega) hb1)
  have C6 := Lib.hid (fun V => Has_is (row S.Wr u) tn b2 V (by omega) (by omega) hb2)
  have pt := ho.oh.row_ htl
  have ph := ho.oh.row_ hf
  have fh := ho.oh.free tn
  clear hres hxn hb1 hb2 ht
  have hf2 : f * 2 < F.length := by omega
  rw [eu] at c0
  rw [ef] at c1
  rw [er] at c2
  rw [ew] at c3
  rw [eh] at c4
  have hb : Below w.heap.size w (w.alloc (.cells #[.int .i64 3, .int .i64 u, .int .i64 f, .int .i64 tn] 157)) := (Below.refl _ _).alloc (Nat.le_refl _) _
  have hx2 := BoxN.new w 157 #[.int .i64 3, .int .i64 u, .int .i64 f, .int .i64 tn]
  have hsz : (w.alloc (.cells #[.int .i64 3, .int .i64 u, .int .i64 f, .int .i64 tn] 157)).heap.size = w.heap.size + 1 := by simp
  generalize hWA : (w.alloc (.cells #[.int .i64 3, .int .i64 u, .int .i64 f, .int .i64 tn] 157)) = WA at *
  have Hsz := Lib.hid hsz
  clear hsz
  have e0 : WA.cell? ⟨p, 0, none⟩ = some (.slice (some ⟨gu, 0, none⟩) S.Re.length A.cu) := (hb.cell (p := ⟨p, 0, none⟩) hp).trans c0
  have e1 : WA.cell? ⟨p, 1, none⟩ = some (.slice (some ⟨gf, 0, none⟩) S.Ho.length A.cf) := (hb.cell (p := ⟨p, 1, none⟩) hp).trans c1
  have y0 : WA.cell? ⟨w.heap.size, 0, none⟩ = some (.int .i64 3) := hx2.cell rfl
  have y1 : WA.cell? ⟨w.heap.size, 1, none⟩ = some (.int .i64 u) := hx2.cell rfl
  have y2 : WA.cell? ⟨w.heap.size, 2, none⟩ = some (.int .i64 f) := hx2.cell rfl
  have y3 : WA.cell? ⟨w.heap.size, 3, none⟩ = some (.int .i64 tn) := hx2.cell rfl
  have HA := Lib.hid (fun V (hV : Below WA.heap.size WA V) => hb.trans (hV.mono hb.size))
  go_enter Tryz.func119, Tryz.ntmps119
  go_wp2_with fail
  go_quiet (first | (with_reducible exact quiet1 (C1.out _)) | (with_reducible exact quiet1 (C2.out _)) | (with_reducible exact quiet1 (C3.out _)))
  go_wp2_with fail
  obtain ⟨q1, rfl⟩ : ∃ q1, q1 = nq := ⟨_, rfl⟩
  go_quiet (with_reducible exact quiet2 (C4.out _))
  go_wp2_with fail
  have hbW : Below WA.heap.size WA (WA.drewN (q1 + nq)) := belowD (Below.refl _ _) _
  have hbl := HA.out _ hbW
  have hxq := hx2.all hbW
  have hsW : (WA.drewN (q1 + nq)).heap.size = WA.heap.size := rfl
  generalize WA.drewN (q1 + nq) = W1 at *
  have hxs := hxq.lt
  have z1 : W1.cell? ⟨p, 1, none⟩ = some (.slice (some ⟨gf, 0, none⟩) S.Ho.length A.cf) := (hbl.cell (p := ⟨p, 1, none⟩) hp).trans c1
  have z2 : W1.cell? ⟨w.heap.size, 2, none⟩ = some (.int .i64 f) := hxq.cell rfl
  have z3 := (hbl.cell (p := ⟨gf, f * 2, none⟩) lgf).trans pf0
  have z4 := (hbl.cell (p := ⟨gf, f * 2 + 1, none⟩) lgf).trans pf1
  clear e0 e1 y0 y1 y2 y3 hx2 hb hbW HA hsW
  have hKeep := Lib.hid (fun V (hV : Below W1.heap.size W1 V) => (⟨(hV.cell (p := ⟨p, 1, none⟩) (block_lt z1)).trans z1, (hV.cell (p := ⟨w.heap.size, 2, none⟩) hxs).trans z2, (hV.cell (p := ⟨gf, f * 2, none⟩) (block_lt z3)).trans z3, (hV.cell (p := ⟨gf, f * 2 + 1, none⟩) (block_lt z4)).trans z4⟩ : V.cell? ⟨p, 1, none⟩ = some (.slice (some ⟨gf, 0, none⟩) S.Ho.length A.cf) ∧ V.cell? ⟨w.heap.size, 2, none⟩ = some (.int .i64 f) ∧ V.cell? ⟨gf, f * 2, none⟩ = some (.int .i64 (gI F (f * 2))) ∧ V.cell? ⟨gf, f * 2 + 1, none⟩ = some (.int .i64 (gI F (f * 2 + 1)))))
  go_region_held3 (fun V => V.cell? ⟨p, 1, none⟩ = some (.slice (some ⟨gf, 0, none⟩) S.Ho.length A.cf) ∧ V.cell? ⟨w.heap.size, 2, none⟩ = some (.int .i64 f) ∧ V.cell? ⟨gf, f * 2, none⟩ = some (.int .i64 (gI F (f * 2))) ∧ V.cell? ⟨gf, f * 2 + 1, none⟩ = some (.int .i64 (gI F (f * 2 + 1)))) ((refine hKeep.out _ ?_; repeat (first | exact Below.refl _ _ | refine Below.setCell ?_ (by simp) _ | refine Below.alloc ?_ (by simp) _ | refine Below.drew ?_))) (fail)
  have hbZ : Below W1.heap.size W1 (W1.alloc (.cells #[.int .i64 (gI F (f * 2)), .int .i64 (gI F (f * 2 + 1))] 144)).drew := ((Below.refl _ _).alloc (Nat.le_refl _) _).drew
  have hxf : BoxN (W1.alloc (.cells #[.int .i64 (gI F (f * 2)), .int .i64 (gI F (f * 2 + 1))] 144)).drew W1.heap.size 144 #[.int .i64 (gI F (f * 2)), .int .i64 (gI F (f * 2 + 1))] := (BoxN.new W1 _ _).drew
  have hxq2 := hxq.all hbZ
  have hbl2 := hbl.trans (hbZ.mono hbl.size)
  have hxfl := hxf.lt
  generalize (W1.alloc (.cells #[.int .i64 (gI F (f * 2)), .int .i64 (gI F (f * 2 + 1))] 144)).drew = W2 at *
  clear z1 z2 z3 z4 hKeep hbZ hxq hbl
  have y0 : W2.cell? ⟨w.heap.size, 0, none⟩ = some (.int .i64 3) := hxq2.cell rfl
  have y1 : W2.cell? ⟨w.heap.size, 1, none⟩ = some (.int .i64 u) := hxq2.cell rfl
  have y2 : W2.cell? ⟨w.heap.size, 2, none⟩ = some (.int .i64 f) := hxq2.cell rfl
  have y3 : W2.cell? ⟨w.heap.size, 3, none⟩ = some (.int .i64 tn) := hxq2.cell rfl
  have f0 : W2.cell? ⟨W1.heap.size, 0, none⟩ = some (.int .i64 (gI F (f * 2))) := hxf.cell rfl
  have f1 : W2.cell? ⟨W1.heap.size, 1, none⟩ = some (.int .i64 (gI F (f * 2 + 1))) := hxf.cell rfl
  have d0 := (hbl2.cell (p := ⟨p, 0, none⟩) hp).trans c0
  have d2 := (hbl2.cell (p := ⟨p, 2, none⟩) hp).trans c2
  have d3 := (hbl2.cell (p := ⟨p, 3, none⟩) hp).trans c3
  have d4 := (hbl2.cell (p := ⟨p, 4, none⟩) hp).trans c4
  have du0 := (hbl2.cell (p := ⟨gu, u * 2, none⟩) lgu).trans pu0
  have du1 := (hbl2.cell (p := ⟨gu, u * 2 + 1, none⟩) lgu).trans pu1
  have dr := (hbl2.cell (p := ⟨gr, u, none⟩) lgr).trans pr
  have dw := (hbl2.cell (p := ⟨gw, u, none⟩) lgw).trans pw
  have gr_ := (hbl2.frozen (p := ⟨gr, u, none⟩) lgr).trans fr
  have gw_ := (hbl2.frozen (p := ⟨gw, u, none⟩) lgw).trans fw
  clear c0 c1 c2 c3 c4 pf0 pf1 pu0 pu1 pr pw fr fw
  have dt := (hbl2.cell (p := ⟨gh, tn, none⟩) lgh).trans pt
  have dh := (hbl2.cell (p := ⟨gh, f, none⟩) lgh).trans ph
  have gh_ := (hbl2.frozen (p := ⟨gh, tn, none⟩) lgh).trans fh
  have H0 := Lib.hid h
  have HO := Lib.hid (fun V hb => h.setH nh hE ho hB (V := V) hb htl (x := xn) rfl)
  clear h hI hU hF labF labU hT ho pt ph fh
  generalize gI F (f * 2) = xf0 at *
  generalize gI F (f * 2 + 1) = xf1 at *
  generalize gI U (u * 2) = xu0 at *
  generalize gI U (u * 2 + 1) = xu1 at *
  generalize row S.Re u = xr at *
  generalize row S.Wr u = xw at *
  generalize row S.Ho tn = h1 at *
  generalize row S.Ho f = h2 at *
  cases b1 with
  | false =>
    go_wp2_with fail
    go_quiet (first | (with_reducible exact quiet1 (C5.out _)) | (with_reducible exact quiet1 (C6.out _)))
    go_wp2_with fail
    go_ret
    have hbf := belowD hbl2 nq
    exact ⟨rfl, H0.out.all hbf, hbf.mono hB, KeepsT.of_below hbf, Spares.of_below hbf⟩
  | true =>
    cases b2 with
    | false =>
      go_wp2_with fail
      go_quiet (first | (with_reducible exact quiet1 (C5.out _)) | (with_reducible exact quiet1 (C6.out _)))
      go_wp2_with fail
      go_ret
      have hbf := belowD hbl2 nq
      exact ⟨rfl, H0.out.all hbf, hbf.mono hB, KeepsT.of_below hbf, Spares.of_below hbf⟩
    | true =>
      go_wp2_with fail
      go_quiet (first | (with_reducible exact quiet1 (C5.out _)) | (with_reducible exact quiet1 (C6.out _)))
      go_wp2_with fail
      refine wp_still_tailD2 18 (by kernel_rfl) (by kernel_rfl) ?_
      simp only [List.take_succ_cons, List.take_zero, List.drop_succ_cons, List.drop_zero]
      repeat still_step
      refine wpStill_nil ?_
      go_wp2_with fail
      go_ret
      obtain ⟨r1, _, r2, r3, r4⟩ := HO.out (W2.drewN (nq + 1)) (belowD hbl2 _)
      exact ⟨rfl, r1, r2, r3, r4⟩

theorem LAsk_any2 {ok : Nat → Prop} (h : BellAt w base p U F S A) (hT : Tab w) (hI : LInv U F S) (hU : ∀ i, i < S.Re.length → labOk (gI U (i * 2)) (gI U (i * 2 + 1))) (hF : ∀ i, i < S.Ho.length → labOk (gI F (i * 2)) (gI F (i * 2 + 1))) (hB : base ≤ w.heap.size) (hno : S.Re ≠ [] → S.Ho ≠ [] → ∀ g, (A.Ar = some ⟨g, 0, none⟩ ∨ A.Aw = some ⟨g, 0, none⟩ ∨ A.Ah = some ⟨g, 0, none⟩) → ¬ ok g) (k u f t : Int) :
    Calls Tryz.prog 119 #[.pointer (some ⟨p, 0, none⟩), .agg #[.int .i64 k, .int .i64 u, .int .i64 f, .int .i64 t]] w fun e w' => e = .returned (errVal (lAsk U F S k u f t).2) ∧ BellAt w' base p U F (lAsk U F S k u f t).1 A ∧ Below base w w' ∧ KeepsT 3 w w' ∧ Spares ok w w' := by
  have hn8 := hI.ln
  have hm8 := hI.lm
  by_cases hok : lOk S k u f t
  · obtain ⟨⟨hk, ⟨hu0, hu1⟩, hf0, hf1⟩, ht⟩ := id hok
    obtain ⟨un, rfl⟩ := Int.eq_ofNat_of_zero_le hu0
    obtain ⟨fn, rfl⟩ := Int.eq_ofNat_of_zero_le hf0
    rcases (by omega : k = 0 ∨ k = 1 ∨ k = 2 ∨ k = 3) with rfl | rfl | rfl | rfl
    · exact LAsk_read h hT hI hU hF hB hno un fn t (by omega) (by omega)
    · exact LAsk_write h hT hI hU hF hB hno un fn t (by omega) (by omega)
    · exact LAsk_drop h hT hI hU hF hB hno un fn t (by omega) (by omega)
    · exact LAsk_copy h hT hI hU hF hB hno un fn t (by omega) (by omega) (ht rfl)
  · unfold lAsk
    rw [if_neg hok]
    exact (LAsk_range h (by omega) (by omega) k u f t hok).mono fun e w' ⟨he, hb⟩ => ⟨he, h.all hb, hb.mono hB, KeepsT.of_below hb, Spares.of_below hb⟩
end
end Go.Proofs.YtanlmfnhlldkeaaGreatDoor
