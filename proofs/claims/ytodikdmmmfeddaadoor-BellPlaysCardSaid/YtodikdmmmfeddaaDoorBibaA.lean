/-
  Contract: biba's Ask.
-/
import Derived.Test.YtodikdmmmfeddaaDoorBibaN
import Derived.StillTailTactics
namespace Go.Proofs.YtodikdmmmfeddaaDoor
open Go.RowKit
set_option maxRecDepth 100000
set_option linter.unusedVariables false

section
/-- As wp_region_still_tail, with the world's words kept. -/
theorem wp_still_tailD {P : Program} {id : Nat} {Q : Exit → Act → World → Prop} {a : Act} {w : World} {l : List Oper} (n : Nat) (hm : P.follows .mixedOrders = true) (hB : Region.lexTailB .any l.toArray n = true)
    (h : wpStill P l.toArray (w.drewN 1) (fun a' => wpList P l.toArray Q (l.drop n) a' (w.drewN 1)) (l.take n) a) : (Code.region id l.toArray true).wp P Q a w := wp_region_still_tail n hm hB h
theorem wp_still_tailD2 {P : Program} {id : Nat} {Q : Exit → Act → World → Prop} {a : Act} {w : World} {q : Nat} {l : List Oper} (n : Nat) (hm : P.follows .mixedOrders = true) (hB : Region.lexTailB .any l.toArray n = true)
    (h : wpStill P l.toArray (w.drewN (q + 1)) (fun a' => wpList P l.toArray Q (l.drop n) a' (w.drewN (q + 1))) (l.take n) a) : (Code.region id l.toArray true).wp P Q a (w.drewN q) := wp_region_still_tail n hm hB h
end

/-- Blocks that are spared. -/
def Spares (ok : Nat → Prop) (w w' : World) : Prop := ∀ b, ok b → b < w.heap.size → w'.heap[b]? = w.heap[b]?
section
variable {w V : World} {base p : Nat} {F : List Int} {S : BS} {gu gf gw gh : Nat} {cu cf cw ch : Nat}
theorem BibaAt.wrote {ok : Nat → Prop} (nw : ¬ ok gw) (h : BibaAt w base p F S (some ⟨gu, 0, none⟩) (some ⟨gf, 0, none⟩) (some ⟨gw, 0, none⟩) (some ⟨gh, 0, none⟩) cu cf cw ch) (ho : BOwn w base F S gu gf gw gh) (hB : base ≤ w.heap.size) (hb : Below w.heap.size w V) {f : Nat} (hf : f < F.length) {x y : Int} (hx : x = y) :
    BibaAt (V.setCell ⟨gw, f, none⟩ (.int .i64 x)) base p F { S with Wo := S.Wo.set f y } (some ⟨gu, 0, none⟩) (some ⟨gf, 0, none⟩) (some ⟨gw, 0, none⟩) (some ⟨gh, 0, none⟩) cu cf cw ch ∧ Below base w (V.setCell ⟨gw, f, none⟩ (.int .i64 x)) ∧ KeepsT 3 w (V.setCell ⟨gw, f, none⟩ (.int .i64 x)) ∧ Spares ok w (V.setCell ⟨gw, f, none⟩ (.int .i64 x)) := by
  subst hx
  have hV := ho.all hb
  have hS := hV.setW (i := f) (by have := h.lw; omega) x
  refine ⟨⟨h.bp, (h.box.all hb).other (a := ⟨gw, f, none⟩) (ho.ow.ne_box h.box int_ne_monitor).symm _, by simp [h.lw], h.lh, hS.ou.ints, hS.ow.ints, fun _ _ => ⟨gu, gf, gw, gh, rfl, rfl, rfl, rfl, hS⟩⟩, (hb.mono hB).setCell (p := ⟨gw, f, none⟩) ho.bw _, ?_⟩
  obtain ⟨cur, hg, _⟩ := hV.ow
  refine ⟨(KeepsT.of_below hb).setCell hg _ _, fun b hok hbl => ?_⟩
  rw [Below.heap_setCell _ _ _ _ (fun e => nw (by have e : b = gw := e; rw [← e]; exact hok))]
  exact hb.block b hbl
theorem BibaAt.heard {ok : Nat → Prop} (nu : ¬ ok gu) (nh : ¬ ok gh) (h : BibaAt w base p F S (some ⟨gu, 0, none⟩) (some ⟨gf, 0, none⟩) (some ⟨gw, 0, none⟩) (some ⟨gh, 0, none⟩) cu cf cw ch) (ho : BOwn w base F S gu gf gw gh) (hB : base ≤ w.heap.size) (hb : Below w.heap.size w V) {u : Nat} (hu : u < S.U.length) {x y x' y' : Int} (hx : x = y) (hx' : x' = y') {n : Nat} :
    BibaAt (((V.setCell ⟨gu, u, none⟩ (.int .i64 x)).drewN n).setCell ⟨gh, u, none⟩ (.int .i64 x')) base p F { S with U := S.U.set u y, He := S.He.set u y' } (some ⟨gu, 0, none⟩) (some ⟨gf, 0, none⟩) (some ⟨gw, 0, none⟩) (some ⟨gh, 0, none⟩) cu cf cw ch ∧ Below base w (((V.setCell ⟨gu, u, none⟩ (.int .i64 x)).drewN n).setCell ⟨gh, u, none⟩ (.int .i64 x')) ∧ KeepsT 3 w (((V.setCell ⟨gu, u, none⟩ (.int .i64 x)).drewN n).setCell ⟨gh, u, none⟩ (.int .i64 x')) ∧ Spares ok w (((V.setCell ⟨gu, u, none⟩ (.int .i64 x)).drewN n).setCell ⟨gh, u, none⟩ (.int .i64 x')) := by
  subst hx hx'
  have hV := ho.all hb
  have hS := hV.setU (i := u) hu x
  have hS' : BOwn ((V.setCell ⟨gu, u, none⟩ (.int .i64 x)).drewN n) base F { S with U := S.U.set u x } gu gf gw gh := hS.all (belowD (Below.refl _ _) n)
  have hT := hS'.setH (i := u) (by show u < S.He.length; have := h.lh; omega) x'
  refine ⟨⟨h.bp, by
    show BoxN _ _ _ #[.slice _ (S.U.set u x).length cu, _, _, .slice _ (S.U.set u x).length ch]
    rw [List.length_set]
    exact (((h.box.all hb).other (a := ⟨gu, u, none⟩) (ho.ou.ne_box h.box int_ne_monitor).symm _).drewN n).other (a := ⟨gh, u, none⟩) (ho.oh.ne_box h.box int_ne_monitor).symm _, h.lw, by simp [h.lh], hT.ou.ints, hT.ow.ints, fun _ _ => ⟨gu, gf, gw, gh, rfl, rfl, rfl, rfl, hT⟩⟩, (belowD ((hb.mono hB).setCell (p := ⟨gu, u, none⟩) ho.bu _) n).setCell (p := ⟨gh, u, none⟩) ho.bh _, ?_⟩
  obtain ⟨cur, hg, _⟩ := hV.ou
  obtain ⟨cur', hg', _⟩ := hS'.oh
  refine ⟨KeepsT.setCell (w' := (V.setCell ⟨gu, u, none⟩ (.int .i64 x)).drewN n) ((KeepsT.of_below hb).setCell hg _ _) hg' _ _, fun b hok hbl => ?_⟩
  rw [Below.heap_setCell _ _ _ _ (fun e => nh (by have e : b = gh := e; rw [← e]; exact hok))]
  show (V.setCell ⟨gu, u, none⟩ (.int .i64 x)).heap[b]? = _
  rw [Below.heap_setCell _ _ _ _ (fun e => nu (by have e : b = gu := e; rw [← e]; exact hok))]
  exact hb.block b hbl
end

section
variable {w : World} {base p : Nat} {F : List Int} {S : BS} {Au Af Aw Ah : Option Addr} {cu cf cw ch : Nat}
set_option maxHeartbeats 1000000 in
/-- Asked what may not be asked. -/
theorem Ask_range (h : BibaAt w base p F S Au Af Aw Ah cu cf cw ch) (hl : S.U.length ≤ 100) (hl2 : F.length ≤ 100) (k u f t : Int) (hno : ¬ bOk F S k u f) :
    Calls Tryd.prog 17 #[.pointer (some ⟨p, 0, none⟩), .agg #[.int .i64 k, .int .i64 u, .int .i64 f, .int .i64 t]] w fun e w' => e = .returned (.iface 70 (.int .i64 1)) ∧ Below w.heap.size w w' := by
  have c0 : w.cell? ⟨p, 0, none⟩ = some (.slice Au S.U.length cu) := h.box.cell rfl
  have c1 : w.cell? ⟨p, 1, none⟩ = some (.slice Af F.length cf) := h.box.cell rfl
  have hp := h.box.lt
  have hb : Below w.heap.size w (w.alloc (.cells #[.int .i64 k, .int .i64 u, .int .i64 f, .int .i64 t] 31)) := (Below.refl _ w).alloc (Nat.le_refl _) _
  unfold bOk at hno
  by_cases h1 : 0 ≤ k ∧ k ≤ 1
  · have C1 := Lib.hid (fun V => Within3_is k 0 1 true V (by simp; omega))
    by_cases h2 : 0 ≤ u ∧ u < S.U.length
    · have C2 := Lib.hid (fun V => Within3_is u 0 ((S.U.length : Int) - 1) true V (by simp; omega))
      have C3 := Lib.hid (fun V => Within3_is f 0 ((F.length : Int) - 1) false V (by simp; omega))
      clear h h1 h2 hno
      generalize S.U.length = nu at *
      generalize F.length = nf at *
      go_enter Tryd.func17, Tryd.ntmps17
      go_wp2_with fail
      go_quiet (first | (with_reducible exact quiet1 (C1.out _)) | (with_reducible exact quiet1 (C2.out _)) | (with_reducible exact quiet1 (C3.out _)))
      go_wp2_with fail
      go_ret
      exact ⟨rfl, belowD hb nq⟩
    · have C2 := Lib.hid (fun V => Within3_is u 0 ((S.U.length : Int) - 1) false V (by simp; omega))
      clear h h1 h2 hno
      generalize S.U.length = nu at *
      generalize F.length = nf at *
      go_enter Tryd.func17, Tryd.ntmps17
      go_wp2_with fail
      go_quiet (first | (with_reducible exact quiet1 (C1.out _)) | (with_reducible exact quiet1 (C2.out _)))
      go_wp2_with fail
      go_ret
      exact ⟨rfl, belowD hb nq⟩
  · have C1 := Lib.hid (fun V => Within3_is k 0 1 false V (by simp; omega))
    clear h h1 hno
    generalize S.U.length = nu at *
    generalize F.length = nf at *
    go_enter Tryd.func17, Tryd.ntmps17
    go_wp2_with fail
    go_quiet (with_reducible exact quiet1 (C1.out _))
    go_wp2_with fail
    go_ret
    exact ⟨rfl, belowD hb nq⟩

set_option maxHeartbeats 2000000 in
theorem Ask_denied (h : BibaAt w base p F S Au Af Aw Ah cu cf cw ch) (hB : base ≤ w.heap.size) (hl : S.U.length ≤ 100) (hl2 : F.length ≤ 100) (u f : Nat) (t : Int) (hu : u < S.U.length) (hf : f < F.length) (hd : gI S.U u < gI F f) :
    Calls Tryd.prog 17 #[.pointer (some ⟨p, 0, none⟩), .agg #[.int .i64 1, .int .i64 u, .int .i64 f, .int .i64 t]] w fun e w' => e = .returned (.iface 70 (.int .i64 7)) ∧ Below w.heap.size w w' := by
  obtain ⟨gu, gf, gw, gh, rfl, rfl, rfl, rfl, ho⟩ := h.own (by intro e; simp [e] at hu) (by intro e; simp [e] at hf)
  have C1 := Lib.hid (fun V => Within3_is 1 0 1 true V (by simp))
  have C2 := Lib.hid (fun V => Within3_is (u : Int) 0 ((S.U.length : Int) - 1) true V (by simp; omega))
  have C3 := Lib.hid (fun V => Within3_is (f : Int) 0 ((F.length : Int) - 1) true V (by simp; omega))
  have hlw := h.lw
  have hlh := h.lh
  have hbp := h.bp
  have hxp := h.box
  have hiu := h.iu
  have hiw := h.iw
  have cu0 := ho.ou.gI hu
  have cf0 := ho.of_.gI hf
  have cw0 := ho.ow.gI (i := f) (by omega)
  have ch0 := ho.oh.gI (i := u) (by omega)
  have fu0 := ho.ou.free u
  have fw0 := ho.ow.free f
  have fh0 := ho.oh.free u
  have lu := ho.ou.lt
  have lf := ho.of_.lt
  have lw := ho.ow.lt
  have lh := ho.oh.lt
  have lp := hxp.lt
  have huf := ho.uf
  have huw := ho.uw
  have huh := ho.uh
  have hfw := ho.fw
  have hfh := ho.fh
  have hwh := ho.wh
  have hup : gu ≠ p := ho.ou.ne_box hxp int_ne_monitor
  have hfp : gf ≠ p := ho.of_.ne_box hxp int_ne_monitor
  have hwp : gw ≠ p := ho.ow.ne_box hxp int_ne_monitor
  have hhp : gh ≠ p := ho.oh.ne_box hxp int_ne_monitor
  have c0 : w.cell? ⟨p, 0, none⟩ = some (.slice (some ⟨gu, 0, none⟩) S.U.length cu) := hxp.cell rfl
  have c1 : w.cell? ⟨p, 1, none⟩ = some (.slice (some ⟨gf, 0, none⟩) F.length cf) := hxp.cell rfl
  have c2 : w.cell? ⟨p, 2, none⟩ = some (.slice (some ⟨gw, 0, none⟩) F.length cw) := hxp.cell rfl
  have c3 : w.cell? ⟨p, 3, none⟩ = some (.slice (some ⟨gh, 0, none⟩) S.U.length ch) := hxp.cell rfl
  have hb : Below w.heap.size w (w.alloc (.cells #[.int .i64 1, .int .i64 u, .int .i64 f, .int .i64 t] 31)) := (Below.refl _ w).alloc (Nat.le_refl _) _
  have hd1 : decide (gI F f > gI S.U u) = true := by simp; omega
  clear h ho hxp hd
  generalize gI S.U u = xu at *
  generalize gI F f = xf at *
  generalize gI S.Wo f = xw at *
  generalize gI S.He u = xh at *
  generalize S.U.length = nu at *
  generalize F.length = nf at *
  go_enter Tryd.func17, Tryd.ntmps17
  go_wp2_with fail
  go_quiet (first | (with_reducible exact quiet1 (C1.out _)) | (with_reducible exact quiet1 (C2.out _)) | (with_reducible exact quiet1 (C3.out _)))
  go_wp2_with fail
  go_quiet (fail)
  go_wp2_with fail
  go_ret
  exact ⟨rfl, belowD hb _⟩

set_option maxHeartbeats 2000000 in
theorem Ask_write {ok : Nat → Prop} (h : BibaAt w base p F S Au Af Aw Ah cu cf cw ch) (hno : S.U ≠ [] → F ≠ [] → ∀ g, (Au = some ⟨g, 0, none⟩ ∨ Aw = some ⟨g, 0, none⟩ ∨ Ah = some ⟨g, 0, none⟩) → ¬ ok g) (hB : base ≤ w.heap.size) (hl : S.U.length ≤ 100) (hl2 : F.length ≤ 100) (u f : Nat) (t : Int) (hu : u < S.U.length) (hf : f < F.length) (hd : ¬ gI S.U u < gI F f) :
    Calls Tryd.prog 17 #[.pointer (some ⟨p, 0, none⟩), .agg #[.int .i64 1, .int .i64 u, .int .i64 f, .int .i64 t]] w fun e w' => e = .returned .nilIface ∧ BibaAt w' base p F { S with Wo := S.Wo.set f (min (gI S.Wo f) (gI S.He u)) } Au Af Aw Ah cu cf cw ch ∧ Below base w w' ∧ KeepsT 3 w w' ∧ Spares ok w w' := by
  obtain ⟨gu, gf, gw, gh, rfl, rfl, rfl, rfl, ho⟩ := h.own (by intro e; simp [e] at hu) (by intro e; simp [e] at hf)
  have hno := hno (by intro e; simp [e] at hu) (by intro e; simp [e] at hf)
  have nu : ¬ ok gu := hno gu (.inl rfl)
  have nw : ¬ ok gw := hno gw (.inr (.inl rfl))
  have nh : ¬ ok gh := hno gh (.inr (.inr rfl))
  clear hno
  have C1 := Lib.hid (fun V => Within3_is 1 0 1 true V (by simp))
  have C2 := Lib.hid (fun V => Within3_is (u : Int) 0 ((S.U.length : Int) - 1) true V (by simp; omega))
  have C3 := Lib.hid (fun V => Within3_is (f : Int) 0 ((F.length : Int) - 1) true V (by simp; omega))
  have hlw := h.lw
  have hlh := h.lh
  have hbp := h.bp
  have hxp := h.box
  have hiu := h.iu
  have hiw := h.iw
  have cu0 := ho.ou.gI hu
  have cf0 := ho.of_.gI hf
  have cw0 := ho.ow.gI (i := f) (by omega)
  have ch0 := ho.oh.gI (i := u) (by omega)
  have fu0 := ho.ou.free u
  have fw0 := ho.ow.free f
  have fh0 := ho.oh.free u
  have lu := ho.ou.lt
  have lf := ho.of_.lt
  have lw := ho.ow.lt
  have lh := ho.oh.lt
  have lp := hxp.lt
  have huf := ho.uf
  have huw := ho.uw
  have huh := ho.uh
  have hfw := ho.fw
  have hfh := ho.fh
  have hwh := ho.wh
  have hup : gu ≠ p := ho.ou.ne_box hxp int_ne_monitor
  have hfp : gf ≠ p := ho.of_.ne_box hxp int_ne_monitor
  have hwp : gw ≠ p := ho.ow.ne_box hxp int_ne_monitor
  have hhp : gh ≠ p := ho.oh.ne_box hxp int_ne_monitor
  have c0 : w.cell? ⟨p, 0, none⟩ = some (.slice (some ⟨gu, 0, none⟩) S.U.length cu) := hxp.cell rfl
  have c1 : w.cell? ⟨p, 1, none⟩ = some (.slice (some ⟨gf, 0, none⟩) F.length cf) := hxp.cell rfl
  have c2 : w.cell? ⟨p, 2, none⟩ = some (.slice (some ⟨gw, 0, none⟩) F.length cw) := hxp.cell rfl
  have c3 : w.cell? ⟨p, 3, none⟩ = some (.slice (some ⟨gh, 0, none⟩) S.U.length ch) := hxp.cell rfl
  have hb : Below w.heap.size w (w.alloc (.cells #[.int .i64 1, .int .i64 u, .int .i64 f, .int .i64 t] 31)) := (Below.refl _ w).alloc (Nat.le_refl _) _
  have hd1 : decide (gI F f > gI S.U u) = false := by simp; omega
  have H := Lib.hid (fun (V : World) (hV : Below w.heap.size w V) (x : Int) (hx : x = min (gI S.Wo f) (gI S.He u)) => h.wrote nw ho hB hV hf hx)
  clear h hd ho hxp nu nw nh
  go_enter Tryd.func17, Tryd.ntmps17
  go_wp2_with fail
  go_quiet (first | (with_reducible exact quiet1 (C1.out _)) | (with_reducible exact quiet1 (C2.out _)) | (with_reducible exact quiet1 (C3.out _)))
  go_wp2_with fail
  go_quiet (fail)
  go_wp2_with fail
  refine wp_still_tailD2 24 (by kernel_rfl) (by kernel_rfl) ?_
  simp only [List.take_succ_cons, List.take_zero, List.drop_succ_cons, List.drop_zero]
  repeat still_step
  refine wpStill_nil ?_
  go_wp2_with fail
  all_goals
    go_ret
    exact ⟨rfl, H.out _ (belowD hb _) _ (by omega)⟩

set_option maxHeartbeats 2000000 in
theorem Ask_read {ok : Nat → Prop} (h : BibaAt w base p F S Au Af Aw Ah cu cf cw ch) (hno : S.U ≠ [] → F ≠ [] → ∀ g, (Au = some ⟨g, 0, none⟩ ∨ Aw = some ⟨g, 0, none⟩ ∨ Ah = some ⟨g, 0, none⟩) → ¬ ok g) (hB : base ≤ w.heap.size) (hl : S.U.length ≤ 100) (hl2 : F.length ≤ 100) (u f : Nat) (t : Int) (hu : u < S.U.length) (hf : f < F.length) :
    Calls Tryd.prog 17 #[.pointer (some ⟨p, 0, none⟩), .agg #[.int .i64 0, .int .i64 u, .int .i64 f, .int .i64 t]] w fun e w' => e = .returned .nilIface ∧ BibaAt w' base p F { S with U := S.U.set u (min (gI S.U u) (gI F f)), He := S.He.set u (min (gI S.He u) (gI S.Wo f)) } Au Af Aw Ah cu cf cw ch ∧ Below base w w' ∧ KeepsT 3 w w' ∧ Spares ok w w' := by
  obtain ⟨gu, gf, gw, gh, rfl, rfl, rfl, rfl, ho⟩ := h.own (by intro e; simp [e] at hu) (by intro e; simp [e] at hf)
  have hno := hno (by intro e; simp [e] at hu) (by intro e; simp [e] at hf)
  have nu : ¬ ok gu := hno gu (.inl rfl)
  have nw : ¬ ok gw := hno gw (.inr (.inl rfl))
  have nh : ¬ ok gh := hno gh (.inr (.inr rfl))
  clear hno
  have C1 := Lib.hid (fun V => Within3_is 0 0 1 true V (by simp))
  have C2 := Lib.hid (fun V => Within3_is (u : Int) 0 ((S.U.length : Int) - 1) true V (by simp; omega))
  have C3 := Lib.hid (fun V => Within3_is (f : Int) 0 ((F.length : Int) - 1) true V (by simp; omega))
  have hlw := h.lw
  have hlh := h.lh
  have hbp := h.bp
  have hxp := h.box
  have hiu := h.iu
  have hiw := h.iw
  have cu0 := ho.ou.gI hu
  have cf0 := ho.of_.gI hf
  have cw0 := ho.ow.gI (i := f) (by omega)
  have ch0 := ho.oh.gI (i := u) (by omega)
  have fu0 := ho.ou.free u
  have fw0 := ho.ow.free f
  have fh0 := ho.oh.free u
  have lu := ho.ou.lt
  have lf := ho.of_.lt
  have lw := ho.ow.lt
  have lh := ho.oh.lt
  have lp := hxp.lt
  have huf := ho.uf
  have huw := ho.uw
  have huh := ho.uh
  have hfw := ho.fw
  have hfh := ho.fh
  have hwh := ho.wh
  have hup : gu ≠ p := ho.ou.ne_box hxp int_ne_monitor
  have hfp : gf ≠ p := ho.of_.ne_box hxp int_ne_monitor
  have hwp : gw ≠ p := ho.ow.ne_box hxp int_ne_monitor
  have hhp : gh ≠ p := ho.oh.ne_box hxp int_ne_monitor
  have c0 : w.cell? ⟨p, 0, none⟩ = some (.slice (some ⟨gu, 0, none⟩) S.U.length cu) := hxp.cell rfl
  have c1 : w.cell? ⟨p, 1, none⟩ = some (.slice (some ⟨gf, 0, none⟩) F.length cf) := hxp.cell rfl
  have c2 : w.cell? ⟨p, 2, none⟩ = some (.slice (some ⟨gw, 0, none⟩) F.length cw) := hxp.cell rfl
  have c3 : w.cell? ⟨p, 3, none⟩ = some (.slice (some ⟨gh, 0, none⟩) S.U.length ch) := hxp.cell rfl
  have hb : Below w.heap.size w (w.alloc (.cells #[.int .i64 0, .int .i64 u, .int .i64 f, .int .i64 t] 31)) := (Below.refl _ w).alloc (Nat.le_refl _) _
  have H := Lib.hid (fun (V : World) (hV : Below w.heap.size w V) (n : Nat) (x x' : Int) (hx : x = min (gI S.U u) (gI F f)) (hx' : x' = min (gI S.He u) (gI S.Wo f)) => h.heard nu nh ho hB hV hu hx hx' (n := n))
  clear h ho hxp nu nw nh
  go_enter Tryd.func17, Tryd.ntmps17
  go_wp2_with fail
  go_quiet (first | (with_reducible exact quiet1 (C1.out _)) | (with_reducible exact quiet1 (C2.out _)) | (with_reducible exact quiet1 (C3.out _)))
  go_wp2_with fail
  refine wp_still_tailD2 24 (by kernel_rfl) (by kernel_rfl) ?_
  simp only [List.take_succ_cons, List.take_zero, List.drop_succ_cons, List.drop_zero]
  repeat still_step
  refine wpStill_nil ?_
  go_wp2_with fail
  all_goals
    refine wp_still_tailD 24 (by kernel_rfl) (by kernel_rfl) ?_
    simp only [List.take_succ_cons, List.take_zero, List.drop_succ_cons, List.drop_zero]
    repeat still_step
    refine wpStill_nil ?_
    go_wp2_with fail
  all_goals
    go_ret
    exact ⟨rfl, H.out _ (belowD hb _) _ _ _ (by omega) (by omega)⟩

theorem Ask_any2 {ok : Nat → Prop} (h : BibaAt w base p F S Au Af Aw Ah cu cf cw ch) (hno : S.U ≠ [] → F ≠ [] → ∀ g, (Au = some ⟨g, 0, none⟩ ∨ Aw = some ⟨g, 0, none⟩ ∨ Ah = some ⟨g, 0, none⟩) → ¬ ok g) (hB : base ≤ w.heap.size) (hl : S.U.length ≤ 100) (hl2 : F.length ≤ 100) (k u f t : Int) :
    Calls Tryd.prog 17 #[.pointer (some ⟨p, 0, none⟩), .agg #[.int .i64 k, .int .i64 u, .int .i64 f, .int .i64 t]] w fun e w' => e = .returned (errVal (bAsk F S k u f).2) ∧ BibaAt w' base p F (bAsk F S k u f).1 Au Af Aw Ah cu cf cw ch ∧ Below base w w' ∧ KeepsT 3 w w' ∧ Spares ok w w' := by
  by_cases hok : bOk F S k u f
  · obtain ⟨hk, ⟨hu0, hu1⟩, hf0, hf1⟩ := id hok
    unfold bAsk
    rw [if_pos hok]
    obtain ⟨un, rfl⟩ := Int.eq_ofNat_of_zero_le hu0
    obtain ⟨fn, rfl⟩ := Int.eq_ofNat_of_zero_le hf0
    have hu : un < S.U.length := by omega
    have hf : fn < F.length := by omega
    by_cases hk0 : k = 0
    · rw [if_pos hk0]
      subst hk0
      exact (Ask_read h hno hB hl hl2 un fn t hu hf)
    · rw [if_neg hk0]
      obtain rfl : k = 1 := by omega
      split
      · rename_i hd
        exact (Ask_denied h hB hl hl2 un fn t hu hf hd).mono fun e w' ⟨he, hb⟩ => ⟨he, h.all hb, hb.mono hB, KeepsT.of_below hb, fun b _ hbl => hb.block b hbl⟩
      · rename_i hd
        exact (Ask_write h hno hB hl hl2 un fn t hu hf hd)
  · unfold bAsk
    rw [if_neg hok]
    exact (Ask_range h hl hl2 k u f t hok).mono fun e w' ⟨he, hb⟩ => ⟨he, h.all hb, hb.mono hB, KeepsT.of_below hb, fun b _ hbl => hb.block b hbl⟩
theorem Ask_any (h : BibaAt w base p F S Au Af Aw Ah cu cf cw ch) (hB : base ≤ w.heap.size) (hl : S.U.length ≤ 100) (hl2 : F.length ≤ 100) (k u f t : Int) :
    Calls Tryd.prog 17 #[.pointer (some ⟨p, 0, none⟩), .agg #[.int .i64 k, .int .i64 u, .int .i64 f, .int .i64 t]] w fun e w' => e = .returned (errVal (bAsk F S k u f).2) ∧ BibaAt w' base p F (bAsk F S k u f).1 Au Af Aw Ah cu cf cw ch ∧ Below base w w' ∧ KeepsT 3 w w' :=
  (Ask_any2 (ok := fun _ => False) h (fun _ _ _ _ => id) hB hl hl2 k u f t).mono fun _ _ ⟨h1, h2, h3, h4, _⟩ => ⟨h1, h2, h3, h4⟩

/-- The monitor does not mind what another block holds. -/
theorem BibaAt.off {w' : World} (h : BibaAt w base p F S Au Af Aw Ah cu cf cw ch) {x : Nat} {t : TypeId} {vs : Array Value} (hb : BoxN w x t vs) (hi : t ≠ 3) (hm : t ≠ 68) (hii : ∀ A l, IntsAt w A l → IntsAt w' A l) (hh : ∀ b, b ≠ x → w'.heap[b]? = w.heap[b]?) :
    BibaAt w' base p F S Au Af Aw Ah cu cf cw ch := by
  have hpx : p ≠ x := by
    rintro rfl
    have h1 : w.heap[p]? = _ := h.box
    have h2 : w.heap[p]? = _ := hb
    rw [h1] at h2
    injection h2 with h2
    injection h2 with _ h3
    exact hm h3.symm
  refine ⟨h.bp, (hh p hpx).trans h.box, h.lw, h.lh, hii _ _ h.iu, hii _ _ h.iw, fun n1 n2 => ?_⟩
  obtain ⟨gu, gf, gw, gh, e1, e2, e3, e4, ho⟩ := h.own n1 n2
  exact ⟨gu, gf, gw, gh, e1, e2, e3, e4, ho.bu, ho.bf, ho.bw, ho.bh, ho.ou.block (hh _ (ho.ou.ne_box hb hi.symm)), ho.of_.block (hh _ (ho.of_.ne_box hb hi.symm)), ho.ow.block (hh _ (ho.ow.ne_box hb hi.symm)), ho.oh.block (hh _ (ho.oh.ne_box hb hi.symm)), ho.uf, ho.uw, ho.uh, ho.fw, ho.fh, ho.wh⟩
end
end Go.Proofs.YtodikdmmmfeddaaDoor
