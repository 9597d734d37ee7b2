/-
  Contract: the monitor's all; what Ask asks of a file.
-/
import Derived.Test.YtanlmfnhlldkeaaGreatDoorBellM
import Derived.Test.YtanlmfnhlldkeaaGreatDoorLoopA
import Derived.Test.YtanlmfnhlldkeaaGreatDoorRowsA
namespace Go.Proofs.YtanlmfnhlldkeaaGreatDoor
open Go.RowKit
attribute [local go_sem] Oper.semAt_some
attribute [local simp, local go_sem] wide_fn
set_option maxRecDepth 100000
set_option linter.unusedVariables false

section
variable {w w' : World} {base p : Nat} {U F : List Int} {S : LS} {A : LA}
set_option maxHeartbeats 4000000 in
theorem all_any (h : BellAt w base p U F S A) (hT : Tab w) (hn8 : S.Ho.length ≤ 8) (s : Nat) (hs8 : s < 2 ^ S.Ho.length) (ok : Nat → Bool) (fn : FuncId) (caps : Array Value) (hen : Enters Tryz.prog fn)
    (hw : ∀ V i, Below w.heap.size w V → i < S.Ho.length → Calls Tryz.prog fn (#[.agg #[.int .i64 (gI F (i * 2)), .int .i64 (gI F (i * 2 + 1))]] ++ caps) V fun e w' => e = .returned (.bool (ok i)) ∧ Below V.heap.size V w') {r : Bool} (hr : allIn s ok = r) :
    Calls Tryz.prog 147 #[.pointer (some ⟨p, 0, none⟩), .int .i64 s, .func (.func fn) #[] caps] w fun e w' => e = .returned (.bool r) ∧ Below w.heap.size w w' := by
  refine (callsIn_wide (n := 8)).1 ?_
  have hg := hT.lt
  have hs256 : s < 256 := lt256 hs8 hn8
  have c0 : w.cell? ⟨p, 1, none⟩ = some (.slice A.Af S.Ho.length A.cf) := h.box.cell rfl
  have hp := h.box.lt
  have Hot := Lib.hid (show r = (bitsOf s).all ok from hr.symm)
  have Hbit := Lib.hid (fun x (hx : s.testBit x = true) => bit_below hs8 hx)
  have Hmem := Lib.hid (fun i => mem_bitsOf (r := s) (i := i) (by omega))
  have Hf := Lib.hid h.if_
  have Hlf := Lib.hid h.lf
  clear h hs8 hr
  generalize S.Ho.length = n at *
  have hrc : ∀ (args : Array Value) (V : World), (callFunc fn args).run Tryz.prog V = .ok (.enter fn args) V := fun args V => hen args V
  refine callsIn_of_wp_marks Tryz.func147 rfl trivial ?_ rfl
  simp only [Tryz.ntmps147, List.size_toArray, List.length_cons, List.length_nil, Nat.reduceAdd, Nat.reduceSub, Array.replicate_succ, Array.replicate_zero, List.push_toArray, List.append_toArray, List.nil_append, List.cons_append]
  gi_wp2_with fail
  have hx1 := ((BoxN.new w 189 #[.pointer (some ⟨p, 0, none⟩)]).alloc (.cells #[.func (.func fn) #[] caps] 230)).alloc (.cells #[.bool false] 4)
  have hx2 := (BoxN.new (w.alloc (.cells #[.pointer (some ⟨p, 0, none⟩)] 189)) 230 #[.func (.func fn) #[] caps]).alloc (.cells #[.bool false] 4)
  have hx3 := BoxN.new ((w.alloc (.cells #[.pointer (some ⟨p, 0, none⟩)] 189)).alloc (.cells #[.func (.func fn) #[] caps] 230)) 4 #[.bool false]
  have hbl : Below w.heap.size w (((w.alloc (.cells #[.pointer (some ⟨p, 0, none⟩)] 189)).alloc (.cells #[.func (.func fn) #[] caps] 230)).alloc (.cells #[.bool false] 4)) := (((Below.refl _ _).alloc (Nat.le_refl _) _).alloc (by simp) _).alloc (by simp; omega) _
  have hsz : (((w.alloc (.cells #[.pointer (some ⟨p, 0, none⟩)] 189)).alloc (.cells #[.func (.func fn) #[] caps] 230)).alloc (.cells #[.bool false] 4)).heap.size = w.heap.size + 1 + 1 + 1 := by simp
  simp only [World.size_alloc] at hx2 hx3
  generalize hWW : ((w.alloc (.cells #[.pointer (some ⟨p, 0, none⟩)] 189)).alloc (.cells #[.func (.func fn) #[] caps] 230)).alloc (.cells #[.bool false] 4) = W at *
  have Hsz := Lib.hid hsz
  clear hsz hWW
  refine (callsIn_wide.2 (Bits_any (s : Nat) _)).mono ?_
  rintro e w4 ⟨rfl, rfl⟩
  have hbX : Below W.heap.size W (W.alloc (.cells #[.int .i64 (s : Nat)] 3)) := (Below.refl _ _).alloc (Nat.le_refl _) _
  have hxd : BoxN (W.alloc (.cells #[.int .i64 (s : Nat)] 3)) W.heap.size 3 #[.int .i64 (s : Nat)] := BoxN.new W _ _
  have hsX : (W.alloc (.cells #[.int .i64 (s : Nat)] 3)).heap.size = W.heap.size + 1 := by simp
  gi_wp2_with fail
  generalize W.alloc (.cells #[.int .i64 (s : Nat)] 3) = X at *
  have hy1 := hx1.all hbX
  have hy2 := hx2.all hbX
  have hy3 := hx3.all hbX
  have hsz1 : w.heap.size + 1 + 1 < W.heap.size := by rw [Hsz.out]; omega
  have hsz2 : W.heap.size < X.heap.size := by omega
  clear hsX
  have hblX := hbl.trans (hbX.mono (by omega))
  have hTX : Tab X := hT.next hblX
  clear hx1 hx2 hx3 hbX hbl hT
  refine wp_bits1 (by decide) 7 (B := W.heap.size) (s := s) rfl (hxd.cell rfl) (by omega) hTX
    (fun pre Y => Below X.heap.size X Y ∧ Hid (∀ x, x ∈ pre → ok x = true))
    (fun cd _ Y => cd = .ret ∧ r = false ∧ BoxN Y (w.heap.size + 1 + 1) 4 #[.bool false] ∧ Below w.heap.size w Y)
    (fun _ _ _ _ hs hg hr => ⟨below_own hs.1 (Nat.le_refl _) (Nat.le_refl _) hg hr, hs.2⟩)
    (fun _ _ _ _ _ hs hg hr => ⟨hs.1, hs.2.1, hs.2.2.1.own hg (fun r e => (hr r e).2), below_own hs.2.2.2 (Nat.le_refl _) (by omega) hg hr⟩)
    ⟨Below.refl _ _, fun x hx => by cases hx⟩ ?assign ?body ?done ?stop
  case assign =>
    intro l x Y K hK
    gi_wp2
    exact hK
  case body =>
    rintro l pre x Y hx hlen' ⟨hY, hpre⟩
    have hxn : x < n := Hbit.out x hx
    have hY1 := hy1.all hY
    have hY2 := hy2.all hY
    have hY3 := hy3.all hY
    have hblY := hblX.trans (hY.mono hblX.size)
    have a1 : Y.cell? ⟨w.heap.size, 0, none⟩ = some (.pointer (some ⟨p, 0, none⟩)) := hY1.cell rfl
    have a2 : Y.cell? ⟨w.heap.size + 1, 0, none⟩ = some (.func (.func fn) #[] caps) := hY2.cell rfl
    obtain ⟨bt, ot, hA, hct⟩ := Hf.out (by intro e; have := Hlf.out; simp [e] at this; omega)
    have b0 := (hblY.cell (p := ⟨p, 1, none⟩) (by show p < _; omega)).trans c0
    rw [hA] at b0
    have hlf := Hlf.out
    have p1 := hct (x * 2) _ (get_gI (by omega))
    have p2 : w.cell? ⟨bt, ot + x * 2 + 1, none⟩ = some (.int .i64 (gI F (x * 2 + 1))) := hct (x * 2 + 1) _ (get_gI (by omega))
    have hbt : bt < w.heap.size := block_lt p1
    have b1 := (hblY.cell (p := ⟨bt, ot + x * 2, none⟩) hbt).trans p1
    have b2 := (hblY.cell (p := ⟨bt, ot + x * 2 + 1, none⟩) hbt).trans p2
    have HW := Lib.hid (fun V (hV : Below Y.heap.size Y V) => (hw V x (hblY.trans (hV.mono hblY.size)) hxn).mono fun e w' ⟨he, hb⟩ => (⟨he, hV.trans (hb.mono hV.size)⟩ : _ ∧ Below Y.heap.size Y w'))
    have hp1 : ok x = true → ∀ y, y ∈ pre ++ [x] → ok y = true := fun h y hy => by
      rcases List.mem_append.1 hy with hy | hy
      · exact hpre.out y hy
      · obtain rfl := List.mem_singleton.1 hy; exact h
    have Hp1 := Lib.hid hp1
    have Hr1 := Lib.hid (fun (h : ok x = false) => show r = false from by
      rw [Hot.out, List.all_eq_false]; exact ⟨x, (Hmem.out x).2 hx, by rw [h]; decide⟩)
    clear hpre hp1 p1 p2 hct hA hlf
    generalize gI F (x * 2) = lv at *
    generalize gI F (x * 2 + 1) = ls at *
    simp only [List.setIfInBounds_toArray, List.set_cons_succ, List.set_cons_zero]
    cases hok : ok x with
    | true =>
      rw [hok] at HW Hp1
      have Hp2 := Lib.hid (Hp1.out rfl)
      clear Hr1 Hp1 hok hw
      gi_wp2_with fail
      refine wpIn_round_still_tail 8 (by kernel_rfl) (by kernel_rfl) (by kernel_rfl) ?_
      simp only [List.take_succ_cons, List.take_zero, List.drop_succ_cons, List.drop_zero]
      repeat still_step
      refine wpStill_nil ?_
      go_wp2_with fail
      refine (HW.out _ ((Below.refl _ _).drew)).mono ?_
      rintro e w5 ⟨rfl, hb5⟩
      go_wp2_with fail
      simp only [OnlyNormal]
      gi_wp2_with fail
      exact ⟨(keepsOthers_below hb5).from _, hb5.mono (by have := hY.size; omega), hY.trans (hb5.mono (by have := hY.size; omega)), Hp2⟩
    | false =>
      rw [hok] at HW
      have hr := Hr1.out hok
      clear Hr1 Hp1 hok hw
      gi_wp2_with fail
      refine wpIn_round_still_tail 8 (by kernel_rfl) (by kernel_rfl) (by kernel_rfl) ?_
      simp only [List.take_succ_cons, List.take_zero, List.drop_succ_cons, List.drop_zero]
      repeat still_step
      refine wpStill_nil ?_
      go_wp2_with fail
      refine (HW.out _ ((Below.refl _ _).drew)).mono ?_
      rintro e w5 ⟨rfl, hb5⟩
      have hY3' := hY3.all hb5
      have a3 : w5.cell? ⟨w.heap.size + 1 + 1, 0, none⟩ = some (.bool false) := hY3'.cell rfl
      have f3 := hY3'.free 0
      go_wp2_with fail
      simp only [OnlyNormal]
      gi_wp2_with fail
      exact ⟨((keepsOthers_below hb5).trans (KeepsOthers.setCell _ _ _)).from _, rfl, hr, hY3'.set 0 (.bool false), (hblY.trans (hb5.mono hblY.size)).setCell (by simp; omega) _⟩
  case done =>
    rintro D Z hD ⟨hZ, hpre⟩ hK
    have hr : r = true := by
      rw [Hot.out, List.all_eq_true]
      exact fun x hx => hpre.out x hx
    subst hr
    clear hpre Hot
    have hZ3 := hy3.all hZ
    have a3 : Z.cell? ⟨w.heap.size + 1 + 1, 0, none⟩ = some (.bool false) := hZ3.cell rfl
    have f3 := hZ3.free 0
    gi_wp2_with fail
    refine leaves_marks (B := w.heap.size) [D] _ ((MarksAt.nil.cons (by omega) (by simp) hK).setCell _ _) fun w' hsc hb' _ => ?_
    have d3 : w'.cell? ⟨w.heap.size + 1 + 1, 0, none⟩ = some (.bool true) := (hsc.cell _).trans ((hZ3.set 0 (.bool true)).cell rfl)
    refine ⟨.bool true, by simp [results, Tryz.f147, go_sem, d3], rfl, ((hblX.trans (hZ.mono (by omega))).setCell (by simp; omega) _).trans hb'⟩
  case stop =>
    rintro D cd pre Z hD _ ⟨rfl, hord, b3, hblZ⟩ hK
    subst hord
    gi_wp2_with fail
    refine leaves_marks (B := w.heap.size) [D] Z (MarksAt.nil.cons (by omega) (by simp) hK) fun w' hsc hb' _ => ?_
    have d3 : w'.cell? ⟨w.heap.size + 1 + 1, 0, none⟩ = some (.bool false) := (hsc.cell _).trans (b3.cell rfl)
    refine ⟨.bool false, by simp [results, Tryz.f147, go_sem, d3], rfl, hblZ.trans hb'⟩

/-- Is the file below another one? -/
theorem askOne_any (v v' s s' : Int) (h : labOk v s) (h' : labOk v' s') {x : Nat} (hx : BoxN w x 144 #[.int .i64 v, .int .i64 s]) {r : Bool} (hr : (decide (v ≤ v') && within s.toNat s'.toNat) = r) :
    Calls Tryz.prog 148 #[.agg #[.int .i64 v', .int .i64 s'], .pointer (some ⟨x, 0, none⟩)] w fun e w' => e = .returned (.bool r) ∧ Below w.heap.size w w' := by
  have H := Lib.hid (fun V => lbelow_any v v' s s' h h' V hr)
  have hlt := hx.lt
  have c0 := hx.cell (k := 0) rfl
  have c1 := hx.cell (k := 1) rfl
  clear h h' hr
  go_enter Tryz.func148, Tryz.ntmps148
  go_wp2_with fail
  refine (H.out _).mono ?_
  rintro e w1 ⟨rfl, hb1⟩
  go_wp2_with fail
  go_ret
  exact ⟨rfl, ((Below.refl _ w).alloc (Nat.le_refl _) _).trans (hb1.mono (by simp))⟩
theorem askTwo_any (v v' s s' : Int) (h : labOk v s) (h' : labOk v' s') {x : Nat} (hx : BoxN w x 144 #[.int .i64 v', .int .i64 s']) {r : Bool} (hr : (decide (v ≤ v') && within s.toNat s'.toNat) = r) :
    Calls Tryz.prog 149 #[.agg #[.int .i64 v, .int .i64 s], .pointer (some ⟨x, 0, none⟩)] w fun e w' => e = .returned (.bool r) ∧ Below w.heap.size w w' := by
  have H := Lib.hid (fun V => lbelow_any v v' s s' h h' V hr)
  have hlt := hx.lt
  have c0 := hx.cell (k := 0) rfl
  have c1 := hx.cell (k := 1) rfl
  clear h h' hr
  go_enter Tryz.func149, Tryz.ntmps149
  go_wp2_with fail
  refine (H.out _).mono ?_
  rintro e w1 ⟨rfl, hb1⟩
  go_wp2_with fail
  go_ret
  exact ⟨rfl, ((Below.refl _ w).alloc (Nat.le_refl _) _).trans (hb1.mono (by simp))⟩
end
end Go.Proofs.YtanlmfnhlldkeaaGreatDoor
