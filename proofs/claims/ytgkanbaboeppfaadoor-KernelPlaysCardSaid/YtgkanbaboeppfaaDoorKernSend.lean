/-
  Contract: a kernel's step that sends.
-/
import Derived.Test.YtgkanbaboeppfaaDoorKernS
namespace Go.Proofs.YtgkanbaboeppfaaDoor
open Go.RowKit
set_option maxRecDepth 100000
set_option linter.unusedVariables false

section
variable {role : Nat → Nat} {lo hi : Nat} {w : World} {p : Nat} {K : KF} {L : List (List Int)} {P : List Int} {q : Nat} {T : List Int} {s : KState} {t : Nat}

set_option maxHeartbeats 40000000 in
theorem step_send (h : KernAt role lo hi w p K L P q T s t) {i : Nat} (hil : i < L.length) {pc a b : Nat} (hpc : (s.parts i).pc = pc) (hn : pc < (L.getD i []).length / 3) (hp12 : pc < 12)
    (hk : nI (L.getD i []) (3 * pc) = 2) (ha : nI (L.getD i []) (3 * pc + 1) = a) (hb : nI (L.getD i []) (3 * pc + 2) = b) (ha4 : a < 4) (hbq : b < q) {ra : Nat} (hra : (s.parts i).regs a = ra) (h4 : (s.held b).length < 4) :
    Calls Tryd.prog 21 #[.pointer (some ⟨p, 0, none⟩), .int .i64 i] w fun e w' => e = .returned (.tuple #[]) ∧ StepPost role lo hi w p K L P q T ((s.port b (s.held b ++ [(ra : Int)])).place i ⟨pc + 1, (s.parts i).regs, (s.parts i).shown⟩) t w' := by
  obtain ⟨b1, off, Ai, ni, ci, hA, c0, hli, hni, hIn⟩ := h.progs.get hil
  rw [hli, Nat.mul_div_cancel _ (by decide)] at hn
  obtain ⟨b3, off3, rfl, o0, o1, o2⟩ := op_cells hIn hli hn
  have hni2 : ni ≤ 9223372036854775807 := by unfold maxLen at hni; omega
  rw [hk] at o0
  rw [ha] at o1
  rw [hb] at o2
  obtain ⟨x0, -, -, x3, x4, -⟩ := h.words
  rw [hA] at x0
  obtain ⟨a1, -, -, -⟩ := h.part hil
  rw [hpc] at a1
  have hblk := block_lt o0
  have hbl := (Below.refl w.heap.size w).alloc (Nat.le_refl _) (.cells #[.int .i64 2, .int .i64 a, .int .i64 b] 72)
  have hx := BoxN.new w 72 #[.int .i64 2, .int .i64 a, .int .i64 b]
  have h1 := h.below hbl
  have hpl := h.box.lt
  have H1 := Lib.hid h1
  have HT := Lib.hid (RoleTo.below role hbl)
  have hd : decide ((pc : Int) ≥ ni) = false := by simp; omega
  have y1 := hx.cell (k := 1) rfl
  have y2 := hx.cell (k := 2) rfl
  obtain ⟨e1, e2, ⟨vs, e5, r5⟩, fz⟩ := h1.part hil
  rw [hpc] at e1
  obtain ⟨-, -, -, z3, z4, -⟩ := h1.words
  have f0 := fz (i * 6)
  have hgp := h.rgp
  have hgh := h.rgh
  have e2a := e2 a ha4
  rw [hra] at e2a
  obtain ⟨⟨vh, e6, r6⟩, fh⟩ := h1.port hbq
  obtain ⟨Ah, ch, hvh, ih⟩ := r6.form
  have R6 := Lib.hid r6
  have e6' := e6
  have hh4 := h4
  have hnew := h.new
  rw [hvh] at e6
  have lb : (b : Int) < q := by omega
  have la : (a : Int) < 4 := by omega
  have h4' : decide (((s.held b).length : Int) < 4) = true := by simp; omega
  have hghz := H1.out.inn
  have hhi := H1.out.size
  clear h hIn hA hli fz e2 h1 hx r6 r5 ih
  go_enter Tryd.func21, Tryd.ntmps21
  go_wp2_with fail
  generalize w.alloc (.cells #[.int .i64 2, .int .i64 a, .int .i64 b] 72) = W1 at *
  go_quiet (fail)
  go_wp2_with fail
  have HPost := Lib.hid (fun (V : World) (hV : Below W1.heap.size W1 V) (w' : World) (role' : Nat → Nat) (A' : Option Addr) (nn c' : Nat) (hr1 : RowW role' (5 + 2 * b) w' (.slice A' nn c') (s.held b ++ [(ra : Int)])) (hr2 : ∀ bb, bb < V.heap.size → role' bb = role bb) (hr3 : V.heap.size ≤ w'.heap.size) (hr4 : w'.os = V.os ∧ w'.tape = V.tape ∧ w'.output = V.output) (hr5 : ∀ bb, bb < V.heap.size → role bb ≠ 5 + 2 * b → w'.heap[bb]? = V.heap[bb]?) (hr6 : (∀ bb, V.heap.size ≤ bb → role bb = 0) → ∀ bb, w'.heap.size ≤ bb → role' bb = 0) =>
    (show w'.cell? ⟨K.gh, b, none⟩ = some vh ∧ w'.frozen? ⟨K.gh, b, none⟩ = false ∧ (w'.setCell ⟨K.gh, b, none⟩ (.slice A' nn c')).cell? ⟨K.gp, i * 6, none⟩ = some (.int .i64 pc) ∧ (w'.setCell ⟨K.gh, b, none⟩ (.slice A' nn c')).frozen? ⟨K.gp, i * 6, none⟩ = false ∧ Hid (StepPost role lo hi w p K L P q T ((s.port b (s.held b ++ [(ra : Int)])).place i ⟨pc + 1, (s.parts i).regs, (s.parts i).shown⟩) t ((w'.setCell ⟨K.gh, b, none⟩ (.slice A' nn c')).setCell ⟨K.gp, i * 6, none⟩ (.int .i64 (pc + 1 : Nat)))) by
      have hsV := hV.size
      have kk := (KernAt.pushed (code := 5 + 2 * b) (by omega) (H1.out.below hV) hr2 hr3 hr5 (hr6 (H1.out.below hV).new)).2 b rfl hbq _ _ hr1
      refine ⟨(World.cell?_of_block (a := ⟨K.gh, b, none⟩) (hr5 _ (by show K.gh < _; omega) (by show role K.gh ≠ _; omega))).trans ((hV.cell (p := ⟨K.gh, b, none⟩) (by show K.gh < _; omega)).trans e6'), (World.frozen?_of_block (a := ⟨K.gh, b, none⟩) (hr5 _ (by show K.gh < _; omega) (by show role K.gh ≠ _; omega))).trans ((hV.frozen (p := ⟨K.gh, b, none⟩) (by show K.gh < _; omega)).trans (fh b)), ?_, (kk.part hil).2.2.2 (i * 6), Lib.hid ⟨role', ?_, ?_⟩⟩
      · have q3 := (kk.part hil).1
        rw [← hpc]
        exact q3
      · have k2 := kk.setPc hil (pc + 1)
        skip
        exact k2
      · exact ((((RoleTo.trans HT.out (RoleTo.below role hV)).trans (RoleTo.push (code := 5 + 2 * b) (by omega) hr2 hr3 hr4 hr5)).setCell (a := ⟨K.gh, b, none⟩) (by show role K.gh ≠ 0; omega) (.slice A' nn c')).setCell (a := ⟨K.gp, i * 6, none⟩) (by show role K.gp ≠ 0; omega) (.int .i64 (pc + 1 : Nat)))))
  have HRV := Lib.hid (fun V (hV : Below W1.heap.size W1 V) => R6.out.keep (w' := V) (role' := role) (fun g hg _ => hV.block g hg) (fun _ _ => rfl))
  rw [hvh] at HRV
  have lgg : K.gh < W1.heap.size := by have := H1.out.size; have := H1.out.inn; omega
  have ea := ((Below.refl W1.heap.size W1).alloc (Nat.le_refl _) (.cells #[.int .i64 ra] 3)).cell (p := ⟨K.gh, b, none⟩) lgg
  have eb : ((W1.drewN (nq + 1)).alloc (.cells #[.int .i64 ra] 3)).cell? ⟨K.gh, b, none⟩ = _ := ea.trans e6
  have lww := block_lt y2
  have lpp := block_lt z4
  have lgp := block_lt e2a
  have hPS := Lib.hid (fun (w' : World) (role' : Nat → Nat) (hr2 : ∀ bb, bb < ((W1.drewN (nq + 1)).alloc (.cells #[.int .i64 ra] 3)).heap.size → role' bb = role bb) (hr5 : ∀ bb, bb < ((W1.drewN (nq + 1)).alloc (.cells #[.int .i64 ra] 3)).heap.size → role bb ≠ 5 + 2 * b → w'.heap[bb]? = ((W1.drewN (nq + 1)).alloc (.cells #[.int .i64 ra] 3)).heap[bb]?) => (show w'.cell? ⟨p, 4, none⟩ = some (.slice (some ⟨K.gh, 0, none⟩) q q) ∧ w'.cell? ⟨w.heap.size, 1, none⟩ = some (.int .i64 a) ∧ w'.cell? ⟨w.heap.size, 2, none⟩ = some (.int .i64 b) ∧ w'.cell? ⟨K.gp, i * 6 + 1 + a, none⟩ = some (.int .i64 ra) by
    have hV : Below W1.heap.size W1 ((W1.drewN (nq + 1)).alloc (.cells #[.int .i64 ra] 3)) := (belowD (Below.refl _ _) _).alloc (Nat.le_refl _) _
    have hsz : W1.heap.size ≤ ((W1.drewN (nq + 1)).alloc (.cells #[.int .i64 ra] 3)).heap.size := hV.size
    have rb : role w.heap.size = 0 := hnew _ (Nat.le_refl _)
    have rp := H1.out.rp
    have go : ∀ (g k : Nat) (u : Value), g < W1.heap.size → role g ≠ 5 + 2 * b → W1.cell? ⟨g, k, none⟩ = some u → w'.cell? ⟨g, k, none⟩ = some u := fun g k u h1 h2 h3 => (World.cell?_of_block (a := ⟨g, k, none⟩) (hr5 g (Nat.lt_of_lt_of_le h1 hsz) h2)).trans ((hV.cell (p := ⟨g, k, none⟩) h1).trans h3)
    exact ⟨go _ _ _ lpp (by omega) z4, go _ _ _ lww (by omega) y1, go _ _ _ lww (by omega) y2, go _ _ _ lgp (by omega) e2a⟩))
  have hPS2 := Lib.hid (fun (w' : World) (u : Value) (hS : w'.cell? ⟨p, 4, none⟩ = some (.slice (some ⟨K.gh, 0, none⟩) q q) ∧ w'.cell? ⟨w.heap.size, 1, none⟩ = some (.int .i64 a) ∧ w'.cell? ⟨w.heap.size, 2, none⟩ = some (.int .i64 b) ∧ w'.cell? ⟨K.gp, i * 6 + 1 + a, none⟩ = some (.int .i64 ra)) => (show (w'.setCell ⟨K.gh, b, none⟩ u).cell? ⟨p, 4, none⟩ = some (.slice (some ⟨K.gh, 0, none⟩) q q) ∧ (w'.setCell ⟨K.gh, b, none⟩ u).cell? ⟨w.heap.size, 1, none⟩ = some (.int .i64 a) ∧ (w'.setCell ⟨K.gh, b, none⟩ u).cell? ⟨w.heap.size, 2, none⟩ = some (.int .i64 b) ∧ (w'.setCell ⟨K.gh, b, none⟩ u).cell? ⟨K.gp, i * 6 + 1 + a, none⟩ = some (.int .i64 ra) by
    have rb : role w.heap.size = 0 := hnew _ (Nat.le_refl _)
    have rp := H1.out.rp
    have go : ∀ (g k : Nat) (x : Value), role g ≠ 3 → w'.cell? ⟨g, k, none⟩ = some x → (w'.setCell ⟨K.gh, b, none⟩ u).cell? ⟨g, k, none⟩ = some x := fun g k x h1 h2 => (World.cell?_setCell_other _ _ _ _ (fun e => h1 (by injection e with e1; first | (rw [e1]; exact hgh) | (rw [← e1]; exact hgh)))).trans h2
    exact ⟨go _ _ _ (by omega) hS.1, go _ _ _ (by omega) hS.2.1, go _ _ _ (by omega) hS.2.2.1, go _ _ _ (by omega) hS.2.2.2⟩))
  have ec : ((W1.drewN (nq + 1)).alloc (.cells #[.int .i64 ra] 3)).cell? ⟨w.heap.size, 2, none⟩ = _ := (((Below.refl W1.heap.size W1).alloc (Nat.le_refl _) (.cells #[.int .i64 ra] 3)).cell (p := ⟨w.heap.size, 2, none⟩) lww).trans y2
  have ed : ((W1.drewN (nq + 1)).alloc (.cells #[.int .i64 ra] 3)).cell? ⟨p, 4, none⟩ = _ := (((Below.refl W1.heap.size W1).alloc (Nat.le_refl _) (.cells #[.int .i64 ra] 3)).cell (p := ⟨p, 4, none⟩) lpp).trans z4
  clear H1 HT R6 ea
  have hKeep := Lib.hid (fun V (hV : Below W1.heap.size W1 V) => (⟨(hV.cell (p := ⟨p, 4, none⟩) lpp).trans z4, (hV.cell (p := ⟨w.heap.size, 1, none⟩) lww).trans y1, (hV.cell (p := ⟨w.heap.size, 2, none⟩) lww).trans y2, (hV.cell (p := ⟨K.gp, i * 6 + 1 + a, none⟩) lgp).trans e2a⟩ : V.cell? ⟨p, 4, none⟩ = some (.slice (some ⟨K.gh, 0, none⟩) q q) ∧ V.cell? ⟨w.heap.size, 1, none⟩ = some (.int .i64 a) ∧ V.cell? ⟨w.heap.size, 2, none⟩ = some (.int .i64 b) ∧ V.cell? ⟨K.gp, i * 6 + 1 + a, none⟩ = some (.int .i64 ra)))
  clear y1 y2 e2a z3 z4 x0 x3 x4 o0 o1 o2 c0 a1 ec ed
  refine wp_region_held_drew (S := fun V => V.cell? ⟨p, 4, none⟩ = some (.slice (some ⟨K.gh, 0, none⟩) q q) ∧ V.cell? ⟨w.heap.size, 1, none⟩ = some (.int .i64 a) ∧ V.cell? ⟨w.heap.size, 2, none⟩ = some (.int .i64 b) ∧ V.cell? ⟨K.gp, i * 6 + 1 + a, none⟩ = some (.int .i64 ra)) (by kernel_rfl) (hKeep.out _ (by first | exact belowD (Below.refl _ _) _ | exact (belowD (Below.refl _ _) _).drew)) (fun hHeld => ?_)
  refine' wpAnyH_take (i := 0) (v := _) rfl (by kernel_rfl) (by kernel_rfl) (by kernel_rfl) (fun _ _ _ h => h) (Or.inl ⟨by rfl, ?hy1⟩) (by assumption) ?rest1
  case hy1 => (intro w hSw; (try dsimp only at hSw); first | (go_simp; done) | (go_simp; with_reducible rfl))
  simp only [List.getElem_toArray, List.getElem_cons_zero, Act.put, List.setIfInBounds_toArray, List.set_cons_zero, List.set_cons_succ]
  refine' wpAnyH_take (i := 1) (v := _) rfl (by kernel_rfl) (by kernel_rfl) (by kernel_rfl) (fun _ _ _ h => h) (Or.inl ⟨by rfl, ?hy2⟩) (by assumption) ?rest2
  case hy2 => (intro w hSw; (try dsimp only at hSw); first | (go_simp; done) | (go_simp; with_reducible rfl))
  simp only [List.getElem_toArray, List.getElem_cons_succ, List.getElem_cons_zero, Act.put, List.setIfInBounds_toArray, List.set_cons_zero, List.set_cons_succ]
  refine' wpAnyH_take (i := 2) (v := _) rfl (by kernel_rfl) (by kernel_rfl) (by kernel_rfl) (fun _ _ _ h => h) (Or.inl ⟨by rfl, ?hy3⟩) (by assumption) ?rest3
  case hy3 => (intro w hSw; (try dsimp only at hSw); first | (go_simp; done) | (go_simp; with_reducible rfl))
  simp only [List.getElem_toArray, List.getElem_cons_succ, List.getElem_cons_zero, Act.put, List.setIfInBounds_toArray, List.set_cons_zero, List.set_cons_succ]
  refine' wpAnyH_take (i := 3) (v := _) rfl (by kernel_rfl) (by kernel_rfl) (by kernel_rfl) (fun _ _ _ h => h) (Or.inl ⟨by rfl, ?hy4⟩) (by assumption) ?rest4
  case hy4 => (intro w hSw; (try dsimp only at hSw); first | (go_simp; done) | (go_simp; with_reducible rfl))
  simp only [List.getElem_toArray, List.getElem_cons_succ, List.getElem_cons_zero, Act.put, List.setIfInBounds_toArray, List.set_cons_zero, List.set_cons_succ]
  refine' wpAnyH_take (i := 4) (v := _) rfl (by kernel_rfl) (by kernel_rfl) (by kernel_rfl) (fun _ _ _ h => h) (Or.inl ⟨by rfl, ?hy5⟩) (by assumption) ?rest5
  case hy5 => (intro w hSw; (try dsimp only at hSw); first | (go_simp; done) | (go_simp; with_reducible rfl))
  simp only [List.getElem_toArray, List.getElem_cons_succ, List.getElem_cons_zero, Act.put, List.setIfInBounds_toArray, List.set_cons_zero, List.set_cons_succ]
  refine' wpAnyH_take (i := 5) (v := _) rfl (by kernel_rfl) (by kernel_rfl) (by kernel_rfl) (fun _ _ _ h => h) (Or.inl ⟨by rfl, ?hy6⟩) (by assumption) ?rest6
  case hy6 => (intro w hSw; (try dsimp only at hSw); first | (go_simp; done) | (go_simp; with_reducible rfl))
  simp only [List.getElem_toArray, List.getElem_cons_succ, List.getElem_cons_zero, Act.put, List.setIfInBounds_toArray, List.set_cons_zero, List.set_cons_succ]
  refine' wpAnyH_take (i := 6) (v := _) rfl (by kernel_rfl) (by kernel_rfl) (by kernel_rfl) (fun _ _ _ h => h) (Or.inl ⟨by rfl, ?hy7⟩) (by assumption) ?rest7
  case hy7 => (intro w hSw; (try dsimp only at hSw); first | (go_simp; done) | (go_simp; with_reducible rfl))
  simp only [List.getElem_toArray, List.getElem_cons_succ, List.getElem_cons_zero, Act.put, List.setIfInBounds_toArray, List.set_cons_zero, List.set_cons_succ]
  refine' wpAnyH_take (i := 7) (v := _) rfl (by kernel_rfl) (by kernel_rfl) (by kernel_rfl) (fun _ _ _ h => h) (Or.inl ⟨by rfl, ?hy8⟩) (by assumption) ?rest8
  case hy8 => (intro w hSw; (try dsimp only at hSw); first | (go_simp; done) | (go_simp; with_reducible rfl))
  simp only [List.getElem_toArray, List.getElem_cons_succ, List.getElem_cons_zero, Act.put, List.setIfInBounds_toArray, List.set_cons_zero, List.set_cons_succ]
  refine' wpAnyH_take (i := 8) (v := _) rfl (by kernel_rfl) (by kernel_rfl) (by kernel_rfl) (fun _ _ _ h => h) (Or.inl ⟨by rfl, ?hy9⟩) (by assumption) ?rest9
  case hy9 => (intro w hSw; (try dsimp only at hSw); first | (go_simp; done) | (go_simp; with_reducible rfl))
  simp only [List.getElem_toArray, List.getElem_cons_succ, List.getElem_cons_zero, Act.put, List.setIfInBounds_toArray, List.set_cons_zero, List.set_cons_succ]
  refine' wpAnyH_take (i := 9) (v := _) rfl (by kernel_rfl) (by kernel_rfl) (by kernel_rfl) (fun _ _ _ h => h) (Or.inl ⟨by rfl, ?hy10⟩) (by assumption) ?rest10
  case hy10 => (intro w hSw; (try dsimp only at hSw); first | (go_simp; done) | (go_simp; with_reducible rfl))
  simp only [List.getElem_toArray, List.getElem_cons_succ, List.getElem_cons_zero, Act.put, List.setIfInBounds_toArray, List.set_cons_zero, List.set_cons_succ]
  refine' wpAnyH_take (i := 10) (v := _) rfl (by kernel_rfl) (by kernel_rfl) (by kernel_rfl) (fun _ _ _ h => h) (Or.inl ⟨by rfl, ?hy11⟩) (by assumption) ?rest11
  case hy11 => (intro w hSw; (try dsimp only at hSw); first | (go_simp; done) | (go_simp; with_reducible rfl))
  simp only [List.getElem_toArray, List.getElem_cons_succ, List.getElem_cons_zero, Act.put, List.setIfInBounds_toArray, List.set_cons_zero, List.set_cons_succ]
  refine' wpAnyH_take (i := 11) (v := _) rfl (by kernel_rfl) (by kernel_rfl) (by kernel_rfl) (fun _ _ _ h => h) (Or.inl ⟨by rfl, ?hy12⟩) (by assumption) ?rest12
  case hy12 => (intro w hSw; (try dsimp only at hSw); first | (go_simp; done) | (go_simp; with_reducible rfl))
  simp only [List.getElem_toArray, List.getElem_cons_succ, List.getElem_cons_zero, Act.put, List.setIfInBounds_toArray, List.set_cons_zero, List.set_cons_succ]
  refine' wpAnyH_take (i := 12) (v := _) rfl (by kernel_rfl) (by kernel_rfl) (by kernel_rfl) (fun _ _ _ h => h) (Or.inl ⟨by rfl, ?hy13⟩) (by assumption) ?rest13
  case hy13 => (intro w hSw; (try dsimp only at hSw); first | (go_simp; done) | (go_simp; with_reducible rfl))
  simp only [List.getElem_toArray, List.getElem_cons_succ, List.getElem_cons_zero, Act.put, List.setIfInBounds_toArray, List.set_cons_zero, List.set_cons_succ]
  refine' wpAnyH_take (i := 14) (v := _) rfl (by kernel_rfl) (by kernel_rfl) (by kernel_rfl) (fun _ _ _ h => h) (Or.inl ⟨by rfl, ?hy14⟩) (by assumption) ?rest14
  case hy14 => (intro w hSw; (try dsimp only at hSw); first | (go_simp; done) | (go_simp; with_reducible rfl))
  simp only [List.getElem_toArray, List.getElem_cons_succ, List.getElem_cons_zero, Act.put, List.setIfInBounds_toArray, List.set_cons_zero, List.set_cons_succ]
  refine' wpAnyH_take (i := 15) (v := _) rfl (by kernel_rfl) (by kernel_rfl) (by kernel_rfl) (fun _ _ _ h => h) (Or.inl ⟨by rfl, ?hy15⟩) (by assumption) ?rest15
  case hy15 => (intro w hSw; (try dsimp only at hSw); first | (go_simp; done) | (go_simp; with_reducible rfl))
  simp only [List.getElem_toArray, List.getElem_cons_succ, List.getElem_cons_zero, Act.put, List.setIfInBounds_toArray, List.set_cons_zero, List.set_cons_succ]
  refine' wpAnyH_take (i := 16) (v := _) rfl (by kernel_rfl) (by kernel_rfl) (by kernel_rfl) (fun _ _ _ h => h) (Or.inl ⟨by rfl, ?hy16⟩) (by assumption) ?rest16
  case hy16 => (intro w hSw; (try dsimp only at hSw); first | (go_simp; done) | (go_simp; with_reducible rfl))
  simp only [List.getElem_toArray, List.getElem_cons_succ, List.getElem_cons_zero, Act.put, List.setIfInBounds_toArray, List.set_cons_zero, List.set_cons_succ]
  refine' wpAnyH_take (i := 17) (v := _) rfl (by kernel_rfl) (by kernel_rfl) (by kernel_rfl) (fun _ _ _ h => h) (Or.inl ⟨by rfl, ?hy17⟩) (by assumption) ?rest17
  case hy17 => (intro w hSw; (try dsimp only at hSw); first | (go_simp; done) | (go_simp; with_reducible rfl))
  simp only [List.getElem_toArray, List.getElem_cons_succ, List.getElem_cons_zero, Act.put, List.setIfInBounds_toArray, List.set_cons_zero, List.set_cons_succ]
  refine' wpAnyH_take (i := 18) (v := _) rfl (by kernel_rfl) (by kernel_rfl) (by kernel_rfl) (fun _ _ _ h => h) (Or.inl ⟨by rfl, ?hy18⟩) (by assumption) ?rest18
  case hy18 => (intro w hSw; (try dsimp only at hSw); first | (go_simp; done) | (go_simp; with_reducible rfl))
  simp only [List.getElem_toArray, List.getElem_cons_succ, List.getElem_cons_zero, Act.put, List.setIfInBounds_toArray, List.set_cons_zero, List.set_cons_succ]
  refine' wpAnyH_take (i := 19) (v := _) rfl (by kernel_rfl) (by kernel_rfl) (by kernel_rfl) (fun _ _ _ h => h) (Or.inl ⟨by rfl, ?hy19⟩) (by assumption) ?rest19
  case hy19 => (intro w hSw; (try dsimp only at hSw); first | (go_simp; done) | (go_simp; with_reducible rfl))
  simp only [List.getElem_toArray, List.getElem_cons_succ, List.getElem_cons_zero, Act.put, List.setIfInBounds_toArray, List.set_cons_zero, List.set_cons_succ]
  refine' wpAnyH_take (i := 20) (v := _) rfl (by kernel_rfl) (by kernel_rfl) (by kernel_rfl) (fun _ _ _ h => h) (Or.inl ⟨by rfl, ?hy20⟩) (by assumption) ?rest20
  case hy20 => (intro w hSw; (try dsimp only at hSw); first | (go_simp; done) | (go_simp; with_reducible rfl))
  simp only [List.getElem_toArray, List.getElem_cons_succ, List.getElem_cons_zero, Act.put, List.setIfInBounds_toArray, List.set_cons_zero, List.set_cons_succ]
  have e6a := e6
  refine wpAnyH_ready (rs := [13, 21]) (by kernel_rfl) (by simp) ?_
  refine AllReadyH.cons rfl (fun K' hK => ?_) (AllReadyH.cons rfl (fun K' hK => ?_) AllReadyH.nil)
  · (try simp only [List.getElem_toArray, List.getElem_cons_succ, List.getElem_cons_zero])
    go_simp
    refine hK.out _ _ hHeld (fun hHeld => ?_)
    clear hK K'
    (try simp only [Act.put, List.setIfInBounds_toArray, List.set_cons_zero, List.set_cons_succ])
    refine wpAnyH_ready (rs := [21]) (by kernel_rfl) (by simp) ?_
    refine AllReadyH.cons rfl (fun K' hK => ?_) AllReadyH.nil
    (try simp only [List.getElem_toArray, List.getElem_cons_succ, List.getElem_cons_zero])
    go_simp
    refine hK.out _ _ (hKeep.out _ (by repeat (first | exact (belowD (Below.refl _ _) _).alloc (Nat.le_refl _) _ | exact (belowD (Below.refl _ _) _).drew.alloc (Nat.le_refl _) _ | exact belowD (Below.refl _ _) _ | exact Below.refl _ _ | refine Below.drew ?_ | refine Below.alloc ?_ (Nat.le_refl _) _))) (fun hHeld => ?_)
    clear hK K'
    (try simp only [Act.put, List.setIfInBounds_toArray, List.set_cons_zero, List.set_cons_succ])
    refine wpAnyH_ready (rs := [22]) (by kernel_rfl) (by simp) ?_
    refine AllReadyH.cons rfl (fun K' hK => ?_) AllReadyH.nil
    (refine step_pushW (by rfl) _ _ (by rfl) (by rfl) (HRV.out _ (by repeat (first | exact (belowD (Below.refl _ _) _).alloc (Nat.le_refl _) _ | exact (belowD (Below.refl _ _) _).drew.alloc (Nat.le_refl _) _ | exact belowD (Below.refl _ _) _ | exact Below.refl _ _ | refine Below.drew ?_ | refine Below.alloc ?_ (Nat.le_refl _) _))) (by omega) ⟨W1.heap.size, 0, none⟩ ra 1 (by rfl) (cell_of_row _ _ 0 _ _ _ (heap_alloc_new _ _)) ?_; intro w' role' A' nn c' hr1 hr2 hr3 hr4 hr5 hr6; obtain ⟨q1, q2, q3, q4, HH⟩ := HPost.out _ (by repeat (first | exact (belowD (Below.refl _ _) _).alloc (Nat.le_refl _) _ | exact (belowD (Below.refl _ _) _).drew.alloc (Nat.le_refl _) _ | exact belowD (Below.refl _ _) _ | exact Below.refl _ _ | refine Below.drew ?_ | refine Below.alloc ?_ (Nat.le_refl _) _)) w' role' A' nn c' hr1 hr2 hr3 hr4 hr5 hr6; have hS1 := hPS.out w' role' hr2 hr5; have hS2 := hPS2.out w' (.slice A' nn c') hS1)
    refine hK.out _ _ (hS1) (fun hHeld => ?_)
    clear hK K'
    refine wpAnyH_ready (rs := [23]) (by kernel_rfl) (by simp) ?_
    refine AllReadyH.cons rfl (fun K' hK => ?_) AllReadyH.nil
    (try simp only [List.getElem_toArray, List.getElem_cons_succ, List.getElem_cons_zero])
    go_simp
    refine hK.out _ _ (hS1) (fun hHeld => ?_)
    clear hK K'
    (try simp only [Act.put, List.setIfInBounds_toArray, List.set_cons_zero, List.set_cons_succ])
    refine wpAnyH_ready (rs := [24]) (by kernel_rfl) (by simp) ?_
    refine AllReadyH.cons rfl (fun K' hK => ?_) AllReadyH.nil
    (try simp only [List.getElem_toArray, List.getElem_cons_succ, List.getElem_cons_zero])
    go_simp
    refine hK.out _ _ (hS2) (fun hHeld => ?_)
    clear hK K'
    (try simp only [Act.put, List.setIfInBounds_toArray, List.set_cons_zero, List.set_cons_succ])
    refine wpAnyH_end (by kernel_rfl) ?_
    go_wp2_with fail
    go_end0
    exact ⟨rfl, HH.out⟩
  · (try simp only [List.getElem_toArray, List.getElem_cons_succ, List.getElem_cons_zero])
    go_simp
    refine hK.out _ _ (hKeep.out _ (by repeat (first | exact (belowD (Below.refl _ _) _).alloc (Nat.le_refl _) _ | exact (belowD (Below.refl _ _) _).drew.alloc (Nat.le_refl _) _ | exact belowD (Below.refl _ _) _ | exact Below.refl _ _ | refine Below.drew ?_ | refine Below.alloc ?_ (Nat.le_refl _) _))) (fun hHeld => ?_)
    clear hK K'
    (try simp only [Act.put, List.setIfInBounds_toArray, List.set_cons_zero, List.set_cons_succ])
    refine wpAnyH_ready (rs := [13]) (by kernel_rfl) (by simp) ?_
    refine AllReadyH.cons rfl (fun K' hK => ?_) AllReadyH.nil
    (try simp only [List.getElem_toArray, List.getElem_cons_succ, List.getElem_cons_zero])
    go_simp
    refine hK.out _ _ (hHeld) (fun hHeld => ?_)
    clear hK K'
    (try simp only [Act.put, List.setIfInBounds_toArray, List.set_cons_zero, List.set_cons_succ])
    refine wpAnyH_ready (rs := [22]) (by kernel_rfl) (by simp) ?_
    refine AllReadyH.cons rfl (fun K' hK => ?_) AllReadyH.nil
    (refine step_pushW (by rfl) _ _ (by rfl) (by rfl) (HRV.out _ (by repeat (first | exact (belowD (Below.refl _ _) _).alloc (Nat.le_refl _) _ | exact (belowD (Below.refl _ _) _).drew.alloc (Nat.le_refl _) _ | exact belowD (Below.refl _ _) _ | exact Below.refl _ _ | refine Below.drew ?_ | refine Below.alloc ?_ (Nat.le_refl _) _))) (by omega) ⟨W1.heap.size, 0, none⟩ ra 1 (by rfl) (cell_of_row _ _ 0 _ _ _ (heap_alloc_new _ _)) ?_; intro w' role' A' nn c' hr1 hr2 hr3 hr4 hr5 hr6; obtain ⟨q1, q2, q3, q4, HH⟩ := HPost.out _ (by repeat (first | exact (belowD (Below.refl _ _) _).alloc (Nat.le_refl _) _ | exact (belowD (Below.refl _ _) _).drew.alloc (Nat.le_refl _) _ | exact belowD (Below.refl _ _) _ | exact Below.refl _ _ | refine Below.drew ?_ | refine Below.alloc ?_ (Nat.le_refl _) _)) w' role' A' nn c' hr1 hr2 hr3 hr4 hr5 hr6; have hS1 := hPS.out w' role' hr2 hr5; have hS2 := hPS2.out w' (.slice A' nn c') hS1)
    refine hK.out _ _ (hS1) (fun hHeld => ?_)
    clear hK K'
    refine wpAnyH_ready (rs := [23]) (by kernel_rfl) (by simp) ?_
    refine AllReadyH.cons rfl (fun K' hK => ?_) AllReadyH.nil
    (try simp only [List.getElem_toArray, List.getElem_cons_succ, List.getElem_cons_zero])
    go_simp
    refine hK.out _ _ (hS1) (fun hHeld => ?_)
    clear hK K'
    (try simp only [Act.put, List.setIfInBounds_toArray, List.set_cons_zero, List.set_cons_succ])
    refine wpAnyH_ready (rs := [24]) (by kernel_rfl) (by simp) ?_
    refine AllReadyH.cons rfl (fun K' hK => ?_) AllReadyH.nil
    (try simp only [List.getElem_toArray, List.getElem_cons_succ, List.getElem_cons_zero])
    go_simp
    refine hK.out _ _ (hS2) (fun hHeld => ?_)
    clear hK K'
    (try simp only [Act.put, List.setIfInBounds_toArray, List.set_cons_zero, List.set_cons_succ])
    refine wpAnyH_end (by kernel_rfl) ?_
    go_wp2_with fail
    go_end0
    exact ⟨rfl, HH.out⟩
end
end Go.Proofs.YtgkanbaboeppfaaDoor
