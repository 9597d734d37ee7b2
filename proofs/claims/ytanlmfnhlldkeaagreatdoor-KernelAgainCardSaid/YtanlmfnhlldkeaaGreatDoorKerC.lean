/-
  Contract: a kernel's step.
  Contract: a kernel's step that sends.
  Contract: a kernel's step, whatever the op.
  Contracts: slices.Clone at ports, ops and ints, into new blocks.
  Contracts: a kernel's Run, Tick and Shown.
  The text of a kernel; what its numbers are.
-/
import Derived.Test.YtanlmfnhlldkeaaGreatDoorKerB
import Derived.Test.YtanlmfnhlldkeaaGreatDoorLoopA
import Derived.Test.YtanlmfnhlldkeaaGreatDoorRowsA
import Derived.Deep.QuietTactic
import Derived.Deep.RegionLaw
import Derived.Deep.RegionHeld3
import Derived.BigRegion
import Derived.BigQuiet
import Derived.Deep.CutRange
import Derived.Test.YtanlmfnhlldkeaaGreatDoorWords
import Derived.Test.YtanlmfnhlldkeaaGreatDoorKerA
namespace Go.Proofs.YtanlmfnhlldkeaaGreatDoor
open Go.RowKit
set_option maxRecDepth 100000
set_option linter.unusedVariables false

section
variable {role : Nat → Nat} {lo hi : Nat} {w : World} {p : Nat} {K : KF} {L : List (List Int)} {P : List Int} {q : Nat} {T : List Int} {s : KState} {t : Nat}
theorem place_place (s : KState) (i : Nat) (x y : KPlace) : (s.place i x).place i y = s.place i y := by unfold KState.place; rw [upd_upd]
theorem place_at (s : KState) (i : Nat) (x : KPlace) : (s.place i x).parts i = x := upd_same _ _ _
theorem KernAt.words (h : KernAt role lo hi w p K L P q T s t) : w.cell? ⟨p, 0, none⟩ = some (.slice K.Ap L.length K.cp) ∧ w.cell? ⟨p, 1, none⟩ = some (.slice K.Ao q K.co) ∧ w.cell? ⟨p, 2, none⟩ = some (.slice K.At T.length K.ct) ∧
    w.cell? ⟨p, 3, none⟩ = some (.slice (some ⟨K.gp, 0, none⟩) L.length L.length) ∧ w.cell? ⟨p, 4, none⟩ = some (.slice (some ⟨K.gh, 0, none⟩) q q) ∧ w.cell? ⟨p, 5, none⟩ = some (.int .i64 t) :=
  ⟨h.box.cell (k := 0) rfl, h.box.cell (k := 1) rfl, h.box.cell (k := 2) rfl, h.box.cell (k := 3) rfl, h.box.cell (k := 4) rfl, h.box.cell (k := 5) rfl⟩
def StepPost (role : Nat → Nat) (lo hi : Nat) (w : World) (p : Nat) (K : KF) (L : List (List Int)) (P : List Int) (q : Nat) (T : List Int) (s' : KState) (t : Nat) (w' : World) : Prop := ∃ role', KernAt role' lo hi w' p K L P q T s' t ∧ RoleTo role w role' w'

theorem RowW.shape {code : Nat} {v : Value} {l : List Int} (h : RowW role code w v l) : ∃ A n c, v = .slice A n c := by
  obtain ⟨A, c, e, _⟩ := h.form
  exact ⟨A, _, c, e⟩
/-- 'append(row, x)' in a list. -/
theorem wpList_pushW {V : World} {ops : Array Oper} {rest : List Oper} {o : Oper} {a : Act} {Q : Exit → Act → World → Prop} (hgd : o.guard = none) (sl x : Operand)
    (ho : o.op = .call { callee := .builtin .append, args := #[sl, x], argTypes := #[24, 24] })
    {code : Nat} {v : Value} {l : List Int} (hs : a.eval sl = v) (h : RowW role code V v l) (hl : l.length < 2 ^ 40) (ad : Addr) (y : Int) (c : Nat) (hx : a.eval x = .slice (some ad) 1 c) (hc : V.cell? ad = some (.int .i64 y))
    (hK : ∀ v' w' role', RowW role' code w' v' (l ++ [y]) → (∀ b, b < V.heap.size → role' b = role b) → V.heap.size ≤ w'.heap.size → (w'.os = V.os ∧ w'.tape = V.tape ∧ w'.output = V.output) → (∀ b, b < V.heap.size → role b ≠ code → w'.heap[b]? = V.heap[b]?) → ((∀ b, V.heap.size ≤ b → role b = 0) → ∀ b, w'.heap.size ≤ b → role' b = 0) → wpList Tryz.prog ops Q rest (a.put o.dst v') w') : wpList Tryz.prog ops Q (o :: rest) a V := by
  refine wpList_plain hgd fun _ hK' => ?_
  obtain ⟨v', w', role', hrun, h1, h2, h3, h4, h5, h6, h7, h8⟩ := h.push hl o.type ad y c hc
  unfold Oper.wp execOp
  simp only [ho, resolve, invoke, builtin, Sem.run_bind, Sem.run_pure, Result.andThen_ok, List.map_toArray, List.map_cons, List.map_nil, hs, hx, hrun]
  exact hK' _ _ (hK v' w' role' h1 h2 h3 ⟨h4, h5, h6⟩ h7 h8)
theorem wpAnyH_end {P : Program} {md : Region.Mode} {ops : Array Oper} {Q : Exit → Act → World → Prop} {S : World → Prop} {fuel : Nat} {listed : Array Bool} {a : Act} {V : World} (hr : Region.ready md ops listed = []) (h : Q .normal a V) : wpAnyH P md ops Q S fuel listed a V := by
  cases fuel with
  | zero => exact ⟨hr, h⟩
  | succ n => exact ⟨fun _ => h, fun i hi => by rw [hr] at hi; cases hi⟩
/-- The same, at a step of a region that draws. -/
theorem step_pushW {V : World} {ops : Array Oper} {o : Oper} {a : Act} {k : Act → World → Prop} {Q : Exit → Act → World → Prop} {E : Prop} (hgd : o.guard = none) (sl x : Operand)
    (ho : o.op = .call { callee := .builtin .append, args := #[sl, x], argTypes := #[24, 24] })
    {code : Nat} {v : Value} {l : List Int} (hs : a.eval sl = v) (h : RowW role code V v l) (hl : l.length < 2 ^ 40) (ad : Addr) (y : Int) (c : Nat) (hx : a.eval x = .slice (some ad) 1 c) (hc : V.cell? ad = some (.int .i64 y))
    (hK : ∀ w' role' A n c, RowW role' code w' (.slice A n c) (l ++ [y]) → (∀ b, b < V.heap.size → role' b = role b) → V.heap.size ≤ w'.heap.size → (w'.os = V.os ∧ w'.tape = V.tape ∧ w'.output = V.output) → (∀ b, b < V.heap.size → role b ≠ code → w'.heap[b]? = V.heap[b]?) → ((∀ b, V.heap.size ≤ b → role b = 0) → ∀ b, w'.heap.size ≤ b → role' b = 0) → k (a.put o.dst (.slice A n c)) w') : if Region.wanted o (yielded ops a.tmps) = true then Oper.wp Tryz.prog o a V k Q else E := by
  have hw : Region.wanted o (yielded ops a.tmps) = true := by simp [Region.wanted, hgd]
  rw [if_pos hw]
  obtain ⟨v', w', role', hrun, h1, h2, h3, h4, h5, h6, h7, h8⟩ := h.push hl o.type ad y c hc
  obtain ⟨A', n', c', rfl⟩ := h1.shape
  unfold Oper.wp
  simp only [execOp, ho, resolve, invoke, builtin, Sem.run_bind, Sem.run_pure, Result.andThen_ok, List.map_toArray, List.map_cons, List.map_nil, hs, hx, hrun]
  exact hK _ _ _ _ _ h1 h2 h3 ⟨h4, h5, h6⟩ h7 h8
theorem run_cut1 (V : World) (g og n c : Nat) (h1 : 1 ≤ n) (h2 : n ≤ c) : (Instr.sliceAt 24 (.slice (some ⟨g, og, none⟩) n c) (some (.int .i64 1)) none none).run Tryz.prog V = .ok (.slice (some ⟨g, if c = 1 then og else og + 1, none⟩) (n - 1) (c - 1)) V := by
  obtain ⟨i, z, hi, hz, hsize, -⟩ := eInts.info
  have e := Tryz.underlying24
  have n1 : ¬ ((n : Int) < 1) := by omega
  by_cases hc1 : c = 1
  · subst hc1
    simp [Instr.sliceAt, Instr.slice, Instr.sliceBounds, run_underlying e, sizeOf, typeInfo, hi, hsize, go_sem, n1]
  · simp [Instr.sliceAt, Instr.slice, Instr.sliceBounds, run_underlying e, sizeOf, typeInfo, hi, hsize, go_sem, n1, hc1]
theorem RoleTo.push {code : Nat} {role' : Nat → Nat} {V w' : World} (hc : code ≠ 0) (h2 : ∀ b, b < V.heap.size → role' b = role b) (h3 : V.heap.size ≤ w'.heap.size) (h4 : w'.os = V.os ∧ w'.tape = V.tape ∧ w'.output = V.output) (h7 : ∀ b, b < V.heap.size → role b ≠ code → w'.heap[b]? = V.heap[b]?) : RoleTo role V role' w' :=
  ⟨h4.1, h4.2.1, h4.2.2, h3, h2, fun b hb h0 => h7 b hb (by omega)⟩

set_option maxHeartbeats 4000000 in
theorem step_none (h : KernAt role lo hi w p K L P q T s t) {i : Nat} (hil : i < L.length) (hn : (s.parts i).pc ≥ (L.getD i []).length / 3) :
    Calls Tryz.prog 42 #[.pointer (some ⟨p, 0, none⟩), .int .i64 i] w fun e w' => e = .returned (.tuple #[]) ∧ StepPost role lo hi w p K L P q T s t w' := by
  obtain ⟨b, off, Ai, ni, ci, hA, c0, hli, hni, hIn⟩ := h.progs.get hil
  obtain ⟨a1, a2, ⟨v, a3, a4⟩, fz⟩ := h.part hil
  obtain ⟨x0, -, -, x3, -, -⟩ := h.words
  have hni2 : ni ≤ 9223372036854775807 := by unfold maxLen at hni; omega
  have hn' : ni ≤ (s.parts i).pc := by rw [hli, Nat.mul_div_cancel _ (by decide)] at hn; omega
  have H := Lib.hid (show StepPost role lo hi w p K L P q T s t w from ⟨role, h, RoleTo.refl _ _⟩)
  rw [hA] at x0
  generalize (s.parts i).pc = pc at *
  clear h hIn a2 a3 a4 fz hA hli hn
  go_enter Tryz.func42, Tryz.ntmps42
  go_wp2_with fail
  refine bodyPost_ret (results_none rfl _ _ _) rfl ?_
  exact ⟨rfl, H.out⟩

set_option maxHeartbeats 8000000 in
theorem step_put (h : KernAt role lo hi w p K L P q T s t) {i : Nat} (hil : i < L.length) {pc a b : Nat} (hpc : (s.parts i).pc = pc) (hn : pc < (L.getD i []).length / 3) (hp12 : pc < 12)
    (hk : nI (L.getD i []) (3 * pc) = 0) (ha : nI (L.getD i []) (3 * pc + 1) = a) (hb : nI (L.getD i []) (3 * pc + 2) = b) (ha4 : a < 4) (hb6 : b ≤ 999999) :
    Calls Tryz.prog 42 #[.pointer (some ⟨p, 0, none⟩), .int .i64 i] w fun e w' => e = .returned (.tuple #[]) ∧ StepPost role lo hi w p K L P q T (s.place i ⟨pc + 1, upd (s.parts i).regs a b, (s.parts i).shown⟩) t w' := by
  obtain ⟨b1, off, Ai, ni, ci, hA, c0, hli, hni, hIn⟩ := h.progs.get hil
  rw [hli, Nat.mul_div_cancel _ (by decide)] at hn
  obtain ⟨b3, off3, rfl, o0, o1, o2⟩ := op_cells hIn hli hn
  have hni2 : ni ≤ 9223372036854775807 := by unfold maxLen at hni; omega
  rw [hk] at o0
  rw [ha] at o1
  rw [hb] at o2
  obtain ⟨x0, -, -, x3, x4, -⟩ := h.words
  rw [hA] at x0
  obtain ⟨a1, -, -, -⟩ := h.part hil
  rw [hpc] at a1
  have hblk := block_lt o0
  have hbl := (Below.refl w.heap.size w).alloc (Nat.le_refl _) (.cells #[.int .i64 0, .int .i64 a, .int .i64 b] 58)
  have hx := BoxN.new w 58 #[.int .i64 0, .int .i64 a, .int .i64 b]
  have h1 := h.below hbl
  have hpl := h.box.lt
  have H1 := Lib.hid h1
  have HT := Lib.hid (RoleTo.below role hbl)
  have hd : decide ((pc : Int) ≥ ni) = false := by simp; omega
  have y1 := hx.cell (k := 1) rfl
  have y2 := hx.cell (k := 2) rfl
  obtain ⟨e1, e2, ⟨vs, e5, r5⟩, fz⟩ := h1.part hil
  rw [hpc] at e1
  obtain ⟨-, -, -, z3, z4, -⟩ := h1.words
  have f0 := fz (i * 6)
  have hgp := h.rgp
  have hgh := h.rgh
  have e2a := e2 a ha4
  have f1 := fz (i * 6 + 1 + a)
  have la : (a : Int) < 4 := by omega
  clear h hIn hA hli fz e2 h1 hx 
  go_enter Tryz.func42, Tryz.ntmps42
  go_wp2_with fail
  generalize w.alloc (.cells #[.int .i64 0, .int .i64 a, .int .i64 b] 58) = W1 at *
  refine wp_still_tailD 8 (by kernel_rfl) (by kernel_rfl) ?_
  simp only [List.take_succ_cons, List.take_zero, List.drop_succ_cons, List.drop_zero]
  repeat still_step
  refine wpStill_nil ?_
  have k1 := (H1.out.below (belowD (Below.refl _ _) 1)).setReg hil ha4 (b : Int)
  obtain ⟨g1, -, -, g2⟩ := k1.part hil
  rw [place_at, hpc] at g1
  have g2 := g2 (i * 6)
  have K1 := Lib.hid k1
  clear k1
  go_wp2_with fail
  go_end0
  have k2 := K1.out.setPc hil (pc + 1)
  rw [place_place, place_at] at k2
  have hT := ((RoleTo.trans HT.out (RoleTo.below role (belowD (Below.refl _ _) 1))).setCell (a := ⟨K.gp, i * 6 + 1 + a, none⟩) (by show role K.gp ≠ 0; omega) (.int .i64 (b : Nat))).setCell (a := ⟨K.gp, i * 6, none⟩) (by show role K.gp ≠ 0; omega) (.int .i64 (pc + 1 : Nat))
  exact ⟨rfl, role, k2, hT⟩

set_option maxHeartbeats 8000000 in
theorem step_plus (h : KernAt role lo hi w p K L P q T s t) {i : Nat} (hil : i < L.length) {pc a b : Nat} (hpc : (s.parts i).pc = pc) (hn : pc < (L.getD i []).length / 3) (hp12 : pc < 12)
    (hk : nI (L.getD i []) (3 * pc) = 1) (ha : nI (L.getD i []) (3 * pc + 1) = a) (hb : nI (L.getD i []) (3 * pc + 2) = b) (ha4 : a < 4) (hb4 : b < 4) {ra rb : Nat} (hra : (s.parts i).regs a = ra) (hrb : (s.parts i).regs b = rb) (la6 : ra ≤ 999999) (lb6 : rb ≤ 999999) :
    Calls Tryz.prog 42 #[.pointer (some ⟨p, 0, none⟩), .int .i64 i] w fun e w' => e = .returned (.tuple #[]) ∧ StepPost role lo hi w p K L P q T (s.place i ⟨pc + 1, upd (s.parts i).regs a (((ra + rb) % 1000000 : Nat) : Int), (s.parts i).shown⟩) t w' := by
  obtain ⟨b1, off, Ai, ni, ci, hA, c0, hli, hni, hIn⟩ := h.progs.get hil
  rw [hli, Nat.mul_div_cancel _ (by decide)] at hn
  obtain ⟨b3, off3, rfl, o0, o1, o2⟩ := op_cells hIn hli hn
  have hni2 : ni ≤ 9223372036854775807 := by unfold maxLen at hni; omega
  rw [hk] at o0
  rw [ha] at o1
  rw [hb] at o2
  obtain ⟨x0, -, -, x3, x4, -⟩ := h.words
  rw [hA] at x0
  obtain ⟨a1, -, -, -⟩ := h.part hil
  rw [hpc] at a1
  have hblk := block_lt o0
  have hbl := (Below.refl w.heap.size w).alloc (Nat.le_refl _) (.cells #[.int .i64 1, .int .i64 a, .int .i64 b] 58)
  have hx := BoxN.new w 58 #[.int .i64 1, .int .i64 a, .int .i64 b]
  have h1 := h.below hbl
  have hpl := h.box.lt
  have H1 := Lib.hid h1
  have HT := Lib.hid (RoleTo.below role hbl)
  have hd : decide ((pc : Int) ≥ ni) = false := by simp; omega
  have y1 := hx.cell (k := 1) rfl
  have y2 := hx.cell (k := 2) rfl
  obtain ⟨e1, e2, ⟨vs, e5, r5⟩, fz⟩ := h1.part hil
  rw [hpc] at e1
  obtain ⟨-, -, -, z3, z4, -⟩ := h1.words
  have f0 := fz (i * 6)
  have hgp := h.rgp
  have hgh := h.rgh
  have e2a := e2 a ha4
  have e2b := e2 b hb4
  rw [hra] at e2a
  rw [hrb] at e2b
  have f1 := fz (i * 6 + 1 + a)
  have la : (a : Int) < 4 := by omega
  have lb : (b : Int) < 4 := by omega
  clear h hIn hA hli fz e2 h1 hx 
  go_enter Tryz.func42, Tryz.ntmps42
  go_wp2_with fail
  generalize w.alloc (.cells #[.int .i64 1, .int .i64 a, .int .i64 b] 58) = W1 at *
  refine wp_still_tailD 22 (by kernel_rfl) (by kernel_rfl) ?_
  simp only [List.take_succ_cons, List.take_zero, List.drop_succ_cons, List.drop_zero]
  repeat still_step
  refine wpStill_nil ?_
  have k1 := (H1.out.below (belowD (Below.refl _ _) 1)).setReg hil ha4 (((ra + rb) % 1000000 : Nat) : Int)
  obtain ⟨g1, -, -, g2⟩ := k1.part hil
  rw [place_at, hpc] at g1
  have g2 := g2 (i * 6)
  have K1 := Lib.hid k1
  clear k1
  go_wp2_with fail
  go_end0
  have k2 := K1.out.setPc hil (pc + 1)
  rw [place_place, place_at] at k2
  have hT := ((RoleTo.trans HT.out (RoleTo.below role (belowD (Below.refl _ _) 1))).setCell (a := ⟨K.gp, i * 6 + 1 + a, none⟩) (by show role K.gp ≠ 0; omega) (.int .i64 ((ra + rb) % 1000000 : Nat))).setCell (a := ⟨K.gp, i * 6, none⟩) (by show role K.gp ≠ 0; omega) (.int .i64 (pc + 1 : Nat))
  exact ⟨rfl, role, k2, hT⟩

set_option maxHeartbeats 8000000 in
theorem step_full (h : KernAt role lo hi w p K L P q T s t) {i : Nat} (hil : i < L.length) {pc a b : Nat} (hpc : (s.parts i).pc = pc) (hn : pc < (L.getD i []).length / 3) (hp12 : pc < 12)
    (hk : nI (L.getD i []) (3 * pc) = 2) (ha : nI (L.getD i []) (3 * pc + 1) = a) (hb : nI (L.getD i []) (3 * pc + 2) = b) (ha4 : a < 4) (hbq : b < q) (h4 : 4 ≤ (s.held b).length) (hs : (s.held b).length < 100) :
    Calls Tryz.prog 42 #[.pointer (some ⟨p, 0, none⟩), .int .i64 i] w fun e w' => e = .returned (.tuple #[]) ∧ StepPost role lo hi w p K L P q T (s.place i ⟨pc + 1, (s.parts i).regs, (s.parts i).shown⟩) t w' := by
  obtain ⟨b1, off, Ai, ni, ci, hA, c0, hli, hni, hIn⟩ := h.progs.get hil
  rw [hli, Nat.mul_div_cancel _ (by decide)] at hn
  obtain ⟨b3, off3, rfl, o0, o1, o2⟩ := op_cells hIn hli hn
  have hni2 : ni ≤ 9223372036854775807 := by unfold maxLen at hni; omega
  rw [hk] at o0
  rw [ha] at o1
  rw [hb] at o2
  obtain ⟨x0, -, -, x3, x4, -⟩ := h.words
  rw [hA] at x0
  obtain ⟨a1, -, -, -⟩ := h.part hil
  rw [hpc] at a1
  have hblk := block_lt o0
  have hbl := (Below.refl w.heap.size w).alloc (Nat.le_refl _) (.cells #[.int .i64 2, .int .i64 a, .int .i64 b] 58)
  have hx := BoxN.new w 58 #[.int .i64 2, .int .i64 a, .int .i64 b]
  have h1 := h.below hbl
  have hpl := h.box.lt
  have H1 := Lib.hid h1
  have HT := Lib.hid (RoleTo.below role hbl)
  have hd : decide ((pc : Int) ≥ ni) = false := by simp; omega
  have y1 := hx.cell (k := 1) rfl
  have y2 := hx.cell (k := 2) rfl
  obtain ⟨e1, e2, ⟨vs, e5, r5⟩, fz⟩ := h1.part hil
  rw [hpc] at e1
  obtain ⟨-, -, -, z3, z4, -⟩ := h1.words
  have f0 := fz (i * 6)
  have hgp := h.rgp
  have hgh := h.rgh
  obtain ⟨⟨vh, e6, r6⟩, fh⟩ := h1.port hbq
  obtain ⟨Ah, ch, rfl, ih⟩ := r6.form
  have lb : (b : Int) < q := by omega
  have h4' : decide (((s.held b).length : Int) < 4) = false := by simp; omega
  clear h hIn hA hli fz e2 h1 hx r6 r5
  go_enter Tryz.func42, Tryz.ntmps42
  go_wp2_with fail
  generalize w.alloc (.cells #[.int .i64 2, .int .i64 a, .int .i64 b] 58) = W1 at *
  go_quiet (fail)
  go_wp2_with fail
  go_end0
  have k2 := (H1.out.below (belowD (Below.refl _ _) nq)).setPc hil (pc + 1)
  have hT := (RoleTo.trans HT.out (RoleTo.below role (belowD (Below.refl _ _) nq))).setCell (a := ⟨K.gp, i * 6, none⟩) (by show role K.gp ≠ 0; omega) (.int .i64 (pc + 1 : Nat))
  exact ⟨rfl, role, k2, hT⟩

set_option maxHeartbeats 8000000 in
theorem step_hush (h : KernAt role lo hi w p K L P q T s t) {i : Nat} (hil : i < L.length) {pc a b : Nat} (hpc : (s.parts i).pc = pc) (hn : pc < (L.getD i []).length / 3) (hp12 : pc < 12)
    (hk : nI (L.getD i []) (3 * pc) = 3) (ha : nI (L.getD i []) (3 * pc + 1) = a) (hb : nI (L.getD i []) (3 * pc + 2) = b) (ha4 : a < 4) (hbq : b < q) (h0 : s.held b = []) :
    Calls Tryz.prog 42 #[.pointer (some ⟨p, 0, none⟩), .int .i64 i] w fun e w' => e = .returned (.tuple #[]) ∧ StepPost role lo hi w p K L P q T (s) t w' := by
  obtain ⟨b1, off, Ai, ni, ci, hA, c0, hli, hni, hIn⟩ := h.progs.get hil
  rw [hli, Nat.mul_div_cancel _ (by decide)] at hn
  obtain ⟨b3, off3, rfl, o0, o1, o2⟩ := op_cells hIn hli hn
  have hni2 : ni ≤ 9223372036854775807 := by unfold maxLen at hni; omega
  rw [hk] at o0
  rw [ha] at o1
  rw [hb] at o2
  obtain ⟨x0, -, -, x3, x4, -⟩ := h.words
  rw [hA] at x0
  obtain ⟨a1, -, -, -⟩ := h.part hil
  rw [hpc] at a1
  have hblk := block_lt o0
  have hbl := (Below.refl w.heap.size w).alloc (Nat.le_refl _) (.cells #[.int .i64 3, .int .i64 a, .int .i64 b] 58)
  have hx := BoxN.new w 58 #[.int .i64 3, .int .i64 a, .int .i64 b]
  have h1 := h.below hbl
  have hpl := h.box.lt
  have H1 := Lib.hid h1
  have HT := Lib.hid (RoleTo.below role hbl)
  have hd : decide ((pc : Int) ≥ ni) = false := by simp; omega
  have y1 := hx.cell (k := 1) rfl
  have y2 := hx.cell (k := 2) rfl
  obtain ⟨e1, e2, ⟨vs, e5, r5⟩, fz⟩ := h1.part hil
  rw [hpc] at e1
  obtain ⟨-, -, -, z3, z4, -⟩ := h1.words
  have f0 := fz (i * 6)
  have hgp := h.rgp
  have hgh := h.rgh
  obtain ⟨⟨vh, e6, r6⟩, fh⟩ := h1.port hbq
  rw [h0] at r6
  obtain ⟨Ah, ch, rfl, ih⟩ := r6.form
  have e6 : _ = some (Value.slice Ah 0 ch) := e6
  have lb : (b : Int) < q := by omega
  clear h hIn hA hli fz e2 h1 hx r6 r5 ih
  go_enter Tryz.func42, Tryz.ntmps42
  go_wp2_with fail
  generalize w.alloc (.cells #[.int .i64 3, .int .i64 a, .int .i64 b] 58) = W1 at *
  go_quiet (fail)
  go_wp2_with fail
  refine bodyPost_ret (results_none rfl _ _ _) rfl ?_
  exact ⟨rfl, role, H1.out.below (belowD (Below.refl _ _) nq), RoleTo.trans HT.out (RoleTo.below role (belowD (Below.refl _ _) nq))⟩

set_option maxHeartbeats 8000000 in
theorem step_get (h : KernAt role lo hi w p K L P q T s t) {i : Nat} (hil : i < L.length) {pc a b : Nat} (hpc : (s.parts i).pc = pc) (hn : pc < (L.getD i []).length / 3) (hp12 : pc < 12)
    (hk : nI (L.getD i []) (3 * pc) = 3) (ha : nI (L.getD i []) (3 * pc + 1) = a) (hb : nI (L.getD i []) (3 * pc + 2) = b) (ha4 : a < 4) (hbq : b < q) {m : Nat} {l : List Int} (h0 : s.held b = (m : Int) :: l) (hs : l.length < 100) :
    Calls Tryz.prog 42 #[.pointer (some ⟨p, 0, none⟩), .int .i64 i] w fun e w' => e = .returned (.tuple #[]) ∧ StepPost role lo hi w p K L P q T ((s.port b l).place i ⟨pc + 1, upd (s.parts i).regs a m, (s.parts i).shown⟩) t w' := by
  obtain ⟨b1, off, Ai, ni, ci, hA, c0, hli, hni, hIn⟩ := h.progs.get hil
  rw [hli, Nat.mul_div_cancel _ (by decide)] at hn
  obtain ⟨b3, off3, rfl, o0, o1, o2⟩ := op_cells hIn hli hn
  have hni2 : ni ≤ 9223372036854775807 := by unfold maxLen at hni; omega
  rw [hk] at o0
  rw [ha] at o1
  rw [hb] at o2
  obtain ⟨x0, -, -, x3, x4, -⟩ := h.words
  rw [hA] at x0
  obtain ⟨a1, -, -, -⟩ := h.part hil
  rw [hpc] at a1
  have hblk := block_lt o0
  have hbl := (Below.refl w.heap.size w).alloc (Nat.le_refl _) (.cells #[.int .i64 3, .int .i64 a, .int .i64 b] 58)
  have hx := BoxN.new w 58 #[.int .i64 3, .int .i64 a, .int .i64 b]
  have h1 := h.below hbl
  have hpl := h.box.lt
  have H1 := Lib.hid h1
  have HT := Lib.hid (RoleTo.below role hbl)
  have hd : decide ((pc : Int) ≥ ni) = false := by simp; omega
  have y1 := hx.cell (k := 1) rfl
  have y2 := hx.cell (k := 2) rfl
  obtain ⟨e1, e2, ⟨vs, e5, r5⟩, fz⟩ := h1.part hil
  rw [hpc] at e1
  obtain ⟨-, -, -, z3, z4, -⟩ := h1.words
  have f0 := fz (i * 6)
  have hgp := h.rgp
  have hgh := h.rgh
  have e2a := e2 a ha4
  have f1 := fz (i * 6 + 1 + a)
  have la : (a : Int) < 4 := by omega
  obtain ⟨⟨vh, e6, r6⟩, fh⟩ := h1.port hbq
  obtain ⟨g, og, ch, rfl, hch, hrg, hcut⟩ := r6.cut h0
  obtain ⟨Ah, ch', hA', ih⟩ := r6.form
  have hm := ih.at_ (k := 0) (by rw [h0]; simp)
  obtain ⟨gb, go, xm, hgo, hxm, hcm⟩ := hm
  have hlen : (s.held b).length = l.length + 1 := by rw [h0]; simp
  rw [hlen] at e6 hcut hch
  have hcm' : (w.alloc (.cells #[.int .i64 3, .int .i64 a, .int .i64 b] 58)).cell? ⟨g, og, none⟩ = some (.int .i64 m) := by
    have hxm := hxm.out
    rw [h0] at hxm
    simp at hxm
    subst hxm
    injection hA' with hA'
    rw [hgo] at hA'
    injection hA' with hA'
    injection hA' with u1 u2
    rw [u1, u2]; exact hcm
  have lb : (b : Int) < q := by omega
  have hsl := fun V => run_cut1 V g og (l.length + 1) ch (by omega) (by omega)
  generalize (if ch = 1 then og else og + 1) = og' at *
  simp only [Nat.add_sub_cancel] at hsl hcut
  generalize ch - 1 = ch'' at hsl hcut
  have HC := Lib.hid hcut
  have hhi0 := h.size
  have hbg := block_lt hcm'
  have hgne : g ≠ K.gp := fun e => by rw [e, hgp] at hrg; omega
  have hfb := fh b
  have hghz := H1.out.inn
  have hhi := H1.out.size
  clear h hIn hA hli fz e2 h1 hx r6 r5 ih hcut hxm hA'
  go_enter Tryz.func42, Tryz.ntmps42
  go_wp2_with fail
  generalize w.alloc (.cells #[.int .i64 3, .int .i64 a, .int .i64 b] 58) = W1 at *
  go_quiet (fail)
  go_wp2_with fail
  refine wp_still_tailD2 9 (by kernel_rfl) (by kernel_rfl) ?_
  simp only [List.take_succ_cons, List.take_zero, List.drop_succ_cons, List.drop_zero]
  repeat still_step
  refine wpStill_nil ?_
  have hV : Below W1.heap.size W1 (W1.drewN (nq + 1)) := belowD (Below.refl _ _) (nq + 1)
  have k1 := (H1.out.below hV).setReg hil ha4 (m : Int)
  have hRV := rows_store (HC.out.keep (w' := W1.drewN (nq + 1)) (role' := role) (fun g hg _ => hV.block g hg) (fun _ _ => rfl)) (a := ⟨K.gp, i * 6 + 1 + a, none⟩) (by show role K.gp ≠ _; omega) (.int .i64 m)
  obtain ⟨-, -, -, w3, w4, -⟩ := k1.words
  have u2 : ((W1.drewN (nq + 1)).setCell ⟨K.gp, i * 6 + 1 + a, none⟩ (.int .i64 m)).cell? ⟨w.heap.size, 2, none⟩ = some (.int .i64 b) := (World.cell?_setCell_other _ _ _ _ (fun e => by injection e with e1; omega)).trans y2
  have u6 : ((W1.drewN (nq + 1)).setCell ⟨K.gp, i * 6 + 1 + a, none⟩ (.int .i64 m)).cell? ⟨K.gh, b, none⟩ = some (.slice (some ⟨g, og, none⟩) (l.length + 1) ch) := (World.cell?_setCell_other _ _ _ _ (fun e => by injection e with e1; first | (rw [e1] at hgp; omega) | (rw [e1] at hgh; omega))).trans e6
  have u7 := (k1.port hbq).2 b
  have K1 := Lib.hid k1
  clear k1
  have hT1 := (RoleTo.trans HT.out (RoleTo.below role hV)).setCell (a := ⟨K.gp, i * 6 + 1 + a, none⟩) (by show role K.gp ≠ 0; omega) (.int .i64 (m : Nat))
  have HT1 := Lib.hid hT1
  clear hT1
  go_wp2_with fail
  generalize (W1.drewN (nq + 1)).setCell ⟨K.gp, i * 6 + 1 + a, none⟩ (.int .i64 m) = W2 at *
  refine wp_still_tailD 9 (by kernel_rfl) (by kernel_rfl) ?_
  simp only [List.take_succ_cons, List.take_zero, List.drop_succ_cons, List.drop_zero]
  repeat still_step
  refine wpStill_nil ?_
  have hV2 : Below W2.heap.size W2 (W2.drewN 1) := belowD (Below.refl _ _) 1
  have kk := (K1.out.below hV2).setHeld hbq (hRV.keep (w' := W2.drewN 1) (role' := role) (fun g hg _ => hV2.block g hg) (fun _ _ => rfl))
  have q3 := (kk.part hil).1
  have q4 := (kk.part hil).2.2.2 (i * 6)
  have KK := Lib.hid kk
  clear kk
  go_wp2_with fail
  go_end0
  have k2 := KK.out.setPc hil (pc + 1)
  have e0 : ((s.place i ⟨(s.parts i).pc, upd (s.parts i).regs a (m : Int), (s.parts i).shown⟩).port b l).parts i = ⟨(s.parts i).pc, upd (s.parts i).regs a (m : Int), (s.parts i).shown⟩ := upd_same _ _ _
  rw [e0] at k2
  have hT := ((RoleTo.trans HT1.out (RoleTo.below role hV2)).setCell (a := ⟨K.gh, b, none⟩) (by show role K.gh ≠ 0; omega) (.slice (some ⟨g, og', none⟩) l.length ch'')).setCell (a := ⟨K.gp, i * 6, none⟩) (by show role K.gp ≠ 0; omega) (.int .i64 (pc + 1 : Nat))
  have e9 : ((s.place i ⟨(s.parts i).pc, upd (s.parts i).regs a (m : Int), (s.parts i).shown⟩).port b l).place i ⟨pc + 1, upd (s.parts i).regs a (m : Int), (s.parts i).shown⟩ = (s.port b l).place i ⟨pc + 1, upd (s.parts i).regs a (m : Int), (s.parts i).shown⟩ := by unfold KState.place KState.port; simp only [upd_upd]
  rw [e9] at k2
  exact ⟨rfl, role, k2, hT⟩

set_option maxHeartbeats 8000000 in
theorem step_jump (h : KernAt role lo hi w p K L P q T s t) {i : Nat} (hil : i < L.length) {pc a b : Nat} (hpc : (s.parts i).pc = pc) (hn : pc < (L.getD i []).length / 3) (hp12 : pc < 12)
    (hk : nI (L.getD i []) (3 * pc) = 4) (ha : nI (L.getD i []) (3 * pc + 1) = a) (hb : nI (L.getD i []) (3 * pc + 2) = b) (ha12 : a ≤ 12) (hb4 : b < 4) {rb : Nat} (hrb : (s.parts i).regs b = rb) (h0 : rb ≠ 0) :
    Calls Tryz.prog 42 #[.pointer (some ⟨p, 0, none⟩), .int .i64 i] w fun e w' => e = .returned (.tuple #[]) ∧ StepPost role lo hi w p K L P q T (s.place i ⟨a, (s.parts i).regs, (s.parts i).shown⟩) t w' := by
  obtain ⟨b1, off, Ai, ni, ci, hA, c0, hli, hni, hIn⟩ := h.progs.get hil
  rw [hli, Nat.mul_div_cancel _ (by decide)] at hn
  obtain ⟨b3, off3, rfl, o0, o1, o2⟩ := op_cells hIn hli hn
  have hni2 : ni ≤ 9223372036854775807 := by unfold maxLen at hni; omega
  rw [hk] at o0
  rw [ha] at o1
  rw [hb] at o2
  obtain ⟨x0, -, -, x3, x4, -⟩ := h.words
  rw [hA] at x0
  obtain ⟨a1, -, -, -⟩ := h.part hil
  rw [hpc] at a1
  have hblk := block_lt o0
  have hbl := (Below.refl w.heap.size w).alloc (Nat.le_refl _) (.cells #[.int .i64 4, .int .i64 a, .int .i64 b] 58)
  have hx := BoxN.new w 58 #[.int .i64 4, .int .i64 a, .int .i64 b]
  have h1 := h.below hbl
  have hpl := h.box.lt
  have H1 := Lib.hid h1
  have HT := Lib.hid (RoleTo.below role hbl)
  have hd : decide ((pc : Int) ≥ ni) = false := by simp; omega
  have y1 := hx.cell (k := 1) rfl
  have y2 := hx.cell (k := 2) rfl
  obtain ⟨e1, e2, ⟨vs, e5, r5⟩, fz⟩ := h1.part hil
  rw [hpc] at e1
  obtain ⟨-, -, -, z3, z4, -⟩ := h1.words
  have f0 := fz (i * 6)
  have hgp := h.rgp
  have hgh := h.rgh
  have e2b := e2 b hb4
  rw [hrb] at e2b
  have lb : (b : Int) < 4 := by omega
  have hz : ((rb : Int) != 0) = true := by simp; omega
  clear h hIn hA hli fz e2 h1 hx r5
  go_enter Tryz.func42, Tryz.ntmps42
  go_wp2_with fail
  generalize w.alloc (.cells #[.int .i64 4, .int .i64 a, .int .i64 b] 58) = W1 at *
  go_quiet (fail)
  go_wp2_with fail
  go_end0
  have k2 := (H1.out.below (belowD (Below.refl _ _) nq)).setPc hil (a)
  have hT := (RoleTo.trans HT.out (RoleTo.below role (belowD (Below.refl _ _) nq))).setCell (a := ⟨K.gp, i * 6, none⟩) (by show role K.gp ≠ 0; omega) (.int .i64 (a : Nat))
  exact ⟨rfl, role, k2, hT⟩

set_option maxHeartbeats 8000000 in
theorem step_stay (h : KernAt role lo hi w p K L P q T s t) {i : Nat} (hil : i < L.length) {pc a b : Nat} (hpc : (s.parts i).pc = pc) (hn : pc < (L.getD i []).length / 3) (hp12 : pc < 12)
    (hk : nI (L.getD i []) (3 * pc) = 4) (ha : nI (L.getD i []) (3 * pc + 1) = a) (hb : nI (L.getD i []) (3 * pc + 2) = b) (ha12 : a ≤ 12) (hb4 : b < 4) {rb : Nat} (hrb : (s.parts i).regs b = rb) (h0 : rb = 0) :
    Calls Tryz.prog 42 #[.pointer (some ⟨p, 0, none⟩), .int .i64 i] w fun e w' => e = .returned (.tuple #[]) ∧ StepPost role lo hi w p K L P q T (s.place i ⟨pc + 1, (s.parts i).regs, (s.parts i).shown⟩) t w' := by
  obtain ⟨b1, off, Ai, ni, ci, hA, c0, hli, hni, hIn⟩ := h.progs.get hil
  rw [hli, Nat.mul_div_cancel _ (by decide)] at hn
  obtain ⟨b3, off3, rfl, o0, o1, o2⟩ := op_cells hIn hli hn
  have hni2 : ni ≤ 9223372036854775807 := by unfold maxLen at hni; omega
  rw [hk] at o0
  rw [ha] at o1
  rw [hb] at o2
  obtain ⟨x0, -, -, x3, x4, -⟩ := h.words
  rw [hA] at x0
  obtain ⟨a1, -, -, -⟩ := h.part hil
  rw [hpc] at a1
  have hblk := block_lt o0
  have hbl := (Below.refl w.heap.size w).alloc (Nat.le_refl _) (.cells #[.int .i64 4, .int .i64 a, .int .i64 b] 58)
  have hx := BoxN.new w 58 #[.int .i64 4, .int .i64 a, .int .i64 b]
  have h1 := h.below hbl
  have hpl := h.box.lt
  have H1 := Lib.hid h1
  have HT := Lib.hid (RoleTo.below role hbl)
  have hd : decide ((pc : Int) ≥ ni) = false := by simp; omega
  have y1 := hx.cell (k := 1) rfl
  have y2 := hx.cell (k := 2) rfl
  obtain ⟨e1, e2, ⟨vs, e5, r5⟩, fz⟩ := h1.part hil
  rw [hpc] at e1
  obtain ⟨-, -, -, z3, z4, -⟩ := h1.words
  have f0 := fz (i * 6)
  have hgp := h.rgp
  have hgh := h.rgh
  have e2b := e2 b hb4
  rw [hrb] at e2b
  have lb : (b : Int) < 4 := by omega
  have hz : ((rb : Int) != 0) = false := by simp; omega
  clear h hIn hA hli fz e2 h1 hx r5
  go_enter Tryz.func42, Tryz.ntmps42
  go_wp2_with fail
  generalize w.alloc (.cells #[.int .i64 4, .int .i64 a, .int .i64 b] 58) = W1 at *
  go_quiet (fail)
  go_wp2_with fail
  go_end0
  have k2 := (H1.out.below (belowD (Below.refl _ _) nq)).setPc hil (pc + 1)
  have hT := (RoleTo.trans HT.out (RoleTo.below role (belowD (Below.refl _ _) nq))).setCell (a := ⟨K.gp, i * 6, none⟩) (by show role K.gp ≠ 0; omega) (.int .i64 (pc + 1 : Nat))
  exact ⟨rfl, role, k2, hT⟩

set_option maxHeartbeats 8000000 in
theorem step_show (h : KernAt role lo hi w p K L P q T s t) {i : Nat} (hil : i < L.length) {pc a : Nat} {b : Int} (hpc : (s.parts i).pc = pc) (hn : pc < (L.getD i []).length / 3) (hp12 : pc < 12)
    (hk : nI (L.getD i []) (3 * pc) = 5) (ha : nI (L.getD i []) (3 * pc + 1) = a) (hb : nI (L.getD i []) (3 * pc + 2) = b) (ha4 : a < 4) {ra : Nat} (hra : (s.parts i).regs a = ra) (h4 : (s.parts i).shown.length < 2 ^ 30) :
    Calls Tryz.prog 42 #[.pointer (some ⟨p, 0, none⟩), .int .i64 i] w fun e w' => e = .returned (.tuple #[]) ∧ StepPost role lo hi w p K L P q T (s.place i ⟨pc + 1, (s.parts i).regs, (s.parts i).shown ++ [(ra : Int)]⟩) t w' := by
  obtain ⟨b1, off, Ai, ni, ci, hA, c0, hli, hni, hIn⟩ := h.progs.get hil
  rw [hli, Nat.mul_div_cancel _ (by decide)] at hn
  obtain ⟨b3, off3, rfl, o0, o1, o2⟩ := op_cells hIn hli hn
  have hni2 : ni ≤ 9223372036854775807 := by unfold maxLen at hni; omega
  rw [hk] at o0
  rw [ha] at o1
  rw [hb] at o2
  obtain ⟨x0, -, -, x3, x4, -⟩ := h.words
  rw [hA] at x0
  obtain ⟨a1, -, -, -⟩ := h.part hil
  rw [hpc] at a1
  have hblk := block_lt o0
  have hbl := (Below.refl w.heap.size w).alloc (Nat.le_refl _) (.cells #[.int .i64 5, .int .i64 a, .int .i64 b] 58)
  have hx := BoxN.new w 58 #[.int .i64 5, .int .i64 a, .int .i64 b]
  have h1 := h.below hbl
  have hpl := h.box.lt
  have H1 := Lib.hid h1
  have HT := Lib.hid (RoleTo.below role hbl)
  have hd : decide ((pc : Int) ≥ ni) = false := by simp; omega
  have y1 := hx.cell (k := 1) rfl
  have y2 := hx.cell (k := 2) rfl
  obtain ⟨e1, e2, ⟨vs, e5, r5⟩, fz⟩ := h1.part hil
  rw [hpc] at e1
  obtain ⟨-, -, -, z3, z4, -⟩ := h1.words
  have f0 := fz (i * 6)
  have hgp := h.rgp
  have hgh := h.rgh
  have e2a := e2 a ha4
  rw [hra] at e2a
  obtain ⟨Ah, ch, hvh, ih⟩ := r5.form
  have R5 := Lib.hid r5
  have e5' := e5
  rw [hvh] at e5
  have f5 := fz (i * 6 + 5)
  have la : (a : Int) < 4 := by omega
  have hghz := H1.out.inn
  have hhi := H1.out.size
  clear h hIn hA hli fz e2 h1 hx r5 ih
  go_enter Tryz.func42, Tryz.ntmps42
  go_wp2_with fail
  generalize w.alloc (.cells #[.int .i64 5, .int .i64 a, .int .i64 b] 58) = W1 at *
  have HPost := Lib.hid (fun (V : World) (hV : Below W1.heap.size W1 V) (w' : World) (role' : Nat → Nat) (A' : Option Addr) (nn c' : Nat) (hr1 : RowW role' (4 + 2 * i) w' (.slice A' nn c') ((s.parts i).shown ++ [(ra : Int)])) (hr2 : ∀ bb, bb < V.heap.size → role' bb = role bb) (hr3 : V.heap.size ≤ w'.heap.size) (hr4 : w'.os = V.os ∧ w'.tape = V.tape ∧ w'.output = V.output) (hr5 : ∀ bb, bb < V.heap.size → role bb ≠ 4 + 2 * i → w'.heap[bb]? = V.heap[bb]?) (hr6 : (∀ bb, V.heap.size ≤ bb → role bb = 0) → ∀ bb, w'.heap.size ≤ bb → role' bb = 0) =>
    (show w'.cell? ⟨K.gp, i * 6 + 5, none⟩ = some vs ∧ w'.frozen? ⟨K.gp, i * 6 + 5, none⟩ = false ∧ (w'.setCell ⟨K.gp, i * 6 + 5, none⟩ (.slice A' nn c')).cell? ⟨K.gp, i * 6, none⟩ = some (.int .i64 pc) ∧ (w'.setCell ⟨K.gp, i * 6 + 5, none⟩ (.slice A' nn c')).frozen? ⟨K.gp, i * 6, none⟩ = false ∧ Hid (StepPost role lo hi w p K L P q T (s.place i ⟨pc + 1, (s.parts i).regs, (s.parts i).shown ++ [(ra : Int)]⟩) t ((w'.setCell ⟨K.gp, i * 6 + 5, none⟩ (.slice A' nn c')).setCell ⟨K.gp, i * 6, none⟩ (.int .i64 (pc + 1 : Nat)))) by
      have hsV := hV.size
      have kk := (KernAt.pushed (code := 4 + 2 * i) (by omega) (H1.out.below hV) hr2 hr3 hr5 (hr6 (H1.out.below hV).new)).1 i rfl hil _ _ hr1
      refine ⟨(World.cell?_of_block (a := ⟨K.gp, i * 6 + 5, none⟩) (hr5 _ (by show K.gp < _; omega) (by show role K.gp ≠ _; omega))).trans ((hV.cell (p := ⟨K.gp, i * 6 + 5, none⟩) (by show K.gp < _; omega)).trans e5'), (World.frozen?_of_block (a := ⟨K.gp, i * 6 + 5, none⟩) (hr5 _ (by show K.gp < _; omega) (by show role K.gp ≠ _; omega))).trans ((hV.frozen (p := ⟨K.gp, i * 6 + 5, none⟩) (by show K.gp < _; omega)).trans f5), ?_, (kk.part hil).2.2.2 (i * 6), Lib.hid ⟨role', ?_, ?_⟩⟩
      · have q3 := (kk.part hil).1
        rw [place_at, hpc] at q3
        exact q3
      · have k2 := kk.setPc hil (pc + 1)
        rw [place_place, place_at] at k2
        exact k2
      · exact ((((RoleTo.trans HT.out (RoleTo.below role hV)).trans (RoleTo.push (code := 4 + 2 * i) (by omega) hr2 hr3 hr4 hr5)).setCell (a := ⟨K.gp, i * 6 + 5, none⟩) (by show role K.gp ≠ 0; omega) (.slice A' nn c')).setCell (a := ⟨K.gp, i * 6, none⟩) (by show role K.gp ≠ 0; omega) (.int .i64 (pc + 1 : Nat)))))
  have HRV := Lib.hid (fun V (hV : Below W1.heap.size W1 V) => R5.out.keep (w' := V) (role' := role) (fun g hg _ => hV.block g hg) (fun _ _ => rfl))
  rw [hvh] at HRV
  have lgg : K.gp < W1.heap.size := by have := H1.out.size; have := H1.out.inn; omega
  have ea := ((Below.refl W1.heap.size W1).alloc (Nat.le_refl _) (.cells #[.int .i64 ra] 3)).cell (p := ⟨K.gp, i * 6 + 5, none⟩) lgg
  have eb : (W1.drew.alloc (.cells #[.int .i64 ra] 3)).cell? ⟨K.gp, i * 6 + 5, none⟩ = _ := ea.trans e5
  clear H1 HT R5 ea
  go_region_law ((refine step_pushW (by rfl) _ _ (by rfl) (by rfl) (HRV.out _ (by repeat (first | exact (belowD (Below.refl _ _) _).alloc (Nat.le_refl _) _ | exact Below.refl _ _ | refine Below.drew ?_ | refine Below.alloc ?_ (Nat.le_refl _) _))) (by omega) ⟨W1.heap.size, 0, none⟩ ra 1 (by rfl) (cell_of_row _ _ 0 _ _ _ (heap_alloc_new _ _)) ?_; intro w' role' A' nn c' hr1 hr2 hr3 hr4 hr5 hr6; obtain ⟨q1, q2, q3, q4, HH⟩ := HPost.out _ (by repeat (first | exact (belowD (Below.refl _ _) _).alloc (Nat.le_refl _) _ | exact Below.refl _ _ | refine Below.drew ?_ | refine Below.alloc ?_ (Nat.le_refl _) _)) w' role' A' nn c' hr1 hr2 hr3 hr4 hr5 hr6))
  all_goals
    go_wp2_with fail
    go_end0
    exact ⟨rfl, HH.out⟩
end
end Go.Proofs.YtanlmfnhlldkeaaGreatDoor

namespace Go.Proofs.YtanlmfnhlldkeaaGreatDoor
open Go.RowKit
set_option maxRecDepth 100000
set_option linter.unusedVariables false

section
variable {role : Nat → Nat} {lo hi : Nat} {w : World} {p : Nat} {K : KF} {L : List (List Int)} {P : List Int} {q : Nat} {T : List Int} {s : KState} {t : Nat}

set_option maxHeartbeats 40000000 in
theorem step_send (h : KernAt role lo hi w p K L P q T s t) {i : Nat} (hil : i < L.length) {pc a b : Nat} (hpc : (s.parts i).pc = pc) (hn : pc < (L.getD i []).length / 3) (hp12 : pc < 12)
    (hk : nI (L.getD i []) (3 * pc) = 2) (ha : nI (L.getD i []) (3 * pc + 1) = a) (hb : nI (L.getD i []) (3 * pc + 2) = b) (ha4 : a < 4) (hbq : b < q) {ra : Nat} (hra : (s.parts i).regs a = ra) (h4 : (s.held b).length < 4) :
    Calls Tryz.prog 42 #[.pointer (some ⟨p, 0, none⟩), .int .i64 i] w fun e w' => e = .returned (.tuple #[]) ∧ StepPost role lo hi w p K L P q T ((s.port b (s.held b ++ [(ra : Int)])).place i ⟨pc + 1, (s.parts i).regs, (s.parts i).shown⟩) t w' := by
  obtain ⟨b1, off, Ai, ni, ci, hA, c0, hli, hni, hIn⟩ := h.progs.get hil
  rw [hli, Nat.mul_div_cancel _ (by decide)] at hn
  obtain ⟨b3, off3, rfl, o0, o1, o2⟩ := op_cells hIn hli hn
  have hni2 : ni ≤ 9223372036854775807 := by unfold maxLen at hni; omega
  rw [hk] at o0
  rw [ha] at o1
  rw [hb] at o2
  obtain ⟨x0, -, -, x3, x4, -⟩ := h.words
  rw [hA] at x0
  obtain ⟨a1, -, -, -⟩ := h.part hil
  rw [hpc] at a1
  have hblk := block_lt o0
  have hbl := (Below.refl w.heap.size w).alloc (Nat.le_refl _) (.cells #[.int .i64 2, .int .i64 a, .int .i64 b] 58)
  have hx := BoxN.new w 58 #[.int .i64 2, .int .i64 a, .int .i64 b]
  have h1 := h.below hbl
  have hpl := h.box.lt
  have H1 := Lib.hid h1
  have HT := Lib.hid (RoleTo.below role hbl)
  have hd : decide ((pc : Int) ≥ ni) = false := by simp; omega
  have y1 := hx.cell (k := 1) rfl
  have y2 := hx.cell (k := 2) rfl
  obtain ⟨e1, e2, ⟨vs, e5, r5⟩, fz⟩ := h1.part hil
  rw [hpc] at e1
  obtain ⟨-, -, -, z3, z4, -⟩ := h1.words
  have f0 := fz (i * 6)
  have hgp := h.rgp
  have hgh := h.rgh
  have e2a := e2 a ha4
  rw [hra] at e2a
  obtain ⟨⟨vh, e6, r6⟩, fh⟩ := h1.port hbq
  obtain ⟨Ah, ch, hvh, ih⟩ := r6.form
  have R6 := Lib.hid r6
  have e6' := e6
  have hh4 := h4
  have hnew := h.new
  rw [hvh] at e6
  have lb : (b : Int) < q := by omega
  have la : (a : Int) < 4 := by omega
  have h4' : decide (((s.held b).length : Int) < 4) = true := by simp; omega
  have hghz := H1.out.inn
  have hhi := H1.out.size
  clear h hIn hA hli fz e2 h1 hx r6 r5 ih
  go_enter Tryz.func42, Tryz.ntmps42
  go_wp2_with fail
  generalize w.alloc (.cells #[.int .i64 2, .int .i64 a, .int .i64 b] 58) = W1 at *
  go_quiet (fail)
  go_wp2_with fail
  have HPost := Lib.hid (fun (V : World) (hV : Below W1.heap.size W1 V) (w' : World) (role' : Nat → Nat) (A' : Option Addr) (nn c' : Nat) (hr1 : RowW role' (5 + 2 * b) w' (.slice A' nn c') (s.held b ++ [(ra : Int)])) (hr2 : ∀ bb, bb < V.heap.size → role' bb = role bb) (hr3 : V.heap.size ≤ w'.heap.size) (hr4 : w'.os = V.os ∧ w'.tape = V.tape ∧ w'.output = V.output) (hr5 : ∀ bb, bb < V.heap.size → role bb ≠ 5 + 2 * b → w'.heap[bb]? = V.heap[bb]?) (hr6 : (∀ bb, V.heap.size ≤ bb → role bb = 0) → ∀ bb, w'.heap.size ≤ bb → role' bb = 0) =>
    (show w'.cell? ⟨K.gh, b, none⟩ = some vh ∧ w'.frozen? ⟨K.gh, b, none⟩ = false ∧ (w'.setCell ⟨K.gh, b, none⟩ (.slice A' nn c')).cell? ⟨K.gp, i * 6, none⟩ = some (.int .i64 pc) ∧ (w'.setCell ⟨K.gh, b, none⟩ (.slice A' nn c')).frozen? ⟨K.gp, i * 6, none⟩ = false ∧ Hid (StepPost role lo hi w p K L P q T ((s.port b (s.held b ++ [(ra : Int)])).place i ⟨pc + 1, (s.parts i).regs, (s.parts i).shown⟩) t ((w'.setCell ⟨K.gh, b, none⟩ (.slice A' nn c')).setCell ⟨K.gp, i * 6, none⟩ (.int .i64 (pc + 1 : Nat)))) by
      have hsV := hV.size
      have kk := (KernAt.pushed (code := 5 + 2 * b) (by omega) (H1.out.below hV) hr2 hr3 hr5 (hr6 (H1.out.below hV).new)).2 b rfl hbq _ _ hr1
      refine ⟨(World.cell?_of_block (a := ⟨K.gh, b, none⟩) (hr5 _ (by show K.gh < _; omega) (by show role K.gh ≠ _; omega))).trans ((hV.cell (p := ⟨K.gh, b, none⟩) (by show K.gh < _; omega)).trans e6'), (World.frozen?_of_block (a := ⟨K.gh, b, none⟩) (hr5 _ (by show K.gh < _; omega) (by show role K.gh ≠ _; omega))).trans ((hV.frozen (p := ⟨K.gh, b, none⟩) (by show K.gh < _; omega)).trans (fh b)), ?_, (kk.part hil).2.2.2 (i * 6), Lib.hid ⟨role', ?_, ?_⟩⟩
      · have q3 := (kk.part hil).1
        rw [← hpc]
        exact q3
      · have k2 := kk.setPc hil (pc + 1)
        skip
        exact k2
      · exact ((((RoleTo.trans HT.out (RoleTo.below role hV)).trans (RoleTo.push (code := 5 + 2 * b) (by omega) hr2 hr3 hr4 hr5)).setCell (a := ⟨K.gh, b, none⟩) (by show role K.gh ≠ 0; omega) (.slice A' nn c')).setCell (a := ⟨K.gp, i * 6, none⟩) (by show role K.gp ≠ 0; omega) (.int .i64 (pc + 1 : Nat)))))
  have HRV := Lib.hid (fun V (hV : Below W1.heap.size W1 V) => R6.out.keep (w' := V) (role' := role) (fun g hg _ => hV.block g hg) (fun _ _ => rfl))
  rw [hvh] at HRV
  have lgg : K.gh < W1.heap.size := by have := H1.out.size; have := H1.out.inn; omega
  have ea := ((Below.refl W1.heap.size W1).alloc (Nat.le_refl _) (.cells #[.int .i64 ra] 3)).cell (p := ⟨K.gh, b, none⟩) lgg
  have eb : ((W1.drewN (nq + 1)).alloc (.cells #[.int .i64 ra] 3)).cell? ⟨K.gh, b, none⟩ = _ := ea.trans e6
  have lww := block_lt y2
  have lpp := block_lt z4
  have lgp := block_lt e2a
  have hPS := Lib.hid (fun (w' : World) (role' : Nat → Nat) (hr2 : ∀ bb, bb < ((W1.drewN (nq + 1)).alloc (.cells #[.int .i64 ra] 3)).heap.size → role' bb = role bb) (hr5 : ∀ bb, bb < ((W1.drewN (nq + 1)).alloc (.cells #[.int .i64 ra] 3)).heap.size → role bb ≠ 5 + 2 * b → w'.heap[bb]? = ((W1.drewN (nq + 1)).alloc (.cells #[.int .i64 ra] 3)).heap[bb]?) => (show w'.cell? ⟨p, 4, none⟩ = some (.slice (some ⟨K.gh, 0, none⟩) q q) ∧ w'.cell? ⟨w.heap.size, 1, none⟩ = some (.int .i64 a) ∧ w'.cell? ⟨w.heap.size, 2, none⟩ = some (.int .i64 b) ∧ w'.cell? ⟨K.gp, i * 6 + 1 + a, none⟩ = some (.int .i64 ra) by
    have hV : Below W1.heap.size W1 ((W1.drewN (nq + 1)).alloc (.cells #[.int .i64 ra] 3)) := (belowD (Below.refl _ _) _).alloc (Nat.le_refl _) _
    have hsz : W1.heap.size ≤ ((W1.drewN (nq + 1)).alloc (.cells #[.int .i64 ra] 3)).heap.size := hV.size
    have rb : role w.heap.size = 0 := hnew _ (Nat.le_refl _)
    have rp := H1.out.rp
    have go : ∀ (g k : Nat) (u : Value), g < W1.heap.size → role g ≠ 5 + 2 * b → W1.cell? ⟨g, k, none⟩ = some u → w'.cell? ⟨g, k, none⟩ = some u := fun g k u h1 h2 h3 => (World.cell?_of_block (a := ⟨g, k, none⟩) (hr5 g (Nat.lt_of_lt_of_le h1 hsz) h2)).trans ((hV.cell (p := ⟨g, k, none⟩) h1).trans h3)
    exact ⟨go _ _ _ lpp (by omega) z4, go _ _ _ lww (by omega) y1, go _ _ _ lww (by omega) y2, go _ _ _ lgp (by omega) e2a⟩))
  have hPS2 := Lib.hid (fun (w' : World) (u : Value) (hS : w'.cell? ⟨p, 4, none⟩ = some (.slice (some ⟨K.gh, 0, none⟩) q q) ∧ w'.cell? ⟨w.heap.size, 1, none⟩ = some (.int .i64 a) ∧ w'.cell? ⟨w.heap.size, 2, none⟩ = some (.int .i64 b) ∧ w'.cell? ⟨K.gp, i * 6 + 1 + a, none⟩ = some (.int .i64 ra)) => (show (w'.setCell ⟨K.gh, b, none⟩ u).cell? ⟨p, 4, none⟩ = some (.slice (some ⟨K.gh, 0, none⟩) q q) ∧ (w'.setCell ⟨K.gh, b, none⟩ u).cell? ⟨w.heap.size, 1, none⟩ = some (.int .i64 a) ∧ (w'.setCell ⟨K.gh, b, none⟩ u).cell? ⟨w.heap.size, 2, none⟩ = some (.int .i64 b) ∧ (w'.setCell ⟨K.gh, b, none⟩ u).cell? ⟨K.gp, i * 6 + 1 + a, none⟩ = some (.int .i64 ra) by
    have rb : role w.heap.size = 0 := hnew _ (Nat.le_refl _)
    have rp := H1.out.rp
    have go : ∀ (g k : Nat) (x : Value), role g ≠ 3 → w'.cell? ⟨g, k, none⟩ = some x → (w'.setCell ⟨K.gh, b, none⟩ u).cell? ⟨g, k, none⟩ = some x := fun g k x h1 h2 => (World.cell?_setCell_other _ _ _ _ (fun e => h1 (by injection e with e1; first | (rw [e1]; exact hgh) | (rw [← e1]; exact hgh)))).trans h2
    exact ⟨go _ _ _ (by omega) hS.1, go _ _ _ (by omega) hS.2.1, go _ _ _ (by omega) hS.2.2.1, go _ _ _ (by omega) hS.2.2.2⟩))
  have ec : ((W1.drewN (nq + 1)).alloc (.cells #[.int .i64 ra] 3)).cell? ⟨w.heap.size, 2, none⟩ = _ := (((Below.refl W1.heap.size W1).alloc (Nat.le_refl _) (.cells #[.int .i64 ra] 3)).cell (p := ⟨w.heap.size, 2, none⟩) lww).trans y2
  have ed : ((W1.drewN (nq + 1)).alloc (.cells #[.int .i64 ra] 3)).cell? ⟨p, 4, none⟩ = _ := (((Below.refl W1.heap.size W1).alloc (Nat.le_refl _) (.cells #[.int .i64 ra] 3)).cell (p := ⟨p, 4, none⟩) lpp).trans z4
  clear H1 HT R6 ea
  have hKeep := Lib.hid (fun V (hV : Below W1.heap.size W1 V) => (⟨(hV.cell (p := ⟨p, 4, none⟩) lpp).trans z4, (hV.cell (p := ⟨w.heap.size, 1, none⟩) lww).trans y1, (hV.cell (p := ⟨w.heap.size, 2, none⟩) lww).trans y2, (hV.cell (p := ⟨K.gp, i * 6 + 1 + a, none⟩) lgp).trans e2a⟩ : V.cell? ⟨p, 4, none⟩ = some (.slice (some ⟨K.gh, 0, none⟩) q q) ∧ V.cell? ⟨w.heap.size, 1, none⟩ = some (.int .i64 a) ∧ V.cell? ⟨w.heap.size, 2, none⟩ = some (.int .i64 b) ∧ V.cell? ⟨K.gp, i * 6 + 1 + a, none⟩ = some (.int .i64 ra)))
  clear y1 y2 e2a z3 z4 x0 x3 x4 o0 o1 o2 c0 a1 ec ed
  refine wp_region_held_drew (S := fun V => V.cell? ⟨p, 4, none⟩ = some (.slice (some ⟨K.gh, 0, none⟩) q q) ∧ V.cell? ⟨w.heap.size, 1, none⟩ = some (.int .i64 a) ∧ V.cell? ⟨w.heap.size, 2, none⟩ = some (.int .i64 b) ∧ V.cell? ⟨K.gp, i * 6 + 1 + a, none⟩ = some (.int .i64 ra)) (by kernel_rfl) (hKeep.out _ (by first | exact belowD (Below.refl _ _) _ | exact (belowD (Below.refl _ _) _).drew)) (fun hHeld => ?_)
  refine' wpAnyH_take (i := 0) (v := _) rfl (by kernel_rfl) (by kernel_rfl) (by kernel_rfl) (fun _ _ _ h => h) (Or.inl ⟨by rfl, ?hy1⟩) (by assumption) ?rest1
  case hy1 => (intro w hSw; (try dsimp only at hSw); first | (go_simp; done) | (go_simp; with_reducible rfl))
  simp only [List.getElem_toArray, List.getElem_cons_zero, Act.put, List.setIfInBounds_toArray, List.set_cons_zero, List.set_cons_succ]
  refine' wpAnyH_take (i := 1) (v := _) rfl (by kernel_rfl) (by kernel_rfl) (by kernel_rfl) (fun _ _ _ h => h) (Or.inl ⟨by rfl, ?hy2⟩) (by assumption) ?rest2
  case hy2 => (intro w hSw; (try dsimp only at hSw); first | (go_simp; done) | (go_simp; with_reducible rfl))
  simp only [List.getElem_toArray, List.getElem_cons_succ, List.getElem_cons_zero, Act.put, List.setIfInBounds_toArray, List.set_cons_zero, List.set_cons_succ]
  refine' wpAnyH_take (i := 2) (v := _) rfl (by kernel_rfl) (by kernel_rfl) (by kernel_rfl) (fun _ _ _ h => h) (Or.inl ⟨by rfl, ?hy3⟩) (by assumption) ?rest3
  case hy3 => (intro w hSw; (try dsimp only at hSw); first | (go_simp; done) | (go_simp; with_reducible rfl))
  simp only [List.getElem_toArray, List.getElem_cons_succ, List.getElem_cons_zero, Act.put, List.setIfInBounds_toArray, List.set_cons_zero, List.set_cons_succ]
  refine' wpAnyH_take (i := 3) (v := _) rfl (by kernel_rfl) (by kernel_rfl) (by kernel_rfl) (fun _ _ _ h => h) (Or.inl ⟨by rfl, ?hy4⟩) (by assumption) ?rest4
  case hy4 => (intro w hSw; (try dsimp only at hSw); first | (go_simp; done) | (go_simp; with_reducible rfl))
  simp only [List.getElem_toArray, List.getElem_cons_succ, List.getElem_cons_zero, Act.put, List.setIfInBounds_toArray, List.set_cons_zero, List.set_cons_succ]
  refine' wpAnyH_take (i := 4) (v := _) rfl (by kernel_rfl) (by kernel_rfl) (by kernel_rfl) (fun _ _ _ h => h) (Or.inl ⟨by rfl, ?hy5⟩) (by assumption) ?rest5
  case hy5 => (intro w hSw; (try dsimp only at hSw); first | (go_simp; done) | (go_simp; with_reducible rfl))
  simp only [List.getElem_toArray, List.getElem_cons_succ, List.getElem_cons_zero, Act.put, List.setIfInBounds_toArray, List.set_cons_zero, List.set_cons_succ]
  refine' wpAnyH_take (i := 5) (v := _) rfl (by kernel_rfl) (by kernel_rfl) (by kernel_rfl) (fun _ _ _ h => h) (Or.inl ⟨by rfl, ?hy6⟩) (by assumption) ?rest6
  case hy6 => (intro w hSw; (try dsimp only at hSw); first | (go_simp; done) | (go_simp; with_reducible rfl))
  simp only [List.getElem_toArray, List.getElem_cons_succ, List.getElem_cons_zero, Act.put, List.setIfInBounds_toArray, List.set_cons_zero, List.set_cons_succ]
  refine' wpAnyH_take (i := 6) (v := _) rfl (by kernel_rfl) (by kernel_rfl) (by kernel_rfl) (fun _ _ _ h => h) (Or.inl ⟨by rfl, ?hy7⟩) (by assumption) ?rest7
  case hy7 => (intro w hSw; (try dsimp only at hSw); first | (go_simp; done) | (go_simp; with_reducible rfl))
  simp only [List.getElem_toArray, List.getElem_cons_succ, List.getElem_cons_zero, Act.put, List.setIfInBounds_toArray, List.set_cons_zero, List.set_cons_succ]
  refine' wpAnyH_take (i := 7) (v := _) rfl (by kernel_rfl) (by kernel_rfl) (by kernel_rfl) (fun _ _ _ h => h) (Or.inl ⟨by rfl, ?hy8⟩) (by assumption) ?rest8
  case hy8 => (intro w hSw; (try dsimp only at hSw); first | (go_simp; done) | (go_simp; with_reducible rfl))
  simp only [List.getElem_toArray, List.getElem_cons_succ, List.getElem_cons_zero, Act.put, List.setIfInBounds_toArray, List.set_cons_zero, List.set_cons_succ]
  refine' wpAnyH_take (i := 8) (v := _) rfl (by kernel_rfl) (by kernel_rfl) (by kernel_rfl) (fun _ _ _ h => h) (Or.inl ⟨by rfl, ?hy9⟩) (by assumption) ?rest9
  case hy9 => (intro w hSw; (try dsimp only at hSw); first | (go_simp; done) | (go_simp; with_reducible rfl))
  simp only [List.getElem_toArray, List.getElem_cons_succ, List.getElem_cons_zero, Act.put, List.setIfInBounds_toArray, List.set_cons_zero, List.set_cons_succ]
  refine' wpAnyH_take (i := 9) (v := _) rfl (by kernel_rfl) (by kernel_rfl) (by kernel_rfl) (fun _ _ _ h => h) (Or.inl ⟨by rfl, ?hy10⟩) (by assumption) ?rest10
  case hy10 => (intro w hSw; (try dsimp only at hSw); first | (go_simp; done) | (go_simp; with_reducible rfl))
  simp only [List.getElem_toArray, List.getElem_cons_succ, List.getElem_cons_zero, Act.put, List.setIfInBounds_toArray, List.set_cons_zero, List.set_cons_succ]
  refine' wpAnyH_take (i := 10) (v := _) rfl (by kernel_rfl) (by kernel_rfl) (by kernel_rfl) (fun _ _ _ h => h) (Or.inl ⟨by rfl, ?hy11⟩) (by assumption) ?rest11
  case hy11 => (intro w hSw; (try dsimp only at hSw); first | (go_simp; done) | (go_simp; with_reducible rfl))
  simp only [List.getElem_toArray, List.getElem_cons_succ, List.getElem_cons_zero, Act.put, List.setIfInBounds_toArray, List.set_cons_zero, List.set_cons_succ]
  refine' wpAnyH_take (i := 11) (v := _) rfl (by kernel_rfl) (by kernel_rfl) (by kernel_rfl) (fun _ _ _ h => h) (Or.inl ⟨by rfl, ?hy12⟩) (by assumption) ?rest12
  case hy12 => (intro w hSw; (try dsimp only at hSw); first | (go_simp; done) | (go_simp; with_reducible rfl))
  simp only [List.getElem_toArray, List.getElem_cons_succ, List.getElem_cons_zero, Act.put, List.setIfInBounds_toArray, List.set_cons_zero, List.set_cons_succ]
  refine' wpAnyH_take (i := 12) (v := _) rfl (by kernel_rfl) (by kernel_rfl) (by kernel_rfl) (fun _ _ _ h => h) (Or.inl ⟨by rfl, ?hy13⟩) (by assumption) ?rest13
  case hy13 => (intro w hSw; (try dsimp only at hSw); first | (go_simp; done) | (go_simp; with_reducible rfl))
  simp only [List.getElem_toArray, List.getElem_cons_succ, List.getElem_cons_zero, Act.put, List.setIfInBounds_toArray, List.set_cons_zero, List.set_cons_succ]
  refine' wpAnyH_take (i := 14) (v := _) rfl (by kernel_rfl) (by kernel_rfl) (by kernel_rfl) (fun _ _ _ h => h) (Or.inl ⟨by rfl, ?hy14⟩) (by assumption) ?rest14
  case hy14 => (intro w hSw; (try dsimp only at hSw); first | (go_simp; done) | (go_simp; with_reducible rfl))
  simp only [List.getElem_toArray, List.getElem_cons_succ, List.getElem_cons_zero, Act.put, List.setIfInBounds_toArray, List.set_cons_zero, List.set_cons_succ]
  refine' wpAnyH_take (i := 15) (v := _) rfl (by kernel_rfl) (by kernel_rfl) (by kernel_rfl) (fun _ _ _ h => h) (Or.inl ⟨by rfl, ?hy15⟩) (by assumption) ?rest15
  case hy15 => (intro w hSw; (try dsimp only at hSw); first | (go_simp; done) | (go_simp; with_reducible rfl))
  simp only [List.getElem_toArray, List.getElem_cons_succ, List.getElem_cons_zero, Act.put, List.setIfInBounds_toArray, List.set_cons_zero, List.set_cons_succ]
  refine' wpAnyH_take (i := 16) (v := _) rfl (by kernel_rfl) (by kernel_rfl) (by kernel_rfl) (fun _ _ _ h => h) (Or.inl ⟨by rfl, ?hy16⟩) (by assumption) ?rest16
  case hy16 => (intro w hSw; (try dsimp only at hSw); first | (go_simp; done) | (go_simp; with_reducible rfl))
  simp only [List.getElem_toArray, List.getElem_cons_succ, List.getElem_cons_zero, Act.put, List.setIfInBounds_toArray, List.set_cons_zero, List.set_cons_succ]
  refine' wpAnyH_take (i := 17) (v := _) rfl (by kernel_rfl) (by kernel_rfl) (by kernel_rfl) (fun _ _ _ h => h) (Or.inl ⟨by rfl, ?hy17⟩) (by assumption) ?rest17
  case hy17 => (intro w hSw; (try dsimp only at hSw); first | (go_simp; done) | (go_simp; with_reducible rfl))
  simp only [List.getElem_toArray, List.getElem_cons_succ, List.getElem_cons_zero, Act.put, List.setIfInBounds_toArray, List.set_cons_zero, List.set_cons_succ]
  refine' wpAnyH_take (i := 18) (v := _) rfl (by kernel_rfl) (by kernel_rfl) (by kernel_rfl) (fun _ _ _ h => h) (Or.inl ⟨by rfl, ?hy18⟩) (by assumption) ?rest18
  case hy18 => (intro w hSw; (try dsimp only at hSw); first | (go_simp; done) | (go_simp; with_reducible rfl))
  simp only [List.getElem_toArray, List.getElem_cons_succ, List.getElem_cons_zero, Act.put, List.setIfInBounds_toArray, List.set_cons_zero, List.set_cons_succ]
  refine' wpAnyH_take (i := 19) (v := _) rfl (by kernel_rfl) (by kernel_rfl) (by kernel_rfl) (fun _ _ _ h => h) (Or.inl ⟨by rfl, ?hy19⟩) (by assumption) ?rest19
  case hy19 => (intro w hSw; (try dsimp only at hSw); first | (go_simp; done) | (go_simp; with_reducible rfl))
  simp only [List.getElem_toArray, List.getElem_cons_succ, List.getElem_cons_zero, Act.put, List.setIfInBounds_toArray, List.set_cons_zero, List.set_cons_succ]
  refine' wpAnyH_take (i := 20) (v := _) rfl (by kernel_rfl) (by kernel_rfl) (by kernel_rfl) (fun _ _ _ h => h) (Or.inl ⟨by rfl, ?hy20⟩) (by assumption) ?rest20
  case hy20 => (intro w hSw; (try dsimp only at hSw); first | (go_simp; done) | (go_simp; with_reducible rfl))
  simp only [List.getElem_toArray, List.getElem_cons_succ, List.getElem_cons_zero, Act.put, List.setIfInBounds_toArray, List.set_cons_zero, List.set_cons_succ]
  have e6a := e6
  refine wpAnyH_ready (rs := [13, 21]) (by kernel_rfl) (by simp) ?_
  refine AllReadyH.cons rfl (fun K' hK => ?_) (AllReadyH.cons rfl (fun K' hK => ?_) AllReadyH.nil)
  · (try simp only [List.getElem_toArray, List.getElem_cons_succ, List.getElem_cons_zero])
    go_simp
    refine hK.out _ _ hHeld (fun hHeld => ?_)
    clear hK K'
    (try simp only [Act.put, List.setIfInBounds_toArray, List.set_cons_zero, List.set_cons_succ])
    refine wpAnyH_ready (rs := [21]) (by kernel_rfl) (by simp) ?_
    refine AllReadyH.cons rfl (fun K' hK => ?_) AllReadyH.nil
    (try simp only [List.getElem_toArray, List.getElem_cons_succ, List.getElem_cons_zero])
    go_simp
    refine hK.out _ _ (hKeep.out _ (by repeat (first | exact (belowD (Below.refl _ _) _).alloc (Nat.le_refl _) _ | exact (belowD (Below.refl _ _) _).drew.alloc (Nat.le_refl _) _ | exact belowD (Below.refl _ _) _ | exact Below.refl _ _ | refine Below.drew ?_ | refine Below.alloc ?_ (Nat.le_refl _) _))) (fun hHeld => ?_)
    clear hK K'
    (try simp only [Act.put, List.setIfInBounds_toArray, List.set_cons_zero, List.set_cons_succ])
    refine wpAnyH_ready (rs := [22]) (by kernel_rfl) (by simp) ?_
    refine AllReadyH.cons rfl (fun K' hK => ?_) AllReadyH.nil
    (refine step_pushW (by rfl) _ _ (by rfl) (by rfl) (HRV.out _ (by repeat (first | exact (belowD (Below.refl _ _) _).alloc (Nat.le_refl _) _ | exact (belowD (Below.refl _ _) _).drew.alloc (Nat.le_refl _) _ | exact belowD (Below.refl _ _) _ | exact Below.refl _ _ | refine Below.drew ?_ | refine Below.alloc ?_ (Nat.le_refl _) _))) (by omega) ⟨W1.heap.size, 0, none⟩ ra 1 (by rfl) (cell_of_row _ _ 0 _ _ _ (heap_alloc_new _ _)) ?_; intro w' role' A' nn c' hr1 hr2 hr3 hr4 hr5 hr6; obtain ⟨q1, q2, q3, q4, HH⟩ := HPost.out _ (by repeat (first | exact (belowD (Below.refl _ _) _).alloc (Nat.le_refl _) _ | exact (belowD (Below.refl _ _) _).drew.alloc (Nat.le_refl _) _ | exact belowD (Below.refl _ _) _ | exact Below.refl _ _ | refine Below.drew ?_ | refine Below.alloc ?_ (Nat.le_refl _) _)) w' role' A' nn c' hr1 hr2 hr3 hr4 hr5 hr6; have hS1 := hPS.out w' role' hr2 hr5; have hS2 := hPS2.out w' (.slice A' nn c') hS1)
    refine hK.out _ _ (hS1) (fun hHeld => ?_)
    clear hK K'
    refine wpAnyH_ready (rs := [23]) (by kernel_rfl) (by simp) ?_
    refine AllReadyH.cons rfl (fun K' hK => ?_) AllReadyH.nil
    (try simp only [List.getElem_toArray, List.getElem_cons_succ, List.getElem_cons_zero])
    go_simp
    refine hK.out _ _ (hS1) (fun hHeld => ?_)
    clear hK K'
    (try simp only [Act.put, List.setIfInBounds_toArray, List.set_cons_zero, List.set_cons_succ])
    refine wpAnyH_ready (rs := [24]) (by kernel_rfl) (by simp) ?_
    refine AllReadyH.cons rfl (fun K' hK => ?_) AllReadyH.nil
    (try simp only [List.getElem_toArray, List.getElem_cons_succ, List.getElem_cons_zero])
    go_simp
    refine hK.out _ _ (hS2) (fun hHeld => ?_)
    clear hK K'
    (try simp only [Act.put, List.setIfInBounds_toArray, List.set_cons_zero, List.set_cons_succ])
    refine wpAnyH_end (by kernel_rfl) ?_
    go_wp2_with fail
    go_end0
    exact ⟨rfl, HH.out⟩
  · (try simp only [List.getElem_toArray, List.getElem_cons_succ, List.getElem_cons_zero])
    go_simp
    refine hK.out _ _ (hKeep.out _ (by repeat (first | exact (belowD (Below.refl _ _) _).alloc (Nat.le_refl _) _ | exact (belowD (Below.refl _ _) _).drew.alloc (Nat.le_refl _) _ | exact belowD (Below.refl _ _) _ | exact Below.refl _ _ | refine Below.drew ?_ | refine Below.alloc ?_ (Nat.le_refl _) _))) (fun hHeld => ?_)
    clear hK K'
    (try simp only [Act.put, List.setIfInBounds_toArray, List.set_cons_zero, List.set_cons_succ])
    refine wpAnyH_ready (rs := [13]) (by kernel_rfl) (by simp) ?_
    refine AllReadyH.cons rfl (fun K' hK => ?_) AllReadyH.nil
    (try simp only [List.getElem_toArray, List.getElem_cons_succ, List.getElem_cons_zero])
    go_simp
    refine hK.out _ _ (hHeld) (fun hHeld => ?_)
    clear hK K'
    (try simp only [Act.put, List.setIfInBounds_toArray, List.set_cons_zero, List.set_cons_succ])
    refine wpAnyH_ready (rs := [22]) (by kernel_rfl) (by simp) ?_
    refine AllReadyH.cons rfl (fun K' hK => ?_) AllReadyH.nil
    (refine step_pushW (by rfl) _ _ (by rfl) (by rfl) (HRV.out _ (by repeat (first | exact (belowD (Below.refl _ _) _).alloc (Nat.le_refl _) _ | exact (belowD (Below.refl _ _) _).drew.alloc (Nat.le_refl _) _ | exact belowD (Below.refl _ _) _ | exact Below.refl _ _ | refine Below.drew ?_ | refine Below.alloc ?_ (Nat.le_refl _) _))) (by omega) ⟨W1.heap.size, 0, none⟩ ra 1 (by rfl) (cell_of_row _ _ 0 _ _ _ (heap_alloc_new _ _)) ?_; intro w' role' A' nn c' hr1 hr2 hr3 hr4 hr5 hr6; obtain ⟨q1, q2, q3, q4, HH⟩ := HPost.out _ (by repeat (first | exact (belowD (Below.refl _ _) _).alloc (Nat.le_refl _) _ | exact (belowD (Below.refl _ _) _).drew.alloc (Nat.le_refl _) _ | exact belowD (Below.refl _ _) _ | exact Below.refl _ _ | refine Below.drew ?_ | refine Below.alloc ?_ (Nat.le_refl _) _)) w' role' A' nn c' hr1 hr2 hr3 hr4 hr5 hr6; have hS1 := hPS.out w' role' hr2 hr5; have hS2 := hPS2.out w' (.slice A' nn c') hS1)
    refine hK.out _ _ (hS1) (fun hHeld => ?_)
    clear hK K'
    refine wpAnyH_ready (rs := [23]) (by kernel_rfl) (by simp) ?_
    refine AllReadyH.cons rfl (fun K' hK => ?_) AllReadyH.nil
    (try simp only [List.getElem_toArray, List.getElem_cons_succ, List.getElem_cons_zero])
    go_simp
    refine hK.out _ _ (hS1) (fun hHeld => ?_)
    clear hK K'
    (try simp only [Act.put, List.setIfInBounds_toArray, List.set_cons_zero, List.set_cons_succ])
    refine wpAnyH_ready (rs := [24]) (by kernel_rfl) (by simp) ?_
    refine AllReadyH.cons rfl (fun K' hK => ?_) AllReadyH.nil
    (try simp only [List.getElem_toArray, List.getElem_cons_succ, List.getElem_cons_zero])
    go_simp
    refine hK.out _ _ (hS2) (fun hHeld => ?_)
    clear hK K'
    (try simp only [Act.put, List.setIfInBounds_toArray, List.set_cons_zero, List.set_cons_succ])
    refine wpAnyH_end (by kernel_rfl) ?_
    go_wp2_with fail
    go_end0
    exact ⟨rfl, HH.out⟩
end
end Go.Proofs.YtanlmfnhlldkeaaGreatDoor

namespace Go.Proofs.YtanlmfnhlldkeaaGreatDoor
open Go.RowKit
set_option maxRecDepth 100000
set_option linter.unusedVariables false

section
variable {role : Nat → Nat} {lo hi : Nat} {w : World} {p : Nat} {K : KF} {L : List (List Int)} {P : List Int} {q : Nat} {T : List Int} {s : KState} {t : Nat}
theorem step_any (h : KernAt role lo hi w p K L P q T s t) (hs : SysOk L P q T) {t' : Nat} (hI : KInv s t') (ht : t' < 2 ^ 20) {i : Nat} (hil : i < L.length) :
    Calls Tryz.prog 42 #[.pointer (some ⟨p, 0, none⟩), .int .i64 i] w fun e w' => e = .returned (.tuple #[]) ∧ StepPost role lo hi w p K L P q T (kstep (sysOps L) i s) t w' := by
  obtain ⟨_, _, _, ni, _, _, _, hli, _, _⟩ := h.progs.get hil
  have hd3 : (L.getD i []).length / 3 = ni := by rw [hli, Nat.mul_div_cancel _ (by decide)]
  have h12 := hs.short i hil
  have hget : (sysOps L i)[(s.parts i).pc]? = if (s.parts i).pc < ni then some (opAt (L.getD i []) (s.parts i).pc) else none := opsOf_get hli _
  by_cases hn : (s.parts i).pc < ni
  · rw [if_pos hn] at hget
    have hcode := hs.op i hil (s.parts i).pc (by omega)
    obtain ⟨hok, hf, hto⟩ := opCode_ok hcode
    have hst : kstep (sysOps L) i s = kdo (opAt (L.getD i []) (s.parts i).pc) i s := by unfold kstep; rw [hget]
    rw [hst]
    have hR := hI.regs i
    have nat_of : ∀ x : Int, 0 ≤ x → x ≤ 999999 → ∃ n : Nat, x = n ∧ n ≤ 999999 := fun x h1 h2 => ⟨x.toNat, by omega, by omega⟩
    have hS := hI.shown i
    rcases opOk_cases hok with ⟨e, r1, r2⟩ | ⟨e, r1, r2⟩ | ⟨e, r1, r2⟩ | ⟨e, r1, r2⟩ | ⟨e, r1, r2⟩ | ⟨e, r1⟩
    · obtain ⟨a, ha⟩ := Int.eq_ofNat_of_zero_le r1.1
      obtain ⟨b, hb⟩ := Int.eq_ofNat_of_zero_le r2.1
      have := step_put h hil (pc := (s.parts i).pc) (a := a) (b := b) rfl (by omega) (by omega) e ha hb (by omega) (by omega)
      unfold kdo
      dsimp only
      rw [if_pos e, ha, hb, Int.toNat_natCast]; exact this
    · obtain ⟨a, ha⟩ := Int.eq_ofNat_of_zero_le r1.1
      obtain ⟨b, hb⟩ := Int.eq_ofNat_of_zero_le r2.1
      obtain ⟨ra, hra, la⟩ := nat_of _ (hR a).1 (hR a).2
      obtain ⟨rb, hrb, lb⟩ := nat_of _ (hR b).1 (hR b).2
      have := step_plus h hil (pc := (s.parts i).pc) (a := a) (b := b) rfl (by omega) (by omega) e ha hb (by omega) (by omega) hra hrb la lb
      unfold kdo
      dsimp only
      rw [if_neg (by omega), if_pos e, ha, hb, Int.toNat_natCast, Int.toNat_natCast, hra, hrb]
      rwa [show (((ra + rb) % 1000000 : Nat) : Int) = ((ra : Int) + rb) % 1000000 by omega] at this
    · obtain ⟨a, ha⟩ := Int.eq_ofNat_of_zero_le r1.1
      obtain ⟨b, hb⟩ := Int.eq_ofNat_of_zero_le r2.1
      obtain ⟨ra, hra, la⟩ := nat_of _ (hR a).1 (hR a).2
      unfold kdo
      dsimp only
      rw [if_neg (by omega), if_neg (by omega), if_pos e, ha, hb, Int.toNat_natCast, Int.toNat_natCast, hra]
      split
      · rename_i h4
        exact step_send h hil (pc := (s.parts i).pc) (a := a) (b := b) rfl (by omega) (by omega) e ha hb (by omega) (by omega) hra h4
      · rename_i h4
        exact step_full h hil (pc := (s.parts i).pc) (a := a) (b := b) rfl (by omega) (by omega) e ha hb (by omega) (by omega) (by omega) (by have := (hI.held b).1; omega)
    · obtain ⟨a, ha⟩ := Int.eq_ofNat_of_zero_le r1.1
      obtain ⟨b, hb⟩ := Int.eq_ofNat_of_zero_le r2.1
      unfold kdo
      dsimp only
      rw [if_neg (by omega), if_neg (by omega), if_neg (by omega), if_pos e, ha, hb, Int.toNat_natCast, Int.toNat_natCast]
      have hH := hI.held b
      cases hl : s.held b with
      | nil => exact step_hush h hil (pc := (s.parts i).pc) (a := a) (b := b) rfl (by omega) (by omega) e ha hb (by omega) (by omega) hl
      | cons m l =>
        rw [hl] at hH
        obtain ⟨mn, rfl, lm⟩ := nat_of m (hH.2 m (List.mem_cons_self ..)).1 (hH.2 m (List.mem_cons_self ..)).2
        exact step_get h hil (pc := (s.parts i).pc) (a := a) (b := b) rfl (by omega) (by omega) e ha hb (by omega) (by omega) hl (by have := hH.1; simp at this; omega)
    · obtain ⟨a, ha⟩ := Int.eq_ofNat_of_zero_le r1.1
      obtain ⟨b, hb⟩ := Int.eq_ofNat_of_zero_le r2.1
      obtain ⟨rb, hrb, lb⟩ := nat_of _ (hR b).1 (hR b).2
      unfold kdo
      dsimp only
      rw [if_neg (by omega), if_neg (by omega), if_neg (by omega), if_neg (by omega), if_pos e, ha, hb, Int.toNat_natCast, Int.toNat_natCast, hrb]
      by_cases h0 : rb = 0
      · rw [if_neg (by simp [h0])]
        exact step_stay h hil (pc := (s.parts i).pc) (a := a) (b := b) rfl (by omega) (by omega) e ha hb (by omega) (by omega) hrb h0
      · rw [if_pos (by omega)]
        exact step_jump h hil (pc := (s.parts i).pc) (a := a) (b := b) rfl (by omega) (by omega) e ha hb (by omega) (by omega) hrb h0
    · obtain ⟨a, ha⟩ := Int.eq_ofNat_of_zero_le r1.1
      obtain ⟨ra, hra, la⟩ := nat_of _ (hR a).1 (hR a).2
      unfold kdo
      dsimp only
      rw [if_neg (by omega), if_neg (by omega), if_neg (by omega), if_neg (by omega), if_neg (by omega), if_pos e, ha, Int.toNat_natCast, hra]
      exact step_show h hil (pc := (s.parts i).pc) (a := a) (b := (opAt (L.getD i []) (s.parts i).pc).b) rfl (by omega) (by omega) e ha rfl (by omega) hra (by omega)
  · rw [if_neg hn] at hget
    have hst : kstep (sysOps L) i s = s := by unfold kstep; rw [hget]
    rw [hst]
    exact step_none h hil (by omega)
end
end Go.Proofs.YtanlmfnhlldkeaaGreatDoor

namespace Go.Proofs.YtanlmfnhlldkeaaGreatDoor
open Go.RowKit
set_option maxRecDepth 100000
set_option linter.unusedVariables false

/-- The blocks from one number on. -/
abbrev fromB (lo : Nat) : Nat → Prop := fun b => lo ≤ b
theorem IntsIn.below' {ok : Nat → Prop} {w w' : World} {A : Option Addr} {l : List Int} {B : Nat} (h : IntsIn ok w A l) (hb : Below B w w') (hB : w.heap.size ≤ B) : IntsIn ok w' A l := h.keep fun b h1 _ => hb.block b (by omega)
/-- A slice whose ints lie in a block of one's own. -/
def OwnIn (lo : Nat) (w : World) (A : Option Addr) (e : TypeId) (l : List Int) : Prop := l ≠ [] → ∃ g, A = some ⟨g, 0, none⟩ ∧ lo ≤ g ∧ OwnAt w g e (l.map (.int .i64))
section
variable {lo lo' : Nat} {w w' : World} {A : Option Addr} {e t : TypeId} {l : List Int}
theorem OwnIn.nil : OwnIn lo w A e [] := fun h => absurd rfl h
theorem OwnIn.intsIn (h : OwnIn lo w A e l) : IntsIn (fromB lo) w A l := fun hl => by
  obtain ⟨g, hA, hg, ho⟩ := h hl
  exact ⟨g, 0, hA, hg, fun j x hx => by rw [Nat.zero_add]; exact ho.cell (by rw [List.getElem?_map, hx]; rfl)⟩
theorem OwnIn.at_ (h : OwnIn lo w A e l) : IntsAt w A l := h.intsIn.at_
theorem OwnIn.lower (h : OwnIn lo w A e l) (hl : lo' ≤ lo) : OwnIn lo' w A e l := fun hne => by
  obtain ⟨g, hA, hg, ho⟩ := h hne
  exact ⟨g, hA, Nat.le_trans hl hg, ho⟩
theorem OwnIn.below' {B : Nat} (h : OwnIn lo w A e l) (hb : Below B w w') (hB : w.heap.size ≤ B) : OwnIn lo w' A e l := fun hne => by
  obtain ⟨g, hA, hg, ho⟩ := h hne
  exact ⟨g, hA, hg, ho.below hb (Nat.lt_of_lt_of_le ho.lt hB)⟩
theorem OwnIn.set {p : Nat} {vs : Array Value} (h : OwnIn lo w A e l) (hx : BoxN w p t vs) (ht : e ≠ t) (k : Nat) (v : Value) : OwnIn lo (w.setCell ⟨p, k, none⟩ v) A e l := fun hne => by
  obtain ⟨g, hA, hg, ho⟩ := h hne
  exact ⟨g, hA, hg, ho.far (a := ⟨p, k, none⟩) (ho.ne_box hx ht) v⟩
theorem OwnIn.grown {base size n : Nat} {v : Value} {xs : List Value} (h : OwnIn lo w A e l) (hg : w.grownBy w' v.ownBlock) (ho : w.ownsRow base t size v n xs) (ht : e ≠ t) : OwnIn lo w' A e l := fun hne => by
  obtain ⟨g, hA, hl, hw⟩ := h hne
  refine ⟨g, hA, hl, hw.block (hg.block g hw.lt fun eq => ?_)⟩
  rcases ho.2 with ⟨rfl, _⟩ | ⟨g', cap, cur, rfl, _, hc, _⟩
  · cases eq
  · injection eq with eq
    have eq : g = g' := eq
    subst eq
    obtain ⟨cur', hc', _⟩ := hw
    rw [hc] at hc'
    injection hc' with hc'
    injection hc' with _ h2
    exact ht h2.symm
end
theorem own_ownIn {w : World} {base size n c : Nat} {e : TypeId} {A : Option Addr} {l : List Int} (h : w.ownsRow base e size (.slice A n c) n (l.map (.int .i64))) : OwnIn base w A e l := fun hl => by
  rcases h.2 with ⟨_, h0⟩ | ⟨g, cap, cur, hv, hb, hg, hnc, _, hs, ht⟩
  · have := h.1; rw [h0, Nat.zero_mul] at this; exact absurd (List.map_eq_nil_iff.1 (List.length_eq_zero_iff.1 this)) hl
  · refine ⟨g, by injection hv, hb, cur, hg, ?_, ?_⟩
    · have h1 := h.1
      rw [hs, h1]
      exact Nat.mul_le_mul_right _ hnc
    · intro j v hj
      rw [← ht, List.getElem?_take] at hj
      split at hj
      · simpa using hj
      · cases hj

theorem eIO : EInfo Tryz.prog 55 58 3 24 := EInfo.of (z := .agg #[.int .i64 0, .int .i64 0, .int .i64 0]) Tryz.underlying55 (by kernel_rfl) rfl (by decide)
set_option maxHeartbeats 400000 in
theorem CloneO_new (L : List Int) (n : Nat) (hL : L.length = n * 3) (A : Option Addr) (c : Nat) (w : World) (h : IntsAt w A L) (hn : n ≤ 1000000) :
    Calls Tryz.prog 57 #[.slice A n c] w fun e w' => (∃ A' c', e = .returned (.slice A' n c') ∧ OwnIn w.heap.size w' A' 58 L) ∧ Below w.heap.size w w' := by
  have q22 := fun (w : World) (a : Option Addr) (n c n' c' : Nat) => Lib.run_eql_slice_nil w _ _ a n c n' c' Tryz.underlying55
  cases A with
  | none =>
    have hL0 : L = [] := Classical.byContradiction fun e => by obtain ⟨b, off, hA, _⟩ := h e; cases hA
    subst hL0
    obtain rfl : n = 0 := by simp at hL; omega
    go_enter Tryz.func57, Tryz.ntmps57
    go_wp2
    go_ret
    exact ⟨⟨none, 0, rfl, OwnIn.nil⟩, Below.refl _ _⟩
  | some a =>
    have hown : (w.alloc (.cells #[] 58)).ownsRow w.heap.size 58 3 (.slice (some ⟨w.heap.size, 0, none⟩) 0 0) 0 [] := ⟨rfl, .inr ⟨w.heap.size, 0, #[], rfl, Nat.le_refl _, heap_alloc_new w _, Nat.le_refl _, by unfold maxLen; omega, rfl, rfl⟩⟩
    have hcells : CellsAt (w.alloc (.cells #[] 58)) (some a) (L.map (.int .i64)) := (h.below ((Below.refl _ w).alloc (Nat.le_refl _) _)).cells
    have Hc := Lib.hid h
    go_enter Tryz.func57, Tryz.ntmps57
    go_wp2_with (at_builtin; refine wpList_append_cells rfl _ _ rfl eIO rfl hown (some a) n c (L.map (.int .i64)) rfl hcells (by simp [hL]) (fun u hu => by obtain ⟨x, _, rfl⟩ := List.mem_map.1 hu; rfl) (by omega) (by omega) (by simp) ?_; intro v' w1 hp)
    have hbl : Below w.heap.size w w1 := hp.below hown ((Below.refl _ w).alloc (Nat.le_refl _) _) (by simp)
    have hown1 := hp.own
    rw [Nat.zero_add, List.nil_append] at hown1
    obtain ⟨A', c', rfl⟩ := ownsRow_form hown1
    clear hp
    go_wp2
    go_ret
    exact ⟨⟨A', c', rfl, own_ownIn hown1⟩, hbl⟩

theorem eIP : EInfo Tryz.prog 23 54 2 16 := EInfo.of (z := .agg #[.int .i64 0, .int .i64 0]) Tryz.underlying23 (by kernel_rfl) rfl (by decide)
set_option maxHeartbeats 400000 in
theorem CloneP_new (L : List Int) (n : Nat) (hL : L.length = n * 2) (A : Option Addr) (c : Nat) (w : World) (h : IntsAt w A L) (hn : n ≤ 1000000) :
    Calls Tryz.prog 56 #[.slice A n c] w fun e w' => (∃ A' c', e = .returned (.slice A' n c') ∧ OwnIn w.heap.size w' A' 54 L) ∧ Below w.heap.size w w' := by
  have q22 := fun (w : World) (a : Option Addr) (n c n' c' : Nat) => Lib.run_eql_slice_nil w _ _ a n c n' c' Tryz.underlying23
  cases A with
  | none =>
    have hL0 : L = [] := Classical.byContradiction fun e => by obtain ⟨b, off, hA, _⟩ := h e; cases hA
    subst hL0
    obtain rfl : n = 0 := by simp at hL; omega
    go_enter Tryz.func56, Tryz.ntmps56
    go_wp2
    go_ret
    exact ⟨⟨none, 0, rfl, OwnIn.nil⟩, Below.refl _ _⟩
  | some a =>
    have hown : (w.alloc (.cells #[] 54)).ownsRow w.heap.size 54 2 (.slice (some ⟨w.heap.size, 0, none⟩) 0 0) 0 [] := ⟨rfl, .inr ⟨w.heap.size, 0, #[], rfl, Nat.le_refl _, heap_alloc_new w _, Nat.le_refl _, by unfold maxLen; omega, rfl, rfl⟩⟩
    have hcells : CellsAt (w.alloc (.cells #[] 54)) (some a) (L.map (.int .i64)) := (h.below ((Below.refl _ w).alloc (Nat.le_refl _) _)).cells
    have Hc := Lib.hid h
    go_enter Tryz.func56, Tryz.ntmps56
    go_wp2_with (at_builtin; refine wpList_append_cells rfl _ _ rfl eIP rfl hown (some a) n c (L.map (.int .i64)) rfl hcells (by simp [hL]) (fun u hu => by obtain ⟨x, _, rfl⟩ := List.mem_map.1 hu; rfl) (by omega) (by omega) (by simp) ?_; intro v' w1 hp)
    have hbl : Below w.heap.size w w1 := hp.below hown ((Below.refl _ w).alloc (Nat.le_refl _) _) (by simp)
    have hown1 := hp.own
    rw [Nat.zero_add, List.nil_append] at hown1
    obtain ⟨A', c', rfl⟩ := ownsRow_form hown1
    clear hp
    go_wp2
    go_ret
    exact ⟨⟨A', c', rfl, own_ownIn hown1⟩, hbl⟩

theorem eII : EInfo Tryz.prog 24 3 1 8 := EInfo.of (z := .int .i64 0) Tryz.underlying24 (by kernel_rfl) rfl (by decide)
set_option maxHeartbeats 400000 in
theorem CloneI_new (L : List Int) (n : Nat) (hL : L.length = n * 1) (A : Option Addr) (c : Nat) (w : World) (h : IntsAt w A L) (hn : n ≤ 1000000) :
    Calls Tryz.prog 31 #[.slice A n c] w fun e w' => (∃ A' c', e = .returned (.slice A' n c') ∧ OwnIn w.heap.size w' A' 3 L) ∧ Below w.heap.size w w' := by
  have q22 := fun (w : World) (a : Option Addr) (n c n' c' : Nat) => Lib.run_eql_slice_nil w _ _ a n c n' c' Tryz.underlying24
  cases A with
  | none =>
    have hL0 : L = [] := Classical.byContradiction fun e => by obtain ⟨b, off, hA, _⟩ := h e; cases hA
    subst hL0
    obtain rfl : n = 0 := by simp at hL; omega
    go_enter Tryz.func31, Tryz.ntmps31
    go_wp2
    go_ret
    exact ⟨⟨none, 0, rfl, OwnIn.nil⟩, Below.refl _ _⟩
  | some a =>
    have hown : (w.alloc (.cells #[] 3)).ownsRow w.heap.size 3 1 (.slice (some ⟨w.heap.size, 0, none⟩) 0 0) 0 [] := ⟨rfl, .inr ⟨w.heap.size, 0, #[], rfl, Nat.le_refl _, heap_alloc_new w _, Nat.le_refl _, by unfold maxLen; omega, rfl, rfl⟩⟩
    have hcells : CellsAt (w.alloc (.cells #[] 3)) (some a) (L.map (.int .i64)) := (h.below ((Below.refl _ w).alloc (Nat.le_refl _) _)).cells
    have Hc := Lib.hid h
    go_enter Tryz.func31, Tryz.ntmps31
    go_wp2_with (at_builtin; refine wpList_append_cells rfl _ _ rfl eII rfl hown (some a) n c (L.map (.int .i64)) rfl hcells (by simp [hL]) (fun u hu => by obtain ⟨x, _, rfl⟩ := List.mem_map.1 hu; rfl) (by omega) (by omega) (by simp) ?_; intro v' w1 hp)
    have hbl : Below w.heap.size w w1 := hp.below hown ((Below.refl _ w).alloc (Nat.le_refl _) _) (by simp)
    have hown1 := hp.own
    rw [Nat.zero_add, List.nil_append] at hown1
    obtain ⟨A', c', rfl⟩ := ownsRow_form hown1
    clear hp
    go_wp2
    go_ret
    exact ⟨⟨A', c', rfl, own_ownIn hown1⟩, hbl⟩
end Go.Proofs.YtanlmfnhlldkeaaGreatDoor

namespace Go.Proofs.YtanlmfnhlldkeaaGreatDoor
open Go.RowKit
set_option maxRecDepth 100000
set_option linter.unusedVariables false

section
variable {role : Nat → Nat} {lo hi : Nat} {w : World} {p : Nat} {K : KF} {L : List (List Int)} {P : List Int} {q : Nat} {T : List Int} {s : KState} {t : Nat}
theorem Run_bad1 (h : KernAt role lo hi w p K L P q T s t) (n : Int) (hn : ¬ (0 ≤ n ∧ n ≤ 300)) :
    Calls Tryz.prog 18 #[.pointer (some ⟨p, 0, none⟩), .int .i64 n] w fun e w' => e = .returned (.iface 63 (.int .i64 1)) ∧ w = w' := by
  have W0 := Lib.hid (fun V => Within3_is n 0 300 false V (decide_eq_false hn))
  clear h hn
  go_enter Tryz.func18, Tryz.ntmps18
  go_wp2_with (with_reducible refine (W0.out _).mono ?_; rintro e w' ⟨rfl, rfl⟩)
  go_ret
  exact ⟨rfl, rfl⟩
theorem Run_bad4 (h : KernAt role lo hi w p K L P q T s t) (n : Int) (hn : 0 ≤ n ∧ n ≤ 300) (ht : n > 300 - (t : Int)) (ht2 : t ≤ 1000) :
    Calls Tryz.prog 18 #[.pointer (some ⟨p, 0, none⟩), .int .i64 n] w fun e w' => e = .returned (.iface 63 (.int .i64 4)) ∧ w = w' := by
  have W0 := Lib.hid (fun V => Within3_is n 0 300 true V (decide_eq_true hn))
  obtain ⟨-, -, -, -, -, x5⟩ := h.words
  have hd : decide (n > 300 - (t : Int)) = true := decide_eq_true ht
  clear h hn
  go_enter Tryz.func18, Tryz.ntmps18
  go_wp2_with (with_reducible refine (W0.out _).mono ?_; rintro e w' ⟨rfl, rfl⟩)
  go_ret
  exact ⟨rfl, rfl⟩

def RunPost (role : Nat → Nat) (lo hi : Nat) (w : World) (p : Nat) (K : KF) (L : List (List Int)) (P : List Int) (q : Nat) (T : List Int) (s' : KState) (t : Nat) (w' : World) : Prop := ∃ role', KernAt role' lo hi w' p K L P q T s' t ∧ RoleTo role w role' w'
set_option maxHeartbeats 4000000 in
theorem Run_ok (h : KernAt role lo hi w p K L P q T s t) (hs : SysOk L P q T) {t' : Nat} (hI : KInv s t') (ht' : t' ≤ 10000) (n : Nat) (hn : n ≤ 300) (hnt : t + n ≤ 300) :
    Calls Tryz.prog 18 #[.pointer (some ⟨p, 0, none⟩), .int .i64 n] w fun e w' => e = .returned .nilIface ∧ RunPost role lo hi w p K L P q T (kturns (sysOps L) (turnsFrom T t n) s) (t + n) w' := by
  have W0 := Lib.hid (fun V => Within3_is (n : Int) 0 300 true V (decide_eq_true (by omega)))
  obtain ⟨-, -, -, -, -, x5⟩ := h.words
  have hd : decide ((n : Int) > 300 - (t : Int)) = false := decide_eq_false (by omega)
  have HS := Lib.hid hs
  have HK := Lib.hid h
  have HI := Lib.hid hI
  clear h hI hs
  go_enter Tryz.func18, Tryz.ntmps18
  go_wp2_with (with_reducible refine (W0.out _).mono ?_; rintro e w' ⟨rfl, rfl⟩)
  go_loopw [18] (fun i wr => ∃ (j : Nat) (rj : Nat → Nat), j ≤ n ∧ i = .int .i64 j ∧ Hid (KernAt rj lo hi wr p K L P q T (kturns (sysOps L) (turnsFrom T t j) s) (t + j)) ∧ Hid (RoleTo role w rj wr)) (fun i _ => n - (intOf i).toNat)
  case atStart => exact ⟨0, role, Nat.zero_le _, rfl, by rw [turnsFrom_zero]; exact HK, Lib.hid (RoleTo.refl _ _)⟩
  case round =>
    clear x5 hd W0
    obtain ⟨j, rj, hj, rfl, HKj, HTj⟩ := hrel
    by_cases hlt : j < n
    · have hK := HKj.out
      have hT4 := HS.out.turns
      obtain ⟨b, off, hA, c0⟩ := turn_cell hK.turns (i := (t + j) % T.length) (Nat.mod_lt _ (by omega))
      have hti := HS.out.turn ((t + j) % T.length) (Nat.mod_lt _ (by omega))
      have hsn := turnsFrom_succ T t j
      have hIj := HI.out.turns HS.out (turnsFrom T t j)
      have hlen : (turnsFrom T t j).length = j := by simp [turnsFrom]
      rw [hlen] at hIj
      obtain ⟨pi, hpi⟩ := Int.eq_ofNat_of_zero_le hti.1
      rw [hpi, Int.toNat_natCast] at hsn
      have hpl : pi < L.length := by omega
      have hst := Lib.hid (fun V (hV : Below wr.heap.size wr V) => (step_any (hK.below hV) HS.out hIj (by omega) (i := pi) hpl).mono fun e w' ⟨he, r2, k2, t2⟩ => (⟨he, r2, Lib.hid k2, Lib.hid ((RoleTo.trans HTj.out (RoleTo.below rj hV)).trans t2), k2.words.2.2.2.2.2, k2.box.free 5⟩ : e = Ending.returned (.tuple #[]) ∧ ∃ r2, Hid (KernAt r2 lo hi w' p K L P q T (kstep (sysOps L) pi (kturns (sysOps L) (turnsFrom T t j) s)) (t + j)) ∧ Hid (RoleTo role w r2 w') ∧ w'.cell? ⟨p, 5, none⟩ = some (Value.int .i64 (t + j : Nat)) ∧ w'.frozen? ⟨p, 5, none⟩ = false))
      obtain ⟨-, -, x2, -, -, x5⟩ := hK.words
      rw [hA] at x2
      rw [hpi] at c0
      have Hsn := Lib.hid hsn
      have htl : T.length ≤ 12 := by omega
      have htj : t + j < 300 := by omega
      have hbj := belowD (Below.refl wr.heap.size wr) 1
      clear hK hsn hIj hti hpi hA HKj HTj
      have HN := Lib.hid (show t + (j + 1) = t + j + 1 by omega)
      have hm2 : (t + j) % T.length < T.length := Nat.mod_lt _ (by omega)
      have htl0 : 0 < T.length := by omega
      generalize t + j = tj at *
      generalize T.length = m at *
      have hm0 : m ≠ 0 := by omega
      have hrem : (tj : Int).tmod m = ((tj % m : Nat) : Int) := by rw [Int.tmod_eq_emod_of_nonneg (by omega)]; rfl
      generalize tj % m = r at *
      go_wp2_with fail
      refine wp_still_tailD 19 (by kernel_rfl) (by kernel_rfl) ?_
      simp only [List.take_succ_cons, List.take_zero, List.drop_succ_cons, List.drop_zero]
      repeat still_step
      refine wpStill_nil ?_
      go_wp2_with (go_at_call 42; with_reducible refine (hst.out _ hbj).mono ?_; rintro e w2 ⟨rfl, r2, k2, t2, q1, q2⟩)
      refine ⟨⟨j + 1, r2, ?ya, ?yb, ?yc, ?ye⟩, ?yd⟩
      case ya => omega
      case yb => go_num
      case yc =>
        refine Lib.hid ?_
        rw [Hsn.out, kturns_snoc, HN.out]
        exact k2.out.setTick (tj + 1)
      case ye => exact Lib.hid (t2.out.setCell (a := ⟨p, 5, none⟩) (by show role p ≠ 0; rw [HK.out.rp]; decide) _)
      case yd => simp [intOf]; omega
    · obtain rfl : j = n := by omega
      go_wp2_with fail
      go_ret
      exact ⟨rfl, rj, HKj.out, HTj.out⟩

theorem Shown_any (h : KernAt role lo hi w p K L P q T s t) {i : Nat} (hil : i < L.length) (hl : L.length ≤ 5) (hsh : (s.parts i).shown.length ≤ 100000) :
    Calls Tryz.prog 20 #[.pointer (some ⟨p, 0, none⟩), .int .i64 i] w fun e w' => (∃ A c, e = .returned (.slice A (s.parts i).shown.length c) ∧ OwnIn w.heap.size w' A 3 (s.parts i).shown) ∧ Below w.heap.size w w' := by
  obtain ⟨-, -, -, x3, -, -⟩ := h.words
  obtain ⟨-, -, ⟨v, e5, r5⟩, -⟩ := h.part hil
  obtain ⟨A, c, rfl, iA⟩ := r5.form
  have W0 := Lib.hid (fun V => Within3_is (i : Int) 0 ((L.length : Int) - 1) true V (decide_eq_true (by omega)))
  have C0 := Lib.hid (CloneI_new (s.parts i).shown (s.parts i).shown.length (by omega) A c w iA (by omega))
  generalize (s.parts i).shown = l at *
  clear h r5 iA
  go_enter Tryz.func20, Tryz.ntmps20
  go_wp2_with (first | (go_at_call 41; with_reducible refine (W0.out _).mono ?_; rintro e w' ⟨rfl, rfl⟩) | (go_at_call 31; with_reducible refine C0.out.mono ?_; rintro e w' ⟨⟨A', c', rfl, o1⟩, hb⟩))
  go_ret
  exact ⟨⟨A', c', rfl, o1⟩, hb⟩
theorem Tick_any (h : KernAt role lo hi w p K L P q T s t) : Calls Tryz.prog 13 #[.pointer (some ⟨p, 0, none⟩)] w fun e w' => e = .returned (.int .i64 t) ∧ w = w' := by
  obtain ⟨-, -, -, -, -, x5⟩ := h.words
  clear h
  go_enter Tryz.func13, Tryz.ntmps13
  go_wp2_with fail
  go_ret
  exact ⟨rfl, rfl⟩
end
end Go.Proofs.YtanlmfnhlldkeaaGreatDoor

namespace Go.Proofs.YtanlmfnhlldkeaaGreatDoor
open Go.RowKit
set_option maxRecDepth 100000
set_option linter.unusedVariables false

/-- The numbers of a part. -/
def partNums (x : KPlace) : List Int := ([(x.pc : Int)] ++ [x.regs 0, x.regs 1, x.regs 2, x.regs 3]) ++ x.shown
def saveP (s : KState) (t : Nat) : Nat → List UInt8
  | 0 => wordsT [(t : Int)] ++ [10]
  | i + 1 => (saveP s t i ++ wordsT (partNums (s.parts i))) ++ [10]
def saveH (s : KState) (t n : Nat) : Nat → List UInt8
  | 0 => saveP s t n
  | j + 1 => (saveH s t n j ++ wordsT (s.held j)) ++ [10]
theorem partNums_len (x : KPlace) : (partNums x).length = 5 + x.shown.length := by simp [partNums]; omega
def Small (l : List Int) : Prop := ∀ x ∈ l, -9223372036854775808 ≤ x ∧ x ≤ 9223372036854775807
theorem KInv.nums {s : KState} {u : Nat} (h : KInv s u) (i : Nat) : Small (partNums (s.parts i)) := fun x hx => by
  unfold partNums at hx
  simp only [List.mem_append, List.mem_cons, List.not_mem_nil, or_false] at hx
  have hp := h.pc i
  have hr := h.regs i
  rcases hx with (rfl | rfl | rfl | rfl | rfl) | hx
  · omega
  · have := hr 0; omega
  · have := hr 1; omega
  · have := hr 2; omega
  · have := hr 3; omega
  · have := (h.shown i).2 x hx; omega
theorem KInv.heldSmall {s : KState} {u : Nat} (h : KInv s u) (j : Nat) : Small (s.held j) := fun x hx => by have := (h.held j).2 x hx; omega
theorem wordsT_len {l : List Int} (h : Small l) : (wordsT l).length ≤ 22 * l.length := wTo_len h _
theorem tick_small {t : Nat} (ht : t ≤ 300) : Small [(t : Int)] := fun x hx => by rw [List.mem_singleton] at hx; subst hx; omega
theorem saveP_len {s : KState} {u t : Nat} (h : KInv s u) (hu : u ≤ 100000) (ht : t ≤ 300) : ∀ i, (saveP s t i).length ≤ 23 + i * 2300000
  | 0 => by
    have := wordsT_len (tick_small ht)
    rw [saveP, List.length_append]; simp at this ⊢; omega
  | i + 1 => by
    have h1 := saveP_len h hu ht i
    have h2 := wordsT_len (h.nums i)
    rw [partNums_len] at h2
    have h3 := (h.shown i).1
    rw [saveP, List.length_append, List.length_append, List.length_singleton]
    omega
theorem saveH_len {s : KState} {u t n : Nat} (h : KInv s u) (hu : u ≤ 100000) (ht : t ≤ 300) (hn : n ≤ 5) : ∀ j, (saveH s t n j).length ≤ 12000000 + j * 100
  | 0 => by have := saveP_len h hu ht n; rw [saveH]; omega
  | j + 1 => by
    have h1 := saveH_len h hu ht hn j
    have h2 := wordsT_len (h.heldSmall j)
    have h3 := (h.held j).1
    rw [saveH, List.length_append, List.length_append, List.length_singleton]
    omega

theorem own_one (V : World) (x : Int) {base : Nat} (hb : base ≤ V.heap.size) : OwnI (V.alloc (.cells #[.int .i64 x] 3)) base (.slice (some ⟨V.heap.size, 0, none⟩) 1 1) [x] :=
  ⟨by simp, .inr ⟨V.heap.size, 1, #[.int .i64 x], rfl, hb, heap_alloc_new V _, by simp, by decide, rfl, by simp⟩⟩
theorem int_ne_u8 : (3 : TypeId) ≠ 5 := by decide
theorem intRow_own {w : World} {base b n c : Nat} {A : Option Addr} {l : List Int} (h : OwnI w base (.slice A n c) l) (hb : b < base) : IntRow b w A l := by
  obtain ⟨A', c', hv, hi⟩ := h.form
  injection hv with e1 e2 e3
  subst e1
  refine ⟨hi, fun g off e hl => ?_⟩
  rcases h.2 with ⟨h0, h1⟩ | ⟨g', cap, cur, hv, hg, hc, _⟩
  · injection h0 with h0
    rw [e] at h0; cases h0
  · injection hv with hv
    rw [e] at hv
    injection hv with hv
    injection hv with hv
    subst hv
    exact ⟨by omega, cur, _, _, hc, int_ne_u8⟩
theorem intRow_one (V : World) (x : Int) {b : Nat} (hb : b < V.heap.size) : IntRow b (V.alloc (.cells #[.int .i64 x] 3)) (some ⟨V.heap.size, 0, none⟩) [x] :=
  intRow_own (base := V.heap.size) (own_one V x (Nat.le_refl _)) hb
theorem intRow_row {role : Nat → Nat} {code b n c : Nat} {w : World} {A : Option Addr} {l : List Int} (h : RowW role code w (.slice A n c) l) (hc : code ≠ 0) (hb : role b = 0) : IntRow b w A l := by
  obtain ⟨A', c', hv, hi⟩ := h.form
  injection hv with e1 e2 e3
  subst e1
  refine ⟨hi, fun g off e hl => ?_⟩
  rcases h with ⟨h0, h1⟩ | ⟨g', off', c'', cur, hv, _, _, hh, _, hr, _⟩
  · exact absurd h1 hl
  · injection hv with hv
    rw [e] at hv
    injection hv with hv
    injection hv with hv
    subst hv
    exact ⟨fun e2 => by rw [e2, hb] at hr; exact hc hr.symm, cur, _, _, hh, int_ne_u8⟩
theorem slice_all (V : World) (g : Nat) : (Instr.sliceAt 74 (.pointer (some ⟨g, 1, none⟩)) none none none).run Tryz.prog V = .ok (.slice (some ⟨g, 1, none⟩) 4 4) V := by
  simp [Instr.sliceAt, Instr.sliceBounds, go_sem]
/-- 'append(l, m..)' at slices of ints, at a step of a region that draws. -/
theorem step_join_int {w : World} {ops : Array Oper} {o : Oper} {a : Act} {K : Act → World → Prop} {Q : Exit → Act → World → Prop} {E : Prop} (hgd : o.guard = none) (s x : Operand)
    (ho : o.op = .call { callee := .builtin .append, args := #[s, x], argTypes := #[24, 24] })
    {base : Nat} {v : Value} {xs ys : List Int} (hs : a.eval s = v) (hown : OwnI w base v xs) (A : Option Addr) (m c : Nat) (hx : a.eval x = .slice A m c) (hm : m = ys.length) (hT : IntsAt w A ys)
    (hn : xs.length + ys.length < 2 ^ 40) (hbase : base ≤ w.heap.size)
    (h : ∀ B q c w', Hid (q = (xs ++ ys).length) → OwnI w' base (.slice B q c) (xs ++ ys) → (∀ w0, Below base w0 w → Below base w0 w') → K (a.put o.dst (.slice B q c)) w') : if Region.wanted o (yielded ops a.tmps) = true then Oper.wp Tryz.prog o a w K Q else E := by
  have hw : Region.wanted o (yielded ops a.tmps) = true := by simp [Region.wanted, hgd]
  rw [if_pos hw]
  subst hm
  have hown' : w.ownsRow base 3 1 v xs.length (xs.map (.int .i64)) := hown
  obtain ⟨v', w', hrun, hp⟩ := run_append_cells w o.type eInts hown' A ys.length c (ys.map (.int .i64)) hT.cells (by simp) (fun u hu => by obtain ⟨k, _, rfl⟩ := List.mem_map.1 hu; rfl) (by omega) (by omega) hbase
  have hpu : OwnI w' base v' (xs ++ ys) := by
    have := hp.own
    unfold OwnI
    rw [List.map_append, List.length_append]
    exact this
  obtain ⟨B, c', rfl, hi⟩ := hpu.form
  have := h B _ c' w' (Lib.hid rfl) hpu (fun w0 hb => hp.below hown' hb hbase)
  unfold Oper.wp
  simp only [execOp, ho, resolve, invoke, builtin, Sem.run_bind, Sem.run_pure, Result.andThen_ok, List.map_toArray, List.map_cons, List.map_nil, hs, hx, hrun]
  exact this
end Go.Proofs.YtanlmfnhlldkeaaGreatDoor
