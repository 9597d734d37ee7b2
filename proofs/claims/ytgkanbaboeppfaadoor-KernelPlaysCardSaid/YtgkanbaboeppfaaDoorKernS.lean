/-
  Contract: a kernel's step.
-/
import Derived.Test.YtgkanbaboeppfaaDoorKernM
import Derived.Test.YtgkanbaboeppfaaDoorKernD
import Derived.Test.YtgkanbaboeppfaaDoorStillD
import Derived.Test.YtgkanbaboeppfaaDoorOver
import Derived.Deep.QuietTactic
import Derived.Deep.RegionLaw
import Derived.Deep.RegionHeld3
import Derived.BigRegion
import Derived.BigQuiet
namespace Go.Proofs.YtgkanbaboeppfaaDoor
open Go.RowKit
set_option maxRecDepth 100000
set_option linter.unusedVariables false

section
variable {role : Nat → Nat} {lo hi : Nat} {w : World} {p : Nat} {K : KF} {L : List (List Int)} {P : List Int} {q : Nat} {T : List Int} {s : KState} {t : Nat}
theorem place_place (s : KState) (i : Nat) (x y : KPlace) : (s.place i x).place i y = s.place i y := by unfold KState.place; rw [upd_upd]
theorem place_at (s : KState) (i : Nat) (x : KPlace) : (s.place i x).parts i = x := upd_same _ _ _
theorem KernAt.words (h : KernAt role lo hi w p K L P q T s t) : w.cell? ⟨p, 0, none⟩ = some (.slice K.Ap L.length K.cp) ∧ w.cell? ⟨p, 1, none⟩ = some (.slice K.Ao q K.co) ∧ w.cell? ⟨p, 2, none⟩ = some (.slice K.At T.length K.ct) ∧
    w.cell? ⟨p, 3, none⟩ = some (.slice (some ⟨K.gp, 0, none⟩) L.length L.length) ∧ w.cell? ⟨p, 4, none⟩ = some (.slice (some ⟨K.gh, 0, none⟩) q q) ∧ w.cell? ⟨p, 5, none⟩ = some (.int .i64 t) :=
  ⟨h.box.cell (k := 0) rfl, h.box.cell (k := 1) rfl, h.box.cell (k := 2) rfl, h.box.cell (k := 3) rfl, h.box.cell (k := 4) rfl, h.box.cell (k := 5) rfl⟩
def StepPost (role : Nat → Nat) (lo hi : Nat) (w : World) (p : Nat) (K : KF) (L : List (List Int)) (P : List Int) (q : Nat) (T : List Int) (s' : KState) (t : Nat) (w' : World) : Prop := ∃ role', KernAt role' lo hi w' p K L P q T s' t ∧ RoleTo role w role' w'

theorem RowW.shape {code : Nat} {v : Value} {l : List Int} (h : RowW role code w v l) : ∃ A n c, v = .slice A n c := by
  obtain ⟨A, c, e, _⟩ := h.form
  exact ⟨A, _, c, e⟩
/-- 'append(row, x)' in a list. -/
theorem wpList_pushW {V : World} {ops : Array Oper} {rest : List Oper} {o : Oper} {a : Act} {Q : Exit → Act → World → Prop} (hgd : o.guard = none) (sl x : Operand)
    (ho : o.op = .call { callee := .builtin .append, args := #[sl, x], argTypes := #[24, 24] })
    {code : Nat} {v : Value} {l : List Int} (hs : a.eval sl = v) (h : RowW role code V v l) (hl : l.length < 2 ^ 40) (ad : Addr) (y : Int) (c : Nat) (hx : a.eval x = .slice (some ad) 1 c) (hc : V.cell? ad = some (.int .i64 y))
    (hK : ∀ v' w' role', RowW role' code w' v' (l ++ [y]) → (∀ b, b < V.heap.size → role' b = role b) → V.heap.size ≤ w'.heap.size → (w'.os = V.os ∧ w'.tape = V.tape ∧ w'.output = V.output) → (∀ b, b < V.heap.size → role b ≠ code → w'.heap[b]? = V.heap[b]?) → ((∀ b, V.heap.size ≤ b → role b = 0) → ∀ b, w'.heap.size ≤ b → role' b = 0) → wpList Tryd.prog ops Q rest (a.put o.dst v') w') : wpList Tryd.prog ops Q (o :: rest) a V := by
  refine wpList_plain hgd fun _ hK' => ?_
  obtain ⟨v', w', role', hrun, h1, h2, h3, h4, h5, h6, h7, h8⟩ := h.push hl o.type ad y c hc
  unfold Oper.wp execOp
  simp only [ho, resolve, invoke, builtin, Sem.run_bind, Sem.run_pure, Result.andThen_ok, List.map_toArray, List.map_cons, List.map_nil, hs, hx, hrun]
  exact hK' _ _ (hK v' w' role' h1 h2 h3 ⟨h4, h5, h6⟩ h7 h8)
theorem wpAnyH_end {P : Program} {md : Region.Mode} {ops : Array Oper} {Q : Exit → Act → World → Prop} {S : World → Prop} {fuel : Nat} {listed : Array Bool} {a : Act} {V : World} (hr : Region.ready md ops listed = []) (h : Q .normal a V) : wpAnyH P md ops Q S fuel listed a V := by
  cases fuel with
  | zero => exact ⟨hr, h⟩
  | succ n => exact ⟨fun _ => h, fun i hi => by rw [hr] at hi; cases hi⟩
/-- The same, at a step of a region that draws. -/
theorem step_pushW {V : World} {ops : Array Oper} {o : Oper} {a : Act} {k : Act → World → Prop} {Q : Exit → Act → World → Prop} {E : Prop} (hgd : o.guard = none) (sl x : Operand)
    (ho : o.op = .call { callee := .builtin .append, args := #[sl, x], argTypes := #[24, 24] })
    {code : Nat} {v : Value} {l : List Int} (hs : a.eval sl = v) (h : RowW role code V v l) (hl : l.length < 2 ^ 40) (ad : Addr) (y : Int) (c : Nat) (hx : a.eval x = .slice (some ad) 1 c) (hc : V.cell? ad = some (.int .i64 y))
    (hK : ∀ w' role' A n c, RowW role' code w' (.slice A n c) (l ++ [y]) → (∀ b, b < V.heap.size → role' b = role b) → V.heap.size ≤ w'.heap.size → (w'.os = V.os ∧ w'.tape = V.tape ∧ w'.output = V.output) → (∀ b, b < V.heap.size → role b ≠ code → w'.heap[b]? = V.heap[b]?) → ((∀ b, V.heap.size ≤ b → role b = 0) → ∀ b, w'.heap.size ≤ b → role' b = 0) → k (a.put o.dst (.slice A n c)) w') : if Region.wanted o (yielded ops a.tmps) = true then Oper.wp Tryd.prog o a V k Q else E := by
  have hw : Region.wanted o (yielded ops a.tmps) = true := by simp [Region.wanted, hgd]
  rw [if_pos hw]
  obtain ⟨v', w', role', hrun, h1, h2, h3, h4, h5, h6, h7, h8⟩ := h.push hl o.type ad y c hc
  obtain ⟨A', n', c', rfl⟩ := h1.shape
  unfold Oper.wp
  simp only [execOp, ho, resolve, invoke, builtin, Sem.run_bind, Sem.run_pure, Result.andThen_ok, List.map_toArray, List.map_cons, List.map_nil, hs, hx, hrun]
  exact hK _ _ _ _ _ h1 h2 h3 ⟨h4, h5, h6⟩ h7 h8
theorem run_cut1 (V : World) (g og n c : Nat) (h1 : 1 ≤ n) (h2 : n ≤ c) : (Instr.sliceAt 24 (.slice (some ⟨g, og, none⟩) n c) (some (.int .i64 1)) none none).run Tryd.prog V = .ok (.slice (some ⟨g, if c = 1 then og else og + 1, none⟩) (n - 1) (c - 1)) V := by
  obtain ⟨i, z, hi, hz, hsize, -⟩ := eInts.info
  have e := Tryd.underlying24
  have n1 : ¬ ((n : Int) < 1) := by omega
  by_cases hc1 : c = 1
  · subst hc1
    simp [Instr.sliceAt, Instr.slice, Instr.sliceBounds, run_underlying e, sizeOf, typeInfo, hi, hsize, go_sem, n1]
  · simp [Instr.sliceAt, Instr.slice, Instr.sliceBounds, run_underlying e, sizeOf, typeInfo, hi, hsize, go_sem, n1, hc1]
theorem RoleTo.push {code : Nat} {role' : Nat → Nat} {V w' : World} (hc : code ≠ 0) (h2 : ∀ b, b < V.heap.size → role' b = role b) (h3 : V.heap.size ≤ w'.heap.size) (h4 : w'.os = V.os ∧ w'.tape = V.tape ∧ w'.output = V.output) (h7 : ∀ b, b < V.heap.size → role b ≠ code → w'.heap[b]? = V.heap[b]?) : RoleTo role V role' w' :=
  ⟨h4.1, h4.2.1, h4.2.2, h3, h2, fun b hb h0 => h7 b hb (by omega)⟩

set_option maxHeartbeats 4000000 in
theorem step_none (h : KernAt role lo hi w p K L P q T s t) {i : Nat} (hil : i < L.length) (hn : (s.parts i).pc ≥ (L.getD i []).length / 3) :
    Calls Tryd.prog 21 #[.pointer (some ⟨p, 0, none⟩), .int .i64 i] w fun e w' => e = .returned (.tuple #[]) ∧ StepPost role lo hi w p K L P q T s t w' := by
  obtain ⟨b, off, Ai, ni, ci, hA, c0, hli, hni, hIn⟩ := h.progs.get hil
  obtain ⟨a1, a2, ⟨v, a3, a4⟩, fz⟩ := h.part hil
  obtain ⟨x0, -, -, x3, -, -⟩ := h.words
  have hni2 : ni ≤ 9223372036854775807 := by unfold maxLen at hni; omega
  have hn' : ni ≤ (s.parts i).pc := by rw [hli, Nat.mul_div_cancel _ (by decide)] at hn; omega
  have H := Lib.hid (show StepPost role lo hi w p K L P q T s t w from ⟨role, h, RoleTo.refl _ _⟩)
  rw [hA] at x0
  generalize (s.parts i).pc = pc at *
  clear h hIn a2 a3 a4 fz hA hli hn
  go_enter Tryd.func21, Tryd.ntmps21
  go_wp2_with fail
  refine bodyPost_ret (results_none rfl _ _ _) rfl ?_
  exact ⟨rfl, H.out⟩

set_option maxHeartbeats 8000000 in
theorem step_put (h : KernAt role lo hi w p K L P q T s t) {i : Nat} (hil : i < L.length) {pc a b : Nat} (hpc : (s.parts i).pc = pc) (hn : pc < (L.getD i []).length / 3) (hp12 : pc < 12)
    (hk : nI (L.getD i []) (3 * pc) = 0) (ha : nI (L.getD i []) (3 * pc + 1) = a) (hb : nI (L.getD i []) (3 * pc + 2) = b) (ha4 : a < 4) (hb6 : b ≤ 999999) :
    Calls Tryd.prog 21 #[.pointer (some ⟨p, 0, none⟩), .int .i64 i] w fun e w' => e = .returned (.tuple #[]) ∧ StepPost role lo hi w p K L P q T (s.place i ⟨pc + 1, upd (s.parts i).regs a b, (s.parts i).shown⟩) t w' := by
  obtain ⟨b1, off, Ai, ni, ci, hA, c0, hli, hni, hIn⟩ := h.progs.get hil
  rw [hli, Nat.mul_div_cancel _ (by decide)] at hn
  obtain ⟨b3, off3, rfl, o0, o1, o2⟩ := op_cells hIn hli hn
  have hni2 : ni ≤ 9223372036854775807 := by unfold maxLen at hni; omega
  rw [hk] at o0
  rw [ha] at o1
  rw [hb] at o2
  obtain ⟨x0, -, -, x3, x4, -⟩ := h.words
  rw [hA] at x0
  obtain ⟨a1, -, -, -⟩ := h.part hil
  rw [hpc] at a1
  have hblk := block_lt o0
  have hbl := (Below.refl w.heap.size w).alloc (Nat.le_refl _) (.cells #[.int .i64 0, .int .i64 a, .int .i64 b] 72)
  have hx := BoxN.new w 72 #[.int .i64 0, .int .i64 a, .int .i64 b]
  have h1 := h.below hbl
  have hpl := h.box.lt
  have H1 := Lib.hid h1
  have HT := Lib.hid (RoleTo.below role hbl)
  have hd : decide ((pc : Int) ≥ ni) = false := by simp; omega
  have y1 := hx.cell (k := 1) rfl
  have y2 := hx.cell (k := 2) rfl
  obtain ⟨e1, e2, ⟨vs, e5, r5⟩, fz⟩ := h1.part hil
  rw [hpc] at e1
  obtain ⟨-, -, -, z3, z4, -⟩ := h1.words
  have f0 := fz (i * 6)
  have hgp := h.rgp
  have hgh := h.rgh
  have e2a := e2 a ha4
  have f1 := fz (i * 6 + 1 + a)
  have la : (a : Int) < 4 := by omega
  clear h hIn hA hli fz e2 h1 hx 
  go_enter Tryd.func21, Tryd.ntmps21
  go_wp2_with fail
  generalize w.alloc (.cells #[.int .i64 0, .int .i64 a, .int .i64 b] 72) = W1 at *
  refine wp_still_tailD 8 (by kernel_rfl) (by kernel_rfl) ?_
  simp only [List.take_succ_cons, List.take_zero, List.drop_succ_cons, List.drop_zero]
  repeat still_step
  refine wpStill_nil ?_
  have k1 := (H1.out.below (belowD (Below.refl _ _) 1)).setReg hil ha4 (b : Int)
  obtain ⟨g1, -, -, g2⟩ := k1.part hil
  rw [place_at, hpc] at g1
  have g2 := g2 (i * 6)
  have K1 := Lib.hid k1
  clear k1
  go_wp2_with fail
  go_end0
  have k2 := K1.out.setPc hil (pc + 1)
  rw [place_place, place_at] at k2
  have hT := ((RoleTo.trans HT.out (RoleTo.below role (belowD (Below.refl _ _) 1))).setCell (a := ⟨K.gp, i * 6 + 1 + a, none⟩) (by show role K.gp ≠ 0; omega) (.int .i64 (b : Nat))).setCell (a := ⟨K.gp, i * 6, none⟩) (by show role K.gp ≠ 0; omega) (.int .i64 (pc + 1 : Nat))
  exact ⟨rfl, role, k2, hT⟩

set_option maxHeartbeats 8000000 in
theorem step_plus (h : KernAt role lo hi w p K L P q T s t) {i : Nat} (hil : i < L.length) {pc a b : Nat} (hpc : (s.parts i).pc = pc) (hn : pc < (L.getD i []).length / 3) (hp12 : pc < 12)
    (hk : nI (L.getD i []) (3 * pc) = 1) (ha : nI (L.getD i []) (3 * pc + 1) = a) (hb : nI (L.getD i []) (3 * pc + 2) = b) (ha4 : a < 4) (hb4 : b < 4) {ra rb : Nat} (hra : (s.parts i).regs a = ra) (hrb : (s.parts i).regs b = rb) (la6 : ra ≤ 999999) (lb6 : rb ≤ 999999) :
    Calls Tryd.prog 21 #[.pointer (some ⟨p, 0, none⟩), .int .i64 i] w fun e w' => e = .returned (.tuple #[]) ∧ StepPost role lo hi w p K L P q T (s.place i ⟨pc + 1, upd (s.parts i).regs a (((ra + rb) % 1000000 : Nat) : Int), (s.parts i).shown⟩) t w' := by
  obtain ⟨b1, off, Ai, ni, ci, hA, c0, hli, hni, hIn⟩ := h.progs.get hil
  rw [hli, Nat.mul_div_cancel _ (by decide)] at hn
  obtain ⟨b3, off3, rfl, o0, o1, o2⟩ := op_cells hIn hli hn
  have hni2 : ni ≤ 9223372036854775807 := by unfold maxLen at hni; omega
  rw [hk] at o0
  rw [ha] at o1
  rw [hb] at o2
  obtain ⟨x0, -, -, x3, x4, -⟩ := h.words
  rw [hA] at x0
  obtain ⟨a1, -, -, -⟩ := h.part hil
  rw [hpc] at a1
  have hblk := block_lt o0
  have hbl := (Below.refl w.heap.size w).alloc (Nat.le_refl _) (.cells #[.int .i64 1, .int .i64 a, .int .i64 b] 72)
  have hx := BoxN.new w 72 #[.int .i64 1, .int .i64 a, .int .i64 b]
  have h1 := h.below hbl
  have hpl := h.box.lt
  have H1 := Lib.hid h1
  have HT := Lib.hid (RoleTo.below role hbl)
  have hd : decide ((pc : Int) ≥ ni) = false := by simp; omega
  have y1 := hx.cell (k := 1) rfl
  have y2 := hx.cell (k := 2) rfl
  obtain ⟨e1, e2, ⟨vs, e5, r5⟩, fz⟩ := h1.part hil
  rw [hpc] at e1
  obtain ⟨-, -, -, z3, z4, -⟩ := h1.words
  have f0 := fz (i * 6)
  have hgp := h.rgp
  have hgh := h.rgh
  have e2a := e2 a ha4
  have e2b := e2 b hb4
  rw [hra] at e2a
  rw [hrb] at e2b
  have f1 := fz (i * 6 + 1 + a)
  have la : (a : Int) < 4 := by omega
  have lb : (b : Int) < 4 := by omega
  clear h hIn hA hli fz e2 h1 hx 
  go_enter Tryd.func21, Tryd.ntmps21
  go_wp2_with fail
  generalize w.alloc (.cells #[.int .i64 1, .int .i64 a, .int .i64 b] 72) = W1 at *
  refine wp_still_tailD 22 (by kernel_rfl) (by kernel_rfl) ?_
  simp only [List.take_succ_cons, List.take_zero, List.drop_succ_cons, List.drop_zero]
  repeat still_step
  refine wpStill_nil ?_
  have k1 := (H1.out.below (belowD (Below.refl _ _) 1)).setReg hil ha4 (((ra + rb) % 1000000 : Nat) : Int)
  obtain ⟨g1, -, -, g2⟩ := k1.part hil
  rw [place_at, hpc] at g1
  have g2 := g2 (i * 6)
  have K1 := Lib.hid k1
  clear k1
  go_wp2_with fail
  go_end0
  have k2 := K1.out.setPc hil (pc + 1)
  rw [place_place, place_at] at k2
  have hT := ((RoleTo.trans HT.out (RoleTo.below role (belowD (Below.refl _ _) 1))).setCell (a := ⟨K.gp, i * 6 + 1 + a, none⟩) (by show role K.gp ≠ 0; omega) (.int .i64 ((ra + rb) % 1000000 : Nat))).setCell (a := ⟨K.gp, i * 6, none⟩) (by show role K.gp ≠ 0; omega) (.int .i64 (pc + 1 : Nat))
  exact ⟨rfl, role, k2, hT⟩

set_option maxHeartbeats 8000000 in
theorem step_full (h : KernAt role lo hi w p K L P q T s t) {i : Nat} (hil : i < L.length) {pc a b : Nat} (hpc : (s.parts i).pc = pc) (hn : pc < (L.getD i []).length / 3) (hp12 : pc < 12)
    (hk : nI (L.getD i []) (3 * pc) = 2) (ha : nI (L.getD i []) (3 * pc + 1) = a) (hb : nI (L.getD i []) (3 * pc + 2) = b) (ha4 : a < 4) (hbq : b < q) (h4 : 4 ≤ (s.held b).length) (hs : (s.held b).length < 100) :
    Calls Tryd.prog 21 #[.pointer (some ⟨p, 0, none⟩), .int .i64 i] w fun e w' => e = .returned (.tuple #[]) ∧ StepPost role lo hi w p K L P q T (s.place i ⟨pc + 1, (s.parts i).regs, (s.parts i).shown⟩) t w' := by
  obtain ⟨b1, off, Ai, ni, ci, hA, c0, hli, hni, hIn⟩ := h.progs.get hil
  rw [hli, Nat.mul_div_cancel _ (by decide)] at hn
  obtain ⟨b3, off3, rfl, o0, o1, o2⟩ := op_cells hIn hli hn
  have hni2 : ni ≤ 9223372036854775807 := by unfold maxLen at hni; omega
  rw [hk] at o0
  rw [ha] at o1
  rw [hb] at o2
  obtain ⟨x0, -, -, x3, x4, -⟩ := h.words
  rw [hA] at x0
  obtain ⟨a1, -, -, -⟩ := h.part hil
  rw [hpc] at a1
  have hblk := block_lt o0
  have hbl := (Below.refl w.heap.size w).alloc (Nat.le_refl _) (.cells #[.int .i64 2, .int .i64 a, .int .i64 b] 72)
  have hx := BoxN.new w 72 #[.int .i64 2, .int .i64 a, .int .i64 b]
  have h1 := h.below hbl
  have hpl := h.box.lt
  have H1 := Lib.hid h1
  have HT := Lib.hid (RoleTo.below role hbl)
  have hd : decide ((pc : Int) ≥ ni) = false := by simp; omega
  have y1 := hx.cell (k := 1) rfl
  have y2 := hx.cell (k := 2) rfl
  obtain ⟨e1, e2, ⟨vs, e5, r5⟩, fz⟩ := h1.part hil
  rw [hpc] at e1
  obtain ⟨-, -, -, z3, z4, -⟩ := h1.words
  have f0 := fz (i * 6)
  have hgp := h.rgp
  have hgh := h.rgh
  obtain ⟨⟨vh, e6, r6⟩, fh⟩ := h1.port hbq
  obtain ⟨Ah, ch, rfl, ih⟩ := r6.form
  have lb : (b : Int) < q := by omega
  have h4' : decide (((s.held b).length : Int) < 4) = false := by simp; omega
  clear h hIn hA hli fz e2 h1 hx r6 r5
  go_enter Tryd.func21, Tryd.ntmps21
  go_wp2_with fail
  generalize w.alloc (.cells #[.int .i64 2, .int .i64 a, .int .i64 b] 72) = W1 at *
  go_quiet (fail)
  go_wp2_with fail
  go_end0
  have k2 := (H1.out.below (belowD (Below.refl _ _) nq)).setPc hil (pc + 1)
  have hT := (RoleTo.trans HT.out (RoleTo.below role (belowD (Below.refl _ _) nq))).setCell (a := ⟨K.gp, i * 6, none⟩) (by show role K.gp ≠ 0; omega) (.int .i64 (pc + 1 : Nat))
  exact ⟨rfl, role, k2, hT⟩

set_option maxHeartbeats 8000000 in
theorem step_hush (h : KernAt role lo hi w p K L P q T s t) {i : Nat} (hil : i < L.length) {pc a b : Nat} (hpc : (s.parts i).pc = pc) (hn : pc < (L.getD i []).length / 3) (hp12 : pc < 12)
    (hk : nI (L.getD i []) (3 * pc) = 3) (ha : nI (L.getD i []) (3 * pc + 1) = a) (hb : nI (L.getD i []) (3 * pc + 2) = b) (ha4 : a < 4) (hbq : b < q) (h0 : s.held b = []) :
    Calls Tryd.prog 21 #[.pointer (some ⟨p, 0, none⟩), .int .i64 i] w fun e w' => e = .returned (.tuple #[]) ∧ StepPost role lo hi w p K L P q T (s) t w' := by
  obtain ⟨b1, off, Ai, ni, ci, hA, c0, hli, hni, hIn⟩ := h.progs.get hil
  rw [hli, Nat.mul_div_cancel _ (by decide)] at hn
  obtain ⟨b3, off3, rfl, o0, o1, o2⟩ := op_cells hIn hli hn
  have hni2 : ni ≤ 9223372036854775807 := by unfold maxLen at hni; omega
  rw [hk] at o0
  rw [ha] at o1
  rw [hb] at o2
  obtain ⟨x0, -, -, x3, x4, -⟩ := h.words
  rw [hA] at x0
  obtain ⟨a1, -, -, -⟩ := h.part hil
  rw [hpc] at a1
  have hblk := block_lt o0
  have hbl := (Below.refl w.heap.size w).alloc (Nat.le_refl _) (.cells #[.int .i64 3, .int .i64 a, .int .i64 b] 72)
  have hx := BoxN.new w 72 #[.int .i64 3, .int .i64 a, .int .i64 b]
  have h1 := h.below hbl
  have hpl := h.box.lt
  have H1 := Lib.hid h1
  have HT := Lib.hid (RoleTo.below role hbl)
  have hd : decide ((pc : Int) ≥ ni) = false := by simp; omega
  have y1 := hx.cell (k := 1) rfl
  have y2 := hx.cell (k := 2) rfl
  obtain ⟨e1, e2, ⟨vs, e5, r5⟩, fz⟩ := h1.part hil
  rw [hpc] at e1
  obtain ⟨-, -, -, z3, z4, -⟩ := h1.words
  have f0 := fz (i * 6)
  have hgp := h.rgp
  have hgh := h.rgh
  obtain ⟨⟨vh, e6, r6⟩, fh⟩ := h1.port hbq
  rw [h0] at r6
  obtain ⟨Ah, ch, rfl, ih⟩ := r6.form
  have e6 : _ = some (Value.slice Ah 0 ch) := e6
  have lb : (b : Int) < q := by omega
  clear h hIn hA hli fz e2 h1 hx r6 r5 ih
  go_enter Tryd.func21, Tryd.ntmps21
  go_wp2_with fail
  generalize w.alloc (.cells #[.int .i64 3, .int .i64 a, .int .i64 b] 72) = W1 at *
  go_quiet (fail)
  go_wp2_with fail
  refine bodyPost_ret (results_none rfl _ _ _) rfl ?_
  exact ⟨rfl, role, H1.out.below (belowD (Below.refl _ _) nq), RoleTo.trans HT.out (RoleTo.below role (belowD (Below.refl _ _) nq))⟩

set_option maxHeartbeats 8000000 in
theorem step_get (h : KernAt role lo hi w p K L P q T s t) {i : Nat} (hil : i < L.length) {pc a b : Nat} (hpc : (s.parts i).pc = pc) (hn : pc < (L.getD i []).length / 3) (hp12 : pc < 12)
    (hk : nI (L.getD i []) (3 * pc) = 3) (ha : nI (L.getD i []) (3 * pc + 1) = a) (hb : nI (L.getD i []) (3 * pc + 2) = b) (ha4 : a < 4) (hbq : b < q) {m : Nat} {l : List Int} (h0 : s.held b = (m : Int) :: l) (hs : l.length < 100) :
    Calls Tryd.prog 21 #[.pointer (some ⟨p, 0, none⟩), .int .i64 i] w fun e w' => e = .returned (.tuple #[]) ∧ StepPost role lo hi w p K L P q T ((s.port b l).place i ⟨pc + 1, upd (s.parts i).regs a m, (s.parts i).shown⟩) t w' := by
  obtain ⟨b1, off, Ai, ni, ci, hA, c0, hli, hni, hIn⟩ := h.progs.get hil
  rw [hli, Nat.mul_div_cancel _ (by decide)] at hn
  obtain ⟨b3, off3, rfl, o0, o1, o2⟩ := op_cells hIn hli hn
  have hni2 : ni ≤ 9223372036854775807 := by unfold maxLen at hni; omega
  rw [hk] at o0
  rw [ha] at o1
  rw [hb] at o2
  obtain ⟨x0, -, -, x3, x4, -⟩ := h.words
  rw [hA] at x0
  obtain ⟨a1, -, -, -⟩ := h.part hil
  rw [hpc] at a1
  have hblk := block_lt o0
  have hbl := (Below.refl w.heap.size w).alloc (Nat.le_refl _) (.cells #[.int .i64 3, .int .i64 a, .int .i64 b] 72)
  have hx := BoxN.new w 72 #[.int .i64 3, .int .i64 a, .int .i64 b]
  have h1 := h.below hbl
  have hpl := h.box.lt
  have H1 := Lib.hid h1
  have HT := Lib.hid (RoleTo.below role hbl)
  have hd : decide ((pc : Int) ≥ ni) = false := by simp; omega
  have y1 := hx.cell (k := 1) rfl
  have y2 := hx.cell (k := 2) rfl
  obtain ⟨e1, e2, ⟨vs, e5, r5⟩, fz⟩ := h1.part hil
  rw [hpc] at e1
  obtain ⟨-, -, -, z3, z4, -⟩ := h1.words
  have f0 := fz (i * 6)
  have hgp := h.rgp
  have hgh := h.rgh
  have e2a := e2 a ha4
  have f1 := fz (i * 6 + 1 + a)
  have la : (a : Int) < 4 := by omega
  obtain ⟨⟨vh, e6, r6⟩, fh⟩ := h1.port hbq
  obtain ⟨g, og, ch, rfl, hch, hrg, hcut⟩ := r6.cut h0
  obtain ⟨Ah, ch', hA', ih⟩ := r6.form
  have hm := ih.at_ (k := 0) (by rw [h0]; simp)
  obtain ⟨gb, go, xm, hgo, hxm, hcm⟩ := hm
  have hlen : (s.held b).length = l.length + 1 := by rw [h0]; simp
  rw [hlen] at e6 hcut hch
  have hcm' : (w.alloc (.cells #[.int .i64 3, .int .i64 a, .int .i64 b] 72)).cell? ⟨g, og, none⟩ = some (.int .i64 m) := by
    have hxm := hxm.out
    rw [h0] at hxm
    simp at hxm
    subst hxm
    injection hA' with hA'
    rw [hgo] at hA'
    injection hA' with hA'
    injection hA' with u1 u2
    rw [u1, u2]; exact hcm
  have lb : (b : Int) < q := by omega
  have hsl := fun V => run_cut1 V g og (l.length + 1) ch (by omega) (by omega)
  generalize (if ch = 1 then og else og + 1) = og' at *
  simp only [Nat.add_sub_cancel] at hsl hcut
  generalize ch - 1 = ch'' at hsl hcut
  have HC := Lib.hid hcut
  have hhi0 := h.size
  have hbg := block_lt hcm'
  have hgne : g ≠ K.gp := fun e => by rw [e, hgp] at hrg; omega
  have hfb := fh b
  have hghz := H1.out.inn
  have hhi := H1.out.size
  clear h hIn hA hli fz e2 h1 hx r6 r5 ih hcut hxm hA'
  go_enter Tryd.func21, Tryd.ntmps21
  go_wp2_with fail
  generalize w.alloc (.cells #[.int .i64 3, .int .i64 a, .int .i64 b] 72) = W1 at *
  go_quiet (fail)
  go_wp2_with fail
  refine wp_still_tailD2 9 (by kernel_rfl) (by kernel_rfl) ?_
  simp only [List.take_succ_cons, List.take_zero, List.drop_succ_cons, List.drop_zero]
  repeat still_step
  refine wpStill_nil ?_
  have hV : Below W1.heap.size W1 (W1.drewN (nq + 1)) := belowD (Below.refl _ _) (nq + 1)
  have k1 := (H1.out.below hV).setReg hil ha4 (m : Int)
  have hRV := rows_store (HC.out.keep (w' := W1.drewN (nq + 1)) (role' := role) (fun g hg _ => hV.block g hg) (fun _ _ => rfl)) (a := ⟨K.gp, i * 6 + 1 + a, none⟩) (by show role K.gp ≠ _; omega) (.int .i64 m)
  obtain ⟨-, -, -, w3, w4, -⟩ := k1.words
  have u2 : ((W1.drewN (nq + 1)).setCell ⟨K.gp, i * 6 + 1 + a, none⟩ (.int .i64 m)).cell? ⟨w.heap.size, 2, none⟩ = some (.int .i64 b) := (World.cell?_setCell_other _ _ _ _ (fun e => by injection e with e1; omega)).trans y2
  have u6 : ((W1.drewN (nq + 1)).setCell ⟨K.gp, i * 6 + 1 + a, none⟩ (.int .i64 m)).cell? ⟨K.gh, b, none⟩ = some (.slice (some ⟨g, og, none⟩) (l.length + 1) ch) := (World.cell?_setCell_other _ _ _ _ (fun e => by injection e with e1; first | (rw [e1] at hgp; omega) | (rw [e1] at hgh; omega))).trans e6
  have u7 := (k1.port hbq).2 b
  have K1 := Lib.hid k1
  clear k1
  have hT1 := (RoleTo.trans HT.out (RoleTo.below role hV)).setCell (a := ⟨K.gp, i * 6 + 1 + a, none⟩) (by show role K.gp ≠ 0; omega) (.int .i64 (m : Nat))
  have HT1 := Lib.hid hT1
  clear hT1
  go_wp2_with fail
  generalize (W1.drewN (nq + 1)).setCell ⟨K.gp, i * 6 + 1 + a, none⟩ (.int .i64 m) = W2 at *
  refine wp_still_tailD 9 (by kernel_rfl) (by kernel_rfl) ?_
  simp only [List.take_succ_cons, List.take_zero, List.drop_succ_cons, List.drop_zero]
  repeat still_step
  refine wpStill_nil ?_
  have hV2 : Below W2.heap.size W2 (W2.drewN 1) := belowD (Below.refl _ _) 1
  have kk := (K1.out.below hV2).setHeld hbq (hRV.keep (w' := W2.drewN 1) (role' := role) (fun g hg _ => hV2.block g hg) (fun _ _ => rfl))
  have q3 := (kk.part hil).1
  have q4 := (kk.part hil).2.2.2 (i * 6)
  have KK := Lib.hid kk
  clear kk
  go_wp2_with fail
  go_end0
  have k2 := KK.out.setPc hil (pc + 1)
  have e0 : ((s.place i ⟨(s.parts i).pc, upd (s.parts i).regs a (m : Int), (s.parts i).shown⟩).port b l).parts i = ⟨(s.parts i).pc, upd (s.parts i).regs a (m : Int), (s.parts i).shown⟩ := upd_same _ _ _
  rw [e0] at k2
  have hT := ((RoleTo.trans HT1.out (RoleTo.below role hV2)).setCell (a := ⟨K.gh, b, none⟩) (by show role K.gh ≠ 0; omega) (.slice (some ⟨g, og', none⟩) l.length ch'')).setCell (a := ⟨K.gp, i * 6, none⟩) (by show role K.gp ≠ 0; omega) (.int .i64 (pc + 1 : Nat))
  have e9 : ((s.place i ⟨(s.parts i).pc, upd (s.parts i).regs a (m : Int), (s.parts i).shown⟩).port b l).place i ⟨pc + 1, upd (s.parts i).regs a (m : Int), (s.parts i).shown⟩ = (s.port b l).place i ⟨pc + 1, upd (s.parts i).regs a (m : Int), (s.parts i).shown⟩ := by unfold KState.place KState.port; simp only [upd_upd]
  rw [e9] at k2
  exact ⟨rfl, role, k2, hT⟩

set_option maxHeartbeats 8000000 in
theorem step_jump (h : KernAt role lo hi w p K L P q T s t) {i : Nat} (hil : i < L.length) {pc a b : Nat} (hpc : (s.parts i).pc = pc) (hn : pc < (L.getD i []).length / 3) (hp12 : pc < 12)
    (hk : nI (L.getD i []) (3 * pc) = 4) (ha : nI (L.getD i []) (3 * pc + 1) = a) (hb : nI (L.getD i []) (3 * pc + 2) = b) (ha12 : a ≤ 12) (hb4 : b < 4) {rb : Nat} (hrb : (s.parts i).regs b = rb) (h0 : rb ≠ 0) :
    Calls Tryd.prog 21 #[.pointer (some ⟨p, 0, none⟩), .int .i64 i] w fun e w' => e = .returned (.tuple #[]) ∧ StepPost role lo hi w p K L P q T (s.place i ⟨a, (s.parts i).regs, (s.parts i).shown⟩) t w' := by
  obtain ⟨b1, off, Ai, ni, ci, hA, c0, hli, hni, hIn⟩ := h.progs.get hil
  rw [hli, Nat.mul_div_cancel _ (by decide)] at hn
  obtain ⟨b3, off3, rfl, o0, o1, o2⟩ := op_cells hIn hli hn
  have hni2 : ni ≤ 9223372036854775807 := by unfold maxLen at hni; omega
  rw [hk] at o0
  rw [ha] at o1
  rw [hb] at o2
  obtain ⟨x0, -, -, x3, x4, -⟩ := h.words
  rw [hA] at x0
  obtain ⟨a1, -, -, -⟩ := h.part hil
  rw [hpc] at a1
  have hblk := block_lt o0
  have hbl := (Below.refl w.heap.size w).alloc (Nat.le_refl _) (.cells #[.int .i64 4, .int .i64 a, .int .i64 b] 72)
  have hx := BoxN.new w 72 #[.int .i64 4, .int .i64 a, .int .i64 b]
  have h1 := h.below hbl
  have hpl := h.box.lt
  have H1 := Lib.hid h1
  have HT := Lib.hid (RoleTo.below role hbl)
  have hd : decide ((pc : Int) ≥ ni) = false := by simp; omega
  have y1 := hx.cell (k := 1) rfl
  have y2 := hx.cell (k := 2) rfl
  obtain ⟨e1, e2, ⟨vs, e5, r5⟩, fz⟩ := h1.part hil
  rw [hpc] at e1
  obtain ⟨-, -, -, z3, z4, -⟩ := h1.words
  have f0 := fz (i * 6)
  have hgp := h.rgp
  have hgh := h.rgh
  have e2b := e2 b hb4
  rw [hrb] at e2b
  have lb : (b : Int) < 4 := by omega
  have hz : ((rb : Int) != 0) = true := by simp; omega
  clear h hIn hA hli fz e2 h1 hx r5
  go_enter Tryd.func21, Tryd.ntmps21
  go_wp2_with fail
  generalize w.alloc (.cells #[.int .i64 4, .int .i64 a, .int .i64 b] 72) = W1 at *
  go_quiet (fail)
  go_wp2_with fail
  go_end0
  have k2 := (H1.out.below (belowD (Below.refl _ _) nq)).setPc hil (a)
  have hT := (RoleTo.trans HT.out (RoleTo.below role (belowD (Below.refl _ _) nq))).setCell (a := ⟨K.gp, i * 6, none⟩) (by show role K.gp ≠ 0; omega) (.int .i64 (a : Nat))
  exact ⟨rfl, role, k2, hT⟩

set_option maxHeartbeats 8000000 in
theorem step_stay (h : KernAt role lo hi w p K L P q T s t) {i : Nat} (hil : i < L.length) {pc a b : Nat} (hpc : (s.parts i).pc = pc) (hn : pc < (L.getD i []).length / 3) (hp12 : pc < 12)
    (hk : nI (L.getD i []) (3 * pc) = 4) (ha : nI (L.getD i []) (3 * pc + 1) = a) (hb : nI (L.getD i []) (3 * pc + 2) = b) (ha12 : a ≤ 12) (hb4 : b < 4) {rb : Nat} (hrb : (s.parts i).regs b = rb) (h0 : rb = 0) :
    Calls Tryd.prog 21 #[.pointer (some ⟨p, 0, none⟩), .int .i64 i] w fun e w' => e = .returned (.tuple #[]) ∧ StepPost role lo hi w p K L P q T (s.place i ⟨pc + 1, (s.parts i).regs, (s.parts i).shown⟩) t w' := by
  obtain ⟨b1, off, Ai, ni, ci, hA, c0, hli, hni, hIn⟩ := h.progs.get hil
  rw [hli, Nat.mul_div_cancel _ (by decide)] at hn
  obtain ⟨b3, off3, rfl, o0, o1, o2⟩ := op_cells hIn hli hn
  have hni2 : ni ≤ 9223372036854775807 := by unfold maxLen at hni; omega
  rw [hk] at o0
  rw [ha] at o1
  rw [hb] at o2
  obtain ⟨x0, -, -, x3, x4, -⟩ := h.words
  rw [hA] at x0
  obtain ⟨a1, -, -, -⟩ := h.part hil
  rw [hpc] at a1
  have hblk := block_lt o0
  have hbl := (Below.refl w.heap.size w).alloc (Nat.le_refl _) (.cells #[.int .i64 4, .int .i64 a, .int .i64 b] 72)
  have hx := BoxN.new w 72 #[.int .i64 4, .int .i64 a, .int .i64 b]
  have h1 := h.below hbl
  have hpl := h.box.lt
  have H1 := Lib.hid h1
  have HT := Lib.hid (RoleTo.below role hbl)
  have hd : decide ((pc : Int) ≥ ni) = false := by simp; omega
  have y1 := hx.cell (k := 1) rfl
  have y2 := hx.cell (k := 2) rfl
  obtain ⟨e1, e2, ⟨vs, e5, r5⟩, fz⟩ := h1.part hil
  rw [hpc] at e1
  obtain ⟨-, -, -, z3, z4, -⟩ := h1.words
  have f0 := fz (i * 6)
  have hgp := h.rgp
  have hgh := h.rgh
  have e2b := e2 b hb4
  rw [hrb] at e2b
  have lb : (b : Int) < 4 := by omega
  have hz : ((rb : Int) != 0) = false := by simp; omega
  clear h hIn hA hli fz e2 h1 hx r5
  go_enter Tryd.func21, Tryd.ntmps21
  go_wp2_with fail
  generalize w.alloc (.cells #[.int .i64 4, .int .i64 a, .int .i64 b] 72) = W1 at *
  go_quiet (fail)
  go_wp2_with fail
  go_end0
  have k2 := (H1.out.below (belowD (Below.refl _ _) nq)).setPc hil (pc + 1)
  have hT := (RoleTo.trans HT.out (RoleTo.below role (belowD (Below.refl _ _) nq))).setCell (a := ⟨K.gp, i * 6, none⟩) (by show role K.gp ≠ 0; omega) (.int .i64 (pc + 1 : Nat))
  exact ⟨rfl, role, k2, hT⟩

set_option maxHeartbeats 8000000 in
theorem step_show (h : KernAt role lo hi w p K L P q T s t) {i : Nat} (hil : i < L.length) {pc a : Nat} {b : Int} (hpc : (s.parts i).pc = pc) (hn : pc < (L.getD i []).length / 3) (hp12 : pc < 12)
    (hk : nI (L.getD i []) (3 * pc) = 5) (ha : nI (L.getD i []) (3 * pc + 1) = a) (hb : nI (L.getD i []) (3 * pc + 2) = b) (ha4 : a < 4) {ra : Nat} (hra : (s.parts i).regs a = ra) (h4 : (s.parts i).shown.length < 2 ^ 30) :
    Calls Tryd.prog 21 #[.pointer (some ⟨p, 0, none⟩), .int .i64 i] w fun e w' => e = .returned (.tuple #[]) ∧ StepPost role lo hi w p K L P q T (s.place i ⟨pc + 1, (s.parts i).regs, (s.parts i).shown ++ [(ra : Int)]⟩) t w' := by
  obtain ⟨b1, off, Ai, ni, ci, hA, c0, hli, hni, hIn⟩ := h.progs.get hil
  rw [hli, Nat.mul_div_cancel _ (by decide)] at hn
  obtain ⟨b3, off3, rfl, o0, o1, o2⟩ := op_cells hIn hli hn
  have hni2 : ni ≤ 9223372036854775807 := by unfold maxLen at hni; omega
  rw [hk] at o0
  rw [ha] at o1
  rw [hb] at o2
  obtain ⟨x0, -, -, x3, x4, -⟩ := h.words
  rw [hA] at x0
  obtain ⟨a1, -, -, -⟩ := h.part hil
  rw [hpc] at a1
  have hblk := block_lt o0
  have hbl := (Below.refl w.heap.size w).alloc (Nat.le_refl _) (.cells #[.int .i64 5, .int .i64 a, .int .i64 b] 72)
  have hx := BoxN.new w 72 #[.int .i64 5, .int .i64 a, .int .i64 b]
  have h1 := h.below hbl
  have hpl := h.box.lt
  have H1 := Lib.hid h1
  have HT := Lib.hid (RoleTo.below role hbl)
  have hd : decide ((pc : Int) ≥ ni) = false := by simp; omega
  have y1 := hx.cell (k := 1) rfl
  have y2 := hx.cell (k := 2) rfl
  obtain ⟨e1, e2, ⟨vs, e5, r5⟩, fz⟩ := h1.part hil
  rw [hpc] at e1
  obtain ⟨-, -, -, z3, z4, -⟩ := h1.words
  have f0 := fz (i * 6)
  have hgp := h.rgp
  have hgh := h.rgh
  have e2a := e2 a ha4
  rw [hra] at e2a
  obtain ⟨Ah, ch, hvh, ih⟩ := r5.form
  have R5 := Lib.hid r5
  have e5' := e5
  rw [hvh] at e5
  have f5 := fz (i * 6 + 5)
  have la : (a : Int) < 4 := by omega
  have hghz := H1.out.inn
  have hhi := H1.out.size
  clear h hIn hA hli fz e2 h1 hx r5 ih
  go_enter Tryd.func21, Tryd.ntmps21
  go_wp2_with fail
  generalize w.alloc (.cells #[.int .i64 5, .int .i64 a, .int .i64 b] 72) = W1 at *
  have HPost := Lib.hid (fun (V : World) (hV : Below W1.heap.size W1 V) (w' : World) (role' : Nat → Nat) (A' : Option Addr) (nn c' : Nat) (hr1 : RowW role' (4 + 2 * i) w' (.slice A' nn c') ((s.parts i).shown ++ [(ra : Int)])) (hr2 : ∀ bb, bb < V.heap.size → role' bb = role bb) (hr3 : V.heap.size ≤ w'.heap.size) (hr4 : w'.os = V.os ∧ w'.tape = V.tape ∧ w'.output = V.output) (hr5 : ∀ bb, bb < V.heap.size → role bb ≠ 4 + 2 * i → w'.heap[bb]? = V.heap[bb]?) (hr6 : (∀ bb, V.heap.size ≤ bb → role bb = 0) → ∀ bb, w'.heap.size ≤ bb → role' bb = 0) =>
    (show w'.cell? ⟨K.gp, i * 6 + 5, none⟩ = some vs ∧ w'.frozen? ⟨K.gp, i * 6 + 5, none⟩ = false ∧ (w'.setCell ⟨K.gp, i * 6 + 5, none⟩ (.slice A' nn c')).cell? ⟨K.gp, i * 6, none⟩ = some (.int .i64 pc) ∧ (w'.setCell ⟨K.gp, i * 6 + 5, none⟩ (.slice A' nn c')).frozen? ⟨K.gp, i * 6, none⟩ = false ∧ Hid (StepPost role lo hi w p K L P q T (s.place i ⟨pc + 1, (s.parts i).regs, (s.parts i).shown ++ [(ra : Int)]⟩) t ((w'.setCell ⟨K.gp, i * 6 + 5, none⟩ (.slice A' nn c')).setCell ⟨K.gp, i * 6, none⟩ (.int .i64 (pc + 1 : Nat)))) by
      have hsV := hV.size
      have kk := (KernAt.pushed (code := 4 + 2 * i) (by omega) (H1.out.below hV) hr2 hr3 hr5 (hr6 (H1.out.below hV).new)).1 i rfl hil _ _ hr1
      refine ⟨(World.cell?_of_block (a := ⟨K.gp, i * 6 + 5, none⟩) (hr5 _ (by show K.gp < _; omega) (by show role K.gp ≠ _; omega))).trans ((hV.cell (p := ⟨K.gp, i * 6 + 5, none⟩) (by show K.gp < _; omega)).trans e5'), (World.frozen?_of_block (a := ⟨K.gp, i * 6 + 5, none⟩) (hr5 _ (by show K.gp < _; omega) (by show role K.gp ≠ _; omega))).trans ((hV.frozen (p := ⟨K.gp, i * 6 + 5, none⟩) (by show K.gp < _; omega)).trans f5), ?_, (kk.part hil).2.2.2 (i * 6), Lib.hid ⟨role', ?_, ?_⟩⟩
      · have q3 := (kk.part hil).1
        rw [place_at, hpc] at q3
        exact q3
      · have k2 := kk.setPc hil (pc + 1)
        rw [place_place, place_at] at k2
        exact k2
      · exact ((((RoleTo.trans HT.out (RoleTo.below role hV)).trans (RoleTo.push (code := 4 + 2 * i) (by omega) hr2 hr3 hr4 hr5)).setCell (a := ⟨K.gp, i * 6 + 5, none⟩) (by show role K.gp ≠ 0; omega) (.slice A' nn c')).setCell (a := ⟨K.gp, i * 6, none⟩) (by show role K.gp ≠ 0; omega) (.int .i64 (pc + 1 : Nat)))))
  have HRV := Lib.hid (fun V (hV : Below W1.heap.size W1 V) => R5.out.keep (w' := V) (role' := role) (fun g hg _ => hV.block g hg) (fun _ _ => rfl))
  rw [hvh] at HRV
  have lgg : K.gp < W1.heap.size := by have := H1.out.size; have := H1.out.inn; omega
  have ea := ((Below.refl W1.heap.size W1).alloc (Nat.le_refl _) (.cells #[.int .i64 ra] 3)).cell (p := ⟨K.gp, i * 6 + 5, none⟩) lgg
  have eb : (W1.drew.alloc (.cells #[.int .i64 ra] 3)).cell? ⟨K.gp, i * 6 + 5, none⟩ = _ := ea.trans e5
  clear H1 HT R5 ea
  go_region_law ((refine step_pushW (by rfl) _ _ (by rfl) (by rfl) (HRV.out _ (by repeat (first | exact (belowD (Below.refl _ _) _).alloc (Nat.le_refl _) _ | exact Below.refl _ _ | refine Below.drew ?_ | refine Below.alloc ?_ (Nat.le_refl _) _))) (by omega) ⟨W1.heap.size, 0, none⟩ ra 1 (by rfl) (cell_of_row _ _ 0 _ _ _ (heap_alloc_new _ _)) ?_; intro w' role' A' nn c' hr1 hr2 hr3 hr4 hr5 hr6; obtain ⟨q1, q2, q3, q4, HH⟩ := HPost.out _ (by repeat (first | exact (belowD (Below.refl _ _) _).alloc (Nat.le_refl _) _ | exact Below.refl _ _ | refine Below.drew ?_ | refine Below.alloc ?_ (Nat.le_refl _) _)) w' role' A' nn c' hr1 hr2 hr3 hr4 hr5 hr6))
  all_goals
    go_wp2_with fail
    go_end0
    exact ⟨rfl, HH.out⟩
end
end Go.Proofs.YtgkanbaboeppfaaDoor
