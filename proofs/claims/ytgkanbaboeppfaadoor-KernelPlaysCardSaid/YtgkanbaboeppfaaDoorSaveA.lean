/-
  The text of a kernel; what its numbers are.
-/
import Derived.Test.YtgkanbaboeppfaaDoorWords
import Derived.Test.YtgkanbaboeppfaaDoorKernB
import Derived.Test.YtgkanbaboeppfaaDoorKernR
namespace Go.Proofs.YtgkanbaboeppfaaDoor
open Go.RowKit
set_option maxRecDepth 100000
set_option linter.unusedVariables false

/-- The numbers of a part. -/
def partNums (x : KPlace) : List Int := ([(x.pc : Int)] ++ [x.regs 0, x.regs 1, x.regs 2, x.regs 3]) ++ x.shown
def saveP (s : KState) (t : Nat) : Nat → List UInt8
  | 0 => wordsT [(t : Int)] ++ [10]
  | i + 1 => (saveP s t i ++ wordsT (partNums (s.parts i))) ++ [10]
def saveH (s : KState) (t n : Nat) : Nat → List UInt8
  | 0 => saveP s t n
  | j + 1 => (saveH s t n j ++ wordsT (s.held j)) ++ [10]
theorem partNums_len (x : KPlace) : (partNums x).length = 5 + x.shown.length := by simp [partNums]; omega
def Small (l : List Int) : Prop := ∀ x ∈ l, -9223372036854775808 ≤ x ∧ x ≤ 9223372036854775807
theorem KInv.nums {s : KState} {u : Nat} (h : KInv s u) (i : Nat) : Small (partNums (s.parts i)) := fun x hx => by
  unfold partNums at hx
  simp only [List.mem_append, List.mem_cons, List.not_mem_nil, or_false] at hx
  have hp := h.pc i
  have hr := h.regs i
  rcases hx with (rfl | rfl | rfl | rfl | rfl) | hx
  · omega
  · have := hr 0; omega
  · have := hr 1; omega
  · have := hr 2; omega
  · have := hr 3; omega
  · have := (h.shown i).2 x hx; omega
theorem KInv.heldSmall {s : KState} {u : Nat} (h : KInv s u) (j : Nat) : Small (s.held j) := fun x hx => by have := (h.held j).2 x hx; omega
theorem wordsT_len {l : List Int} (h : Small l) : (wordsT l).length ≤ 22 * l.length := wTo_len h _
theorem tick_small {t : Nat} (ht : t ≤ 300) : Small [(t : Int)] := fun x hx => by rw [List.mem_singleton] at hx; subst hx; omega
theorem saveP_len {s : KState} {u t : Nat} (h : KInv s u) (hu : u ≤ 100000) (ht : t ≤ 300) : ∀ i, (saveP s t i).length ≤ 23 + i * 2300000
  | 0 => by
    have := wordsT_len (tick_small ht)
    rw [saveP, List.length_append]; simp at this ⊢; omega
  | i + 1 => by
    have h1 := saveP_len h hu ht i
    have h2 := wordsT_len (h.nums i)
    rw [partNums_len] at h2
    have h3 := (h.shown i).1
    rw [saveP, List.length_append, List.length_append, List.length_singleton]
    omega
theorem saveH_len {s : KState} {u t n : Nat} (h : KInv s u) (hu : u ≤ 100000) (ht : t ≤ 300) (hn : n ≤ 5) : ∀ j, (saveH s t n j).length ≤ 12000000 + j * 100
  | 0 => by have := saveP_len h hu ht n; rw [saveH]; omega
  | j + 1 => by
    have h1 := saveH_len h hu ht hn j
    have h2 := wordsT_len (h.heldSmall j)
    have h3 := (h.held j).1
    rw [saveH, List.length_append, List.length_append, List.length_singleton]
    omega

theorem own_one (V : World) (x : Int) {base : Nat} (hb : base ≤ V.heap.size) : OwnI (V.alloc (.cells #[.int .i64 x] 3)) base (.slice (some ⟨V.heap.size, 0, none⟩) 1 1) [x] :=
  ⟨by simp, .inr ⟨V.heap.size, 1, #[.int .i64 x], rfl, hb, heap_alloc_new V _, by simp, by decide, rfl, by simp⟩⟩
theorem int_ne_u8 : (3 : TypeId) ≠ 5 := by decide
theorem intRow_own {w : World} {base b n c : Nat} {A : Option Addr} {l : List Int} (h : OwnI w base (.slice A n c) l) (hb : b < base) : IntRow b w A l := by
  obtain ⟨A', c', hv, hi⟩ := h.form
  injection hv with e1 e2 e3
  subst e1
  refine ⟨hi, fun g off e hl => ?_⟩
  rcases h.2 with ⟨h0, h1⟩ | ⟨g', cap, cur, hv, hg, hc, _⟩
  · injection h0 with h0
    rw [e] at h0; cases h0
  · injection hv with hv
    rw [e] at hv
    injection hv with hv
    injection hv with hv
    subst hv
    exact ⟨by omega, cur, _, _, hc, int_ne_u8⟩
theorem intRow_one (V : World) (x : Int) {b : Nat} (hb : b < V.heap.size) : IntRow b (V.alloc (.cells #[.int .i64 x] 3)) (some ⟨V.heap.size, 0, none⟩) [x] :=
  intRow_own (base := V.heap.size) (own_one V x (Nat.le_refl _)) hb
theorem intRow_row {role : Nat → Nat} {code b n c : Nat} {w : World} {A : Option Addr} {l : List Int} (h : RowW role code w (.slice A n c) l) (hc : code ≠ 0) (hb : role b = 0) : IntRow b w A l := by
  obtain ⟨A', c', hv, hi⟩ := h.form
  injection hv with e1 e2 e3
  subst e1
  refine ⟨hi, fun g off e hl => ?_⟩
  rcases h with ⟨h0, h1⟩ | ⟨g', off', c'', cur, hv, _, _, hh, _, hr, _⟩
  · exact absurd h1 hl
  · injection hv with hv
    rw [e] at hv
    injection hv with hv
    injection hv with hv
    subst hv
    exact ⟨fun e2 => by rw [e2, hb] at hr; exact hc hr.symm, cur, _, _, hh, int_ne_u8⟩
theorem slice_all (V : World) (g : Nat) : (Instr.sliceAt 58 (.pointer (some ⟨g, 1, none⟩)) none none none).run Tryd.prog V = .ok (.slice (some ⟨g, 1, none⟩) 4 4) V := by
  simp [Instr.sliceAt, Instr.sliceBounds, go_sem]
/-- 'append(l, m..)' at slices of ints, at a step of a region that draws. -/
theorem step_join_int {w : World} {ops : Array Oper} {o : Oper} {a : Act} {K : Act → World → Prop} {Q : Exit → Act → World → Prop} {E : Prop} (hgd : o.guard = none) (s x : Operand)
    (ho : o.op = .call { callee := .builtin .append, args := #[s, x], argTypes := #[24, 24] })
    {base : Nat} {v : Value} {xs ys : List Int} (hs : a.eval s = v) (hown : OwnI w base v xs) (A : Option Addr) (m c : Nat) (hx : a.eval x = .slice A m c) (hm : m = ys.length) (hT : IntsAt w A ys)
    (hn : xs.length + ys.length < 2 ^ 40) (hbase : base ≤ w.heap.size)
    (h : ∀ B q c w', Hid (q = (xs ++ ys).length) → OwnI w' base (.slice B q c) (xs ++ ys) → (∀ w0, Below base w0 w → Below base w0 w') → K (a.put o.dst (.slice B q c)) w') : if Region.wanted o (yielded ops a.tmps) = true then Oper.wp Tryd.prog o a w K Q else E := by
  have hw : Region.wanted o (yielded ops a.tmps) = true := by simp [Region.wanted, hgd]
  rw [if_pos hw]
  subst hm
  have hown' : w.ownsRow base 3 1 v xs.length (xs.map (.int .i64)) := hown
  obtain ⟨v', w', hrun, hp⟩ := run_append_cells w o.type eInts hown' A ys.length c (ys.map (.int .i64)) hT.cells (by simp) (fun u hu => by obtain ⟨k, _, rfl⟩ := List.mem_map.1 hu; rfl) (by omega) (by omega) hbase
  have hpu : OwnI w' base v' (xs ++ ys) := by
    have := hp.own
    unfold OwnI
    rw [List.map_append, List.length_append]
    exact this
  obtain ⟨B, c', rfl, hi⟩ := hpu.form
  have := h B _ c' w' (Lib.hid rfl) hpu (fun w0 hb => hp.below hown' hb hbase)
  unfold Oper.wp
  simp only [execOp, ho, resolve, invoke, builtin, Sem.run_bind, Sem.run_pure, Result.andThen_ok, List.map_toArray, List.map_cons, List.map_nil, hs, hx, hrun]
  exact this
end Go.Proofs.YtgkanbaboeppfaaDoor
