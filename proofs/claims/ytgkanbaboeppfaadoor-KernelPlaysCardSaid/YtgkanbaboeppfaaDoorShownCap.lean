/-
  What is shown: a row of one's own whose room is at least its length; and its beginning.
-/
import Derived.Test.YtgkanbaboeppfaaDoorKernR
namespace Go.Proofs.YtgkanbaboeppfaaDoor
open Go.RowKit
set_option maxRecDepth 100000
set_option linter.unusedVariables false

theorem ownsRow_cap {w : World} {base size n c : Nat} {e : TypeId} {A : Option Addr} {xs : List Value} (h : w.ownsRow base e size (.slice A n c) n xs) : n ≤ c := by
  rcases h.2 with ⟨h0, h1⟩ | ⟨g, cap, cur, hv, hb, hg, hnc, _⟩
  · omega
  · injection hv with _ _ h3
    omega
set_option maxHeartbeats 400000 in
theorem CloneI_cap (L : List Int) (n : Nat) (hL : L.length = n * 1) (A : Option Addr) (c : Nat) (w : World) (h : IntsAt w A L) (hn : n ≤ 1000000) :
    Calls Tryd.prog 22 #[.slice A n c] w fun e w' => (∃ A' c', e = .returned (.slice A' n c') ∧ n ≤ c' ∧ OwnIn w.heap.size w' A' 3 L) ∧ Below w.heap.size w w' := by
  have q22 := fun (w : World) (a : Option Addr) (n c n' c' : Nat) => Lib.run_eql_slice_nil w _ _ a n c n' c' Tryd.underlying24
  cases A with
  | none =>
    have hL0 : L = [] := Classical.byContradiction fun e => by obtain ⟨b, off, hA, _⟩ := h e; cases hA
    subst hL0
    obtain rfl : n = 0 := by simp at hL; omega
    go_enter Tryd.func22, Tryd.ntmps22
    go_wp2
    go_ret
    exact ⟨⟨none, 0, rfl, Nat.le_refl _, OwnIn.nil⟩, Below.refl _ _⟩
  | some a =>
    have hown : (w.alloc (.cells #[] 3)).ownsRow w.heap.size 3 1 (.slice (some ⟨w.heap.size, 0, none⟩) 0 0) 0 [] := ⟨rfl, .inr ⟨w.heap.size, 0, #[], rfl, Nat.le_refl _, heap_alloc_new w _, Nat.le_refl _, by unfold maxLen; omega, rfl, rfl⟩⟩
    have hcells : CellsAt (w.alloc (.cells #[] 3)) (some a) (L.map (.int .i64)) := (h.below ((Below.refl _ w).alloc (Nat.le_refl _) _)).cells
    have Hc := Lib.hid h
    go_enter Tryd.func22, Tryd.ntmps22
    go_wp2_with (at_builtin; refine wpList_append_cells rfl _ _ rfl eII rfl hown (some a) n c (L.map (.int .i64)) rfl hcells (by simp [hL]) (fun u hu => by obtain ⟨x, _, rfl⟩ := List.mem_map.1 hu; rfl) (by omega) (by omega) (by simp) ?_; intro v' w1 hp)
    have hbl : Below w.heap.size w w1 := hp.below hown ((Below.refl _ w).alloc (Nat.le_refl _) _) (by simp)
    have hown1 := hp.own
    rw [Nat.zero_add, List.nil_append] at hown1
    obtain ⟨A', c', rfl⟩ := ownsRow_form hown1
    clear hp
    go_wp2
    go_ret
    exact ⟨⟨A', c', rfl, ownsRow_cap hown1, own_ownIn hown1⟩, hbl⟩
section
variable {role : Nat → Nat} {lo hi : Nat} {w : World} {p : Nat} {K : KF} {L : List (List Int)} {P : List Int} {q : Nat} {T : List Int} {s : KState} {t : Nat}
theorem Shown_cap (h : KernAt role lo hi w p K L P q T s t) {i : Nat} (hil : i < L.length) (hl : L.length ≤ 5) (hsh : (s.parts i).shown.length ≤ 100000) :
    Calls Tryd.prog 8 #[.pointer (some ⟨p, 0, none⟩), .int .i64 i] w fun e w' => (∃ A c, e = .returned (.slice A (s.parts i).shown.length c) ∧ (s.parts i).shown.length ≤ c ∧ OwnIn w.heap.size w' A 3 (s.parts i).shown) ∧ Below w.heap.size w w' := by
  obtain ⟨-, -, -, x3, -, -⟩ := h.words
  obtain ⟨-, -, ⟨v, e5, r5⟩, -⟩ := h.part hil
  obtain ⟨A, c, rfl, iA⟩ := r5.form
  have W0 := Lib.hid (fun V => Within3_is (i : Int) 0 ((L.length : Int) - 1) true V (decide_eq_true (by omega)))
  have C0 := Lib.hid (CloneI_cap (s.parts i).shown (s.parts i).shown.length (by omega) A c w iA (by omega))
  generalize (s.parts i).shown = l at *
  clear h r5 iA
  go_enter Tryd.func8, Tryd.ntmps8
  go_wp2_with (first | (go_at_call 20; with_reducible refine (W0.out _).mono ?_; rintro e w' ⟨rfl, rfl⟩) | (go_at_call 22; with_reducible refine C0.out.mono ?_; rintro e w' ⟨⟨A', c', rfl, h1, o1⟩, hb⟩))
  go_ret
  exact ⟨⟨A', c', rfl, h1, o1⟩, hb⟩
end
/-- A slice's beginning. -/
theorem run_cut_to (V : World) (A : Option Addr) (n c k : Nat) (h1 : k ≤ n) (h2 : n ≤ c) : (Instr.sliceAt 24 (.slice A n c) none (some (.int .i64 k)) none).run Tryd.prog V = .ok (.slice A k c) V := by
  have e := Tryd.underlying24
  obtain ⟨i, z, hi, hz, hsize, -⟩ := eII.info
  have n1 : ¬ c < k := by omega
  cases A with
  | none => simp [Instr.sliceAt, Instr.slice, Instr.sliceBounds, run_underlying e, sizeOf, typeInfo, hi, go_sem, n1]
  | some a => simp [Instr.sliceAt, Instr.slice, Instr.sliceBounds, run_underlying e, sizeOf, typeInfo, hi, go_sem, n1]
end Go.Proofs.YtgkanbaboeppfaaDoor
