/-
  Contracts: slices.Clone at ports, ops and ints, into new blocks.
-/
import Derived.Test.YtgkanbaboeppfaaDoorGrid
import Derived.Test.YtgkanbaboeppfaaDoorPush
import Derived.Test.YtgkanbaboeppfaaDoorBox
import Derived.Deep.CutRange
namespace Go.Proofs.YtgkanbaboeppfaaDoor
open Go.RowKit
set_option maxRecDepth 100000
set_option linter.unusedVariables false

/-- The blocks from one number on. -/
abbrev fromB (lo : Nat) : Nat → Prop := fun b => lo ≤ b
theorem IntsIn.below' {ok : Nat → Prop} {w w' : World} {A : Option Addr} {l : List Int} {B : Nat} (h : IntsIn ok w A l) (hb : Below B w w') (hB : w.heap.size ≤ B) : IntsIn ok w' A l := h.keep fun b h1 _ => hb.block b (by omega)
/-- A slice whose ints lie in a block of one's own. -/
def OwnIn (lo : Nat) (w : World) (A : Option Addr) (e : TypeId) (l : List Int) : Prop := l ≠ [] → ∃ g, A = some ⟨g, 0, none⟩ ∧ lo ≤ g ∧ OwnAt w g e (l.map (.int .i64))
section
variable {lo lo' : Nat} {w w' : World} {A : Option Addr} {e t : TypeId} {l : List Int}
theorem OwnIn.nil : OwnIn lo w A e [] := fun h => absurd rfl h
theorem OwnIn.intsIn (h : OwnIn lo w A e l) : IntsIn (fromB lo) w A l := fun hl => by
  obtain ⟨g, hA, hg, ho⟩ := h hl
  exact ⟨g, 0, hA, hg, fun j x hx => by rw [Nat.zero_add]; exact ho.cell (by rw [List.getElem?_map, hx]; rfl)⟩
theorem OwnIn.at_ (h : OwnIn lo w A e l) : IntsAt w A l := h.intsIn.at_
theorem OwnIn.lower (h : OwnIn lo w A e l) (hl : lo' ≤ lo) : OwnIn lo' w A e l := fun hne => by
  obtain ⟨g, hA, hg, ho⟩ := h hne
  exact ⟨g, hA, Nat.le_trans hl hg, ho⟩
theorem OwnIn.below' {B : Nat} (h : OwnIn lo w A e l) (hb : Below B w w') (hB : w.heap.size ≤ B) : OwnIn lo w' A e l := fun hne => by
  obtain ⟨g, hA, hg, ho⟩ := h hne
  exact ⟨g, hA, hg, ho.below hb (Nat.lt_of_lt_of_le ho.lt hB)⟩
theorem OwnIn.set {p : Nat} {vs : Array Value} (h : OwnIn lo w A e l) (hx : BoxN w p t vs) (ht : e ≠ t) (k : Nat) (v : Value) : OwnIn lo (w.setCell ⟨p, k, none⟩ v) A e l := fun hne => by
  obtain ⟨g, hA, hg, ho⟩ := h hne
  exact ⟨g, hA, hg, ho.far (a := ⟨p, k, none⟩) (ho.ne_box hx ht) v⟩
theorem OwnIn.grown {base size n : Nat} {v : Value} {xs : List Value} (h : OwnIn lo w A e l) (hg : w.grownBy w' v.ownBlock) (ho : w.ownsRow base t size v n xs) (ht : e ≠ t) : OwnIn lo w' A e l := fun hne => by
  obtain ⟨g, hA, hl, hw⟩ := h hne
  refine ⟨g, hA, hl, hw.block (hg.block g hw.lt fun eq => ?_)⟩
  rcases ho.2 with ⟨rfl, _⟩ | ⟨g', cap, cur, rfl, _, hc, _⟩
  · cases eq
  · injection eq with eq
    have eq : g = g' := eq
    subst eq
    obtain ⟨cur', hc', _⟩ := hw
    rw [hc] at hc'
    injection hc' with hc'
    injection hc' with _ h2
    exact ht h2.symm
end
theorem own_ownIn {w : World} {base size n c : Nat} {e : TypeId} {A : Option Addr} {l : List Int} (h : w.ownsRow base e size (.slice A n c) n (l.map (.int .i64))) : OwnIn base w A e l := fun hl => by
  rcases h.2 with ⟨_, h0⟩ | ⟨g, cap, cur, hv, hb, hg, hnc, _, hs, ht⟩
  · have := h.1; rw [h0, Nat.zero_mul] at this; exact absurd (List.map_eq_nil_iff.1 (List.length_eq_zero_iff.1 this)) hl
  · refine ⟨g, by injection hv, hb, cur, hg, ?_, ?_⟩
    · have h1 := h.1
      rw [hs, h1]
      exact Nat.mul_le_mul_right _ hnc
    · intro j v hj
      rw [← ht, List.getElem?_take] at hj
      split at hj
      · simpa using hj
      · cases hj

theorem eIO : EInfo Tryd.prog 69 72 3 24 := EInfo.of (z := .agg #[.int .i64 0, .int .i64 0, .int .i64 0]) Tryd.underlying69 (by kernel_rfl) rfl (by decide)
set_option maxHeartbeats 400000 in
theorem CloneO_new (L : List Int) (n : Nat) (hL : L.length = n * 3) (A : Option Addr) (c : Nat) (w : World) (h : IntsAt w A L) (hn : n ≤ 1000000) :
    Calls Tryd.prog 35 #[.slice A n c] w fun e w' => (∃ A' c', e = .returned (.slice A' n c') ∧ OwnIn w.heap.size w' A' 72 L) ∧ Below w.heap.size w w' := by
  have q22 := fun (w : World) (a : Option Addr) (n c n' c' : Nat) => Lib.run_eql_slice_nil w _ _ a n c n' c' Tryd.underlying69
  cases A with
  | none =>
    have hL0 : L = [] := Classical.byContradiction fun e => by obtain ⟨b, off, hA, _⟩ := h e; cases hA
    subst hL0
    obtain rfl : n = 0 := by simp at hL; omega
    go_enter Tryd.func35, Tryd.ntmps35
    go_wp2
    go_ret
    exact ⟨⟨none, 0, rfl, OwnIn.nil⟩, Below.refl _ _⟩
  | some a =>
    have hown : (w.alloc (.cells #[] 72)).ownsRow w.heap.size 72 3 (.slice (some ⟨w.heap.size, 0, none⟩) 0 0) 0 [] := ⟨rfl, .inr ⟨w.heap.size, 0, #[], rfl, Nat.le_refl _, heap_alloc_new w _, Nat.le_refl _, by unfold maxLen; omega, rfl, rfl⟩⟩
    have hcells : CellsAt (w.alloc (.cells #[] 72)) (some a) (L.map (.int .i64)) := (h.below ((Below.refl _ w).alloc (Nat.le_refl _) _)).cells
    have Hc := Lib.hid h
    go_enter Tryd.func35, Tryd.ntmps35
    go_wp2_with (at_builtin; refine wpList_append_cells rfl _ _ rfl eIO rfl hown (some a) n c (L.map (.int .i64)) rfl hcells (by simp [hL]) (fun u hu => by obtain ⟨x, _, rfl⟩ := List.mem_map.1 hu; rfl) (by omega) (by omega) (by simp) ?_; intro v' w1 hp)
    have hbl : Below w.heap.size w w1 := hp.below hown ((Below.refl _ w).alloc (Nat.le_refl _) _) (by simp)
    have hown1 := hp.own
    rw [Nat.zero_add, List.nil_append] at hown1
    obtain ⟨A', c', rfl⟩ := ownsRow_form hown1
    clear hp
    go_wp2
    go_ret
    exact ⟨⟨A', c', rfl, own_ownIn hown1⟩, hbl⟩

theorem eIP : EInfo Tryd.prog 23 68 2 16 := EInfo.of (z := .agg #[.int .i64 0, .int .i64 0]) Tryd.underlying23 (by kernel_rfl) rfl (by decide)
set_option maxHeartbeats 400000 in
theorem CloneP_new (L : List Int) (n : Nat) (hL : L.length = n * 2) (A : Option Addr) (c : Nat) (w : World) (h : IntsAt w A L) (hn : n ≤ 1000000) :
    Calls Tryd.prog 34 #[.slice A n c] w fun e w' => (∃ A' c', e = .returned (.slice A' n c') ∧ OwnIn w.heap.size w' A' 68 L) ∧ Below w.heap.size w w' := by
  have q22 := fun (w : World) (a : Option Addr) (n c n' c' : Nat) => Lib.run_eql_slice_nil w _ _ a n c n' c' Tryd.underlying23
  cases A with
  | none =>
    have hL0 : L = [] := Classical.byContradiction fun e => by obtain ⟨b, off, hA, _⟩ := h e; cases hA
    subst hL0
    obtain rfl : n = 0 := by simp at hL; omega
    go_enter Tryd.func34, Tryd.ntmps34
    go_wp2
    go_ret
    exact ⟨⟨none, 0, rfl, OwnIn.nil⟩, Below.refl _ _⟩
  | some a =>
    have hown : (w.alloc (.cells #[] 68)).ownsRow w.heap.size 68 2 (.slice (some ⟨w.heap.size, 0, none⟩) 0 0) 0 [] := ⟨rfl, .inr ⟨w.heap.size, 0, #[], rfl, Nat.le_refl _, heap_alloc_new w _, Nat.le_refl _, by unfold maxLen; omega, rfl, rfl⟩⟩
    have hcells : CellsAt (w.alloc (.cells #[] 68)) (some a) (L.map (.int .i64)) := (h.below ((Below.refl _ w).alloc (Nat.le_refl _) _)).cells
    have Hc := Lib.hid h
    go_enter Tryd.func34, Tryd.ntmps34
    go_wp2_with (at_builtin; refine wpList_append_cells rfl _ _ rfl eIP rfl hown (some a) n c (L.map (.int .i64)) rfl hcells (by simp [hL]) (fun u hu => by obtain ⟨x, _, rfl⟩ := List.mem_map.1 hu; rfl) (by omega) (by omega) (by simp) ?_; intro v' w1 hp)
    have hbl : Below w.heap.size w w1 := hp.below hown ((Below.refl _ w).alloc (Nat.le_refl _) _) (by simp)
    have hown1 := hp.own
    rw [Nat.zero_add, List.nil_append] at hown1
    obtain ⟨A', c', rfl⟩ := ownsRow_form hown1
    clear hp
    go_wp2
    go_ret
    exact ⟨⟨A', c', rfl, own_ownIn hown1⟩, hbl⟩

theorem eII : EInfo Tryd.prog 24 3 1 8 := EInfo.of (z := .int .i64 0) Tryd.underlying24 (by kernel_rfl) rfl (by decide)
set_option maxHeartbeats 400000 in
theorem CloneI_new (L : List Int) (n : Nat) (hL : L.length = n * 1) (A : Option Addr) (c : Nat) (w : World) (h : IntsAt w A L) (hn : n ≤ 1000000) :
    Calls Tryd.prog 22 #[.slice A n c] w fun e w' => (∃ A' c', e = .returned (.slice A' n c') ∧ OwnIn w.heap.size w' A' 3 L) ∧ Below w.heap.size w w' := by
  have q22 := fun (w : World) (a : Option Addr) (n c n' c' : Nat) => Lib.run_eql_slice_nil w _ _ a n c n' c' Tryd.underlying24
  cases A with
  | none =>
    have hL0 : L = [] := Classical.byContradiction fun e => by obtain ⟨b, off, hA, _⟩ := h e; cases hA
    subst hL0
    obtain rfl : n = 0 := by simp at hL; omega
    go_enter Tryd.func22, Tryd.ntmps22
    go_wp2
    go_ret
    exact ⟨⟨none, 0, rfl, OwnIn.nil⟩, Below.refl _ _⟩
  | some a =>
    have hown : (w.alloc (.cells #[] 3)).ownsRow w.heap.size 3 1 (.slice (some ⟨w.heap.size, 0, none⟩) 0 0) 0 [] := ⟨rfl, .inr ⟨w.heap.size, 0, #[], rfl, Nat.le_refl _, heap_alloc_new w _, Nat.le_refl _, by unfold maxLen; omega, rfl, rfl⟩⟩
    have hcells : CellsAt (w.alloc (.cells #[] 3)) (some a) (L.map (.int .i64)) := (h.below ((Below.refl _ w).alloc (Nat.le_refl _) _)).cells
    have Hc := Lib.hid h
    go_enter Tryd.func22, Tryd.ntmps22
    go_wp2_with (at_builtin; refine wpList_append_cells rfl _ _ rfl eII rfl hown (some a) n c (L.map (.int .i64)) rfl hcells (by simp [hL]) (fun u hu => by obtain ⟨x, _, rfl⟩ := List.mem_map.1 hu; rfl) (by omega) (by omega) (by simp) ?_; intro v' w1 hp)
    have hbl : Below w.heap.size w w1 := hp.below hown ((Below.refl _ w).alloc (Nat.le_refl _) _) (by simp)
    have hown1 := hp.own
    rw [Nat.zero_add, List.nil_append] at hown1
    obtain ⟨A', c', rfl⟩ := ownsRow_form hown1
    clear hp
    go_wp2
    go_ret
    exact ⟨⟨A', c', rfl, own_ownIn hown1⟩, hbl⟩
end Go.Proofs.YtgkanbaboeppfaaDoor
