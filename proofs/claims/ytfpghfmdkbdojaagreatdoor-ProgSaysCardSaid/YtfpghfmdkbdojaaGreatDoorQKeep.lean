/-
  Worlds that differ in certain blocks alone.
-/
import Derived.Test.YtfpghfmdkbdojaaGreatDoorPush
import Derived.Test.YtfpghfmdkbdojaaGreatDoorBox
import Derived.Test.YtfpghfmdkbdojaaGreatDoorOver
import Derived.Maps.OwnSet
namespace Go.Proofs.YtfpghfmdkbdojaaGreatDoor
open Go.RowKit Go.Maps
set_option linter.unusedVariables false

/-- Nothing has turned but what is in S, and nothing has gone. -/
structure QKeeps (S : Nat → Prop) (w w' : World) : Prop where
  os : w'.os = w.os
  tape : w'.tape = w.tape
  output : w'.output = w.output
  size : w.heap.size ≤ w'.heap.size
  block : ∀ b, b < w.heap.size → ¬ S b → w'.heap[b]? = w.heap[b]?
section
variable {S S' : Nat → Prop} {w w' w'' : World}
theorem QKeeps.refl (S : Nat → Prop) (w : World) : QKeeps S w w := ⟨rfl, rfl, rfl, Nat.le_refl _, fun _ _ _ => rfl⟩
theorem QKeeps.trans (h : QKeeps S w w') (k : QKeeps S' w' w'') (hS : ∀ b, S' b → S b ∨ w.heap.size ≤ b) : QKeeps S w w'' :=
  ⟨k.os.trans h.os, k.tape.trans h.tape, k.output.trans h.output, Nat.le_trans h.size k.size, fun b hb hn => (k.block b (Nat.lt_of_lt_of_le hb h.size) (fun h' => (hS b h').elim hn (fun e => by omega))).trans (h.block b hb hn)⟩
theorem QKeeps.drewN (h : QKeeps S w w') (n : Nat) : QKeeps S w (w'.drewN n) := ⟨h.os, h.tape, h.output, h.size, h.block⟩
theorem QKeeps.of_below (h : Below w.heap.size w w') : QKeeps S w w' := ⟨h.os, h.tape, h.output, h.size, fun b hb _ => h.block b hb⟩
theorem QKeeps.grown {row : Option Nat} (h : QKeeps S w w') (hg : w'.grownBy w'' row) (hr : ∀ g, row = some g → S g ∨ w.heap.size ≤ g) : QKeeps S w w'' :=
  ⟨hg.os.trans h.os, hg.tape.trans h.tape, hg.output.trans h.output, Nat.le_trans h.size hg.size, fun b hb hn => (hg.block b (Nat.lt_of_lt_of_le hb h.size) (fun e => (hr b e.symm).elim hn (fun e => by omega))).trans (h.block b hb hn)⟩
theorem QKeeps.setCell (h : QKeeps S w w') {p : Addr} (hp : S p.block) (v : Value) : QKeeps S w (w'.setCell p v) :=
  ⟨h.os, h.tape, h.output, by simpa using h.size, fun b hb hn => (Below.heap_setCell w' p v b (fun e => hn (by rw [e]; exact hp))).trans (h.block b hb hn)⟩
theorem QKeeps.alloc (h : QKeeps S w w') (o : Obj) : QKeeps S w (w'.alloc o) := h.grown (World.grownBy_alloc w' o none) (fun _ e => by cases e)
theorem QKeeps.to_below {B : Nat} {w0 : World} (h : QKeeps S w w') (hS : ∀ b, S b → B ≤ b) (hb : Below B w0 w) (hB : B ≤ w.heap.size) : Below B w0 w' :=
  ⟨h.os.trans hb.os, h.tape.trans hb.tape, h.output.trans hb.output, Nat.le_trans hb.size h.size, fun k hk => (h.block k (by omega) (fun e => by have := hS k e; omega)).trans (hb.block k hk)⟩
theorem QKeeps.box {b : Nat} {t : TypeId} {vs : Array Value} (h : QKeeps S w w') (hb : BoxN w b t vs) (hn : ¬ S b) : BoxN w' b t vs := (h.block b hb.lt hn).trans hb
theorem QKeeps.row {base size n : Nat} {e : TypeId} {v : Value} {xs : List Value} (h : QKeeps S w w') (hr : w.ownsRow base e size v n xs) (hn : ∀ g, v.ownBlock = some g → ¬ S g) : w'.ownsRow base e size v n xs := by
  refine ⟨hr.1, ?_⟩
  rcases hr.2 with h0 | ⟨g, cap, cur, hv, hg, hc, r⟩
  · exact .inl h0
  · exact .inr ⟨g, cap, cur, hv, hg, (h.block g (Array.getElem?_eq_some_iff.1 hc).1 (hn g (by rw [hv]; rfl))).trans hc, r⟩
end
theorem ownsMap_block {H : Type} {P : Program} {k : TypeId} {R : Value → Option (DataW H × List MemPlace)} {w w' : World} {b n : Nat} {D : DataW H} (h : w.ownsMap P k R b n D) (hb : w'.heap[b]? = w.heap[b]?) : w'.ownsMap P k R b n D := by
  obtain ⟨es, clock, h1, h2⟩ := h
  exact ⟨es, clock, hb.trans h1, h2⟩

section
variable {w : World}
theorem own_off {base size n b : Nat} {e t : TypeId} {v : Value} {xs : List Value} {vs : Array Value} {k : Nat} (h : w.ownsRow base e size v n xs) (hx : BoxN w b t vs) (ht : e ≠ t) (u : Value) : (w.setCell ⟨b, k, none⟩ u).ownsRow base e size v n xs := by
  refine ⟨h.1, ?_⟩
  rcases h.2 with h0 | ⟨g, cap, cur, hv, hg, hc, r⟩
  · exact .inl h0
  · refine .inr ⟨g, cap, cur, hv, hg, (Below.heap_setCell w ⟨b, k, none⟩ u g (fun e' => ?_)).trans hc, r⟩
    have e' : g = b := e'
    subst e'
    have h2 : w.heap[g]? = _ := hx
    rw [hc] at h2
    injection h2 with h2
    injection h2 with _ h2
    exact ht h2
theorem own_lt {base size n : Nat} {e : TypeId} {v : Value} {xs : List Value} (h : w.ownsRow base e size v n xs) {g : Nat} (hg : v.ownBlock = some g) : base ≤ g ∧ g < w.heap.size := by
  rcases h.2 with ⟨h0, _⟩ | ⟨g', cap, cur, hv, h1, hc, r⟩
  · rw [h0] at hg; cases hg
  · rw [hv] at hg
    have : g' = g := by simpa [Value.ownBlock] using hg
    subst this
    exact ⟨h1, (Array.getElem?_eq_some_iff.1 hc).1⟩
end
end Go.Proofs.YtfpghfmdkbdojaaGreatDoor
