/-
  A loop whose rounds hold ranges over functions: each leaves a mark among the deferred calls. No program is looked at.
-/
import Derived.Test.YtdgncngkalgknaaDoorMarks
import Derived.Test.YtdgncngkalgknaaDoorBox
namespace Go.Proofs.YtdgncngkalgknaaDoor
open Go.RowKit

/-- A list with some of its places written anew. -/
def patchL : List Value → List Nat → List Value → List Value
  | l, [], _ => l
  | l, _ :: _, [] => l
  | l, i :: is, v :: vs => patchL (l.set i v) is vs
def valL (l : List Value) (i : Nat) : Value := l.getD i undef

theorem set_getD (l : List Value) (i : Nat) (d : Value) : l.set i (l.getD i d) = l := by
  refine List.ext_getElem? fun j => ?_
  rw [List.getElem?_set]
  by_cases h : i = j
  · subst h
    rw [if_pos rfl]
    by_cases hi : i < l.length
    · rw [if_pos hi, List.getD_eq_getElem?_getD, List.getElem?_eq_getElem hi]; rfl
    · rw [if_neg hi, List.getElem?_eq_none (by omega)]
  · rw [if_neg h]
theorem patchL_self : ∀ (slots : List Nat) (l : List Value), patchL l slots (slots.map (valL l)) = l
  | [], l => rfl
  | i :: is, l => by
    rw [List.map_cons, patchL]
    unfold valL
    rw [set_getD]
    exact patchL_self is l

/-- What a round must achieve. -/
def RoundEnd (l : List Value) (slots : List Nat) (rel : (Nat → Value) → List Nat → World → Prop) (mu : (Nat → Value) → World → Nat) (m : Nat) (a' : Act) (W' : World) : Prop :=
  ∃ l' Ds', a' = { tmps := l'.toArray, defers := Ds'.map mark } ∧ l' = patchL l slots (slots.map (valL l')) ∧ rel (valL l') Ds' W' ∧ mu (valL l') W' < m

theorem wpIn_loop_marks {F : Fence} {n : Nat} {P : Program} {Q : Exit → Act → World → Prop} {c : Code} {l : List Value} {Ds : List Nat} {w : World} (slots : List Nat)
    (rel : (Nat → Value) → List Nat → World → Prop) (mu : (Nat → Value) → World → Nat) (h0 : rel (valL l) Ds w)
    (hr : ∀ us Ds W, us.length = slots.length → rel (valL (patchL l slots us)) Ds W →
      c.wpIn F n P (Exit.then (RoundEnd l slots rel mu (mu (valL (patchL l slots us)) W)) Q) { tmps := (patchL l slots us).toArray, defers := Ds.map mark } W) :
    (Code.loop c).wpIn F n P Q { tmps := l.toArray, defers := Ds.map mark } w := by
  refine wpIn_loop (fun a' w' => ∃ us Ds', us.length = slots.length ∧ a' = { tmps := (patchL l slots us).toArray, defers := Ds'.map mark } ∧ rel (valL (patchL l slots us)) Ds' w')
    (fun a' w' => mu (valL a'.tmps.toList) w') ⟨slots.map (valL l), Ds, by simp, by rw [patchL_self], by rw [patchL_self]; exact h0⟩ ?_
  rintro a' W ⟨us, Ds', hus, rfl, hrel⟩
  refine Code.wpIn_mono ?_ (hr us Ds' W hus hrel)
  intro e a'' W' h
  cases e with
  | normal =>
    obtain ⟨l', Ds'', rfl, he, hrel', hmu⟩ := h
    refine ⟨⟨slots.map (valL l'), Ds'', by simp, ?_, ?_⟩, ?_⟩
    · rw [← he]
    · rw [← he]; exact hrel'
    · exact hmu
  | _ => exact h
theorem MarksAt.own {B0 B : Nat} {w w' : World} {Ds : List Nat} (h : MarksAt B0 w Ds) (hlt : ∀ D ∈ Ds, D < B) {row : Option Nat} (hg : w.grownBy w' row) (hr : ∀ r, row = some r → B ≤ r ∧ ∃ o : Obj, w.heap[r]? = some o ∧ o.isCells = false) : MarksAt B0 w' Ds :=
  ⟨h.1, fun D hD => ⟨(h.2 D hD).1, (hg.block D (h.lt hD) fun eq => by have := (hr D eq.symm).1; have := hlt D hD; omega).trans (h.2 D hD).2⟩⟩
theorem MarksAt.below {B0 : Nat} {w w' : World} {Ds : List Nat} (h : MarksAt B0 w Ds) (hb : Below w.heap.size w w') : MarksAt B0 w' Ds := h.keep (keepsOthers_below hb)
theorem MarksAt.setCell {B0 : Nat} {w : World} {Ds : List Nat} (h : MarksAt B0 w Ds) (a : Addr) (v : Value) : MarksAt B0 (w.setCell a v) Ds := h.keep (KeepsOthers.setCell w a v)
theorem bit_below {s n x : Nat} (hs : s < 2 ^ n) (hx : s.testBit x = true) : x < n := by
  rcases Nat.lt_or_ge x n with h | h
  · exact h
  · rw [Nat.testBit_lt_two_pow (Nat.lt_of_lt_of_le hs (Nat.pow_le_pow_right (by decide) h))] at hx; cases hx
theorem OwnAt.own {w w' : World} {g : Nat} {e : TypeId} {l : List Value} (h : OwnAt w g e l) {row : Option Nat} (hg : w.grownBy w' row) (hr : ∀ r, row = some r → ∃ o : Obj, w.heap[r]? = some o ∧ o.isCells = false) : OwnAt w' g e l :=
  h.block (hg.block g h.lt fun eq => by
    obtain ⟨o, ho, hc⟩ := hr g eq.symm
    obtain ⟨cur, h', _⟩ := h
    rw [h'] at ho
    injection ho with ho
    subst ho
    cases hc)
theorem OwnAt.alloc {w : World} {g : Nat} {e : TypeId} {l : List Value} (h : OwnAt w g e l) (o : Obj) : OwnAt (w.alloc o) g e l := h.below ((Below.refl _ w).alloc (Nat.le_refl _) o) h.lt
theorem cons_of_len {α : Type} {l : List α} {k : Nat} (h : l.length = k + 1) : ∃ u t, l = u :: t ∧ t.length = k := by
  cases l with
  | nil => cases h
  | cons u t => exact ⟨u, t, rfl, by simpa using h⟩

end Go.Proofs.YtdgncngkalgknaaDoor
