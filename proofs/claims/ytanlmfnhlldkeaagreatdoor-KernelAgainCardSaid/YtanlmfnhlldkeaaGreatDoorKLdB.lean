/-
  What a kernel is loaded from, in memory: rows of numbers.
-/
import Derived.Test.YtanlmfnhlldkeaaGreatDoorKLdA
import Derived.Test.YtanlmfnhlldkeaaGreatDoorSaveB
import Derived.Test.YtanlmfnhlldkeaaGreatDoorTrO
import Derived.Laws.IdiomCopy
import Derived.Deep.RegionLaw
namespace Go.Proofs.YtanlmfnhlldkeaaGreatDoor
open Go.RowKit
set_option maxRecDepth 100000
set_option linter.unusedVariables false

theorem eRowsI : EInfo Tryz.prog 28 24 1 24 := EInfo.of (z := .slice none 0 0) Tryz.underlying28 (by kernel_rfl) rfl (by decide)
/-- Rows, each in a block of its own. -/
structure Rws (rr : Nat → Nat) (B : Nat) (Y : World) (A : Option Addr) (c : Nat) (Ls : List (List Int)) (xs : List Value) : Prop where
  own : Y.ownsRow B 24 1 (.slice A Ls.length c) Ls.length xs
  row : ∀ j x l, xs[j]? = some x → Ls[j]? = some l → RowW rr (j + 1) Y x l
  low : ∀ b, rr b ≠ 0 → B ≤ b ∧ ∃ cur fr, Y.heap[b]? = some (.cells cur 3 fr)
  few : ∀ b, rr b ≤ Ls.length
theorem Rws.nil (B : Nat) (Y : World) : Rws (fun _ => 0) B Y none 0 [] [] :=
  ⟨World.ownsRow_nil Y B _ 1, fun j x l h => (by cases h), fun b h => absurd rfl h, fun b => Nat.zero_le _⟩
section
variable {rr : Nat → Nat} {B c : Nat} {Y Y' : World} {A : Option Addr} {Ls : List (List Int)} {xs : List Value}
theorem Rws.xl (h : Rws rr B Y A c Ls xs) : xs.length = Ls.length := by have := h.own.1; simpa using this
theorem Rws.aCells (h : Rws rr B Y A c Ls xs) {g : Nat} (hg : (Value.slice A Ls.length c).ownBlock = some g) : B ≤ g ∧ g < Y.heap.size ∧ ∃ o : Obj, Y.heap[g]? = some o ∧ o.isCells = true := by
  rcases h.own.2 with ⟨hv, _⟩ | ⟨g', cap, cur, hv, hb, hc, _⟩
  · rw [hv] at hg; simp [Value.ownBlock] at hg
  · rw [hv] at hg; simp [Value.ownBlock] at hg; subst hg; exact ⟨hb, (Array.getElem?_eq_some_iff.1 hc).1, _, hc, rfl⟩
theorem Rws.keep (h : Rws rr B Y A c Ls xs) (hk : ∀ b, B ≤ b → (∃ o : Obj, Y.heap[b]? = some o ∧ o.isCells = true) → Y'.heap[b]? = Y.heap[b]?) (hs : Y.heap.size ≤ Y'.heap.size) : Rws rr B Y' A c Ls xs := by
  refine ⟨⟨h.own.1, ?_⟩, fun j x l h1 h2 => ?_, fun b hb => ?_, h.few⟩
  · rcases h.own.2 with h0 | ⟨g, cap, cur, hv, hg, hc, r⟩
    · exact .inl h0
    · exact .inr ⟨g, cap, cur, hv, hg, (hk g hg ⟨_, hc, rfl⟩).trans hc, r⟩
  · refine (h.row j x l h1 h2).keep (fun g hg hr => ?_) (fun _ _ => rfl)
    obtain ⟨a1, cur, fr, a3⟩ := h.low g (by omega)
    exact hk g a1 ⟨_, a3, rfl⟩
  · obtain ⟨a1, cur, fr, a3⟩ := h.low b hb
    exact ⟨a1, cur, fr, (hk b a1 ⟨_, a3, rfl⟩).trans a3⟩
theorem Rws.below (h : Rws rr B Y A c Ls xs) (hb : Below Y.heap.size Y Y') : Rws rr B Y' A c Ls xs := h.keep (fun b _ ⟨o, ho, _⟩ => hb.block b (Array.getElem?_eq_some_iff.1 ho).1) hb.size
theorem own_rowW {rr : Nat → Nat} {code base n c : Nat} {Y : World} {A : Option Addr} {l : List Int} (h : OwnI Y base (.slice A n c) l) (hr : ∀ g, A = some ⟨g, 0, none⟩ → rr g = code) : RowW rr code Y (.slice A n c) l := by
  have h' : Y.ownsRow base 3 1 (.slice A n c) l.length (l.map (.int .i64)) := h
  rcases h'.2 with ⟨hv, h0⟩ | ⟨g, cap, cur, hv, hb, hc, hn, hm, hs, ht⟩
  · rw [hv]; exact .inl ⟨rfl, List.length_eq_zero_iff.1 h0⟩
  · obtain ⟨h1, h2, h3⟩ : A = some ⟨g, 0, none⟩ ∧ n = l.length ∧ c = cap := by injection hv with a b d; exact ⟨a, b, d⟩
    refine .inr ⟨g, 0, cap, cur, by rw [h1, h2, h3], hn, hm, hc, by omega, hr g h1, fun j x hj => ?_⟩
    have hjl := (List.getElem?_eq_some_iff.1 hj).1
    have h5 : (cur.toList.take (l.length * 1))[j]? = some (.int .i64 x) := by rw [ht, List.getElem?_map, hj]; rfl
    rw [Nat.mul_one, List.getElem?_take_of_lt hjl] at h5
    rw [Nat.zero_add, ← Array.getElem?_toList]
    exact h5
/-- One row more. -/
theorem Rws.push (h : Rws rr B Y A c Ls xs) {x : Value} {l : List Int} {A1 : Option Addr} {n1 c1 : Nat} (hx : x = .slice A1 n1 c1) (hown : OwnI Y B x l) (hfar : ∀ g, A1 = some ⟨g, 0, none⟩ → rr g = 0) {v' : Value} (hp : Pushed Y Y' B 24 1 (.slice A Ls.length c) v' Ls.length 1 xs [x]) :
    ∃ rr' A' c', v' = .slice A' (Ls.length + 1) c' ∧ Rws rr' B Y' A' c' (Ls ++ [l]) (xs ++ [x]) := by
  obtain ⟨A', c', rfl⟩ := ownsRow_form hp.own
  subst hx
  have hown' : Y.ownsRow B 3 1 (.slice A1 n1 c1) l.length (l.map (.int .i64)) := hown
  have hA1 : ∀ g, A1 = some ⟨g, 0, none⟩ → l ≠ [] ∨ True := fun _ _ => .inr trivial
  -- the lines' row keeps away from rows of numbers
  have hne : ∀ g cur fr, Y.heap[g]? = some (Obj.cells cur 3 fr) → (Value.slice A Ls.length c).ownBlock ≠ some g := fun g cur fr hg e => by
    rcases h.own.2 with ⟨hv, _⟩ | ⟨g', cap, cur', hv, hb, hc, _⟩
    · rw [hv] at e; simp [Value.ownBlock] at e
    · rw [hv] at e
      simp [Value.ownBlock] at e
      subst e
      rw [hc] at hg
      injection hg with hg
      injection hg with _ hg
      exact absurd hg (by decide)
  have hkI : ∀ g cur fr, Y.heap[g]? = some (Obj.cells cur 3 fr) → Y'.heap[g]? = Y.heap[g]? := fun g cur fr hg => hp.grew.block g (Array.getElem?_eq_some_iff.1 hg).1 (fun e => hne g cur fr hg e.symm)
  have hkR : ∀ {code : Nat} {u : Value} {m : List Int} {r1 r2 : Nat → Nat}, RowW r1 code Y u m → (∀ g, r1 g = code → r2 g = code) → RowW r2 code Y' u m := fun {code u m r1 r2} hr h12 => by
    rcases hr with h0 | ⟨g, off, cc, cur, h1, h2, h3, h4, h5, h6, h7⟩
    · exact .inl h0
    · exact .inr ⟨g, off, cc, cur, h1, h2, h3, (hkI g cur _ h4).trans h4, h5, h12 g h6, h7⟩
  refine ⟨fun b => if A1 = some ⟨b, 0, none⟩ then Ls.length + 1 else rr b, A', c', rfl, ⟨?_, fun j y m h1 h2 => ?_, fun b hb => ?_, fun b => ?_⟩⟩
  · rw [List.length_append]
    exact hp.own
  · have hxl := h.xl
    rcases Nat.lt_or_ge j Ls.length with hj | hj
    · rw [List.getElem?_append_left (by omega)] at h1
      rw [List.getElem?_append_left hj] at h2
      refine hkR (h.row j y m h1 h2) fun g hg => ?_
      show (if A1 = some ⟨g, 0, none⟩ then Ls.length + 1 else rr g) = _
      rw [if_neg (fun e => by have := hfar g e; omega)]
      exact hg
    · rw [List.getElem?_append_right (by omega)] at h1 h2
      have hj0 : j = Ls.length := by
        have := (List.getElem?_eq_some_iff.1 h2).1
        simp at this; omega
      subst hj0
      rw [hxl, Nat.sub_self] at h1
      rw [Nat.sub_self] at h2
      injection h1 with h1
      injection h2 with h2
      subst h1 h2
      exact hkR (own_rowW (rr := fun b => if A1 = some ⟨b, 0, none⟩ then Ls.length + 1 else rr b) hown fun g e => if_pos e) fun g hg => hg
  · replace hb : (if A1 = some ⟨b, 0, none⟩ then Ls.length + 1 else rr b) ≠ 0 := hb
    split at hb
    · rename_i e
      rcases hown'.2 with ⟨hv, _⟩ | ⟨g, cap, cur, hv, hb', hc, _⟩
      · injection hv with h1; rw [e] at h1; cases h1
      · injection hv with h1
        rw [e] at h1
        injection h1 with h1
        injection h1 with h1
        subst h1
        exact ⟨hb', cur, _, (hkI b cur _ hc).trans hc⟩
    · obtain ⟨a1, cur, fr, ho⟩ := h.low b hb
      exact ⟨a1, cur, fr, (hkI b cur fr ho).trans ho⟩
  · show (if A1 = some ⟨b, 0, none⟩ then Ls.length + 1 else rr b) ≤ (Ls ++ [l]).length
    rw [List.length_append, List.length_singleton]
    split
    · omega
    · have := h.few b; omega
end
end Go.Proofs.YtanlmfnhlldkeaaGreatDoor
