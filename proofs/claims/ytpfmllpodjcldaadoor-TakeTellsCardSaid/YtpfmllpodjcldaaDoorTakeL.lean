/-
  Graphs of rights: what the search tells is who can; a closed fact. Plain laws.
-/
import Derived.Test.YtpfmllpodjcldaaDoorTakeQ
namespace Go.Proofs.YtpfmllpodjcldaaDoor
open Go.RowKit
set_option linter.unusedVariables false

theorem way_link {E : Nat → Nat → Prop} {a : Nat} {p : List Nat} {x : Nat} (h : WayTo E a p x) : Link E a x := by
  induction h with
  | start => exact .refl _
  | more _ e ih => exact .tail ih e
theorem link_way {E : Nat → Nat → Prop} {a x : Nat} (h : Link E a x) : ∃ p, WayTo E a p x := by
  induction h with
  | refl => exact ⟨_, .start⟩
  | tail _ e ih =>
    obtain ⟨p, hp⟩ := ih
    exact ⟨_, .more hp e⟩
theorem gCan_iff {L : List (List Int)} {kb who over : Nat} (hw : who < L.length) : gCan L kb who over ↔ CanGet (gN L) L.length kb who over := by
  constructor
  · rintro ⟨p, x, h1, h2⟩
    have hx : x < L.length := by
      cases h1 with
      | start => exact hw
      | more _ e => exact e.2.1
    exact ⟨x, hx, way_link h1, h2⟩
  · rintro ⟨x, hx, h1, h2⟩
    obtain ⟨p, hp⟩ := link_way h1
    exact ⟨p, x, hp, h2⟩
def factYes : List (List Int) := [[0, 1, 0], [0, 0, 4], [0, 0, 0]]
def factNo : List (List Int) := [[0, 0, 0], [0, 0, 4], [0, 0, 0]]
theorem factYes_ok : GOk factYes := gOk (by decide)
theorem factNo_ok : GOk factNo := gOk (by decide)
theorem factYes_can : gCan factYes 2 0 2 := ⟨[0, 1], 1, .more .start ⟨by decide, by decide, .inl (.inl (by decide))⟩, by unfold gGood; decide⟩
theorem factNo_cannot : ¬ gCan factNo 2 0 2 := by
  rintro ⟨p, x, h1, h2⟩
  have hx : x = 0 := by
    have : ∀ {p x}, WayTo (gE factNo) 0 p x → x = 0 := fun {p x} h => by
      induction h with
      | start => rfl
      | more _ e ih =>
        rename_i z y _
        subst ih
        have h3 : ∀ y, y < 3 → ¬ (Tg (gN factNo 0 y) ∨ Tg (gN factNo y 0)) := by unfold Tg; decide
        exact absurd e.2.2 (h3 _ e.2.1)
    exact this h1
  subst hx
  have h4 : ¬ (gN factNo 0 2).testBit 2 = true := by decide
  exact h4 h2
/-- Rows of three, laid one behind the other. -/
theorem rows_three {w : World} {b0 b1 b2 bo : Nat} {x00 x01 x02 x10 x11 x12 x20 x21 x22 : Int} (h0 : BoxN w b0 3 #[.int .i64 x00, .int .i64 x01, .int .i64 x02]) (h1 : BoxN w b1 3 #[.int .i64 x10, .int .i64 x11, .int .i64 x12]) (h2 : BoxN w b2 3 #[.int .i64 x20, .int .i64 x21, .int .i64 x22])
    (ho : BoxN w bo 36 #[.slice (some ⟨b0, 0, none⟩) 3 3, .slice (some ⟨b1, 0, none⟩) 3 3, .slice (some ⟨b2, 0, none⟩) 3 3]) : RowsIn anyB 1 w (some ⟨bo, 0, none⟩) [[x00, x01, x02], [x10, x11, x12], [x20, x21, x22]] := fun _ => by
  refine ⟨bo, 0, rfl, trivial, fun i l hi => ?_⟩
  have three : ∀ {b : Nat} {a0 a1 a2 : Int}, BoxN w b 3 #[.int .i64 a0, .int .i64 a1, .int .i64 a2] → IntsIn anyB w (some ⟨b, 0, none⟩) [a0, a1, a2] := fun {b a0 a1 a2} h _ => ⟨b, 0, rfl, trivial, fun j x hj => by
    match j, hj with
    | 0, hj => injection hj with hj; subst hj; exact h.cell (k := 0) rfl
    | 1, hj => injection hj with hj; subst hj; exact h.cell (k := 1) rfl
    | 2, hj => injection hj with hj; subst hj; exact h.cell (k := 2) rfl
    | j + 3, hj => simp at hj⟩
  match i, hi with
  | 0, hi => injection hi with hi; subst hi; exact ⟨_, 3, 3, ho.cell (k := 0) rfl, rfl, by unfold maxLen; omega, three h0⟩
  | 1, hi => injection hi with hi; subst hi; exact ⟨_, 3, 3, ho.cell (k := 1) rfl, rfl, by unfold maxLen; omega, three h1⟩
  | 2, hi => injection hi with hi; subst hi; exact ⟨_, 3, 3, ho.cell (k := 2) rfl, rfl, by unfold maxLen; omega, three h2⟩
  | i + 3, hi => simp at hi
end Go.Proofs.YtpfmllpodjcldaaDoor
