/-
  What Run tells, by ways.
-/
import Derived.Test.YtdgncngkalgknaaDoorRunD
import Derived.Test.YtdgncngkalgknaaDoorCells6
namespace Go.Proofs.YtdgncngkalgknaaDoor
open Go.RowKit
set_option maxRecDepth 100000
set_option linter.unusedVariables false

/-- Run tells an error. -/
def RunErr (w : World) (e : Ending) (w' : World) (k : Nat) : Prop := e = .returned (.tuple #[.slice none 0 0, .int .i64 0, .iface 61 (.int .i64 k)]) ∧ Below w.heap.size w w'
/-- Run ends. -/
def RunEnd (w V : World) (e : Ending) (w' : World) (b : Nat) (v' : List Nat) : Prop := (∃ B c', e = .returned (.tuple #[.slice B 6 c', .int .i64 (b : Nat), .nilIface]) ∧ IntsAt w' B (castL v')) ∧ Below V.heap.size V w' ∧ Below w.heap.size w w'
section
variable {P : List Int} {n : Nat} {A : Option Addr} {c : Nat} {w : World} {L : List Int} {Al : Option Addr} {cl : Nat} {fuel : Int} {s : St}
theorem Run_cases (h : NodesAt w A P n) (hL : IntsAt w Al L) (hs : progCode P n = 0 → IsSt P (n - 1) s) :
    (∃ k, k ≠ 0 ∧ ∀ V, Below w.heap.size w V → Calls Tryd.prog 14 #[.slice A n c, .slice Al L.length cl, .int .i64 fuel] V fun e w' => RunErr w e w' k) ∨
    (∃ v l v' l', (L = castL v ∧ L.length = 6 ∧ fuel = (l : Nat) ∧ Vars v ∧ progCode P n = 0 ∧ s.run v l = some (v', l') ∧ Vars v') ∧ ∀ V, Below w.heap.size w V → Calls Tryd.prog 14 #[.slice A n c, .slice Al L.length cl, .int .i64 fuel] V fun e w' => RunEnd w V e w' (l - l') v') := by
  obtain ⟨k, hk⟩ : ∃ k, runCode P n L fuel = k := ⟨_, rfl⟩
  by_cases hne : k = 0
  · subst hne
    obtain ⟨hc, ⟨v, rfl, hv⟩, l, rfl, hl⟩ := runCode_ok hk
    have h6 : (castL v).length = 6 := by rw [length_castL, hv.1]
    have hR := fun V (hV : Below w.heap.size w V) => Run_ok (c := c) (cl := cl) (h.below (B := 0) hV) (hL.below hV) hk hv (hs hc)
    cases hr : s.run v l with
    | none =>
      refine .inl ⟨4, by decide, fun V hV => ?_⟩
      rw [h6]
      have := hR V hV
      rw [hr] at this
      exact this.mono fun e w' ⟨he, hb⟩ => ⟨he, hV.trans (hb.mono hV.size)⟩
    | some q =>
      obtain ⟨v', l'⟩ := q
      refine .inr ⟨v, l, v', l', ⟨rfl, h6, rfl, hv, hc, hr, St.run_vars (hs hc).ok hr hv⟩, fun V hV => ?_⟩
      rw [h6]
      have := hR V hV
      rw [hr] at this
      exact this.mono fun e w' ⟨he, hb⟩ => ⟨he, hb, hV.trans (hb.mono hV.size)⟩
  · exact .inl ⟨k, hne, fun V hV => (Run_bad (c := c) (cl := cl) (h.below (B := 0) hV) (hL.below hV) hk hne).mono fun e w' ⟨he, hb⟩ => ⟨he, hV.trans (hb.mono hV.size)⟩⟩
theorem Run_some (h : NodesAt w A P n) (hL : IntsAt w Al L) (hs : progCode P n = 0 → IsSt P (n - 1) s) (V : World) (hV : Below w.heap.size w V) :
    Calls Tryd.prog 14 #[.slice A n c, .slice Al L.length cl, .int .i64 fuel] V fun e w' => (∃ x b y, e = .returned (.tuple #[x, b, y])) ∧ Below w.heap.size w w' := by
  rcases Run_cases (c := c) (cl := cl) (fuel := fuel) h hL hs with ⟨k, -, h⟩ | ⟨v, l, v', l', -, h⟩
  · exact (h V hV).mono fun e w' ⟨he, hb⟩ => ⟨⟨_, _, _, he⟩, hb⟩
  · exact (h V hV).mono fun e w' ⟨⟨B, c', he, _⟩, _, hb⟩ => ⟨⟨_, _, _, he⟩, hb⟩
end
end Go.Proofs.YtdgncngkalgknaaDoor
