/-
  Contract: quietwingref5.Open.
-/
import Derived.Test.YtanlmfnhlldkeaaGreatDoorRAgain
import Derived.Test.YtanlmfnhlldkeaaGreatDoorDkNA
import Derived.Deep.CutRange
namespace Go.Proofs.YtanlmfnhlldkeaaGreatDoor
open Go.RowKit
set_option maxRecDepth 100000
set_option linter.unusedVariables false

theorem results_cell_tmp2 {fn : Func} {p u u2 : Tmp} {ty : TypeId} (h : fn.results = #[.cell p ty, .tmp u, .tmp u2]) (tmps : Array Value) (P : Program) (w : World) :
    (results fn tmps).run P w =
      ((asAddr (tmps.getD p undef)).run P w).andThen fun a w₁ => ((loadVar ty a).run P w₁).andThen fun v w₂ => .ok (.tuple #[v, tmps.getD u undef, tmps.getD u2 undef]) w₂ := by
  simp only [results, h]
  simp [Sem.run_bind, Result.andThen]
theorem results_row_tmp2 {P : Program} {fn : Func} {p u u2 : Tmp} {ty : TypeId} (h : fn.results = #[.cell p ty, .tmp u, .tmp u2]) (tmps : Array Value) (w : World) (g : Nat) (t : TypeId) (cs : Array Value) (fr : Nat × Nat) (d : TypeDesc)
    (hp : tmps.getD p undef = .pointer (some ⟨g, 0, none⟩)) (hg : w.heap[g]? = some (.cells cs t fr))
    (hu : P.underlying ty = some d) (hd : (match d with | .struct _ | .array _ _ => true | _ => false) = true) (hi : (P.info? ty).map (·.size) = some cs.size) :
    (results fn tmps).run P w = .ok (.tuple #[.agg cs, tmps.getD u undef, tmps.getD u2 undef]) w := by
  rw [results_cell_tmp2 h, hp]
  simp [asAddr, Result.andThen, run_loadVar_row w g t ty cs fr d hg hu hd hi]
/-- No trail. -/
abbrev rtZ : Array Value := #[.slice none 0 0, .slice none 0 0, .slice none 0 0, .slice none 0 0, .slice none 0 0, .string ⟨#[]⟩, .int .i64 0, .int .i64 0]
/-- What Open hands on, in the document. -/
def ROpenPost (ok : Nat → Prop) (U F : List Int) (r : TS × Nat × Nat) (e : Ending) (w' : World) : Prop := ∃ v', e = .returned (.tuple #[v', .int .i64 r.2.1, .int .i64 r.2.2]) ∧ (r.2.2 = 0 → RT ok w' v' U F r.1) ∧ (r.2.2 ≠ 0 → v' = .agg rtZ)
theorem tLine_many {U F : List Int} {T : TS} {s : List UInt8} (h : (tLine U F T s).2 = 0) : (tLine U F T s).1.many = T.many + 1 := by
  unfold tLine at h ⊢
  dsimp only at h ⊢
  split
  · rename_i h1; rw [if_pos h1] at h; cases h
  · rename_i h1
    rw [if_neg h1] at h
    cases hn : numsV (cutL 32 s) with
    | none => rw [hn] at h; cases h
    | some l =>
      rw [hn] at h
      dsimp only at h ⊢
      split
      · rename_i h2; rw [if_pos h2] at h; cases h
      · rename_i h2
        rw [if_neg h2] at h
        split
        · rename_i h3; rw [if_pos h3] at h; cases h
        · rename_i h3
          rw [if_neg h3] at h
          split
          · rename_i h4; rw [if_pos h4] at h; cases h
          · rename_i h4
            rw [if_neg h4] at h
            split
            · rename_i h5; rw [if_pos h5] at h; cases h
            · rename_i h5
              rw [if_neg h5] at h
              split
              · rename_i h6; rw [if_pos h6] at h; cases h
              · unfold tAsk at h5 ⊢
                rw [if_neg h4] at h5 ⊢
                split
                · rename_i h7
                  rw [if_pos h7] at h5
                  exact absurd rfl h5
                · rfl
theorem TLen.line {m n : Nat} {U F : List Int} {T : TS} (h : TLen m n U F T) (s : List UInt8) : TLen m n U F (tLine U F T s).1 := by
  unfold tLine
  dsimp only
  split
  · exact h
  · split
    · exact h
    · split
      · exact h
      · split
        · exact h
        · split
          · exact h
          · split
            · exact h.ask _ _ _ _
            · split
              · exact h.ask _ _ _ _
              · exact h.ask _ _ _ _
end Go.Proofs.YtanlmfnhlldkeaaGreatDoor
