/-
  Regions that draw their order, inside a round of a range over a function or inside the wide fence: what holds of them outside holds there. No program is looked at.
-/
import Derived.Test.YtdgncngkalgknaaDoorRound
import Derived.StillTailTactics
import Derived.Lib.QuietBelow
import Derived.BigQuiet
namespace Go.Proofs.YtdgncngkalgknaaDoor
open Go.RowKit Go.Sort
set_option linter.unusedVariables false

/-- A post, of the normal end alone. -/
def OnlyNormal (Q : Exit → Act → World → Prop) : Exit → Act → World → Prop
  | .normal, a, w => Q .normal a w
  | _, _, _ => False
theorem letsOut_only {Q : Exit → Act → World → Prop} : ¬ LetsOut (OnlyNormal Q) := fun ⟨_, _, h⟩ => h

section
variable {n : Nat} {P : Program} {ops : Array Oper} {md : Region.Mode} {r : Nat} {Q : Exit → Act → World → Prop}
theorem rowsIn_wide {row : String} {args : Array Value} {w : World} {R : Value → World → Prop} (h : Rows P row args w R) : RowsIn Fence.wide n P row args w R :=
  fun c cs _ => let ⟨v, w', hr, s⟩ := h c cs; ⟨v, w', hr, stepsIn_wide.2 s⟩
theorem operIn_wide {o : Oper} {a : Act} {w : World} {K : Act → World → Prop} (h : o.wp P a w K (OnlyNormal Q)) : o.wpIn Fence.wide n P a w K Q := by
  refine ⟨fun f _ => trivial, ?_⟩
  show o.uponIn Fence.wide n P a K Q ((o.semAt none a.eval).run P w)
  rw [Oper.semAt_none]
  unfold Oper.wp at h
  generalize (execOp a.eval o).run P w = x at *
  cases x with
  | ok y w' =>
    cases y with
    | value v => exact h
    | skip => exact h
    | defer d => exact h
    | enter f args =>
      refine ⟨(fun hd => by cases hd), callsIn_wide.2 (Calls.mono h fun e w'' he => ?_)⟩
      cases e with
      | returned v => exact he
      | panicked c => exact he.elim
      | outgrown => exact absurd he letsOut_only
    | row rw args => exact ⟨(fun hd => by cases hd), rowsIn_wide h⟩
    | _ => exact h.elim
  | halt y w' =>
    cases y <;> exact h.elim
theorem anyIn_wide : ∀ (fuel : Nat) (listed : Array Bool) (a : Act) (w : World), wpAny P md ops (OnlyNormal Q) fuel listed a w → wpAnyIn Fence.wide n P md ops Q fuel listed a w
  | 0, _, _, _, h => h
  | fuel + 1, listed, a, w, h => ⟨h.1, fun i hi => by
      have hh := h.2 i hi
      unfold wpOp at hh
      unfold wpOpIn
      split
      · rename_i ho
        simp only [ho] at hh
        exact anyIn_wide fuel _ _ _ hh
      · rename_i o ho
        simp only [ho] at hh
        split
        · rename_i hw
          simp only [hw, if_true] at hh
          rcases hh with hh | hh
          · exact Oper.wpIn_mono (fun a' w' => anyIn_wide fuel _ a' w') (operIn_wide hh)
          · exact absurd hh.2 letsOut_only
        · rename_i hw
          simp only [hw] at hh
          exact ⟨fun f _ => trivial, anyIn_wide fuel _ _ _ hh⟩⟩
theorem wpIn_round_of_any {id : Nat} {a : Act} {w : World} (hm : P.follows .mixedOrders = true) (hnd : noDefer ops = true)
    (h : wpAny P .any ops (OnlyNormal Q) ops.size (Array.replicate ops.size false) a { w with drawn := w.drawn + 1 }) : (Code.region id ops true).wpIn (Fence.wide.inRound r) n P Q a w :=
  wpIn_region_any hm (anyIn_round rfl hnd _ _ _ _ (anyIn_wide _ _ _ _ h))
theorem wpIn_wide_of_any {id : Nat} {a : Act} {w : World} (hm : P.follows .mixedOrders = true)
    (h : wpAny P .any ops (OnlyNormal Q) ops.size (Array.replicate ops.size false) a { w with drawn := w.drawn + 1 }) : (Code.region id ops true).wpIn Fence.wide n P Q a w :=
  wpIn_region_any hm (anyIn_wide _ _ _ _ h)

/-- Reads, and then one after another what is left. -/
theorem wpAny_still_tail {a : Act} {w : World} {l : List Oper} (m : Nat) (hB : Region.lexTailB .any l.toArray m = true)
    (h : wpStill P l.toArray w (fun a' => wpList P l.toArray Q (l.drop m) a' w) (l.take m) a) : wpAny P .any l.toArray Q l.toArray.size (Array.replicate l.toArray.size false) a w := by
  simp only [Region.lexTailB, Bool.and_eq_true, decide_eq_true_eq] at hB
  obtain ⟨⟨⟨⟨hsel, hn⟩, hs⟩, hc⟩, hlex⟩ := hB
  have hn' : m < l.length := by simpa using hn
  have htl : (l.take m).length = m := by simp; omega
  have hdl : (l.drop m).length = l.toArray.size - m := by simp
  have inv0 : HeadInv .any l.toArray m (Array.replicate l.toArray.size false) :=
    ⟨by simp, fun j oj _ hl => (by rw [getD_replicate_false] at hl; cases hl), fun t _ ht => getD_in (by simpa using ht) (getD_replicate_false _ _)⟩
  have H := wpAnyL_lex (md := .any) (g := l.toArray.size - m) hsel hs hc hn (l.take m) 0 _ a (fun j hj => by
    have hj' : j < m := by rw [htl] at hj; exact hj
    simp [hj']) (by simpa using htl) inv0 (by rw [htl]; exact hlex) h
  have := wpAny_of_head (Q' := Q) (g := l.toArray.size - m) (fun listed a' hL => by
    have := wpAny_of_seq (md := .any) (Q' := Q) (l.drop m) m listed a' w (fun j => by simp [List.getElem?_drop]) (by rw [hdl]; exact hL.1) hL.2
    rwa [hdl] at this) _ _ _ H
  rw [htl, show m + (l.toArray.size - m) = l.toArray.size by omega] at this
  exact this
theorem wpIn_round_still_tail {id : Nat} {a : Act} {w : World} {l : List Oper} (m : Nat) (hm : P.follows .mixedOrders = true) (hnd : noDefer l.toArray = true) (hB : Region.lexTailB .any l.toArray m = true)
    (h : wpStill P l.toArray w.drew (fun a' => wpList P l.toArray (OnlyNormal Q) (l.drop m) a' w.drew) (l.take m) a) : (Code.region id l.toArray true).wpIn (Fence.wide.inRound r) n P Q a w :=
  wpIn_round_of_any hm hnd (wpAny_still_tail m hB h)
theorem wpIn_wide_still_tail {id : Nat} {a : Act} {w : World} {l : List Oper} (m : Nat) (hm : P.follows .mixedOrders = true) (hB : Region.lexTailB .any l.toArray m = true)
    (h : wpStill P l.toArray w.drew (fun a' => wpList P l.toArray (OnlyNormal Q) (l.drop m) a' w.drew) (l.take m) a) : (Code.region id l.toArray true).wpIn Fence.wide n P Q a w :=
  wpIn_wide_of_any hm (wpAny_still_tail m hB h)
theorem wpAny_quiet {C : World → Prop} {a : Act} {w : World} {l : List Oper} (hB : Region.lexB .any l.toArray = true) (hC : C w)
    (h : wpQuiet P l.toArray C (fun a' => ∀ w', C w' → Q .normal a' w') l a) : wpAny P .any l.toArray Q l.toArray.size (Array.replicate l.toArray.size false) a w := by
  simp only [Region.lexB, Bool.and_eq_true] at hB
  refine wpAny_of_quiet (Q := fun a' => ∀ w', C w' → Q .normal a' w') (fun _ w' hw' h => h w' hw') _ _ _ _ hC ?_
  have := wpAnyQ_lex (C := C) (md := .any) hB.1 l 0 (Array.replicate l.toArray.size false) a (by simp) (by simpa using hB.2) h
  simpa using this
/-- Reads, and callees that make memory. -/
theorem wpIn_round_quiet_below {id : Nat} {a : Act} {w : World} {l : List Oper} (hm : P.follows .mixedOrders = true) (hnd : noDefer l.toArray = true) (hB : Region.lexB .any l.toArray = true)
    (h : wpQuiet P l.toArray (fun w' => ∃ p : Regrown, w' = grow (redrawn w p.d) p.os) (fun a' => ∀ w', (∃ p : Regrown, w' = grow (redrawn w p.d) p.os) → Q .normal a' w') l a) : (Code.region id l.toArray true).wpIn (Fence.wide.inRound r) n P Q a w :=
  wpIn_round_of_any hm hnd (wpAny_quiet hB ⟨⟨w.drawn + 1, #[]⟩, by rw [grow_empty]; rfl⟩ h)
theorem wpIn_wide_quiet_below {id : Nat} {a : Act} {w : World} {l : List Oper} (hm : P.follows .mixedOrders = true) (hB : Region.lexB .any l.toArray = true)
    (h : wpQuiet P l.toArray (fun w' => ∃ p : Regrown, w' = grow (redrawn w p.d) p.os) (fun a' => ∀ w', (∃ p : Regrown, w' = grow (redrawn w p.d) p.os) → Q .normal a' w') l a) : (Code.region id l.toArray true).wpIn Fence.wide n P Q a w :=
  wpIn_wide_of_any hm (wpAny_quiet hB ⟨⟨w.drawn + 1, #[]⟩, by rw [grow_empty]; rfl⟩ h)
end
end Go.Proofs.YtdgncngkalgknaaDoor
