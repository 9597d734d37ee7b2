/-
  Words for slices of one-cell things that a call makes itself and lengthens, at a step of a region that draws. No program is looked at.
-/
import Derived.Test.YtfpghfmdkbdojaaGreatDoorPush
namespace Go.Proofs.YtfpghfmdkbdojaaGreatDoor
open Go.RowKit

/-- 'x.f = append(x.f, u)', u one cell, at a step of a region that draws. -/
theorem step_push_one {P : Program} {w : World} {ops : Array Oper} {o : Oper} {a : Act} {K : Act → World → Prop} {Q : Exit → Act → World → Prop} {E : Prop} {t e : TypeId} {bytes : Nat} (I : EInfo P t e 1 bytes) (hby : bytes ≤ 64) (hgd : o.guard = none) (s x : Operand)
    (ho : o.op = .call { callee := .builtin .append, args := #[s, x], argTypes := #[t, t] })
    {base n : Nat} {v : Value} {xs : List Value} (hs : a.eval s = v) (hown : w.ownsRow base e 1 v n xs) (g : Nat) (u : Value) (hu : u.oneCell' = true) (hx : a.eval x = .slice (some ⟨g, 0, none⟩) 1 1) (hc : w.cell? ⟨g, 0, none⟩ = some u)
    (hn : n < 2 ^ 40) (hbase : base ≤ w.heap.size)
    (h : ∀ B c w', w'.ownsRow base e 1 (.slice B (n + 1) c) (n + 1) (xs ++ [u]) → w.grownBy w' v.ownBlock → (∀ w0, Below base w0 w → Below base w0 w') → K (a.put o.dst (.slice B (n + 1) c)) w') : if Region.wanted o (yielded ops a.tmps) = true then Oper.wp P o a w K Q else E := by
  have hw : Region.wanted o (yielded ops a.tmps) = true := by simp [Region.wanted, hgd]
  rw [if_pos hw]
  have hcells : CellsAt w (some ⟨g, 0, none⟩) [u] := fun _ => ⟨g, 0, rfl, fun j u' hj => by
    match j, hj with
    | 0, hj => simp at hj; subst hj; simpa using hc
    | j + 1, hj => simp at hj⟩
  have hb1 : (n + 1) * bytes ≤ 140737488355328 := Nat.le_trans (Nat.mul_le_mul_left _ hby) (by omega)
  obtain ⟨v', w', hrun, hp⟩ := run_append_cells w o.type I hown (some ⟨g, 0, none⟩) 1 1 [u] hcells rfl (fun z hz => by simp at hz; subst hz; exact hu) hb1 (by omega) hbase
  obtain ⟨B, c, rfl⟩ := ownsRow_form hp.own
  have := h B c w' hp.own hp.grew (fun w0 hb => hp.below hown hb hbase)
  unfold Oper.wp
  simp only [execOp, ho, resolve, invoke, builtin, Sem.run_bind, Sem.run_pure, Result.andThen_ok, List.map_toArray, List.map_cons, List.map_nil, hs, hx, hrun]
  exact this
/-- The same, in a plain list. -/
theorem wpList_push_one {P : Program} {w : World} {ops : Array Oper} {rest : List Oper} {o : Oper} {a : Act} {Q : Exit → Act → World → Prop} {t e : TypeId} {bytes : Nat} (I : EInfo P t e 1 bytes) (hby : bytes ≤ 64) (hgd : o.guard = none) (s x : Operand)
    (ho : o.op = .call { callee := .builtin .append, args := #[s, x], argTypes := #[t, t] })
    {base n : Nat} {v : Value} {xs : List Value} (hs : a.eval s = v) (hown : w.ownsRow base e 1 v n xs) (g : Nat) (u : Value) (hu : u.oneCell' = true) (hx : a.eval x = .slice (some ⟨g, 0, none⟩) 1 1) (hc : w.cell? ⟨g, 0, none⟩ = some u)
    (hn : n < 2 ^ 40) (hbase : base ≤ w.heap.size)
    (h : ∀ B c w', w'.ownsRow base e 1 (.slice B (n + 1) c) (n + 1) (xs ++ [u]) → w.grownBy w' v.ownBlock → (∀ w0, Below base w0 w → Below base w0 w') → wpList P ops Q rest (a.put o.dst (.slice B (n + 1) c)) w') : wpList P ops Q (o :: rest) a w := by
  have hcells : CellsAt w (some ⟨g, 0, none⟩) [u] := fun _ => ⟨g, 0, rfl, fun j u' hj => by
    match j, hj with
    | 0, hj => simp at hj; subst hj; simpa using hc
    | j + 1, hj => simp at hj⟩
  have hb1 : (n + 1) * bytes ≤ 140737488355328 := Nat.le_trans (Nat.mul_le_mul_left _ hby) (by omega)
  refine wpList_append_cells hgd s x ho I hs hown (some ⟨g, 0, none⟩) 1 1 [u] hx hcells rfl (fun z hz => by simp at hz; subst hz; exact hu) hb1 (by omega) hbase (fun v' w' hp => ?_)
  obtain ⟨B, c, rfl⟩ := ownsRow_form hp.own
  exact h B c w' hp.own hp.grew fun w0 hb => hp.below hown hb hbase

/-- Slices as cells: what lies behind each of them. -/
def SlVals (R : World → Option Addr → Nat → List Int → Prop) (w : World) (xs : List Value) (Ls : List (List Int)) : Prop :=
  xs.length = Ls.length ∧ ∀ (i : Nat) (l : List Int), Ls[i]? = some l → ∃ (A : Option Addr) (n c : Nat), xs[i]? = some (.slice A n c) ∧ R w A n l
section
variable {R : World → Option Addr → Nat → List Int → Prop} {w w' : World} {xs : List Value} {Ls : List (List Int)}
theorem SlVals.nil : SlVals R w [] [] := ⟨rfl, fun i l h => by simp at h⟩
theorem SlVals.keep (h : SlVals R w xs Ls) (hk : ∀ A n l, R w A n l → R w' A n l) : SlVals R w' xs Ls := ⟨h.1, fun i l hi => by
  obtain ⟨A, n, c, h1, h2⟩ := h.2 i l hi
  exact ⟨A, n, c, h1, hk _ _ _ h2⟩⟩
theorem SlVals.push (h : SlVals R w xs Ls) {A : Option Addr} {n c : Nat} {l : List Int} (hl : R w A n l) : SlVals R w (xs ++ [.slice A n c]) (Ls ++ [l]) := ⟨by simp [h.1], fun i m hi => by
  rcases Nat.lt_or_ge i Ls.length with h1 | h1
  · rw [List.getElem?_append_left h1] at hi
    obtain ⟨A', n', c', h2, h3⟩ := h.2 i m hi
    exact ⟨A', n', c', by rw [List.getElem?_append_left (by rw [h.1]; exact h1)]; exact h2, h3⟩
  · rw [List.getElem?_append_right h1] at hi
    have h2 : i - Ls.length = 0 := by
      have := (List.getElem?_eq_some_iff.1 hi).1
      simp at this; omega
    rw [h2] at hi
    simp at hi
    subst hi
    have h3 : i = xs.length := by rw [h.1]; omega
    subst h3
    exact ⟨A, n, c, by simp, hl⟩⟩
end
end Go.Proofs.YtfpghfmdkbdojaaGreatDoor
