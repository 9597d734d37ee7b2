/-
  Words for slices of one-cell things that a call makes itself and lengthens, at a step of a region that draws. No program is looked at.
  Words: what stays but for one block. No program is looked at.
  Contract: kernel.fresh.
  Contract: kernel.New.
-/
import Derived.Test.YtanlmfnhlldkeaaGreatDoorRowsA
import Derived.Test.YtanlmfnhlldkeaaGreatDoorKerC
import Derived.Laws.ResultCell
import Derived.Laws.Rows
import Derived.Deep.RegionHeld3
import Derived.Deep.CutRange
import Derived.Deep.RegionLaw
import Derived.Test.YtanlmfnhlldkeaaGreatDoorKerB
namespace Go.Proofs.YtanlmfnhlldkeaaGreatDoor
open Go.RowKit

/-- 'x.f = append(x.f, u)', u one cell, at a step of a region that draws. -/
theorem step_push_one {P : Program} {w : World} {ops : Array Oper} {o : Oper} {a : Act} {K : Act → World → Prop} {Q : Exit → Act → World → Prop} {E : Prop} {t e : TypeId} {bytes : Nat} (I : EInfo P t e 1 bytes) (hby : bytes ≤ 64) (hgd : o.guard = none) (s x : Operand)
    (ho : o.op = .call { callee := .builtin .append, args := #[s, x], argTypes := #[t, t] })
    {base n : Nat} {v : Value} {xs : List Value} (hs : a.eval s = v) (hown : w.ownsRow base e 1 v n xs) (g : Nat) (u : Value) (hu : u.oneCell' = true) (hx : a.eval x = .slice (some ⟨g, 0, none⟩) 1 1) (hc : w.cell? ⟨g, 0, none⟩ = some u)
    (hn : n < 2 ^ 40) (hbase : base ≤ w.heap.size)
    (h : ∀ B c w', w'.ownsRow base e 1 (.slice B (n + 1) c) (n + 1) (xs ++ [u]) → w.grownBy w' v.ownBlock → (∀ w0, Below base w0 w → Below base w0 w') → K (a.put o.dst (.slice B (n + 1) c)) w') : if Region.wanted o (yielded ops a.tmps) = true then Oper.wp P o a w K Q else E := by
  have hw : Region.wanted o (yielded ops a.tmps) = true := by simp [Region.wanted, hgd]
  rw [if_pos hw]
  have hcells : CellsAt w (some ⟨g, 0, none⟩) [u] := fun _ => ⟨g, 0, rfl, fun j u' hj => by
    match j, hj with
    | 0, hj => simp at hj; subst hj; simpa using hc
    | j + 1, hj => simp at hj⟩
  have hb1 : (n + 1) * bytes ≤ 140737488355328 := Nat.le_trans (Nat.mul_le_mul_left _ hby) (by omega)
  obtain ⟨v', w', hrun, hp⟩ := run_append_cells w o.type I hown (some ⟨g, 0, none⟩) 1 1 [u] hcells rfl (fun z hz => by simp at hz; subst hz; exact hu) hb1 (by omega) hbase
  obtain ⟨B, c, rfl⟩ := ownsRow_form hp.own
  have := h B c w' hp.own hp.grew (fun w0 hb => hp.below hown hb hbase)
  unfold Oper.wp
  simp only [execOp, ho, resolve, invoke, builtin, Sem.run_bind, Sem.run_pure, Result.andThen_ok, List.map_toArray, List.map_cons, List.map_nil, hs, hx, hrun]
  exact this
/-- The same, in a plain list. -/
theorem wpList_push_one {P : Program} {w : World} {ops : Array Oper} {rest : List Oper} {o : Oper} {a : Act} {Q : Exit → Act → World → Prop} {t e : TypeId} {bytes : Nat} (I : EInfo P t e 1 bytes) (hby : bytes ≤ 64) (hgd : o.guard = none) (s x : Operand)
    (ho : o.op = .call { callee := .builtin .append, args := #[s, x], argTypes := #[t, t] })
    {base n : Nat} {v : Value} {xs : List Value} (hs : a.eval s = v) (hown : w.ownsRow base e 1 v n xs) (g : Nat) (u : Value) (hu : u.oneCell' = true) (hx : a.eval x = .slice (some ⟨g, 0, none⟩) 1 1) (hc : w.cell? ⟨g, 0, none⟩ = some u)
    (hn : n < 2 ^ 40) (hbase : base ≤ w.heap.size)
    (h : ∀ B c w', w'.ownsRow base e 1 (.slice B (n + 1) c) (n + 1) (xs ++ [u]) → w.grownBy w' v.ownBlock → (∀ w0, Below base w0 w → Below base w0 w') → wpList P ops Q rest (a.put o.dst (.slice B (n + 1) c)) w') : wpList P ops Q (o :: rest) a w := by
  have hcells : CellsAt w (some ⟨g, 0, none⟩) [u] := fun _ => ⟨g, 0, rfl, fun j u' hj => by
    match j, hj with
    | 0, hj => simp at hj; subst hj; simpa using hc
    | j + 1, hj => simp at hj⟩
  have hb1 : (n + 1) * bytes ≤ 140737488355328 := Nat.le_trans (Nat.mul_le_mul_left _ hby) (by omega)
  refine wpList_append_cells hgd s x ho I hs hown (some ⟨g, 0, none⟩) 1 1 [u] hx hcells rfl (fun z hz => by simp at hz; subst hz; exact hu) hb1 (by omega) hbase (fun v' w' hp => ?_)
  obtain ⟨B, c, rfl⟩ := ownsRow_form hp.own
  exact h B c w' hp.own hp.grew fun w0 hb => hp.below hown hb hbase

/-- Slices as cells: what lies behind each of them. -/
def SlVals (R : World → Option Addr → Nat → List Int → Prop) (w : World) (xs : List Value) (Ls : List (List Int)) : Prop :=
  xs.length = Ls.length ∧ ∀ (i : Nat) (l : List Int), Ls[i]? = some l → ∃ (A : Option Addr) (n c : Nat), xs[i]? = some (.slice A n c) ∧ R w A n l
section
variable {R : World → Option Addr → Nat → List Int → Prop} {w w' : World} {xs : List Value} {Ls : List (List Int)}
theorem SlVals.nil : SlVals R w [] [] := ⟨rfl, fun i l h => by simp at h⟩
theorem SlVals.keep (h : SlVals R w xs Ls) (hk : ∀ A n l, R w A n l → R w' A n l) : SlVals R w' xs Ls := ⟨h.1, fun i l hi => by
  obtain ⟨A, n, c, h1, h2⟩ := h.2 i l hi
  exact ⟨A, n, c, h1, hk _ _ _ h2⟩⟩
theorem SlVals.push (h : SlVals R w xs Ls) {A : Option Addr} {n c : Nat} {l : List Int} (hl : R w A n l) : SlVals R w (xs ++ [.slice A n c]) (Ls ++ [l]) := ⟨by simp [h.1], fun i m hi => by
  rcases Nat.lt_or_ge i Ls.length with h1 | h1
  · rw [List.getElem?_append_left h1] at hi
    obtain ⟨A', n', c', h2, h3⟩ := h.2 i m hi
    exact ⟨A', n', c', by rw [List.getElem?_append_left (by rw [h.1]; exact h1)]; exact h2, h3⟩
  · rw [List.getElem?_append_right h1] at hi
    have h2 : i - Ls.length = 0 := by
      have := (List.getElem?_eq_some_iff.1 hi).1
      simp at this; omega
    rw [h2] at hi
    simp at hi
    subst hi
    have h3 : i = xs.length := by rw [h.1]; omega
    subst h3
    exact ⟨A, n, c, by simp, hl⟩⟩
end
end Go.Proofs.YtanlmfnhlldkeaaGreatDoor

namespace Go.Proofs.YtanlmfnhlldkeaaGreatDoor
open Go.RowKit

/-- What stays but for one block. -/
structure KeepsBut (p : Nat) (w w' : World) : Prop where
  size : w.heap.size ≤ w'.heap.size
  block : ∀ b, b ≠ p → b < w.heap.size → w'.heap[b]? = w.heap[b]?
theorem KeepsBut.below {p : Nat} {w w' : World} (h : Below w.heap.size w w') : KeepsBut p w w' := ⟨h.size, fun b _ hb => h.block b hb⟩
theorem KeepsBut.setCell {p : Nat} {w w' : World} (h : KeepsBut p w w') (k : Nat) (v : Value) : KeepsBut p w (w'.setCell ⟨p, k, none⟩ v) :=
  ⟨by simp; exact h.size, fun b hb hl => (Below.heap_setCell w' ⟨p, k, none⟩ v b hb).trans (h.block b hb hl)⟩
theorem KeepsBut.cell {p : Nat} {w w' : World} (h : KeepsBut p w w') {a : Addr} {v : Value} (hc : w.cell? a = some v) (hne : a.block ≠ p) : w'.cell? a = some v := by
  have := h.block a.block hne (block_lt hc)
  unfold World.cell? at hc ⊢
  rw [this]; exact hc

theorem KeepsBut.refl (p : Nat) (w : World) : KeepsBut p w w := ⟨Nat.le_refl _, fun _ _ _ => rfl⟩
theorem KeepsBut.below' {p : Nat} {w w' : World} (h : KeepsBut p w w') : KeepsBut p w w'.drew := ⟨h.size, h.block⟩
theorem KeepsBut.box {p q : Nat} {w w' : World} {t : TypeId} {vs : Array Value} (h : KeepsBut p w w') (hb : BoxN w q t vs) (hne : q ≠ p) : BoxN w' q t vs := (h.block q hne hb.lt).trans hb
theorem KeepsBut.trans {p : Nat} {w w' w'' : World} (h : KeepsBut p w w') (k : KeepsBut p w' w'') : KeepsBut p w w'' := ⟨Nat.le_trans h.size k.size, fun b hb hl => (k.block b hb (Nat.lt_of_lt_of_le hl h.size)).trans (h.block b hb hl)⟩
end Go.Proofs.YtanlmfnhlldkeaaGreatDoor

namespace Go.Proofs.YtanlmfnhlldkeaaGreatDoor
open Go.RowKit
set_option maxRecDepth 100000
set_option linter.unusedVariables false

theorem eRowsO : EInfo Tryz.prog 22 55 1 24 := EInfo.of (z := .slice none 0 0) Tryz.underlying22 (by kernel_rfl) rfl (by decide)
/-- What is known of a row of ops. -/
def OpsR (lo : Nat) (w : World) (A : Option Addr) (n : Nat) (l : List Int) : Prop := l.length = n * 3 ∧ n ≤ maxLen ∧ OwnIn lo w A 58 l
theorem op_ne_sys : (58 : TypeId) ≠ 26 := by decide
theorem op_ne_rows : (58 : TypeId) ≠ 55 := by decide
theorem port_ne_sys : (54 : TypeId) ≠ 26 := by decide
theorem int_ne_sys : (3 : TypeId) ≠ 26 := by decide
theorem SlVals.rows {lo : Nat} {w : World} {xs : List Value} {Ls : List (List Int)} {A : Option Addr} {n c : Nat} (h : SlVals (OpsR lo) w xs Ls) (ho : w.ownsRow lo 55 1 (.slice A n c) n xs) : RowsIn (fromB lo) 3 w A Ls := fun hne => by
  have hx : xs ≠ [] := by rintro rfl; exact hne (List.length_eq_zero_iff.1 h.1.symm)
  rcases ho.2 with ⟨_, h0⟩ | ⟨g, cap, cur, hv, hb, hg, hnc, _, hs, ht⟩
  · have := ho.1; rw [h0] at this; exact absurd (List.length_eq_zero_iff.1 (by simpa using this)) hx
  · have hA : A = some ⟨g, 0, none⟩ := by injection hv
    obtain ⟨b, off, hA2, hc⟩ := CellsAt.own ho hx
    rw [hA] at hA2
    injection hA2 with hA2
    injection hA2 with h1 h2
    subst h1; subst h2
    refine ⟨g, 0, hA, hb, fun i l hi => ?_⟩
    obtain ⟨Ai, ni, ci, h1, h2, h3, h4⟩ := h.2 i l hi
    exact ⟨Ai, ni, ci, hc i _ h1, h2, h3, h4.intsIn⟩
/-- A result that lies in a row. -/
theorem results_row1 {P : Program} {fn : Func} {p : Tmp} {ty : TypeId} (h : fn.results = #[.cell p ty]) (tmps : Array Value) (w : World) (g : Nat) (t : TypeId) (cs : Array Value) (fr : Nat × Nat) (d : TypeDesc)
    (hp : tmps.getD p undef = .pointer (some ⟨g, 0, none⟩)) (hg : w.heap[g]? = some (.cells cs t fr))
    (hu : P.underlying ty = some d) (hd : (match d with | .struct _ | .array _ _ => true | _ => false) = true) (hi : (P.info? ty).map (·.size) = some cs.size) :
    (results fn tmps).run P w = .ok (.agg cs) w := by
  have e : (results fn tmps).run P w = ((asAddr (tmps.getD p undef)).run P w).andThen fun a w₁ => (loadVar ty a).run P w₁ := by
    simp only [results, h]
    simp [Sem.run_bind, Result.andThen]
  rw [e, hp]
  simp [asAddr, Result.andThen, run_loadVar_row w g t ty cs fr d hg hu hd hi]
theorem rows_ne_sys : (55 : TypeId) ≠ 26 := by decide
theorem port_ne_rows : (54 : TypeId) ≠ 55 := by decide
theorem int_ne_rows : (3 : TypeId) ≠ 55 := by decide
theorem ownsRow_far {w : World} {base size n p : Nat} {e t : TypeId} {v : Value} {xs : List Value} {vs : Array Value} (h : w.ownsRow base e size v n xs) (hx : BoxN w p t vs) (ht : e ≠ t) (k : Nat) (u : Value) : (w.setCell ⟨p, k, none⟩ u).ownsRow base e size v n xs := by
  refine ⟨h.1, ?_⟩
  rcases h.2 with h0 | ⟨g, cap, cur, hv, hg, hc, r⟩
  · exact .inl h0
  · refine .inr ⟨g, cap, cur, hv, hg, (Below.heap_setCell w ⟨p, k, none⟩ u g fun e' => ?_).trans hc, r⟩
    have e' : g = p := e'
    subst e'
    have hx' : w.heap[g]? = some (.cells vs t (0, 0)) := hx
    rw [hc] at hx'
    injection hx' with hx'
    injection hx' with _ h2
    exact ht h2
theorem RowsIn.lower {lo lo' k : Nat} {w : World} {A : Option Addr} {Ls : List (List Int)} (h : RowsIn (fromB lo) k w A Ls) (hl : lo' ≤ lo) : RowsIn (fromB lo') k w A Ls := fun hne => by
  obtain ⟨b, off, e, hb, hc⟩ := h hne
  refine ⟨b, off, e, Nat.le_trans hl hb, fun i l hi => ?_⟩
  obtain ⟨Ai, ni, ci, h1, h2, h3, h4⟩ := hc i l hi
  exact ⟨Ai, ni, ci, h1, h2, h3, h4.mono fun b _ hb => Nat.le_trans hl hb⟩
theorem RowsIn.set {lo k : Nat} {w : World} {A : Option Addr} {Ls : List (List Int)} (h : RowsIn (fromB lo) k w A Ls) {b i : Nat} (hb : b < lo) (v : Value) : RowsIn (fromB lo) k (w.setCell ⟨b, i, none⟩ v) A Ls := h.keep fun g _ hg => Below.heap_setCell w ⟨b, i, none⟩ v g (by have : lo ≤ g := hg; show g ≠ b; omega)
theorem belowSet {B : Nat} {w w' : World} (h : Below B w w') {b k : Nat} (hb : B ≤ b) (v : Value) : Below B w (w'.setCell ⟨b, k, none⟩ v) := h.setCell (p := ⟨b, k, none⟩) hb v

set_option maxHeartbeats 4000000 in
theorem fresh_any {w : World} {Ap Ao At : Option Addr} {L : List (List Int)} {P T : List Int} {q n m cp co ct : Nat} (hL : RowsIn anyB 3 w Ap L) (hP : IntsIn anyB w Ao P) (hl : P.length = q * 2) (hT : IntsIn anyB w At T)
    (hn : L.length = n) (hm : T.length = m) (nm : n ≤ 100) (hq : q ≤ 100) (tm : m ≤ 100) (hs : ∀ l ∈ L, l.length ≤ 300) :
    Calls Tryz.prog 40 #[.agg #[.slice Ap n cp, .slice Ao q co, .slice At m ct]] w
      fun e w' => (∃ Ap' Ao' At' cp' co' ct', e = .returned (.agg #[.slice Ap' n cp', .slice Ao' q co', .slice At' m ct']) ∧ RowsIn (fromB w.heap.size) 3 w' Ap' L ∧ OwnIn w.heap.size w' Ao' 54 P ∧ OwnIn w.heap.size w' At' 3 T) ∧ Below w.heap.size w w' := by
  have K1 := Lib.hid (fun V (hV : Below w.heap.size w V) => (CloneP_new P q hl Ao co V (hP.below' hV (Nat.le_refl _)).at_ (by omega)).mono fun e w' ⟨he, hb⟩ => (⟨he, hb, hV.trans (hb.mono hV.size)⟩ : _ ∧ Below V.heap.size V w' ∧ Below w.heap.size w w'))
  have K2 := Lib.hid (fun V (hV : Below w.heap.size w V) => (CloneI_new T m (by omega) At ct V (hT.below' hV (Nat.le_refl _)).at_ (by omega)).mono fun e w' ⟨he, hb⟩ => (⟨he, hb, hV.trans (hb.mono hV.size)⟩ : _ ∧ Below V.heap.size V w' ∧ Below w.heap.size w w'))
  go_enter Tryz.func40, Tryz.ntmps40
  have hb0 := (BoxN.new w 26 #[.slice Ap n cp, .slice Ao q co, .slice At m ct]).alloc (.cells #[.slice none 0 0, .slice none 0 0, .slice none 0 0] 26)
  have hr0 := BoxN.new (w.alloc (.cells #[.slice Ap n cp, .slice Ao q co, .slice At m ct] 26)) 26 #[.slice none 0 0, .slice none 0 0, .slice none 0 0]
  have hbW := ((Below.refl w.heap.size w).alloc (Nat.le_refl _) (.cells #[.slice Ap n cp, .slice Ao q co, .slice At m ct] 26)).alloc (by simp) (.cells #[.slice none 0 0, .slice none 0 0, .slice none 0 0] 26)
  have hsz1 : (w.alloc (.cells #[.slice Ap n cp, .slice Ao q co, .slice At m ct] 26)).heap.size = w.heap.size + 1 := by simp
  have hsz2 : ((w.alloc (.cells #[.slice Ap n cp, .slice Ao q co, .slice At m ct] 26)).alloc (.cells #[.slice none 0 0, .slice none 0 0, .slice none 0 0] 26)).heap.size = w.heap.size + 2 := by simp
  rw [hsz1] at hr0
  go_wp2_with fail
  generalize (w.alloc (.cells #[.slice Ap n cp, .slice Ao q co, .slice At m ct] 26)).alloc (.cells #[.slice none 0 0, .slice none 0 0, .slice none 0 0] 26) = W1 at *
  clear hsz1
  have hKeep := Lib.hid (fun V (hV : Below W1.heap.size W1 V) => (⟨(hb0.all hV).cell (k := 1) rfl, (hb0.all hV).cell (k := 2) rfl⟩ : V.cell? ⟨w.heap.size, 1, none⟩ = some (.slice Ao q co) ∧ V.cell? ⟨w.heap.size, 2, none⟩ = some (.slice At m ct)))
  have x1 := hb0.cell (k := 1) rfl
  have x2 := hb0.cell (k := 2) rfl
  have hsW := Lib.hid hsz2
  clear hsz2
  have K1' := Lib.hid (fun V (hV : Below W1.heap.size W1 V) => (K1.out V (hbW.trans (hV.mono (by have := hsW.out; omega)))).mono fun e w' ⟨he, hb, _⟩ => (⟨he, hb, hV.trans (hb.mono hV.size)⟩ : _ ∧ Below V.heap.size V w' ∧ Below W1.heap.size W1 w'))
  have K2' := Lib.hid (fun V (hV : Below W1.heap.size W1 V) => (K2.out V (hbW.trans (hV.mono (by have := hsW.out; omega)))).mono fun e w' ⟨he, hb, _⟩ => (⟨he, hb, hV.trans (hb.mono hV.size)⟩ : _ ∧ Below V.heap.size V w' ∧ Below W1.heap.size W1 w'))
  clear K1 K2
  have hZ : BoxN ((W1.alloc (.cells #[.slice none 0 0, .slice none 0 0, .slice none 0 0] 26)).drew) W1.heap.size 26 #[.slice none 0 0, .slice none 0 0, .slice none 0 0] := (BoxN.new W1 _ _).drew
  go_cut [3] from 6 to 13 (fun x3 wx => ∃ p Ao' At' co' ct', x3 = .pointer (some ⟨p, 0, none⟩) ∧ W1.heap.size ≤ p ∧ BoxN wx p 26 #[.slice none 0 0, .slice Ao' q co', .slice At' m ct'] ∧ OwnIn W1.heap.size wx Ao' 54 P ∧ OwnIn W1.heap.size wx At' 3 T ∧ Below W1.heap.size W1 wx)
  case first =>
    go_region_held3 (fun V => V.cell? ⟨w.heap.size, 1, none⟩ = some (.slice Ao q co) ∧ V.cell? ⟨w.heap.size, 2, none⟩ = some (.slice At m ct))
      ((refine hKeep.out _ ?_; repeat (first | assumption | exact Below.refl _ _ | refine Below.setCell ?_ (by first | assumption | exact Nat.le_refl _ | (simp; done) | (simp; omega)) _ | refine Below.alloc ?_ (by first | exact Nat.le_refl _ | assumption) _ | refine Below.drew ?_)))
      ((first | (go_at_call 56; with_reducible refine (K1'.out _ (by repeat (first | assumption | exact Below.refl _ _ | refine Below.alloc ?_ (by first | exact Nat.le_refl _ | assumption) _ | refine Below.drew ?_))).mono ?_; rintro e w1 ⟨⟨A1, c1, rfl, i1⟩, hb1, hbw1⟩; have hs1 := hbw1.size; try (have hz1 := BoxN.all hZ hb1)) | (go_at_call 31; with_reducible refine (K2'.out _ (by repeat (first | assumption | exact Below.refl _ _ | refine Below.alloc ?_ (by first | exact Nat.le_refl _ | assumption) _ | refine Below.drew ?_))).mono ?_; rintro e w2 ⟨⟨A2, c2, rfl, i2⟩, hb2, hbw2⟩; have hs2 := hbw2.size; first | (have hz2 := BoxN.all hz1 hb2; have z0 := hz2.cell (k := 0) rfl; have z1 := hz2.cell (k := 1) rfl; have z2 := hz2.cell (k := 2) rfl; have fz0 := hz2.free 0; have fz1 := hz2.free 1; have fz2 := hz2.free 2) | (have hz2 := BoxN.all (BoxN.new w1 26 #[.slice none 0 0, .slice none 0 0, .slice none 0 0]) hb2; have z0 := hz2.cell (k := 0) rfl; have z1 := hz2.cell (k := 1) rfl; have z2 := hz2.cell (k := 2) rfl; have fz0 := hz2.free 0; have fz1 := hz2.free 1; have fz2 := hz2.free 2) | skip)))
    all_goals (go_wp2_with fail; go_meet)
    · exact ⟨_, A1, A2, c1, c2, rfl, hs2, BoxN.new _ _ _, (i1.below' hb2 (Nat.le_refl _)).below' ((Below.refl w2.heap.size w2).alloc (Nat.le_refl _) _) (Nat.le_refl _), (i2.lower hs1).below' ((Below.refl w2.heap.size w2).alloc (Nat.le_refl _) _) (Nat.le_refl _), hbw2.alloc hs2 _⟩
    · have hsz : (w1.alloc (.cells #[.slice none 0 0, .slice none 0 0, .slice none 0 0] 26)).heap.size = w1.heap.size + 1 := by simp
      rw [hsz] at i2
      have hb12 : Below w1.heap.size w1 w2 := ((Below.refl w1.heap.size w1).alloc (Nat.le_refl _) _).trans (hb2.mono (by omega))
      have q0 := hz2.set 0 (.slice none 0 0)
      have q1 := q0.set 1 (.slice A1 q c1)
      exact ⟨_, A1, A2, c1, c2, rfl, hs1, q1.set 2 _, i1.below' (belowSet (belowSet (belowSet hb12 (Nat.le_refl _) _) (Nat.le_refl _) _) (Nat.le_refl _) _) (Nat.le_refl _), (((i2.set hz2 int_ne_sys 0 _).set q0 int_ne_sys 1 _).set q1 int_ne_sys 2 _).lower (by omega), belowSet (belowSet (belowSet hbw2 hs1 _) hs1 _) hs1 _⟩
    · have hsz : (W1.alloc (.cells #[.slice none 0 0, .slice none 0 0, .slice none 0 0] 26)).drew.heap.size = W1.heap.size + 1 := by simp
      rw [hsz] at i1
      have i1' := i1.below' hb2 (Nat.le_refl _)
      have q0 := hz2.set 0 (.slice none 0 0)
      have q1 := q0.set 1 (.slice A1 q c1)
      exact ⟨_, A1, A2, c1, c2, rfl, Nat.le_refl _, q1.set 2 _, (((i1'.set hz2 port_ne_sys 0 _).set q0 port_ne_sys 1 _).set q1 port_ne_sys 2 _).lower (by omega), (((i2.set hz2 int_ne_sys 0 _).set q0 int_ne_sys 1 _).set q1 int_ne_sys 2 _).lower hs1, belowSet (belowSet (belowSet hbw2 (Nat.le_refl _) _) (Nat.le_refl _) _) (Nat.le_refl _) _⟩
  case rest =>
    obtain ⟨p, Ao', At', co', ct', rfl, hp, hx, i1, i2, hbx⟩ := hcut
    have hb0' := hb0.all hbx
    have hr0' := hr0.all hbx
    have x0 := hb0'.cell (k := 0) rfl
    clear hKeep K1' K2' hZ x1 x2 hb0 hr0
    have hwx := hbW.trans (hbx.mono (by have := hsW.out; omega))
    have hpx := hx.lt
    have HC := Lib.hid (fun (V : World) (A : Option Addr) (l : List Int) (ni ci : Nat) (h1 : l.length = ni * 3) (h2 : IntsAt V A l) (h3 : ni ≤ 1000000) => CloneO_new l ni h1 A ci V h2 h3)
    have HsL := Lib.hid (fun (i : Nat) (hi : i < L.length) => hs (L.getD i []) (by rw [List.getD_eq_getElem?_getD, List.getElem?_eq_getElem hi]; exact List.getElem_mem hi))
    have HW1 := Lib.hid (show w.heap.size ≤ W1.heap.size by have := hsW.out; omega)
    have HR := Lib.hid hr0'
    clear hbx hb0' hr0' hs hbW
    go_wp2_with fail
    clear x0
    go_loopw [16] (fun i wr => ∃ (j : Nat) (v : Value) (xs : List Value), j ≤ n ∧ i = .int .i64 j ∧ BoxN wr p 26 #[v, .slice Ao' q co', .slice At' m ct'] ∧ wr.ownsRow wc.heap.size 55 1 v j xs ∧ SlVals (OpsR wc.heap.size) wr xs (L.take j) ∧ OwnIn W1.heap.size wr Ao' 54 P ∧ OwnIn W1.heap.size wr At' 3 T ∧ KeepsBut p wc wr ∧ Below w.heap.size w wr ∧ wc.heap.size ≤ wr.heap.size) (fun i _ => n - (intOf i).toNat)
    case atStart => exact ⟨0, _, [], Nat.zero_le _, rfl, hx, World.ownsRow_nil _ _ _ _, by simpa using SlVals.nil, i1, i2, KeepsBut.refl _ _, hwx, Nat.le_refl _⟩
    case round =>
      clear hx i1 i2 hwx
      obtain ⟨j, v, xs, hj, rfl, hx, hown, hvs, i1, i2, hkb, hbr, hsz⟩ := hrel
      by_cases hlt : j < n
      · obtain ⟨b, off, Ai, ni, ci, rfl, c0, hli, hni, hi⟩ := (hL.below hbr).get (i := j) (by omega)
        have hsl := HsL.out j (by omega)
        have htk : L.take (j + 1) = L.take j ++ [L.getD j []] := by
          rw [List.take_add_one, List.getD_eq_getElem?_getD, List.getElem?_eq_getElem (by omega)]; rfl
        generalize L.getD j [] = l at *
        have HC2 := Lib.hid (fun V (hV : Below wr.heap.size wr V) => (HC.out V Ai l ni ci hli (hi.below' hV (Nat.le_refl _)).at_ (by omega)).mono fun e w' ⟨he, hb⟩ => (⟨he, hb, hV.trans (hb.mono hV.size)⟩ : _ ∧ Below V.heap.size V w' ∧ Below wr.heap.size wr w'))
        have hxl := hx.lt
        have xv := hx.cell (k := 0) rfl
        have Htk := Lib.hid htk
        clear hi htk
        go_wp2_with fail
        go_region_law ((first | (go_simp; go_at_call 57; with_reducible refine (HC2.out _ (by repeat (first | exact Below.refl _ _ | refine Below.drew ?_ | refine Below.alloc ?_ (Nat.le_refl _) _))).mono ?_; rintro e w1 ⟨⟨A1, c1, rfl, o1⟩, hb1, hbw1⟩; have xo := (hx.all hbw1).cell (k := 0) rfl; have fo := (hx.all hbw1).free 0; have xa := ((hx.all hbw1).alloc (.cells #[.slice A1 ni c1] 55)).cell (k := 0) rfl) | (refine step_push_one eRowsO (by decide) (by rfl) _ _ (by rfl) (by rfl) (ownsRow_below hown (hbw1.alloc hbw1.size _) (Nat.le_refl _)) w1.heap.size (.slice A1 ni c1) (by rfl) (by rfl) (cell_of_row _ _ 0 _ _ _ (heap_alloc_new w1 _)) (by omega) (by have := hbw1.size; simp; omega) ?_; intro B' cc w' hown' hgr hbl; have hbf := hbl wr ((hbw1.alloc hbw1.size _).mono hsz); have hx' := hx.below hbf hpx; have xo' := hx'.cell (k := 0) rfl; have fo' := hx'.free 0)))
        all_goals
          go_wp2_with fail
          have hlo : wc.heap.size ≤ w1.heap.size := Nat.le_trans hsz hbw1.size
          have hba := hbw1.alloc hbw1.size (.cells #[.slice A1 ni c1] 55)
          have howr := ownsRow_below hown hba (Nat.le_refl _)
          have hvs1 : SlVals (OpsR wc.heap.size) (w'.setCell ⟨p, 0, none⟩ (.slice B' (j + 1) cc)) (xs ++ [.slice A1 ni c1]) (L.take (j + 1)) := by
            rw [Htk.out]
            exact (hvs.keep fun A n l ⟨r1, r2, r3⟩ => ⟨r1, r2, ((r3.below' hba (Nat.le_refl _)).grown hgr howr op_ne_rows).set hx' op_ne_sys _ _⟩).push ⟨hli, by omega, (((o1.lower (Nat.le_trans hsz (by simp))).below' ((Below.refl _ _).alloc (Nat.le_refl _) _) (Nat.le_refl _)).grown hgr howr op_ne_rows).set hx' op_ne_sys _ _⟩
          refine ⟨⟨j + 1, _, _, ?ya, ?yb, hx'.set 0 _, ?yc, hvs1, ?ye, ?yf, ?yg, ?yh, ?yi⟩, ?yd⟩
          case ya => omega
          case yb => go_num
          case yc => exact ownsRow_far hown' hx' rows_ne_sys 0 _
          case yd => simp [intOf]; omega
          case ye => exact ((i1.below' hba (Nat.le_refl _)).grown hgr howr port_ne_rows).set hx' port_ne_sys _ _
          case yf => exact ((i2.below' hba (Nat.le_refl _)).grown hgr howr int_ne_rows).set hx' int_ne_sys _ _
          case yg => exact KeepsBut.setCell ⟨Nat.le_trans hsz hbf.size, fun b hb hl => (hbf.block b hl).trans (hkb.block b hb hl)⟩ 0 _
          case yh => exact belowSet (hbr.trans (hbf.mono (Nat.le_trans HW1.out (Nat.le_trans hp (Nat.le_of_lt hpx))))) (Nat.le_trans HW1.out hp) _
          case yi => simp; exact Nat.le_trans hsz hbf.size
      · obtain rfl : j = n := by omega
        have hpw : w.heap.size + 1 ≠ p := by have := hsW.out; omega
        have hZ := hkb.box HR.out hpw
        have x0 := hx.cell (k := 0) rfl
        have x1 := hx.cell (k := 1) rfl
        have x2 := hx.cell (k := 2) rfl
        have z0 := hZ.cell (k := 0) rfl
        have z1 := hZ.cell (k := 1) rfl
        have z2 := hZ.cell (k := 2) rfl
        have fz0 := hZ.free 0
        have fz1 := hZ.free 1
        have fz2 := hZ.free 2
        obtain ⟨A', c', rfl⟩ := ownsRow_form hown
        go_wp2_with fail
        have q0 := hZ.set 0 (.slice A' j c')
        have q1 := q0.set 1 (.slice Ao' q co')
        have hR := q1.set 2 (.slice At' m ct')
        refine bodyPost_ret (results_row1 rfl _ _ (w.heap.size + 1) 26 #[.slice A' j c', .slice Ao' q co', .slice At' m ct'] (0, 0) _ rfl hR Tryz.underlying26 rfl (by kernel_rfl)) rfl ?_
        have htk : L.take j = L := by rw [List.take_of_length_le (by omega)]
        rw [htk] at hvs
        have hlo : w.heap.size ≤ wc.heap.size := Nat.le_trans HW1.out (Nat.le_trans hp (Nat.le_of_lt hpx))
        refine ⟨⟨A', Ao', At', c', co', ct', rfl, ?_, ?_, ?_⟩, ?_⟩
        · have hlo2 : w.heap.size + 1 < wc.heap.size := Nat.lt_of_lt_of_le (by have := hsW.out; omega) (Nat.le_trans hp (Nat.le_of_lt hpx))
          exact ((((hvs.rows hown).set hlo2 _).set hlo2 _).set hlo2 _).lower hlo
        · exact (((i1.lower HW1.out).set hZ port_ne_sys 0 _).set q0 port_ne_sys 1 _).set q1 port_ne_sys 2 _
        · exact (((i2.lower HW1.out).set hZ int_ne_sys 0 _).set q0 int_ne_sys 1 _).set q1 int_ne_sys 2 _
        · exact belowSet (belowSet (belowSet hbr (by omega) _) (by omega) _) (by omega) _
end Go.Proofs.YtanlmfnhlldkeaaGreatDoor

namespace Go.Proofs.YtanlmfnhlldkeaaGreatDoor
open Go.RowKit
set_option maxRecDepth 100000
set_option linter.unusedVariables false

theorem placeInfo : (Tryz.prog.info? 76).map (fun i => (i.zero, i.size, i.bytes)) = some (some (.agg #[.int .i64 0, .int .i64 0, .int .i64 0, .int .i64 0, .int .i64 0, .slice none 0 0]), 6, 64) := by kernel_rfl
theorem heldInfo : (Tryz.prog.info? 24).map (fun i => (i.zero, i.size, i.bytes)) = some (some (.slice none 0 0), 1, 24) := by kernel_rfl
def placeZ (j : Nat) : Value := if j % 6 = 5 then .slice none 0 0 else .int .i64 0
def zPlace : Array Value := #[.int .i64 0, .int .i64 0, .int .i64 0, .int .i64 0, .int .i64 0, .slice none 0 0]
theorem zPlace_at (j : Nat) : zPlace[j % 6]! = placeZ j := by
  have h : j % 6 < 6 := Nat.mod_lt _ (by decide)
  unfold placeZ
  have : ∀ k, k < 6 → zPlace[k]! = if k = 5 then .slice none 0 0 else .int .i64 0 := by
    intro k hk
    match k, hk with
    | 0, _ => rfl
    | 1, _ => rfl
    | 2, _ => rfl
    | 3, _ => rfl
    | 4, _ => rfl
    | 5, _ => rfl
  exact this _ h
theorem places_new (w : World) (n : Nat) : (w.alloc (.cells (madeCells zPlace (n * 6)) 76)).rowIs w.heap.size 76 (n * 6) placeZ := by
  have h := World.rowIs_alloc w (madeCells zPlace (n * 6)) 76 placeZ (fun i hi => by
    rw [size_madeCells] at hi
    rw [← zPlace_at]
    simp [madeCells, hi]
    rfl)
  rwa [size_madeCells] at h

/-- The roles in a kernel that is new. -/
def roleNew (p gp gh : Nat) : Nat → Nat := fun b => if b = p then 1 else if b = gp then 2 else if b = gh then 3 else 0

def NewPost (lo : Nat) (L : List (List Int)) (P : List Int) (q : Nat) (T : List Int) (p : Nat) (w' : World) : Prop :=
  ∃ (gp gh : Nat) (K : KF), KernAt (roleNew p gp gh) lo w'.heap.size w' p K L P q T kNew 0
theorem places_new' (w : World) (n g : Nat) (hg : g = w.heap.size) : (w.alloc (.cells (madeCells zPlace (n * 6)) 76)).rowIs g 76 (n * 6) placeZ := by subst hg; exact places_new w n
theorem helds_new' (w : World) (q g : Nat) (hg : g = w.heap.size) : (w.alloc (.cells (madeCells #[.slice none 0 0] q) 24)).rowIs g 24 q (fun _ => .slice none 0 0) := by subst hg; exact World.rowIs_made w _ q _
theorem rowIs_all {w w' : World} {b n : Nat} {t : TypeId} {f : Nat → Value} (h : w.rowIs b t n f) (hb : Below w.heap.size w w') : w'.rowIs b t n f := h.of_block (hb.block b h.lt)
theorem box_new' (w : World) (t : TypeId) (vs : Array Value) (p : Nat) (hp : p = w.heap.size) : BoxN (w.alloc (.cells vs t)) p t vs := by subst hp; exact BoxN.new w t vs
theorem newPost_of {lo lo' hi' : Nat} {L : List (List Int)} {P : List Int} {q : Nat} {T : List Int} {w1 wx : World} {p gp gh n m c1 c2 c3 : Nat} {A1 A2 A3 : Option Addr} (hn : L.length = n) (hm : T.length = m) (hl : P.length = q * 2)
    (h1 : wx.rowIs gp 76 (n * 6) placeZ) (h2 : wx.rowIs gh 24 q (fun _ => .slice none 0 0)) (h3 : BoxN wx p 73 #[.slice A1 n c1, .slice A2 q c2, .slice A3 m c3, .slice (some ⟨gp, 0, none⟩) n n, .slice (some ⟨gh, 0, none⟩) q q, .int .i64 0])
    (hw1 : w1.heap.size = hi') (hb : Below w1.heap.size w1 wx) (i1 : RowsIn (fromB lo') 3 w1 A1 L) (i2 : IntsIn (fromB lo') w1 A2 P) (i3 : IntsIn (fromB lo') w1 A3 T) (hlo : lo ≤ lo') (d1 : p ≠ gp) (d2 : p ≠ gh) (d3 : gp ≠ gh)
    (e1 : lo ≤ p ∧ (p < lo' ∨ hi' ≤ p)) (e2 : lo ≤ gp ∧ (gp < lo' ∨ hi' ≤ gp)) (e3 : lo ≤ gh ∧ (gh < lo' ∨ hi' ≤ gh)) : NewPost lo L P q T p wx := by
  have r1 := h1.lt
  have r2 := h2.lt
  have r3 := h3.lt
  have hs := hb.size
  have ro : ∀ b, b < w1.heap.size → fromB lo' b → readB (roleNew p gp gh) lo wx.heap.size b := fun b hb ho => by
    have ho : lo' ≤ b := ho
    refine ⟨by omega, by omega, ?_⟩
    unfold roleNew
    rw [if_neg (by omega), if_neg (by omega), if_neg (by omega)]
  refine ⟨gp, gh, ⟨A1, A2, A3, c1, c2, c3, gp, gh⟩, ?_, ?_, ?_, ?_, ?_, ?_, Nat.le_refl _, ⟨⟨e1.1, r3⟩, ⟨e2.1, r1⟩, e3.1, r2⟩, ?_, ?_, ?_, ?_, ?_, hl⟩
  · subst hn hm; exact h3
  · unfold roleNew; rw [if_pos rfl]
  · unfold roleNew; rw [if_neg (fun e => d1 e.symm), if_pos rfl]
  · unfold roleNew; rw [if_neg (fun e => d2 e.symm), if_neg (fun e => d3 e.symm), if_pos rfl]
  · intro b hb; unfold roleNew; rw [if_neg (by omega), if_neg (by omega), if_neg (by omega)]
  · intro b hb; unfold roleNew; rw [if_neg (by omega), if_neg (by omega), if_neg (by omega)]
  · refine ⟨placeZ, by rw [hn]; exact h1, fun i hi => ⟨?_, fun r hr => ?_, ?_⟩⟩
    · unfold placeZ; rw [if_neg (by omega)]; rfl
    · unfold placeZ; rw [if_neg (by omega)]; rfl
    · unfold placeZ; rw [if_pos (by omega)]; exact RowW.nil _ _ _
  · exact ⟨_, h2, fun j hj => RowW.nil _ _ _⟩
  · exact (i1.mono ro).keep fun b hb' _ => hb.block b hb'
  · exact (i2.mono ro).keep fun b hb' _ => hb.block b hb'
  · exact (i3.mono ro).keep fun b hb' _ => hb.block b hb'
set_option maxHeartbeats 4000000 in
theorem New_ok {w : World} {Ap Ao At : Option Addr} {L : List (List Int)} {P T : List Int} {q n m cp co ct : Nat} (hL : RowsIn anyB 3 w Ap L) (hP : IntsIn anyB w Ao P) (hl : P.length = q * 2) (hT : IntsIn anyB w At T)
    (hn : L.length = n) (hm : T.length = m) (nm : n ≤ maxLen) (qm : q ≤ maxLen) (tm : m ≤ maxLen) (h0 : sysCode L P q T = 0) :
    Calls Tryz.prog 17 #[.agg #[.slice Ap n cp, .slice Ao q co, .slice At m ct]] w
      fun e w' => (∃ p, e = .returned (.tuple #[.pointer (some ⟨p, 0, none⟩), .nilIface]) ∧ NewPost w.heap.size L P q T p w') ∧ Below w.heap.size w w' := by
  have hok := sysOk h0
  obtain ⟨hp1, hp2⟩ := hok.parts
  have hp3 := hok.few
  obtain ⟨hp4, hp5⟩ := hok.turns
  have hshort : ∀ l ∈ L, l.length ≤ 300 := fun l hl => by
    obtain ⟨i, hi, rfl⟩ := List.getElem_of_mem hl
    have := hok.short i hi
    rw [List.getD_eq_getElem?_getD, List.getElem?_eq_getElem hi] at this
    have e : (some L[i]).getD [] = L[i] := rfl
    rw [e] at this
    omega
  have CK := Lib.hid (fun V (hV : Below w.heap.size w V) => KCheck_any (cp := cp) (co := co) (ct := ct) (hL.below hV) (hP.below hV) hl (hT.below hV) hn hm nm qm tm)
  rw [h0, errVal_zero] at CK
  have CF := Lib.hid (fun V (hV : Below w.heap.size w V) => (fresh_any (cp := cp) (co := co) (ct := ct) (hL.below hV) (hP.below hV) hl (hT.below hV) hn hm (by omega) (by omega) (by omega) hshort).mono fun e w' ⟨he, hb⟩ => (⟨he, hb, hV.trans (hb.mono hV.size)⟩ : _ ∧ Below V.heap.size V w' ∧ Below w.heap.size w w'))
  have hmk1 : ∀ V : World, (Instr.makeSlice 71 (.int .i64 n) (.int .i64 n)).run Tryz.prog V = .ok (.slice (some ⟨V.heap.size, 0, none⟩) n n) (V.alloc (.cells (madeCells zPlace (n * 6)) 76)) := fun V => by
    obtain ⟨ti, hi, hz0, hz1, hz2⟩ := info_parts placeInfo
    have := run_make (P := Tryz.prog) (w := V) 71 76 ti _ Tryz.underlying71 hi hz0 .i64 .i64 n n (by omega) (Int.le_refl _) (by rw [hz2]; omega) (by omega)
    rw [hz1, Int.toNat_natCast] at this
    exact this
  have hmk2 : ∀ V : World, (Instr.makeSlice 28 (.int .i64 q) (.int .i64 q)).run Tryz.prog V = .ok (.slice (some ⟨V.heap.size, 0, none⟩) q q) (V.alloc (.cells (madeCells #[.slice none 0 0] q) 24)) := fun V => by
    obtain ⟨ti, hi, hz0, hz1, hz2⟩ := info_parts heldInfo
    have := run_make (P := Tryz.prog) (w := V) 28 24 ti _ Tryz.underlying28 hi hz0 .i64 .i64 q q (by omega) (Int.le_refl _) (by rw [hz2]; omega) (by omega)
    rw [hz1, Int.toNat_natCast, Nat.mul_one] at this
    exact this
  have hb0 := BoxN.new w 26 #[.slice Ap n cp, .slice Ao q co, .slice At m ct]
  have hbW := (Below.refl w.heap.size w).alloc (Nat.le_refl _) (.cells #[.slice Ap n cp, .slice Ao q co, .slice At m ct] 26)
  have x0 := hb0.cell (k := 0) rfl
  have x1 := hb0.cell (k := 1) rfl
  have x2 := hb0.cell (k := 2) rfl
  clear hok hp1 hp2 hp3 hp4 hp5
  go_enter Tryz.func17, Tryz.ntmps17
  go_wp2_with fail
  generalize w.alloc (.cells #[.slice Ap n cp, .slice Ao q co, .slice At m ct] 26) = W0 at *
  refine (CK.out _ hbW).mono ?_
  rintro e W1 ⟨rfl, hb1⟩
  have hbW1 := hbW.trans (hb1.mono hbW.size)
  have hb1' := hb0.all hb1
  clear x0 x1 x2 CK
  have x0 := hb1'.cell (k := 0) rfl
  have x1 := hb1'.cell (k := 1) rfl
  have x2 := hb1'.cell (k := 2) rfl
  have hKeep := Lib.hid (fun V (hV : Below W1.heap.size W1 V) => (⟨(hb1'.all hV).cell (k := 0) rfl, (hb1'.all hV).cell (k := 1) rfl, (hb1'.all hV).cell (k := 2) rfl⟩ : V.cell? ⟨w.heap.size, 0, none⟩ = some (.slice Ap n cp) ∧ V.cell? ⟨w.heap.size, 1, none⟩ = some (.slice Ao q co) ∧ V.cell? ⟨w.heap.size, 2, none⟩ = some (.slice At m ct)))
  have CF' := Lib.hid (fun V (hV : Below W1.heap.size W1 V) => (CF.out V (hbW1.trans (hV.mono hbW1.size))).mono fun e w' ⟨he, hb, _⟩ => (⟨he, hb, hV.trans (hb.mono hV.size)⟩ : _ ∧ Below V.heap.size V w' ∧ Below W1.heap.size W1 w'))
  clear CF hb0 hb1
  have HW1 := Lib.hid hbW1.size
  go_wp2_with fail
  go_cut [2, 3] from 10 to 22 (fun x2 x3 wx => ∃ p, x2 = .pointer (some ⟨p, 0, none⟩) ∧ x3 = .nilIface ∧ NewPost w.heap.size L P q T p wx ∧ Below W1.heap.size W1 wx)
  case first =>
    go_region_held3 (fun V => V.cell? ⟨w.heap.size, 0, none⟩ = some (.slice Ap n cp) ∧ V.cell? ⟨w.heap.size, 1, none⟩ = some (.slice Ao q co) ∧ V.cell? ⟨w.heap.size, 2, none⟩ = some (.slice At m ct))
      ((refine hKeep.out _ ?_; repeat (first | assumption | exact Below.refl _ _ | refine Below.alloc ?_ (by first | exact Nat.le_refl _ | assumption | (simp; done) | (simp; omega)) _ | refine Below.drew ?_)))
      ((go_at_call 40; with_reducible refine (CF'.out _ (by repeat (first | assumption | exact Below.refl _ _ | refine Below.alloc ?_ (by first | exact Nat.le_refl _ | assumption | (simp; done) | (simp; omega)) _ | refine Below.drew ?_))).mono ?_; rintro e w1 ⟨⟨A1, A2, A3, c1, c2, c3, rfl, i1, i2, i3⟩, hb1, hbw1⟩; have hs1 := hbw1.size))
    all_goals (go_wp2_with fail; go_meet)
    all_goals
      have hs2 := hb1.size
      try simp only [World.size_drew, World.size_alloc] at hs2
      refine ⟨_, rfl, rfl, newPost_of (w1 := w1) (hi' := w1.heap.size) hn hm hl ?_ ?_ (box_new' _ _ _ _ ?_) rfl ?_ i1 i2.intsIn i3.intsIn ?_ ?_ ?_ ?_ ⟨?_, ?_⟩ ⟨?_, ?_⟩ ⟨?_, ?_⟩, ?_⟩
      · repeat (first | exact places_new' _ _ _ (by first | rfl | (simp; done)) | refine World.rowIs.alloc ?_ _ | refine rowIs_all ?_ hb1 | refine World.rowIs.drew ?_)
      · repeat (first | exact helds_new' _ _ _ (by first | rfl | (simp; done)) | refine World.rowIs.alloc ?_ _ | refine rowIs_all ?_ hb1 | refine World.rowIs.drew ?_)
      · first | rfl | (simp; done)
      · repeat (first | exact Below.refl _ _ | refine Below.alloc ?_ (by first | exact Nat.le_refl _ | (simp; done) | (simp; omega)) _)
      all_goals first | (have := HW1.out; omega) | (have := HW1.out; simp; omega) | (have := HW1.out; simp; done) | skip
      repeat (first | exact hbw1 | refine Below.alloc ?_ (by first | exact hs1 | (simp; omega)) _)
  case rest =>
    obtain ⟨p, rfl, rfl, hpost, hbx⟩ := hcut
    go_wp2_with fail
    go_ret2
    exact ⟨⟨p, rfl, hpost⟩, hbW1.trans (hbx.mono HW1.out)⟩

set_option maxHeartbeats 1000000 in
theorem New_bad {w : World} {Ap Ao At : Option Addr} {L : List (List Int)} {P T : List Int} {q n m cp co ct : Nat} (hL : RowsIn anyB 3 w Ap L) (hP : IntsIn anyB w Ao P) (hl : P.length = q * 2) (hT : IntsIn anyB w At T)
    (hn : L.length = n) (hm : T.length = m) (nm : n ≤ maxLen) (qm : q ≤ maxLen) (tm : m ≤ maxLen) {k : Nat} (hk : sysCode L P q T = k) (h0 : k ≠ 0) :
    Calls Tryz.prog 17 #[.agg #[.slice Ap n cp, .slice Ao q co, .slice At m ct]] w
      fun e w' => e = .returned (.tuple #[.pointer none, .iface 63 (.int .i64 k)]) ∧ Below w.heap.size w w' := by
  have CK := Lib.hid (fun V (hV : Below w.heap.size w V) => KCheck_any (cp := cp) (co := co) (ct := ct) (hL.below hV) (hP.below hV) hl (hT.below hV) hn hm nm qm tm)
  rw [hk, errVal_pos h0] at CK
  have hb0 := BoxN.new w 26 #[.slice Ap n cp, .slice Ao q co, .slice At m ct]
  have hbW := (Below.refl w.heap.size w).alloc (Nat.le_refl _) (.cells #[.slice Ap n cp, .slice Ao q co, .slice At m ct] 26)
  have x0 := hb0.cell (k := 0) rfl
  have x1 := hb0.cell (k := 1) rfl
  have x2 := hb0.cell (k := 2) rfl
  clear hk h0
  go_enter Tryz.func17, Tryz.ntmps17
  go_wp2_with fail
  generalize w.alloc (.cells #[.slice Ap n cp, .slice Ao q co, .slice At m ct] 26) = W0 at *
  refine (CK.out _ hbW).mono ?_
  rintro e W1 ⟨rfl, hb1⟩
  go_wp2_with fail
  go_ret2
  exact ⟨rfl, hbW.trans (hb1.mono hbW.size)⟩
end Go.Proofs.YtanlmfnhlldkeaaGreatDoor
