/-
  Worlds that differ in certain blocks alone.
  The cutter of a program in memory: its map of what matters, what was kept.
  A cutter in memory; the contract of its node.
  Contract: slice.names.
  Contract: the cutter's needs, over its find.
  Contract: the cutter's needs, over its find.
  Contract: the cutter's find, at the deeds without a part that is a deed; at two, one behind the other.
  Contract: the cutter's around.
  Contract: the cutter's find at If and While; its needs, whole.
  Contract: the cutter's copy.
  Contracts: the cutter's keep and block.
  Contracts: the cutter's keep at deeds of parts; keep, whole. (Printed by tools/keepgen.py.)
  Contracts: slice.Cut and slice.Needs.
-/
import Derived.Test.YtdgncngkalgknaaDoorPush
import Derived.Test.YtdgncngkalgknaaDoorBox
import Derived.Test.YtdgncngkalgknaaDoorOver
import Derived.Maps.OwnSet
import Derived.Test.YtdgncngkalgknaaDoorRdA
import Derived.Test.YtdgncngkalgknaaDoorSlPl
import Derived.Test.YtdgncngkalgknaaDoorOneT
import Derived.Test.YtdgncngkalgknaaDoorPgB
import Derived.WideKeyPair
import Derived.Test.YtdgncngkalgknaaDoorPgC
namespace Go.Proofs.YtdgncngkalgknaaDoor
open Go.RowKit Go.Maps
set_option linter.unusedVariables false

/-- Nothing has turned but what is in S, and nothing has gone. -/
structure QKeeps (S : Nat → Prop) (w w' : World) : Prop where
  os : w'.os = w.os
  tape : w'.tape = w.tape
  output : w'.output = w.output
  size : w.heap.size ≤ w'.heap.size
  block : ∀ b, b < w.heap.size → ¬ S b → w'.heap[b]? = w.heap[b]?
section
variable {S S' : Nat → Prop} {w w' w'' : World}
theorem QKeeps.refl (S : Nat → Prop) (w : World) : QKeeps S w w := ⟨rfl, rfl, rfl, Nat.le_refl _, fun _ _ _ => rfl⟩
theorem QKeeps.trans (h : QKeeps S w w') (k : QKeeps S' w' w'') (hS : ∀ b, S' b → S b ∨ w.heap.size ≤ b) : QKeeps S w w'' :=
  ⟨k.os.trans h.os, k.tape.trans h.tape, k.output.trans h.output, Nat.le_trans h.size k.size, fun b hb hn => (k.block b (Nat.lt_of_lt_of_le hb h.size) (fun h' => (hS b h').elim hn (fun e => by omega))).trans (h.block b hb hn)⟩
theorem QKeeps.drewN (h : QKeeps S w w') (n : Nat) : QKeeps S w (w'.drewN n) := ⟨h.os, h.tape, h.output, h.size, h.block⟩
theorem QKeeps.of_below (h : Below w.heap.size w w') : QKeeps S w w' := ⟨h.os, h.tape, h.output, h.size, fun b hb _ => h.block b hb⟩
theorem QKeeps.grown {row : Option Nat} (h : QKeeps S w w') (hg : w'.grownBy w'' row) (hr : ∀ g, row = some g → S g ∨ w.heap.size ≤ g) : QKeeps S w w'' :=
  ⟨hg.os.trans h.os, hg.tape.trans h.tape, hg.output.trans h.output, Nat.le_trans h.size hg.size, fun b hb hn => (hg.block b (Nat.lt_of_lt_of_le hb h.size) (fun e => (hr b e.symm).elim hn (fun e => by omega))).trans (h.block b hb hn)⟩
theorem QKeeps.setCell (h : QKeeps S w w') {p : Addr} (hp : S p.block) (v : Value) : QKeeps S w (w'.setCell p v) :=
  ⟨h.os, h.tape, h.output, by simpa using h.size, fun b hb hn => (Below.heap_setCell w' p v b (fun e => hn (by rw [e]; exact hp))).trans (h.block b hb hn)⟩
theorem QKeeps.alloc (h : QKeeps S w w') (o : Obj) : QKeeps S w (w'.alloc o) := h.grown (World.grownBy_alloc w' o none) (fun _ e => by cases e)
theorem QKeeps.to_below {B : Nat} {w0 : World} (h : QKeeps S w w') (hS : ∀ b, S b → B ≤ b) (hb : Below B w0 w) (hB : B ≤ w.heap.size) : Below B w0 w' :=
  ⟨h.os.trans hb.os, h.tape.trans hb.tape, h.output.trans hb.output, Nat.le_trans hb.size h.size, fun k hk => (h.block k (by omega) (fun e => by have := hS k e; omega)).trans (hb.block k hk)⟩
theorem QKeeps.box {b : Nat} {t : TypeId} {vs : Array Value} (h : QKeeps S w w') (hb : BoxN w b t vs) (hn : ¬ S b) : BoxN w' b t vs := (h.block b hb.lt hn).trans hb
theorem QKeeps.row {base size n : Nat} {e : TypeId} {v : Value} {xs : List Value} (h : QKeeps S w w') (hr : w.ownsRow base e size v n xs) (hn : ∀ g, v.ownBlock = some g → ¬ S g) : w'.ownsRow base e size v n xs := by
  refine ⟨hr.1, ?_⟩
  rcases hr.2 with h0 | ⟨g, cap, cur, hv, hg, hc, r⟩
  · exact .inl h0
  · exact .inr ⟨g, cap, cur, hv, hg, (h.block g (Array.getElem?_eq_some_iff.1 hc).1 (hn g (by rw [hv]; rfl))).trans hc, r⟩
end
theorem ownsMap_block {H : Type} {P : Program} {k : TypeId} {R : Value → Option (DataW H × List MemPlace)} {w w' : World} {b n : Nat} {D : DataW H} (h : w.ownsMap P k R b n D) (hb : w'.heap[b]? = w.heap[b]?) : w'.ownsMap P k R b n D := by
  obtain ⟨es, clock, h1, h2⟩ := h
  exact ⟨es, clock, hb.trans h1, h2⟩

section
variable {w : World}
theorem own_off {base size n b : Nat} {e t : TypeId} {v : Value} {xs : List Value} {vs : Array Value} {k : Nat} (h : w.ownsRow base e size v n xs) (hx : BoxN w b t vs) (ht : e ≠ t) (u : Value) : (w.setCell ⟨b, k, none⟩ u).ownsRow base e size v n xs := by
  refine ⟨h.1, ?_⟩
  rcases h.2 with h0 | ⟨g, cap, cur, hv, hg, hc, r⟩
  · exact .inl h0
  · refine .inr ⟨g, cap, cur, hv, hg, (Below.heap_setCell w ⟨b, k, none⟩ u g (fun e' => ?_)).trans hc, r⟩
    have e' : g = b := e'
    subst e'
    have h2 : w.heap[g]? = _ := hx
    rw [hc] at h2
    injection h2 with h2
    injection h2 with _ h2
    exact ht h2
theorem own_lt {base size n : Nat} {e : TypeId} {v : Value} {xs : List Value} (h : w.ownsRow base e size v n xs) {g : Nat} (hg : v.ownBlock = some g) : base ≤ g ∧ g < w.heap.size := by
  rcases h.2 with ⟨h0, _⟩ | ⟨g', cap, cur, hv, h1, hc, r⟩
  · rw [h0] at hg; cases hg
  · rw [hv] at hg
    have : g' = g := by simpa [Value.ownBlock] using hg
    subst this
    exact ⟨h1, (Array.getElem?_eq_some_iff.1 hc).1⟩
end
end Go.Proofs.YtdgncngkalgknaaDoor

namespace Go.Proofs.YtdgncngkalgknaaDoor
open Go.RowKit Go.Maps
set_option maxRecDepth 100000
set_option linter.unusedVariables false

theorem pairArr : WideMaps.ArrKey Tryd.prog 112 3 2 := ⟨Tryd.underlying112, by kernel_rfl, by kernel_rfl, by kernel_rfl⟩
theorem pairKey : Keyed Tryd.prog 112 := Keyed.of_law pairArr.law
theorem typesSome : ∃ m, Tryd.prog.types.size = m + 1 := ⟨Tryd.prog.types.size - 1, by kernel_rfl⟩
/-- A key: a node, and what matters behind it. -/
def ck (x : Nat × Nat) : Lit := .string (keyBytes [.int .i64 (x.1 : Int), .int .i64 (x.2 : Int)])
theorem ck_of {i u : Nat} (hi : i < 80) (hu : u < 64) : keyOf Tryd.prog 112 (.agg #[.int .i64 i, .int .i64 u]) = some (ck (i, u)) :=
  WideMaps.keyOf_pair pairArr Tryd.underlying3 typesSome (WalkArith.wf_i64 (by omega)) (WalkArith.wf_i64 (by omega))
theorem ck_inj {x y : Nat × Nat} (h1 : x.1 < 80) (h2 : x.2 < 64) (h3 : y.1 < 80) (h4 : y.2 < 64) (h : ck x = ck y) : x = y := by
  have a := ck_of h1 h2
  have b := ck_of h3 h4
  rw [show ck (x.1, x.2) = ck (y.1, y.2) from h] at a
  have := pairKey.inj a b
  simp at this
  exact Prod.ext (by omega) (by omega)
theorem ck_key (x : Nat × Nat) : WideAt.IsKeyLit (ck x) := trivial
/-- An answer, as data. -/
def ansL : List Value → Option (DataW Unit × List MemPlace)
  | [.int .i64 s, .bool b] => some (.agg [.lit (.int .i64 s), .lit (.bool b)], [])
  | _ => none
def ansR : Value → Option (DataW Unit × List MemPlace)
  | .agg xs => ansL xs.toList
  | _ => none
def ansD (r : Nat × Bool) : DataW Unit := .agg [.lit (.int .i64 (r.1 : Int)), .lit (.bool r.2)]
def ansV (r : Nat × Bool) : Value := .agg #[.int .i64 (r.1 : Int), .bool r.2]
theorem ansR_mk (r : Nat × Bool) : ansR (ansV r) = some (ansD r, []) := rfl
theorem ansR_inv {v : Value} {r : Nat × Bool} {ps : List MemPlace} (h : ansR v = some (ansD r, ps)) : v = ansV r := by
  unfold ansR at h
  split at h
  · rename_i xs
    unfold ansL at h
    split at h
    · rename_i hx
      simp [ansD] at h
      obtain ⟨⟨rfl, rfl⟩, -⟩ := h
      obtain ⟨l⟩ := xs
      have hx : l = _ := hx
      subst hx
      rfl
    · cases h
  · cases h
theorem ansZero (w : World) : (zeroValue 114).run Tryd.prog w = .ok (.agg #[.int .i64 0, .bool false]) w := by kernel_rfl

/-- The cutter's map: what it holds is right. -/
structure MemoAt (P : List Int) (w : World) (mb : Nat) (q : List (Nat × Nat)) : Prop where
  ex : ∃ D : DataW Unit, w.ownsMap Tryd.prog 112 ansR mb q.length D ∧ IsMap D ∧ (∀ x : Nat × Nat, x.1 < 80 → x.2 < 64 → Maps.has D (ck x) = decide (x ∈ q)) ∧ (∀ x ∈ q, ∀ s, IsSt P x.1 s → D.atKey (ck x) (ansD (0, false)) = ansD (s.need x.2))
  nodup : q.Nodup
  small : ∀ x ∈ q, x.1 < 80 ∧ x.2 < 64
theorem nodup_small : ∀ (N : Nat) (l : List Nat), l.Nodup → (∀ x ∈ l, x < N) → l.length ≤ N
  | 0, l, _, h => by
    cases l with
    | nil => exact Nat.le_refl _
    | cons x l => have := h x (by simp); omega
  | N + 1, l, hd, h => by
    have h1 : (l.erase N).length ≤ N := nodup_small N _ (hd.erase N) fun x hx => by
      have := (hd.mem_erase_iff).1 hx
      have := h x this.2
      omega
    by_cases hm : N ∈ l
    · have := List.length_erase_of_mem hm; omega
    · rw [List.erase_of_not_mem hm] at h1; omega
section
variable {P : List Int} {w w' : World} {mb : Nat} {q : List (Nat × Nat)}
theorem MemoAt.few (h : MemoAt P w mb q) : q.length ≤ 5120 := by
  have := nodup_small 5120 (q.map fun x => x.1 * 64 + x.2) (by
    unfold List.Nodup
    rw [List.pairwise_map]
    refine h.nodup.imp_of_mem fun {a b} ha hb hne e => hne ?_
    have h1 := h.small a ha
    have h2 := h.small b hb
    exact Prod.ext (by omega) (by omega)) (by
    intro x hx
    rw [List.mem_map] at hx
    obtain ⟨y, hy, rfl⟩ := hx
    have := h.small y hy
    omega)
  rwa [List.length_map] at this
theorem MemoAt.keep (h : MemoAt P w mb q) (hb : w'.heap[mb]? = w.heap[mb]?) : MemoAt P w' mb q := by
  obtain ⟨D, h1, h2⟩ := h.ex
  exact ⟨⟨D, ownsMap_block h1 hb, h2⟩, h.nodup, h.small⟩
theorem MemoAt.lt (h : MemoAt P w mb q) : mb < w.heap.size := by
  obtain ⟨D, h1, -⟩ := h.ex
  exact h1.lt
theorem MemoAt.new (P : List Int) (w : World) : MemoAt P (w.alloc (.map #[] 0)) w.heap.size [] :=
  ⟨⟨.map [], World.ownsMap_made w _ _ _, ⟨[], rfl⟩, fun x _ _ => rfl, fun x hx => by cases hx⟩, .nil, fun x hx => by cases hx⟩
theorem MemoAt.notCells (h : MemoAt P w mb q) {b : Nat} {vs : Array Value} {t : TypeId} {fz : Nat × Nat} (hb : w.heap[b]? = some (.cells vs t fz)) : b ≠ mb := by
  rintro rfl
  obtain ⟨D, ⟨es, clock, h1, -⟩, -⟩ := h.ex
  rw [hb] at h1
  cases h1
/-- Looked up. -/
theorem wpList_memo {ops : Array Oper} {rest : List Oper} {o : Oper} {a : Act} {Q : Exit → Act → World → Prop} (hg : o.guard = none) (m x : Operand) (hop : o.op = Op.lookup 81 m x true)
    (h : MemoAt P w mb q) {i u : Nat} {s : St} (hi : i < 80) (hu : u < 64) (hs : IsSt P i s) (hm : a.eval m = .map (some mb)) (hx : a.eval x = .agg #[.int .i64 i, .int .i64 u])
    (h1 : (i, u) ∈ q → wpList Tryd.prog ops Q rest (a.put o.dst (.tuple #[.agg #[.int .i64 ((s.need u).1 : Nat), .bool (s.need u).2], .bool true])) w)
    (h2 : (i, u) ∉ q → wpList Tryd.prog ops Q rest (a.put o.dst (.tuple #[.agg #[.int .i64 0, .bool false], .bool false])) w) :
    wpList Tryd.prog ops Q (o :: rest) a w := by
  obtain ⟨D, hown, hD, hhas, hat⟩ := h.ex
  refine wpList_lookup_own_ok w hg m x _ hop 112 114 pairKey Tryd.underlying81 ansR (ansZero w) (ansD (0, false)) [] rfl mb _ D hm hown _ _ hx (ck_of hi hu) fun v ps hv => ?_
  have hq := hhas (i, u) hi hu
  by_cases hmem : (i, u) ∈ q
  · rw [decide_eq_true hmem] at hq
    rw [hat _ hmem s hs] at hv
    rw [ansR_inv hv, hq]
    exact h1 hmem
  · rw [decide_eq_false hmem] at hq
    rw [Maps.atKey_of_not_has hq] at hv
    rw [ansR_inv hv, hq]
    exact h2 hmem
/-- Stored. -/
theorem wpList_memo_put {ops : Array Oper} {rest : List Oper} {o : Oper} {a : Act} {Q : Exit → Act → World → Prop} (hg : o.guard = none) (m x v : Operand) (hop : o.op = Op.mapUpdate 81 m x v)
    (h : MemoAt P w mb q) {i u : Nat} {s : St} (hi : i < 80) (hu : u < 64) (hs : IsSt P i s) (hq : (i, u) ∉ q) (hm : a.eval m = .map (some mb)) (hx : a.eval x = .agg #[.int .i64 i, .int .i64 u])
    (hv : a.eval v = .agg #[.int .i64 ((s.need u).1 : Nat), .bool (s.need u).2])
    (hK : ∀ w', MemoAt P w' mb (q ++ [(i, u)]) → w.grownBy w' (some mb) → wpList Tryd.prog ops Q rest (a.put o.dst undef) w') :
    wpList Tryd.prog ops Q (o :: rest) a w := by
  have hfew := h.few
  obtain ⟨D, hown, hD, hhas, hat⟩ := h.ex
  refine wpList_mapUpdate_own w hg m x v _ hop 112 114 pairKey Tryd.underlying81 ansR mb _ D hm hown (by unfold maxLen; omega) _ _ (ck (i, u)) hx hv (ck_of hi hu) (ansD (s.need u)) [] (ansR_mk (s.need u)) fun w' hown' hg' => hK w' ⟨⟨D.put (ck (i, u)) (ansD (s.need u)), ?_, hD.put (ck (i, u)) (ansD (s.need u)), ?_, ?_⟩, ?_, ?_⟩ hg'
  · rw [List.length_append]; exact hown'
  · intro y h1 h2
    by_cases e : y = (i, u)
    · subst e
      rw [Maps.has_put_same hD (ck_key _)]
      simp
    · rw [Maps.has_put_other (fun h => e (ck_inj h1 h2 hi hu h)), hhas y h1 h2]
      simp [e]
  · intro y hy t ht
    by_cases e : y = (i, u)
    · subst e
      rw [Maps.atKey_put_same hD (ck_key _), ht.one hs]
    · have hy' : y ∈ q := by simpa [e] using hy
      have := h.small y hy'
      rw [Maps.atKey_put_other (fun h => e (ck_inj this.1 this.2 hi hu h))]
      exact hat y hy' t ht
  · rw [List.nodup_append]
    refine ⟨h.nodup, by simp, fun a ha b hb => ?_⟩
    simp at hb
    subst hb
    exact fun e => hq (e ▸ ha)
  · intro y hy
    rw [List.mem_append, List.mem_singleton] at hy
    rcases hy with hy | rfl
    · exact h.small y hy
    · exact ⟨hi, hu⟩
end
end Go.Proofs.YtdgncngkalgknaaDoor

namespace Go.Proofs.YtdgncngkalgknaaDoor
open Go.RowKit Go.Maps
set_option maxRecDepth 100000
set_option linter.unusedVariables false

theorem node_ne_cut : (51 : TypeId) ≠ 83 := by decide
/-- A cutter in block r, its map in block mb; n nodes were kept. S: its own blocks. -/
structure CutAt (P : List Int) (N : Value) (B r mb : Nat) (S : Nat → Prop) (n : Nat) (o : List Int) (q : List (Nat × Nat)) (w : World) : Prop where
  ex : ∃ v, BoxN w r 83 #[N, v, .map (some mb)] ∧ OwnN w B v n o ∧ ∀ g, v.ownBlock = some g → S g
  memo : MemoAt P w mb q
  self : S r
  map : S mb
  lt : ∀ b, S b → b < w.heap.size
  low : ∀ b, S b → B ≤ b
section
variable {P : List Int} {N : Value} {B r mb : Nat} {S S' : Nat → Prop} {n : Nat} {o : List Int} {q : List (Nat × Nat)} {w w' w'' : World}
theorem CutAt.keep (h : CutAt P N B r mb S n o q w) (hs : w.heap.size ≤ w'.heap.size) (hb : ∀ b, S b → w'.heap[b]? = w.heap[b]?) : CutAt P N B r mb S n o q w' := by
  obtain ⟨v, h1, h2, h3⟩ := h.ex
  refine ⟨⟨v, (hb r h.self).trans h1, ⟨h2.1, h2.2.1, ?_⟩, h3⟩, h.memo.keep (hb mb h.map), h.self, h.map, fun b hb' => Nat.lt_of_lt_of_le (h.lt b hb') hs, h.low⟩
  rcases h2.2.2 with h0 | ⟨g, cap, cur, hv, hg, hc, rest⟩
  · exact .inl h0
  · exact .inr ⟨g, cap, cur, hv, hg, (hb g (h3 g (by rw [hv]; rfl))).trans hc, rest⟩
theorem CutAt.below (h : CutAt P N B r mb S n o q w) (hb : Below w.heap.size w w') : CutAt P N B r mb S n o q w' := h.keep hb.size fun b hb' => hb.block b (h.lt b hb')
theorem CutAt.drewN (h : CutAt P N B r mb S n o q w) (k : Nat) : CutAt P N B r mb S n o q (w.drewN k) := h.below (belowD (Below.refl _ _) k)
theorem CutAt.off (h : CutAt P N B r mb S n o q w) {p : Addr} (hp : ¬ S p.block) (x : Value) : CutAt P N B r mb S n o q (w.setCell p x) :=
  h.keep (by simp) fun b hb => Below.heap_setCell w p x b (fun e => hp (e ▸ hb))
theorem CutAt.cell0 (h : CutAt P N B r mb S n o q w) : w.cell? ⟨r, 0, none⟩ = some N := by obtain ⟨v, h1, -⟩ := h.ex; exact h1.cell (k := 0) rfl
theorem CutAt.cell2 (h : CutAt P N B r mb S n o q w) : w.cell? ⟨r, 2, none⟩ = some (.map (some mb)) := by obtain ⟨v, h1, -⟩ := h.ex; exact h1.cell (k := 2) rfl
theorem CutAt.rlt (h : CutAt P N B r mb S n o q w) : r < w.heap.size := h.lt r h.self
theorem CutAt.blt (h : CutAt P N B r mb S n o q w) : B ≤ w.heap.size := by have := h.low r h.self; have := h.rlt; omega
/-- What a method leaves. -/
def CutTo (P : List Int) (N : Value) (B r mb : Nat) (S : Nat → Prop) (n : Nat) (o : List Int) (q : List (Nat × Nat)) (w w' : World) : Prop :=
  ∃ S', CutAt P N B r mb S' n o q w' ∧ (∀ b, S' b → S b ∨ w.heap.size ≤ b) ∧ QKeeps S w w'
/-- A box that is not the cutter's. -/
theorem QKeeps.nbox {b : Nat} {t : TypeId} {vs : Array Value} (h : QKeeps S w w') (hb : BoxN w b t vs) (hn : ¬ S b) (hS : ∀ b, S' b → S b ∨ w.heap.size ≤ b) : BoxN w' b t vs ∧ ¬ S' b := ⟨h.box hb hn, fun h' => (hS b h').elim hn (fun e => by have := hb.lt; omega)⟩
theorem CutAt.to_below (h : CutAt P N B r mb S n o q w) (hk : QKeeps S w w') {w0 : World} (hb : Below B w0 w) : Below B w0 w' := hk.to_below h.low hb h.blt

theorem step_push_nodeB {w : World} {ops : Array Oper} {o : Oper} {a : Act} {K : Act → World → Prop} {Q : Exit → Act → World → Prop} {E : Prop} (hgd : o.guard = none) (s x : Operand)
    (ho : o.op = .call { callee := .builtin .append, args := #[s, x], argTypes := #[23, 23] })
    {base n : Nat} {v : Value} {l : List Int} (hs : a.eval s = v) (hown : OwnN w base v n l) (g : Nat) (k0 k1 k2 k3 k4 : Int) (hx : a.eval x = .slice (some ⟨g, 0, none⟩) 1 1) (hc : BoxN w g 51 #[.int .i64 k0, .int .i64 k1, .int .i64 k2, .int .i64 k3, .int .i64 k4])
    (hn : n < 2 ^ 40) (hbase : base ≤ w.heap.size)
    (h : ∀ B c w', OwnN w' base (.slice B (n + 1) c) (n + 1) (l ++ [k0, k1, k2, k3, k4]) → ((Value.slice B (n + 1) c).ownBlock = v.ownBlock ∨ (Value.slice B (n + 1) c).ownBlock = some w.heap.size) → w.grownBy w' v.ownBlock → K (a.put o.dst (.slice B (n + 1) c)) w') : if Region.wanted o (yielded ops a.tmps) = true then Oper.wp Tryd.prog o a w K Q else E := by
  have hw : Region.wanted o (yielded ops a.tmps) = true := by simp [Region.wanted, hgd]
  rw [if_pos hw]
  obtain ⟨v', w', hrun, hp⟩ := run_append_cells w o.type eNodes hown.2 (some ⟨g, 0, none⟩) 1 1 [.int .i64 k0, .int .i64 k1, .int .i64 k2, .int .i64 k3, .int .i64 k4] (fun _ => ⟨g, 0, rfl, fun j u hj => by
    rw [Nat.zero_add]
    exact hc.cell (by rw [← Array.getElem?_toList]; exact hj)⟩) rfl (fun u hu => by simp at hu; rcases hu with rfl | rfl | rfl | rfl | rfl <;> rfl) (by omega) (by omega) hbase
  have hpu : OwnN w' base v' (n + 1) (l ++ [k0, k1, k2, k3, k4]) := ⟨by rw [List.length_append, hown.1]; simp; omega, by
    have := hp.own
    rw [List.map_append]
    exact this⟩
  obtain ⟨B, c, rfl⟩ := hpu.form
  have := h B c w' hpu hp.block hp.grew
  unfold Oper.wp
  simp only [execOp, ho, resolve, invoke, builtin, Sem.run_bind, Sem.run_pure, Result.andThen_ok, List.map_toArray, List.map_cons, List.map_nil, hs, hx, hrun]
  exact this
theorem OwnN.notMemo {v : Value} (h : OwnN w B v n o) (hm : MemoAt P w mb q) : v.ownBlock ≠ some mb := by
  rcases h.2.2 with ⟨rfl, _⟩ | ⟨g, cap, cur, rfl, hg, hc, _⟩
  · intro e; cases e
  · intro e
    have e : some g = some mb := e
    injection e with e
    exact hm.notCells hc e
theorem OwnN.notCut {v : Value} {b : Nat} {vs : Array Value} (h : OwnN w B v n o) (hb : BoxN w b 83 vs) : v.ownBlock ≠ some b := by
  rcases h.2.2 with ⟨rfl, _⟩ | ⟨g, cap, cur, rfl, hg, hc, _⟩
  · intro e; cases e
  · intro e
    have e : some g = some b := e
    injection e with e
    subst e
    have h2 : w.heap[g]? = _ := hb
    rw [hc] at h2
    injection h2 with h2
    injection h2 with _ h2
    exact node_ne_cut h2

/-- What stands behind the append and the store. -/
theorem cut_end {w1 w2 : World} {v v2 : Value} {o2 : List Int} {n2 : Nat} (hQ : QKeeps S w w1) (hS : CutAt P N B r mb S n o q w) (hbx : BoxN w1 r 83 #[N, v, .map (some mb)]) (hm : MemoAt P w1 mb q) (hown : OwnN w1 B v n o) (hvS : ∀ g, v.ownBlock = some g → S g)
    (ho2 : OwnN w2 B v2 n2 o2) (hbk : v2.ownBlock = v.ownBlock ∨ v2.ownBlock = some w1.heap.size) (hg : w1.grownBy w2 v.ownBlock) : CutTo P N B r mb S n2 o2 q w (w2.setCell ⟨r, 1, none⟩ v2) := by
  have hb2 : BoxN w2 r 83 #[N, v, .map (some mb)] := (hg.block r hbx.lt (hown.notCut hbx).symm).trans hbx
  have hm2 : MemoAt P w2 mb q := hm.keep (hg.block mb hm.lt (hown.notMemo hm).symm)
  have hrm : mb ≠ r := (hm2.notCells hb2).symm
  have hQ2 := (hQ.grown hg (fun g e => .inl (hvS g e))).setCell (p := ⟨r, 1, none⟩) hS.self v2
  have hz := hQ.size
  refine ⟨fun b => S b ∨ w.heap.size ≤ b ∧ b < (w2.setCell ⟨r, 1, none⟩ v2).heap.size, ⟨⟨v2, hb2.set 1 v2, ⟨ho2.1, own_off ho2.2 hb2 node_ne_cut _⟩, ?_⟩, hm2.keep (Below.heap_setCell _ _ _ _ hrm), .inl hS.self, .inl hS.map, ?_, ?_⟩, ?_, hQ2⟩
  · intro g hg'
    rcases hbk with e | e
    · exact .inl (hvS g (e ▸ hg'))
    · have := (own_lt ho2.2 hg').2
      rw [e] at hg'
      injection hg' with hg'
      exact .inr ⟨by omega, by simpa using this⟩
  · rintro b (hb | hb)
    · exact Nat.lt_of_lt_of_le (hS.lt b hb) hQ2.size
    · exact hb.2
  · rintro b (hb | hb)
    · exact hS.low b hb
    · have := hS.blt; omega
  · rintro b (hb | hb)
    · exact .inl hb
    · exact .inr hb.1

set_option maxHeartbeats 4000000 in
theorem CNode (h : CutAt P N B r mb S n o q w) (hn : n < 2 ^ 39) (k0 k1 k2 k3 k4 : Int) :
    Calls Tryd.prog 71 #[.pointer (some ⟨r, 0, none⟩), .agg #[.int .i64 k0, .int .i64 k1, .int .i64 k2, .int .i64 k3, .int .i64 k4]] w fun e w' => e = .returned (.int .i64 n) ∧ CutTo P N B r mb S (n + 1) (o ++ [k0, k1, k2, k3, k4]) q w w' := by
  have hx := BoxN.new w 51 #[.int .i64 k0, .int .i64 k1, .int .i64 k2, .int .i64 k3, .int .i64 k4]
  have hb := (Below.refl w.heap.size w).alloc (Nat.le_refl _) (.cells #[.int .i64 k0, .int .i64 k1, .int .i64 k2, .int .i64 k3, .int .i64 k4] 51)
  have h1 := h.below hb
  have hQ1 := QKeeps.of_below (S := S) hb
  obtain ⟨v, hbx, hown, hvS⟩ := h1.ex
  obtain ⟨A, c, rfl⟩ := hown.form
  have x1 := hbx.cell (k := 1) rfl
  have H := Lib.hid h
  have HQ1 := Lib.hid hQ1
  have H1 := Lib.hid h1
  have HvS := Lib.hid hvS
  clear h hb hQ1 h1 hvS
  go_enter Tryd.func71, Tryd.ntmps71
  go_wp2_with fail
  generalize w.alloc (.cells #[.int .i64 k0, .int .i64 k1, .int .i64 k2, .int .i64 k3, .int .i64 k4] 51) = w1 at *
  have c0 := hx.cell (k := 0) rfl
  have c1 := hx.cell (k := 1) rfl
  have c2 := hx.cell (k := 2) rfl
  have c3 := hx.cell (k := 3) rfl
  have c4 := hx.cell (k := 4) rfl
  have f1 := hbx.free 1
  have hn40 : Hid (n < 2 ^ 40) := Lib.hid (by omega)
  have hbA : Below w1.heap.size w1 (w1.alloc (.cells #[.int .i64 k0, .int .i64 k1, .int .i64 k2, .int .i64 k3, .int .i64 k4] 51)).drew := ((Below.refl _ _).alloc (Nat.le_refl _) _).drew
  have hQA : Hid (QKeeps S w (w1.alloc (.cells #[.int .i64 k0, .int .i64 k1, .int .i64 k2, .int .i64 k3, .int .i64 k4] 51)).drew) := Lib.hid (HQ1.out.trans (QKeeps.of_below (S := S) hbA) (fun b hb => .inl hb))
  have hoA : OwnN (w1.alloc (.cells #[.int .i64 k0, .int .i64 k1, .int .i64 k2, .int .i64 k3, .int .i64 k4] 51)).drew B (.slice A n c) n o := ⟨hown.1, ownsRow_below hown.2 hbA (Nat.le_refl _)⟩
  have hgA : BoxN (w1.alloc (.cells #[.int .i64 k0, .int .i64 k1, .int .i64 k2, .int .i64 k3, .int .i64 k4] 51)).drew w1.heap.size 51 #[.int .i64 k0, .int .i64 k1, .int .i64 k2, .int .i64 k3, .int .i64 k4] := (BoxN.new w1 _ _).drewN 1
  have hbxA := hbx.all hbA
  have hmA : Hid (MemoAt P (w1.alloc (.cells #[.int .i64 k0, .int .i64 k1, .int .i64 k2, .int .i64 k3, .int .i64 k4] 51)).drew mb q) := Lib.hid (H1.out.memo.keep (hbA.block mb H1.out.memo.lt))
  have hlow : Hid (B ≤ (w1.alloc (.cells #[.int .i64 k0, .int .i64 k1, .int .i64 k2, .int .i64 k3, .int .i64 k4] 51)).drew.heap.size) := Lib.hid (Nat.le_trans H1.out.blt hbA.size)
  have x1A := ((hbx.alloc (.cells #[.int .i64 k0, .int .i64 k1, .int .i64 k2, .int .i64 k3, .int .i64 k4] 51)).cell (k := 1) rfl)
  have hnb := hoA.notCut hbxA
  go_wp2_with fail
  go_region_law ((refine step_push_nodeB (by rfl) _ _ (by rfl) (by rfl) hoA w1.heap.size k0 k1 k2 k3 k4 (by rfl) hgA hn40.out hlow.out ?_; intro B' c' w2 ho2 hbk2 hgr2; have hb2 := (hgr2.block r (by have := hbxA.lt; exact this) hnb.symm).trans hbxA; have f2' := BoxN.free hb2 1; have x2' := BoxN.cell (k := 1) hb2 rfl))
  all_goals
    have hb3 : BoxN (w2.setCell ⟨r, 1, none⟩ (.slice B' (n + 1) c')) r 83 #[N, .slice B' (n + 1) c', .map (some mb)] := BoxN.set hb2 1 (.slice B' (n + 1) c')
    have x3 := BoxN.cell (k := 1) hb3 rfl
    have HT := Lib.hid (cut_end hQA.out H.out hbxA hmA.out hoA HvS.out ho2 hbk2 hgr2)
    clear hb2 f2' x2' hb3 ho2 hbk2 hgr2
    generalize w2.setCell ⟨r, 1, none⟩ (.slice B' (n + 1) c') = w3 at *
    go_wp2_with fail
    go_ret
    exact ⟨ret_int (by omega), HT.out⟩
end
end Go.Proofs.YtdgncngkalgknaaDoor

namespace Go.Proofs.YtdgncngkalgknaaDoor
open Go.RowKit
set_option maxRecDepth 100000
set_option linter.unusedVariables false

set_option maxHeartbeats 2000000 in
theorem snames_any {P : List Int} {n : Nat} {A : Option Addr} {c : Nat} {i : Nat} {e : Ex} (he : IsEx P i e) (hi : i < n) : ∀ (w : World), NodesAt w A P n →
    Calls Tryd.prog 100 #[.slice A n c, .int .i64 i] w fun r w' => r = .returned (.int .i64 (e.names : Nat)) ∧ Below w.heap.size w w' := by
  induction he with
  | @num i m h0 h1 h2 =>
    intro w h
    obtain ⟨b, off, rfl, p0, p1, p2, p3, p4⟩ := h.cells hi
    rw [h0] at p0
    rw [h1] at p1
    have HP := Lib.hid (Parts_any 0 m (nd P i 2) (nd P i 3) (nd P i 4) w)
    rw [show partsL 0 (nd P i 2) (nd P i 3) (nd P i 4) = [] from rfl] at HP
    clear h h0 h1 h2
    go_enter Tryd.func100, Tryd.ntmps100
    go_wp2_with fail
    with_reducible refine HP.out.mono ?_
    rintro r w1 ⟨X, cx, rfl, -, hb, -⟩
    go_wp2_with fail
    go_loopw [5, 26] (fun s j wr => s = .int .i64 0 ∧ j = .int .i64 0 ∧ wr = w1) (fun s j _ => 0)
    case atStart => exact ⟨rfl, rfl, rfl⟩
    case round =>
      obtain ⟨rfl, rfl, rfl⟩ := hrel
      go_wp2_with fail
      go_ret
      exact ⟨rfl, hb⟩
  | @var i m h0 h1 h2 =>
    intro w h
    obtain ⟨b, off, rfl, p0, p1, p2, p3, p4⟩ := h.cells hi
    rw [h0] at p0
    rw [h1] at p1
    have H := Lib.hid (wrap64_pow m (by omega))
    clear h
    go_enter Tryd.func100, Tryd.ntmps100
    go_wp2_with fail
    go_ret
    exact ⟨ret_int H.out, Below.refl _ _⟩
  | @op i k a b x y hk2 hk4 h0 h2 h3 ha hb hx hy iha ihb =>
    intro w h
    obtain ⟨bb, off, rfl, p0, p1, p2, p3, p4⟩ := h.cells hi
    rw [h0] at p0
    rw [h2] at p2
    rw [h3] at p3
    have HP := Lib.hid (Parts_any k (nd P i 1) a b (nd P i 4) w)
    have hpl : partsL (k : Int) a b (nd P i 4) = [(a : Int), (b : Int)] := parts_two (by omega)
    rw [hpl] at HP
    have dk : ((k : Int) == 1) = false := by simp; omega
    have lx := Ex.names_lt hx.ok
    have ly := Ex.names_lt hy.ok
    have Ho := Lib.hid (bits_or_nat x.names y.names (by omega) (by omega))
    have Ho0 := Lib.hid (bits_or_nat 0 x.names (by omega) (by omega))
    have Hx := Lib.hid (fun w1 (hb : Below w.heap.size w w1) V (hV : Below w1.heap.size w1 V) => (iha (by omega) V ((h.below (B := 0) hb).below (B := 0) hV)).mono fun r w' ⟨he, hx⟩ => (⟨he, hV.trans (hx.mono hV.size)⟩ : _ ∧ Below w1.heap.size w1 w'))
    have Hy := Lib.hid (fun w1 (hb : Below w.heap.size w w1) V (hV : Below w1.heap.size w1 V) => (ihb (by omega) V ((h.below (B := 0) hb).below (B := 0) hV)).mono fun r w' ⟨he, hx⟩ => (⟨he, hV.trans (hx.mono hV.size)⟩ : _ ∧ Below w1.heap.size w1 w'))
    clear h iha ihb hx hy h0 h2 h3 ha hb
    generalize hxn : x.names = xn at *
    generalize hyn : y.names = yn at *
    have Hr := Lib.hid (show (Ex.op k x y).names = xn ||| yn by rw [Ex.names, hxn, hyn])
    generalize (Ex.op k x y).names = rn at *
    clear hxn hyn hpl
    go_enter Tryd.func100, Tryd.ntmps100
    go_wp2_with (go_at_call 58; with_reducible refine HP.out.mono ?_; rintro r w1 ⟨X, cx, rfl, hX, hb, -⟩)
    have Hx1 := Lib.hid (Hx.out w1 hb)
    have Hy1 := Lib.hid (Hy.out w1 hb)
    clear Hx Hy
    obtain ⟨bx, ox, rfl, hc⟩ := hX (by simp)
    have q0 : w1.cell? ⟨bx, ox, none⟩ = some (.int .i64 (a : Nat)) := hc 0 _ rfl
    have q1 : w1.cell? ⟨bx, ox + 1, none⟩ = some (.int .i64 (b : Nat)) := hc 1 _ rfl
    have hbx := block_lt q0
    have hs1 := hb.size
    clear hc hX HP
    go_loopw [5, 26] (fun s j wr => ∃ k : Nat, k ≤ 2 ∧ j = .int .i64 k ∧ s = .int .i64 ((if k = 0 then 0 else if k = 1 then xn else xn ||| yn : Nat) : Nat) ∧ Below w1.heap.size w1 wr) (fun s j _ => 2 - (intOf j).toNat)
    case atStart => exact ⟨0, by omega, rfl, rfl, Below.refl _ _⟩
    case round =>
      obtain ⟨k, hk, rfl, rfl, hbr⟩ := hrel
      have hbw := hb.trans (hbr.mono hs1)
      have r0 := (hbr.cell (p := ⟨bx, ox, none⟩) hbx).trans q0
      have r1 := (hbr.cell (p := ⟨bx, ox + 1, none⟩) hbx).trans q1
      have hc3 : k = 0 ∨ k = 1 ∨ k = 2 := by omega
      rcases hc3 with rfl | rfl | rfl
      · go_wp2_with (go_at_call 100; with_reducible refine (Hx1.out _ (by assumption)).mono ?_; rintro r w2 ⟨rfl, hb2⟩)
        refine ⟨⟨1, by omega, rfl, ?ya, ?yb⟩, ?yc⟩
        case ya => have := Ho0.out; simp at this; simp [this]
        case yb => exact hb2
        case yc => simp [intOf]
      · go_wp2_with (go_at_call 100; with_reducible refine (Hy1.out _ (by assumption)).mono ?_; rintro r w2 ⟨rfl, hb2⟩)
        refine ⟨⟨2, by omega, rfl, ?ya, ?yb⟩, ?yc⟩
        case ya => have := Ho.out; simp [this]
        case yb => exact hb2
        case yc => simp [intOf]
      · go_wp2_with fail
        go_ret
        exact ⟨ret_int (by rw [Hr.out]), hbw⟩
end Go.Proofs.YtdgncngkalgknaaDoor

namespace Go.Proofs.YtdgncngkalgknaaDoor
open Go.RowKit Go.Maps
set_option maxRecDepth 100000
set_option linter.unusedVariables false

section
variable {P : List Int} {N : Value} {B r mb : Nat} {S S' : Nat → Prop} {n : Nat} {o : List Int} {q q2 : List (Nat × Nat)} {w w' w'' : World}
theorem memo_had {W : World} (h : MemoAt P W mb q) {i u : Nat} {s : St} (hi : i < 80) (hu : u < 64) (hs : IsSt P i s) (hq : (i, u) ∈ q) :
    (Instr.lookup 81 (.map (some mb)) (.agg #[.int .i64 i, .int .i64 u]) true).run Tryd.prog W = .ok (.tuple #[.agg #[.int .i64 ((s.need u).1 : Nat), .bool (s.need u).2], .bool true]) W := by
  obtain ⟨D, hown, hD, hhas, hat⟩ := h.ex
  obtain ⟨v, ps, hrun, hv⟩ := hown.look_ok pairKey Tryd.underlying81 (ansZero W) (zd := ansD (0, false)) (zp := []) rfl (ck_of hi hu)
  rw [hat _ hq s hs] at hv
  rw [hrun, hhas (i, u) hi hu, decide_eq_true hq, ansR_inv hv]
  rfl
theorem memo_not {W : World} (h : MemoAt P W mb q) {i u : Nat} (hi : i < 80) (hu : u < 64) (hq : (i, u) ∉ q) :
    (Instr.lookup 81 (.map (some mb)) (.agg #[.int .i64 i, .int .i64 u]) true).run Tryd.prog W = .ok (.tuple #[.agg #[.int .i64 0, .bool false], .bool false]) W := by
  obtain ⟨D, hown, hD, hhas, hat⟩ := h.ex
  obtain ⟨v, ps, hrun, hv⟩ := hown.look_ok pairKey Tryd.underlying81 (ansZero W) (zd := ansD (0, false)) (zp := []) rfl (ck_of hi hu)
  have hq' := hhas (i, u) hi hu
  rw [decide_eq_false hq] at hq'
  rw [Maps.atKey_of_not_has hq'] at hv
  rw [hrun, hq', ansR_inv hv]
  rfl
theorem step_look {ops : Array Oper} {oo : Oper} {a : Act} {K : Act → World → Prop} {Q : Exit → Act → World → Prop} {E : Prop} {W : World} (hgd : oo.guard = none) (m x : Operand) {t : TypeId} (ho : oo.op = Op.lookup t m x true) {mv key : Value} (hm : a.eval m = mv) (hx : a.eval x = key) {res : Value}
    (hrun : (Instr.lookup t mv key true).run Tryd.prog W = .ok res W) (h : K (a.put oo.dst res) W) : if Region.wanted oo (yielded ops a.tmps) = true then Oper.wp Tryd.prog oo a W K Q else E := by
  have hw : Region.wanted oo (yielded ops a.tmps) = true := by simp [Region.wanted, hgd]
  rw [if_pos hw]
  unfold Oper.wp
  simp [execOp, ho, hm, hx, hrun, Result.andThen]
  exact h
theorem memo_update {i u : Nat} {s : St} (h : MemoAt P w mb q) (hi : i < 80) (hu : u < 64) (hs : IsSt P i s) (hq : (i, u) ∉ q) :
    ∃ w', (Instr.mapUpdate 81 (.map (some mb)) (.agg #[.int .i64 i, .int .i64 u]) (.agg #[.int .i64 ((s.need u).1 : Nat), .bool (s.need u).2])).run Tryd.prog w = .ok () w' ∧ MemoAt P w' mb (q ++ [(i, u)]) ∧ w.grownBy w' (some mb) := by
  have hfew := h.few
  obtain ⟨D, hown, hD, hhas, hat⟩ := h.ex
  obtain ⟨w', hrun, hown', hg'⟩ := hown.update pairKey Tryd.underlying81 (by unfold maxLen; omega) (ck_of hi hu) (ansR_mk (s.need u))
  refine ⟨w', hrun, ⟨⟨D.put (ck (i, u)) (ansD (s.need u)), ?_, hD.put (ck (i, u)) (ansD (s.need u)), ?_, ?_⟩, ?_, ?_⟩, hg'⟩
  · rw [List.length_append]; exact hown'
  · intro y h1 h2
    by_cases e : y = (i, u)
    · subst e
      rw [Maps.has_put_same hD (ck_key _)]
      simp
    · rw [Maps.has_put_other (fun h => e (ck_inj h1 h2 hi hu h)), hhas y h1 h2]
      simp [e]
  · intro y hy t ht
    by_cases e : y = (i, u)
    · subst e
      rw [Maps.atKey_put_same hD (ck_key _), ht.one hs]
    · have hy' : y ∈ q := by simpa [e] using hy
      have := h.small y hy'
      rw [Maps.atKey_put_other (fun h => e (ck_inj this.1 this.2 hi hu h))]
      exact hat y hy' t ht
  · rw [List.nodup_append]
    refine ⟨h.nodup, by simp, fun a ha b hb => ?_⟩
    simp at hb
    subst hb
    exact fun e => hq (e ▸ ha)
  · intro y hy
    rw [List.mem_append, List.mem_singleton] at hy
    rcases hy with hy | rfl
    · exact h.small y hy
    · exact ⟨hi, hu⟩
theorem step_memo_put {ops : Array Oper} {oo : Oper} {a : Act} {K : Act → World → Prop} {Q : Exit → Act → World → Prop} {E : Prop} {W : World} (hgd : oo.guard = none) (m x v : Operand) (ho : oo.op = Op.mapUpdate 81 m x v)
    (h : MemoAt P W mb q) {i u : Nat} {s : St} (hi : i < 80) (hu : u < 64) (hs : IsSt P i s) (hq : (i, u) ∉ q) (hm : a.eval m = .map (some mb)) (hx : a.eval x = .agg #[.int .i64 i, .int .i64 u])
    (hv : a.eval v = .agg #[.int .i64 ((s.need u).1 : Nat), .bool (s.need u).2])
    (hK : ∀ w', MemoAt P w' mb (q ++ [(i, u)]) → W.grownBy w' (some mb) → K (a.put oo.dst undef) w') : if Region.wanted oo (yielded ops a.tmps) = true then Oper.wp Tryd.prog oo a W K Q else E := by
  have hw : Region.wanted oo (yielded ops a.tmps) = true := by simp [Region.wanted, hgd]
  rw [if_pos hw]
  obtain ⟨w', hrun, h1, h2⟩ := memo_update h hi hu hs hq
  unfold Oper.wp
  simp [execOp, ho, hm, hx, hv, hrun, Result.andThen]
  exact hK w' h1 h2
theorem CutAt.memoed (h : CutAt P N B r mb S n o q w) (hg : w.grownBy w' (some mb)) (hm : MemoAt P w' mb q2) : CutAt P N B r mb S n o q2 w' := by
  obtain ⟨v, h1, h2, h3⟩ := h.ex
  have hrm : r ≠ mb := h.memo.notCells h1
  refine ⟨⟨v, (hg.block r h1.lt (fun e => hrm (by injection e))).trans h1, ⟨h2.1, h2.2.1, ?_⟩, h3⟩, hm, h.self, h.map, fun b hb' => Nat.lt_of_lt_of_le (h.lt b hb') hg.size, h.low⟩
  rcases h2.2.2 with h0 | ⟨g, cap, cur, hv, hg', hc, rest⟩
  · exact .inl h0
  · exact .inr ⟨g, cap, cur, hv, hg', (hg.block g (Array.getElem?_eq_some_iff.1 hc).1 (fun e => h.memo.notCells hc (by injection e))).trans hc, rest⟩
end
end Go.Proofs.YtdgncngkalgknaaDoor

namespace Go.Proofs.YtdgncngkalgknaaDoor
open Go.RowKit Go.Maps
set_option maxRecDepth 100000
set_option linter.unusedVariables false

def FindOk (P : List Int) (N : Value) (B r mb : Nat) (w0 : World) (i : Nat) (s : St) : Prop := ∀ (w : World) (S : Nat → Prop) (n : Nat) (o : List Int) (q : List (Nat × Nat)) (u : Nat), CutAt P N B r mb S n o q w → Below B w0 w → u < 64 →
  Calls Tryd.prog 77 #[.pointer (some ⟨r, 0, none⟩), .int .i64 i, .int .i64 u] w fun e w' => e = .returned (.tuple #[.int .i64 ((s.need u).1 : Nat), .bool (s.need u).2]) ∧ ∃ q', CutTo P N B r mb S n o q' w w' ∧ ∀ x ∈ q', x ∈ q ∨ x.1 < i
def NeedOk (P : List Int) (N : Value) (B r mb : Nat) (w0 : World) (i : Nat) (s : St) : Prop := ∀ (w : World) (S : Nat → Prop) (n : Nat) (o : List Int) (q : List (Nat × Nat)) (u : Nat), CutAt P N B r mb S n o q w → Below B w0 w → u < 64 →
  Calls Tryd.prog 53 #[.pointer (some ⟨r, 0, none⟩), .int .i64 i, .int .i64 u] w fun e w' => e = .returned (.tuple #[.int .i64 ((s.need u).1 : Nat), .bool (s.need u).2]) ∧ ∃ q', CutTo P N B r mb S n o q' w w' ∧ ∀ x ∈ q', x ∈ q ∨ x.1 ≤ i
section
variable {P : List Int} {N : Value} {B r mb : Nat} {w0 : World} {i : Nat} {s : St}
theorem CutTo.trans {S S1 : Nat → Prop} {n : Nat} {o : List Int} {q : List (Nat × Nat)} {w w1 w2 : World} (hQ : QKeeps S w w1) (hS1 : ∀ b, S1 b → S b ∨ w.heap.size ≤ b) (h : CutTo P N B r mb S1 n o q w1 w2) : CutTo P N B r mb S n o q w w2 := by
  obtain ⟨S', k, kS, kQ⟩ := h
  exact ⟨S', k, fun b hb => (kS b hb).elim (hS1 b) (fun e => .inr (Nat.le_trans hQ.size e)), hQ.trans kQ hS1⟩
set_option maxHeartbeats 4000000 in
theorem needs_had (hs : IsSt P i s) (hi : i < 80) {w : World} {S : Nat → Prop} {n : Nat} {o : List Int} {q : List (Nat × Nat)} {u : Nat} (h : CutAt P N B r mb S n o q w) (hu : u < 64) (hq : (i, u) ∈ q) :
    Calls Tryd.prog 53 #[.pointer (some ⟨r, 0, none⟩), .int .i64 i, .int .i64 u] w fun e w' => e = .returned (.tuple #[.int .i64 ((s.need u).1 : Nat), .bool (s.need u).2]) ∧ ∃ q', CutTo P N B r mb S n o q' w w' ∧ ∀ x ∈ q', x ∈ q ∨ x.1 ≤ i := by
  have hb1 := (Below.refl w.heap.size w).alloc (Nat.le_refl _) (.cells #[.int .i64 i, .int .i64 u] 112)
  have h1 := h.below hb1
  have hx1 := BoxN.new w 112 #[.int .i64 i, .int .i64 u]
  have HQ1 := Lib.hid (QKeeps.of_below (S := S) hb1)
  have HL := Lib.hid (fun W (hW : MemoAt P W mb q) => memo_had hW hi hu hs hq)
  generalize (s.need u).1 = a1 at *
  generalize (s.need u).2 = a2 at *
  clear h hb1
  go_enter Tryd.func53, Tryd.ntmps53
  go_wp2_with fail
  generalize hwb : w.heap.size = b1 at *
  generalize w.alloc (.cells #[.int .i64 i, .int .i64 u] 112) = w1 at *
  have c2 := h1.cell2
  have x0 := hx1.cell (k := 0) rfl
  have x1 := hx1.cell (k := 1) rfl
  have hbA : Below w1.heap.size w1 (w1.alloc (.cells #[.int .i64 0, .bool false] 114)).drew := ((Below.refl _ w1).alloc (Nat.le_refl _) _).drew
  have c2A := (h1.below hbA).cell2
  have x0A := (hx1.all hbA).cell (k := 0) rfl
  have x1A := (hx1.all hbA).cell (k := 1) rfl
  have m1 : MemoAt P w1.drew mb q := h1.memo.keep rfl
  have m2 := (h1.below hbA).memo
  have l1 := HL.out _ m1
  have l2 := HL.out _ m2
  clear m1 m2
  have hb2 := (Below.refl w1.heap.size w1).alloc (Nat.le_refl _) (.cells #[.int .i64 (a1 : Nat), .bool a2] 114)
  have H2 := Lib.hid (h1.below hb2.drew)
  have HQ2 := Lib.hid (HQ1.out.trans (QKeeps.of_below (S := S) hb2.drew) (fun b hb => .inl hb))
  have hx2 := BoxN.new w1 114 #[.int .i64 (a1 : Nat), .bool a2]
  have e0 := hx2.cell (k := 0) rfl
  have e1 := hx2.cell (k := 1) rfl
  clear hb2 hx2 hbA HQ1 HL h1 hx1
  go_region
  all_goals
    go_wp2_with fail
    go_quiet (fail)
    go_wp2_with fail
    go_ret2
    exact ⟨rfl, q, ⟨S, H2.out.below (belowD (Below.refl _ _) _), fun b hb => .inl hb, HQ2.out.drewN _⟩, fun x hx => .inl hx⟩
set_option maxHeartbeats 4000000 in
theorem needs_not (hs : IsSt P i s) (hi : i < 80) (hf : FindOk P N B r mb w0 i s) {w : World} {S : Nat → Prop} {n : Nat} {o : List Int} {q : List (Nat × Nat)} {u : Nat} (h : CutAt P N B r mb S n o q w) (hw : Below B w0 w) (hu : u < 64) (hq : (i, u) ∉ q) :
    Calls Tryd.prog 53 #[.pointer (some ⟨r, 0, none⟩), .int .i64 i, .int .i64 u] w fun e w' => e = .returned (.tuple #[.int .i64 ((s.need u).1 : Nat), .bool (s.need u).2]) ∧ ∃ q', CutTo P N B r mb S n o q' w w' ∧ ∀ x ∈ q', x ∈ q ∨ x.1 ≤ i := by
  have hb1 := (Below.refl w.heap.size w).alloc (Nat.le_refl _) (.cells #[.int .i64 i, .int .i64 u] 112)
  have h1 := h.below hb1
  have hx1 := BoxN.new w 112 #[.int .i64 i, .int .i64 u]
  have hn1 : ¬ S w.heap.size := fun e => Nat.lt_irrefl _ (h.lt _ e)
  have hlt1 : w.heap.size < (w.alloc (.cells #[.int .i64 i, .int .i64 u] 112)).heap.size := by simp
  have HQ1 := Lib.hid (QKeeps.of_below (S := S) hb1)
  have HL := Lib.hid (fun W (hW : MemoAt P W mb q) => memo_not hW hi hu hq)
  have hw1 := hw.trans (hb1.mono h.blt)
  have HF := Lib.hid (fun (W : World) (hc : CutAt P N B r mb S n o q W) (hW : Below B w0 W) => hf W S n o q u hc hW hu)
  have HM := Lib.hid (fun (W : World) (q' : List (Nat × Nat)) (hW : MemoAt P W mb q') (hq : (i, u) ∉ q') => memo_update hW hi hu hs hq)
  have Hz := Lib.hid (show w.heap.size ≤ w.heap.size from Nat.le_refl _)
  clear h hb1 hf hs hw
  generalize (s.need u).1 = a1 at *
  generalize (s.need u).2 = a2 at *
  go_enter Tryd.func53, Tryd.ntmps53
  go_wp2_with fail
  generalize w.alloc (.cells #[.int .i64 i, .int .i64 u] 112) = w1 at *
  generalize hwb : w.heap.size = b1 at *
  have c2 := h1.cell2
  have x0 := hx1.cell (k := 0) rfl
  have x1 := hx1.cell (k := 1) rfl
  have hbA : Below w1.heap.size w1 (w1.alloc (.cells #[.int .i64 0, .bool false] 114)).drew := ((Below.refl _ w1).alloc (Nat.le_refl _) _).drew
  have c2A := (h1.below hbA).cell2
  have x0A := (hx1.all hbA).cell (k := 0) rfl
  have x1A := (hx1.all hbA).cell (k := 1) rfl
  have m1 : MemoAt P w1.drew mb q := h1.memo.keep rfl
  have m2 := (h1.below hbA).memo
  have l1 := HL.out _ m1
  have l2 := HL.out _ m2
  clear m1 m2
  have h2 := h1.below hbA
  have HQ2 := Lib.hid (HQ1.out.trans (QKeeps.of_below (S := S) hbA) (fun b hb => .inl hb))
  have hx2 : BoxN (w1.alloc (.cells #[.int .i64 0, .bool false] 114)).drew w1.heap.size 114 #[.int .i64 0, .bool false] := (BoxN.new w1 114 #[.int .i64 0, .bool false]).drewN 1
  have hn2 : ¬ S w1.heap.size := fun e => Nat.lt_irrefl _ (h1.lt _ e)
  have hx1' := hx1.all hbA
  have HW2 := Lib.hid (hw1.trans (hbA.mono h1.blt))
  have C1 := Lib.hid (HF.out _ h2 HW2.out)
  have Hbb := Lib.hid (show b1 < w1.heap.size from hlt1)
  clear hbA HQ1 HL h1 hx1 HF hw1 hlt1
  go_region
  all_goals
    go_wp2_with fail
    generalize hwb2 : w1.heap.size = b2 at *
    generalize (w1.alloc (.cells #[.int .i64 0, .bool false] 114)).drew = w2 at *
    refine C1.out.mono ?_
    rintro e w3 ⟨rfl, q3, ⟨S3, k3, kS3, kQ3⟩, kq3⟩
    obtain ⟨hx13, hn13⟩ := kQ3.nbox hx1' hn1 kS3
    obtain ⟨hx23, hn23⟩ := kQ3.nbox hx2 hn2 kS3
    have hbb := Hbb.out
    have hx24 := hx23.set 0 (.int .i64 (a1 : Nat))
    have hx25 := hx24.set 1 (.bool a2)
    have s0 := hx23.cell (k := 0) rfl
    have s1 := hx24.cell (k := 1) rfl
    have f0 := hx23.free 0
    have f1 := hx24.free 1
    have k4 := (k3.off (p := ⟨b2, 0, none⟩) hn23 (.int .i64 (a1 : Nat))).off (p := ⟨b2, 1, none⟩) hn23 (.bool a2)
    have hx15 := (hx13.other (a := ⟨b2, 0, none⟩) (by show b1 ≠ b2; omega) (.int .i64 (a1 : Nat))).other (a := ⟨b2, 1, none⟩) (by show b1 ≠ b2; omega) (.bool a2)
    have hQ3 := HQ2.out.trans kQ3 (fun b hb => .inl hb)
    have hQ4 := (hQ3.trans (((QKeeps.refl (fun b => b = b2) w3).setCell (p := ⟨b2, 0, none⟩) rfl (.int .i64 (a1 : Nat))).setCell (p := ⟨b2, 1, none⟩) rfl (.bool a2)) (fun b hb => .inr (by rw [hwb]; omega))).drewN 1
    have hS4 := fun b (hb : S3 b) => (kS3 b hb).elim (fun e => Or.inl e) (fun e => (Or.inr (by rw [hwb]; have := HQ2.out.size; omega) : S b ∨ w.heap.size ≤ b))
    have hnq : (i, u) ∉ q3 := fun e => (kq3 _ e).elim hq (fun e => Nat.lt_irrefl _ e)
    have hmap := k4.map
    obtain ⟨w5, hrun, hm5, hg5⟩ := HM.out ((w3.setCell ⟨b2, 0, none⟩ (.int .i64 (a1 : Nat))).setCell ⟨b2, 1, none⟩ (.bool a2)).drew q3 (k4.drewN 1).memo hnq
    have K5 := Lib.hid ((k4.drewN 1).memoed hg5 hm5)
    have HQ5 := Lib.hid (hQ4.grown hg5 (fun g e => by injection e with e; exact (hS4 g (e ▸ hmap))))
    have HS5 := Lib.hid hS4
    have HN5 := Lib.hid kq3
    have c24 := k4.cell2
    have x04 := hx15.cell (k := 0) rfl
    have x14 := hx15.cell (k := 1) rfl
    have e04 := hx25.cell (k := 0) rfl
    have e14 := hx25.cell (k := 1) rfl
    have hx26 := (hg5.block b2 (hx25.drewN 1).lt (fun e => k4.memo.notCells hx25 (by injection e))).trans (hx25.drewN 1)
    have e05 := BoxN.cell (k := 0) hx26 rfl
    have e15 := BoxN.cell (k := 1) hx26 rfl
    clear hQ3 hQ4 hS4 hnq hm5 hg5 k4 k3 kS3 kQ3 kq3 hx13 hx23 hx15 hx25 hx26 hx1' hx2 hmap C1 HM hx24
    go_wp2_with fail
    go_region
    all_goals
      go_wp2_with fail
      go_quiet (fail)
      go_wp2_with fail
      go_ret2
      refine ⟨rfl, q3 ++ [(i, u)], ⟨S3, K5.out.drewN _, HS5.out, HQ5.out.drewN _⟩, fun z hz => ?_⟩
      rw [List.mem_append, List.mem_singleton] at hz
      rcases hz with hz | rfl
      · exact (HN5.out z hz).elim Or.inl (fun e => Or.inr (Nat.le_of_lt e))
      · exact Or.inr (Nat.le_refl _)
end
theorem needs_of {P : List Int} {N : Value} {B r mb : Nat} {w0 : World} {i : Nat} {s : St} (hs : IsSt P i s) (hi : i < 80) (hf : FindOk P N B r mb w0 i s) : NeedOk P N B r mb w0 i s := by
  intro w S n o q u h hw hu
  by_cases hq : (i, u) ∈ q
  · exact needs_had hs hi h hu hq
  · exact needs_not hs hi hf h hw hu hq
end Go.Proofs.YtdgncngkalgknaaDoor

namespace Go.Proofs.YtdgncngkalgknaaDoor
open Go.RowKit Go.Maps
set_option maxRecDepth 100000
set_option linter.unusedVariables false
theorem wrap_powS (k : Nat) (h : k < 62) : IntKind.i64.wrap (2 ^ k) = ((2 ^ k : Nat) : Int) := by
  have h0 := two_pow_lt k h
  have h1 : (0 : Int) < 2 ^ k := Int.pow_pos (by decide)
  rw [IntKind.wrap_i64]; push_cast; omega
section
variable {P : List Int} {B r mb : Nat} {w0 : World} {i n0 c0 : Nat} {A0 : Option Addr}
set_option maxHeartbeats 4000000 in
theorem find_skip (hN : NodesAt w0 A0 P n0) (hB : B = w0.heap.size) (hi : i < n0) (h0 : nd P i 0 = 5) : FindOk P (.slice A0 n0 c0) B r mb w0 i .skip := by
  intro w S n o q u h hw hu
  obtain ⟨ba, offa, rfl, p0, p1, p2, p3, p4⟩ := (hN.below (B := 0) (hB ▸ hw)).cells hi
  rw [h0] at p0
  have hin := hN.small
  have z0 := h.cell0
  generalize nd P i 1 = x1 at *
  generalize nd P i 2 = x2 at *
  generalize nd P i 3 = x3 at *
  generalize nd P i 4 = x4 at *
  have hb1 := (Below.refl w.heap.size w).alloc (Nat.le_refl _) (.cells #[.int .i64 5, .int .i64 x1, .int .i64 x2, .int .i64 x3, .int .i64 x4] 51)
  have H1 := Lib.hid (h.below hb1)
  have HQ1 := Lib.hid (QKeeps.of_below (S := S) hb1)
  clear h hw hN hb1
  go_enter Tryd.func77, Tryd.ntmps77
  go_wp2_with fail
  go_ret2
  exact ⟨rfl, q, ⟨S, H1.out, fun b hb => .inl hb, HQ1.out⟩, fun x hx => .inl hx⟩
set_option maxHeartbeats 4000000 in
theorem find_both {a b : Nat} {x y : St} (hN : NodesAt w0 A0 P n0) (hB : B = w0.heap.size) (hi : i < n0) (h0 : nd P i 0 = 7) (ha : nd P i 2 = a) (hb : nd P i 3 = b) (la : a < i) (lb : b < i) (hy : y.ok) (iha : NeedOk P (.slice A0 n0 c0) B r mb w0 a x) (ihb : NeedOk P (.slice A0 n0 c0) B r mb w0 b y) : FindOk P (.slice A0 n0 c0) B r mb w0 i (.both x y) := by
  intro w S n o q u h hw hu
  have hneed : (St.both x y).need u = ((x.need (y.need u).1).1, (x.need (y.need u).1).2 || (y.need u).2) := rfl
  rw [hneed]
  have hu2 : (y.need u).1 < 64 := need_lt hy hu
  obtain ⟨ba, offa, rfl, p0, p1, p2, p3, p4⟩ := (hN.below (B := 0) (hB ▸ hw)).cells hi
  rw [h0] at p0
  rw [ha] at p2
  rw [hb] at p3
  have hin := hN.small
  have z0 := h.cell0
  generalize nd P i 1 = x1 at *
  generalize nd P i 4 = x4 at *
  have hb1 := (Below.refl w.heap.size w).alloc (Nat.le_refl _) (.cells #[.int .i64 7, .int .i64 x1, .int .i64 (a : Nat), .int .i64 (b : Nat), .int .i64 x4] 51)
  have h1 := h.below hb1
  have hx1 := BoxN.new w 51 #[.int .i64 7, .int .i64 x1, .int .i64 (a : Nat), .int .i64 (b : Nat), .int .i64 x4]
  have hn1 : ¬ S w.heap.size := fun e => Nat.lt_irrefl _ (h.lt _ e)
  have hQ1 := QKeeps.of_below (S := S) hb1
  have C1 := Lib.hid (ihb _ S n o q u h1 (hw.trans (hb1.mono h.blt)) hu)
  have HQ1 := Lib.hid hQ1
  have Hw1 := Lib.hid (hw.trans (hb1.mono h.blt))
  have H1 := Lib.hid h1
  have Hn1 := Lib.hid hn1
  have IH := Lib.hid (fun (W : World) (S2 : Nat → Prop) (q2 : List (Nat × Nat)) (hc : CutAt P (.slice (some ⟨ba, offa, none⟩) n0 c0) B r mb S2 n o q2 W) (hW : Below B w0 W) => iha W S2 n o q2 (y.need u).1 hc hW hu2)
  have y3 := hx1.cell (k := 3) rfl
  clear h hw hN hb1 iha ihb hneed hB hQ1 h1 hn1 hu2
  generalize (y.need u).1 = ub at *
  generalize (y.need u).2 = fb at *
  generalize (x.need ub).1 = ua at *
  generalize (x.need ub).2 = fa at *
  go_enter Tryd.func77, Tryd.ntmps77
  go_wp2_with fail
  generalize w.alloc (.cells #[.int .i64 7, .int .i64 x1, .int .i64 (a : Nat), .int .i64 (b : Nat), .int .i64 x4] 51) = w1 at *
  refine C1.out.mono ?_
  rintro e w2 ⟨rfl, q2, ⟨S2, k2, kS2, kQ2⟩, kq2⟩
  obtain ⟨hx2, hn2⟩ := kQ2.nbox hx1 Hn1.out kS2
  have y2 := hx2.cell (k := 2) rfl
  have HQ2 := Lib.hid (HQ1.out.trans kQ2 (fun b hb => .inl hb))
  have HS2 := Lib.hid (fun b (hb : S2 b) => (kS2 b hb).elim (fun e => Or.inl e) (fun e => Or.inr (Nat.le_trans HQ1.out.size e)))
  have C2 := Lib.hid (IH.out w2 S2 q2 k2 (H1.out.to_below kQ2 Hw1.out))
  have Hq2 := Lib.hid kq2
  clear C1 kQ2 kS2 k2 hx1 hx2 hn2 HQ1 Hw1 H1 IH kq2
  go_wp2_with fail
  refine C2.out.mono ?_
  rintro e w3 ⟨rfl, q3, k3, kq3⟩
  have HT := Lib.hid (CutTo.trans HQ2.out HS2.out k3)
  have Hq3 := Lib.hid (fun z (hz : z ∈ q3) => (kq3 z hz).elim (fun e => (Hq2.out z e).elim (fun e => Or.inl e) (fun e => Or.inr (Nat.lt_of_le_of_lt e lb))) (fun e => Or.inr (Nat.lt_of_le_of_lt e la)))
  clear C2 k3 kq3 Hq2 HQ2 HS2
  cases fa
  · go_wp2_with fail
    go_ret2
    exact ⟨by simp, q3, HT.out, Hq3.out⟩
  · go_wp2_with fail
    go_ret2
    exact ⟨by simp, q3, HT.out, Hq3.out⟩
set_option maxHeartbeats 4000000 in
theorem find_set {a k : Nat} {e : Ex} (hN : NodesAt w0 A0 P n0) (hB : B = w0.heap.size) (hi : i < n0) (h0 : nd P i 0 = 6) (h1 : nd P i 1 = k) (hk : k < 6) (ha : nd P i 2 = a) (la : a < i) (he : IsEx P a e) : FindOk P (.slice A0 n0 c0) B r mb w0 i (.set k e) := by
  intro w S n o q u h hw hu
  have hNw := hN.below (B := 0) (hB ▸ hw)
  obtain ⟨ba, offa, rfl, p0, p1, p2, p3, p4⟩ := hNw.cells hi
  rw [h0] at p0
  rw [h1] at p1
  rw [ha] at p2
  have hin := hN.small
  have z0 := h.cell0
  generalize nd P i 3 = x3 at *
  generalize nd P i 4 = x4 at *
  have hb1 := (Below.refl w.heap.size w).alloc (Nat.le_refl _) (.cells #[.int .i64 6, .int .i64 (k : Nat), .int .i64 (a : Nat), .int .i64 x3, .int .i64 x4] 51)
  have HA1 := Lib.hid (h.below hb1)
  have HQ1 := Lib.hid (QKeeps.of_below (S := S) hb1)
  have hx1 := BoxN.new w 51 #[.int .i64 6, .int .i64 (k : Nat), .int .i64 (a : Nat), .int .i64 x3, .int .i64 x4]
  have y1 := hx1.cell (k := 1) rfl
  have y2 := hx1.cell (k := 2) rfl
  have CN := Lib.hid (fun (V : World) (hV : Below w.heap.size w V) => snames_any (c := c0) he (Nat.lt_trans la hi) V (hNw.below (B := 0) hV))
  cases hb : u.testBit k with
  | false =>
    have hneed : (St.set k e).need u = (u, false) := by simp only [St.need]; rw [hb]; rfl
    rw [hneed]
    have CH := Lib.hid (fun V => Has_is u k false V (by omega) (by omega) hb)
    clear h hw hN hNw hx1 y2 he hneed hb
    go_enter Tryd.func77, Tryd.ntmps77
    go_wp2_with fail
    refine (CH.out _).mono ?_
    rintro e w' ⟨rfl, rfl⟩
    go_wp2_with fail
    go_ret2
    exact ⟨rfl, q, ⟨S, HA1.out, fun b hb => .inl hb, HQ1.out⟩, fun x hx => .inl hx⟩
  | true =>
    have hneed : (St.set k e).need u = (diff u (2 ^ k) ||| e.names, true) := by simp only [St.need]; rw [hb]; rfl
    rw [hneed]
    have CH := Lib.hid (fun V => Has_is u k true V (by omega) (by omega) hb)
    have hd64 : diff u (2 ^ k) < 2 ^ 6 := diff_lt (n := 6) hu
    have hle := names_lt64 he.ok
    have hpk : (2 : Nat) ^ k < 2 ^ 6 := Nat.pow_lt_pow_right (by decide) hk
    have hA : bits .andNot .i64 (u : Int) ((2 : Int) ^ k) = ((diff u (2 ^ k) : Nat) : Int) := by
      have := bits_andNot_nat u (2 ^ k) (by omega) (by omega)
      rwa [Int.natCast_pow] at this
    have hO := bits_or_nat (diff u (2 ^ k)) e.names (by omega) (by omega)
    have hsh : IntKind.i64.wrap (2 ^ k) = (2 : Int) ^ k := by rw [wrap_powS k (by omega), Int.natCast_pow]; rfl
    generalize e.names = en at *
    generalize diff u (2 ^ k) = du at *
    clear h hw hN hNw hx1 he hneed hb hle hd64 hpk
    have HW1 : Below w.heap.size w (w.alloc (.cells #[.int .i64 6, .int .i64 (k : Nat), .int .i64 (a : Nat), .int .i64 x3, .int .i64 x4] 51)) := hb1
    have hlt : w.heap.size < (w.alloc (.cells #[.int .i64 6, .int .i64 (k : Nat), .int .i64 (a : Nat), .int .i64 x3, .int .i64 x4] 51)).heap.size := by simp
    have z01 := HA1.out.cell0
    have hrlt := HA1.out.rlt
    clear hb1
    go_enter Tryd.func77, Tryd.ntmps77
    go_wp2_with fail
    refine (CH.out _).mono ?_
    rintro e w' ⟨rfl, rfl⟩
    generalize w.alloc (.cells #[.int .i64 6, .int .i64 (k : Nat), .int .i64 (a : Nat), .int .i64 x3, .int .i64 x4] 51) = w1 at *
    generalize w.heap.size = b1 at *
    have Hlt := Lib.hid (And.intro hlt hrlt)
    have HW := Lib.hid HW1
    have HA := Lib.hid hA
    have HO := Lib.hid hO
    clear hA hO
    clear hlt hrlt
    go_wp2_with fail
    go_region_law ((go_simp; go_at_call 100; (with_reducible refine (CN.out _ (by repeat (first | assumption | refine Below.drew ?_))).mono ?_); rintro e wb ⟨he, hz⟩; subst he; have y1b := (hz.cell (p := ⟨b1, 1, none⟩) Hlt.out.1).trans y1))
    all_goals
      go_wp2_with fail
      go_ret2
      have hE : Ending.returned (.tuple #[.int .i64 (bits .or .i64 (bits .andNot .i64 (u : Int) ((2 : Int) ^ k)) (en : Int)), .bool true]) = Ending.returned (.tuple #[.int .i64 ((du ||| en : Nat) : Int), .bool true]) := by rw [HA.out, HO.out]
      exact ⟨hE, q, ⟨S, (HA1.out.drewN 1).below hz, fun b hb => .inl hb, (HQ1.out.drewN 1).trans (QKeeps.of_below (S := S) hz) (fun b hb => .inl hb)⟩, fun x hx => .inl hx⟩
end
end Go.Proofs.YtdgncngkalgknaaDoor

namespace Go.Proofs.YtdgncngkalgknaaDoor
open Go.RowKit Go.Maps
set_option maxRecDepth 100000
set_option linter.unusedVariables false
def AroundOk (P : List Int) (N : Value) (B r mb : Nat) (w0 : World) (x1 x4 : Int) (a b : Nat) (ex : Ex) (y : St) : Prop := ∀ (w : World) (S : Nat → Prop) (n : Nat) (o : List Int) (q : List (Nat × Nat)) (u : Nat), CutAt P N B r mb S n o q w → Below B w0 w → u < 64 →
  Calls Tryd.prog 93 #[.pointer (some ⟨r, 0, none⟩), .agg #[.int .i64 9, .int .i64 x1, .int .i64 (a : Nat), .int .i64 (b : Nat), .int .i64 x4], .int .i64 u] w fun e w' => e = .returned (.tuple #[.int .i64 (((St.loop ex y).need u).1 : Nat), .bool ((St.loop ex y).need u).2]) ∧ ∃ q', CutTo P N B r mb S n o q' w w' ∧ ∀ x ∈ q', x ∈ q ∨ x.1 ≤ b
/-- Where a rising stands: what it will come to. -/
def RiseAt (e : Ex) (y : St) (u v : Nat) : Prop := v < 64 ∧ Sub u v ∧ (v = u ∨ (y.need u).2 = true) ∧ ∃ j, 64 ≤ v + j ∧ rise (St.once e y) 64 u = rise (St.once e y) j v
theorem RiseAt.none {e : Ex} {y : St} {u v : Nat} (hy : y.ok) (h : RiseAt e y u v) (hv : (y.need v).2 = false) : (St.loop e y).need u = (v, false) := by
  obtain ⟨h1, h2, h3, -⟩ := h
  have hu : (y.need u).2 = false := by
    cases hc : (y.need u).2 with
    | false => rfl
    | true => have := (need_mono hy h1 h2).2 hc; rw [hv] at this; cases this
  rcases h3 with rfl | h3
  · rw [need_loop, hu]; rfl
  · rw [hu] at h3; cases h3
theorem RiseAt.some {e : Ex} {y : St} {u v : Nat} (h : RiseAt e y u v) (hv : (y.need v).2 = true) (hf : St.once e y v = v) : (St.loop e y).need u = (v, true) := by
  obtain ⟨h1, h2, h3, j, -, h4⟩ := h
  have hu : (y.need u).2 = true := h3.elim (fun e => e ▸ hv) id
  rw [need_loop, hu, if_pos rfl, h4]
  cases j with
  | zero => rfl
  | succ j => rw [rise, if_pos hf]
theorem RiseAt.next {e : Ex} {y : St} {u v : Nat} (he : e.ok) (hy : y.ok) (h : RiseAt e y u v) (hv : (y.need v).2 = true) (hf : ¬ St.once e y v = v) : RiseAt e y u (St.once e y v) ∧ v < St.once e y v := by
  obtain ⟨h1, h2, h3, j, hj, h4⟩ := h
  have hu : (y.need u).2 = true := h3.elim (fun e => e ▸ hv) id
  have hs := once_sub e y v
  have hlt : v < St.once e y v := Nat.lt_of_le_of_ne hs.le (fun e => hf e.symm)
  obtain ⟨j, rfl⟩ : ∃ k, j = k + 1 := ⟨j - 1, by omega⟩
  refine ⟨⟨once_lt he hy h1, h2.trans hs, .inr hu, j, by omega, ?_⟩, hlt⟩
  rw [h4, rise, if_neg hf]
section
variable {P : List Int} {B r mb : Nat} {w0 : World} {n0 c0 : Nat} {A0 : Option Addr}
set_option maxHeartbeats 4000000 in
theorem around_of {a b : Nat} {x1 x4 : Int} {ex : Ex} {y : St} (hN : NodesAt w0 A0 P n0) (hB : B = w0.heap.size) (hy : y.ok) (la : a < n0) (he : IsEx P a ex) (ihb : NeedOk P (.slice A0 n0 c0) B r mb w0 b y) : AroundOk P (.slice A0 n0 c0) B r mb w0 x1 x4 a b ex y := by
  intro w S n o q u h hw hu
  have hb1 := (Below.refl w.heap.size w).alloc (Nat.le_refl _) (.cells #[.int .i64 9, .int .i64 x1, .int .i64 (a : Nat), .int .i64 (b : Nat), .int .i64 x4] 51)
  have h1 := h.below hb1
  have hx1 := BoxN.new w 51 #[.int .i64 9, .int .i64 x1, .int .i64 (a : Nat), .int .i64 (b : Nat), .int .i64 x4]
  have hn1 : ¬ S w.heap.size := fun e => Nat.lt_irrefl _ (h.lt _ e)
  have HQ1 := Lib.hid (QKeeps.of_below (S := S) hb1)
  have HW1 := Lib.hid (hw.trans (hb1.mono h.blt))
  have HN := Lib.hid hN
  have HBe := Lib.hid hB
  have IH := Lib.hid ihb
  have Hex := Lib.hid he
  have Hyk := Lib.hid hy
  have hr0 : RiseAt ex y u u := ⟨hu, Sub.refl _, .inl rfl, 64, by omega, rfl⟩
  have Hlow := Lib.hid h.low
  clear h hb1 hw hN hB ihb he hy
  go_enter Tryd.func93, Tryd.ntmps93
  go_wp2_with fail
  generalize w.alloc (.cells #[.int .i64 9, .int .i64 x1, .int .i64 (a : Nat), .int .i64 (b : Nat), .int .i64 x4] 51) = w1 at *
  generalize hb1n : w.heap.size = b1 at *
  have H1 := Lib.hid h1
  go_loopw [2] (fun s wr => ∃ (v : Nat) (Sv : Nat → Prop) (qv : List (Nat × Nat)), s = .int .i64 v ∧ RiseAt ex y u v ∧ CutAt P (.slice A0 n0 c0) B r mb Sv n o qv wr ∧ QKeeps S w1 wr ∧ (∀ b, Sv b → S b ∨ w1.heap.size ≤ b) ∧ BoxN wr b1 51 #[.int .i64 9, .int .i64 x1, .int .i64 (a : Nat), .int .i64 (b : Nat), .int .i64 x4] ∧ ¬ Sv b1 ∧ (∀ z ∈ qv, z ∈ q ∨ z.1 ≤ b)) (fun s _ => 64 - (intOf s).toNat)
  case atStart => exact ⟨u, S, q, rfl, hr0, h1, QKeeps.refl _ _, fun b hb => .inl hb, hx1, hn1, fun z hz => .inl hz⟩
  case round =>
    obtain ⟨v, Sv, qv, rfl, hr, hc, hQ, hS, hx, hnb, hq⟩ := hrel
    have hwr := H1.out.to_below hQ HW1.out
    have y3 := hx.cell (k := 3) rfl
    have hv64 := hr.1
    have C1 := IH.out wr Sv n o qv v hc hwr hv64
    have Hval : Hid ((y.need v).2 = false → (St.loop ex y).need u = (v, false)) := Lib.hid (fun hv => hr.none Hyk.out hv)
    have Hval2 : Hid ((y.need v).2 = true → St.once ex y v = v → (St.loop ex y).need u = (v, true)) := Lib.hid (fun hv hf => hr.some hv hf)
    have Hval3 : Hid ((y.need v).2 = true → ¬ St.once ex y v = v → RiseAt ex y u (St.once ex y v) ∧ v < St.once ex y v) := Lib.hid (fun hv hf => hr.next Hex.out.ok Hyk.out hv hf)
    have hs64 : (y.need v).1 < 2 ^ 6 := need_lt Hyk.out hv64
    have he64 : ex.names < 2 ^ 6 := names_lt64 Hex.out.ok
    have hO1 := bits_or_nat v (y.need v).1 (by omega) (by omega)
    have hvs : v ||| (y.need v).1 < 2 ^ 6 := Nat.or_lt_two_pow hv64 hs64
    have hO2 : bits .or .i64 ((v ||| (y.need v).1 : Nat) : Int) (ex.names : Int) = ((St.once ex y v : Nat) : Int) := bits_or_nat (v ||| (y.need v).1) ex.names (by omega) (by omega)
    have CN0 := Lib.hid (fun (V : World) (hV : Below B w0 V) => snames_any (c := c0) Hex.out la V (HN.out.below (B := 0) (HBe.out ▸ hV)))
    have Hwr := Lib.hid hwr
    have Hq := Lib.hid hq
    have Hc := Lib.hid hc
    have HQ := Lib.hid (HQ1.out.trans hQ (fun b hb => .inl hb))
    have HQb := Lib.hid hQ
    have HS := Lib.hid hS
    clear hwr hr hs64 he64 hvs hq hQ hS hc hr0
    generalize (y.need v).1 = s1 at *
    generalize ex.names = en at *
    generalize hff : St.once ex y v = f at *
    cases hv2 : (y.need v).2 with
    | false =>
      rw [hv2] at C1
      have HC1 := Lib.hid C1
      have Hv := Lib.hid (Hval.out hv2)
      clear C1 hv2 Hval Hval2 Hval3
      go_wp2_with fail
      refine HC1.out.mono ?_
      rintro e w2 ⟨rfl, q2, k2, kq2⟩
      have HT := Lib.hid (CutTo.trans HQ.out (fun b hb => (HS.out b hb).elim Or.inl (fun e => Or.inr (Nat.le_trans HQ1.out.size e))) k2)
      have Hq2 := Lib.hid (fun z (hz : z ∈ q2) => (kq2 z hz).elim (Hq.out z) Or.inr)
      clear k2 kq2 HC1
      go_wp2_with fail
      go_ret2
      exact ⟨by rw [Hv.out]; rfl, q2, HT.out, Hq2.out⟩
    | true =>
      rw [hv2] at C1
      have HC1 := Lib.hid C1
      have Hv2 := Lib.hid (Hval2.out hv2)
      have Hv3 := Lib.hid (Hval3.out hv2)
      clear C1 hv2 Hval Hval2 Hval3
      go_wp2_with fail
      refine HC1.out.mono ?_
      rintro e w2 ⟨rfl, q2, ⟨S2, k2, kS2, kQ2⟩, kq2⟩
      obtain ⟨hx2, hn2⟩ := kQ2.nbox hx hnb kS2
      have y2 := hx2.cell (k := 2) rfl
      have z0 := k2.cell0
      have K2 := Lib.hid k2
      have KS2 := Lib.hid kS2
      have KQ2 := Lib.hid kQ2
      have Kq2 := Lib.hid (fun z (hz : z ∈ q2) => (kq2 z hz).elim (Hq.out z) Or.inr)
      have Hw2 := Lib.hid (Hc.out.to_below kQ2 Hwr.out)
      have CN := Lib.hid (fun (V : World) (hV : Below w2.heap.size w2 V) => CN0.out V (Hw2.out.trans (hV.mono K2.out.blt)))
      have Hx2 := Lib.hid hx2
      have Hn2 := Lib.hid hn2
      have hbl := Below.refl w2.heap.size w2
      clear k2 kS2 kQ2 kq2 hx hnb hx2 hn2 HC1 CN0
      go_wp2_with fail
      by_cases hf : f = v
      · have Hv4 := Lib.hid (Hv2.out hf)
        clear Hv2 Hv3
        subst hf
        go_region_law ((go_simp; go_at_call 100; (with_reducible refine (CN.out _ (by repeat (first | assumption | refine Below.drew ?_))).mono ?_); rintro e wb ⟨he, hz⟩; subst he))
        all_goals
          have HT := Lib.hid (CutTo.trans HQ.out (fun b hb => (HS.out b hb).elim Or.inl (fun e => Or.inr (Nat.le_trans HQ1.out.size e))) ⟨S2, (K2.out.drewN 1).below hz, KS2.out, (KQ2.out.drewN 1).trans (QKeeps.of_below (S := fun _ => False) hz) (fun b hb => hb.elim)⟩)
          clear hz
          go_wp2_with fail
          go_ret2
          exact ⟨by rw [Hv4.out]; rfl, q2, HT.out, Kq2.out⟩
      · have Hv4 := Lib.hid (Hv3.out hf)
        clear Hv2 Hv3
        have d : ((f : Int) == (v : Int)) = false := by simp; omega
        go_region_law ((go_simp; go_at_call 100; (with_reducible refine (CN.out _ (by repeat (first | assumption | refine Below.drew ?_))).mono ?_); rintro e wb ⟨he, hz⟩; subst he))
        all_goals
          have HC3 := Lib.hid ((K2.out.drewN 1).below hz)
          have HQ3 := Lib.hid (HQb.out.trans ((KQ2.out.drewN 1).trans (QKeeps.of_below (S := fun _ => False) hz) (fun b hb => hb.elim)) HS.out)
          have HX3 := Lib.hid ((Hx2.out.drewN 1).all hz)
          have HS3 := Lib.hid (fun b (hb : S2 b) => (KS2.out b hb).elim (HS.out b) (fun e => Or.inr (Nat.le_trans HQb.out.size e)))
          clear hz
          go_wp2_with fail
          refine ⟨⟨f, S2, q2, ?y1, Hv4.out.1, HC3.out, HQ3.out, HS3.out, HX3.out, Hn2.out, Kq2.out⟩, ?y2⟩
          case y1 => rfl
          case y2 =>
            have g1 := Hv4.out.2
            have g2 := Hv4.out.1.1
            simp [intOf]
            omega
end
end Go.Proofs.YtdgncngkalgknaaDoor

namespace Go.Proofs.YtdgncngkalgknaaDoor
open Go.RowKit Go.Maps
set_option maxRecDepth 100000
set_option linter.unusedVariables false
section
variable {P : List Int} {B r mb : Nat} {w0 : World} {i n0 c0 : Nat} {A0 : Option Addr}
set_option maxHeartbeats 4000000 in
theorem find_loop {a b : Nat} {e : Ex} {y : St} (hN : NodesAt w0 A0 P n0) (hB : B = w0.heap.size) (hi : i < n0) (h0 : nd P i 0 = 9) (ha : nd P i 2 = a) (hb : nd P i 3 = b) (la : a < i) (lb : b < i) (he : IsEx P a e) (hy : y.ok) (ihb : NeedOk P (.slice A0 n0 c0) B r mb w0 b y) : FindOk P (.slice A0 n0 c0) B r mb w0 i (.loop e y) := by
  intro w S n o q u h hw hu
  have HA := fun x1 x4 => around_of (x1 := x1) (x4 := x4) hN hB hy (Nat.lt_trans la hi) he ihb
  obtain ⟨ba, offa, rfl, p0, p1, p2, p3, p4⟩ := (hN.below (B := 0) (hB ▸ hw)).cells hi
  rw [h0] at p0
  rw [ha] at p2
  rw [hb] at p3
  have hin := hN.small
  have z0 := h.cell0
  generalize nd P i 1 = x1 at *
  generalize nd P i 4 = x4 at *
  have hb1 := (Below.refl w.heap.size w).alloc (Nat.le_refl _) (.cells #[.int .i64 9, .int .i64 x1, .int .i64 (a : Nat), .int .i64 (b : Nat), .int .i64 x4] 51)
  have h1 := h.below hb1
  have hx1 := BoxN.new w 51 #[.int .i64 9, .int .i64 x1, .int .i64 (a : Nat), .int .i64 (b : Nat), .int .i64 x4]
  have HQ1 := Lib.hid (QKeeps.of_below (S := S) hb1)
  have C1 := Lib.hid (HA x1 x4 _ S n o q u h1 (hw.trans (hb1.mono h.blt)) hu)
  generalize ((St.loop e y).need u).1 = v1 at *
  generalize ((St.loop e y).need u).2 = v2 at *
  have y0 := hx1.cell (k := 0) rfl
  have y1 := hx1.cell (k := 1) rfl
  have y2 := hx1.cell (k := 2) rfl
  have y3 := hx1.cell (k := 3) rfl
  have y4 := hx1.cell (k := 4) rfl
  clear h hw hN hB hb1 h1 hx1 HA ihb he
  go_enter Tryd.func77, Tryd.ntmps77
  go_wp2_with fail
  refine C1.out.mono ?_
  rintro e w2 ⟨rfl, q2, k2, kq2⟩
  have HT := Lib.hid (CutTo.trans HQ1.out (fun b hb => .inl hb) k2)
  have Hq := Lib.hid (fun z (hz : z ∈ q2) => (kq2 z hz).elim Or.inl (fun e => Or.inr (Nat.lt_of_le_of_lt e lb)))
  clear C1 k2 kq2
  go_wp2_with fail
  go_ret2
  exact ⟨rfl, q2, HT.out, Hq.out⟩
set_option maxHeartbeats 8000000 in
theorem find_ite {a b c : Nat} {e : Ex} {y z : St} (hN : NodesAt w0 A0 P n0) (hB : B = w0.heap.size) (hi : i < n0) (h0 : nd P i 0 = 8) (ha : nd P i 2 = a) (hb : nd P i 3 = b) (hc : nd P i 4 = c) (la : a < i) (lb : b < i) (lc : c < i) (he : IsEx P a e) (hy : y.ok) (hz : z.ok) (ihb : NeedOk P (.slice A0 n0 c0) B r mb w0 b y) (ihc : NeedOk P (.slice A0 n0 c0) B r mb w0 c z) : FindOk P (.slice A0 n0 c0) B r mb w0 i (.ite e y z) := by
  intro w S n o q u h hw hu
  have HN := Lib.hid hN
  have HBe := Lib.hid hB
  obtain ⟨ba, offa, rfl, p0, p1, p2, p3, p4⟩ := (hN.below (B := 0) (hB ▸ hw)).cells hi
  rw [h0] at p0
  rw [ha] at p2
  rw [hb] at p3
  rw [hc] at p4
  have hin := hN.small
  have z0 := h.cell0
  generalize nd P i 1 = x1 at *
  have hb1 := (Below.refl w.heap.size w).alloc (Nat.le_refl _) (.cells #[.int .i64 8, .int .i64 x1, .int .i64 (a : Nat), .int .i64 (b : Nat), .int .i64 (c : Nat)] 51)
  have h1 := h.below hb1
  have hx1 := BoxN.new w 51 #[.int .i64 8, .int .i64 x1, .int .i64 (a : Nat), .int .i64 (b : Nat), .int .i64 (c : Nat)]
  have hn1 : ¬ S w.heap.size := fun e => Nat.lt_irrefl _ (h.lt _ e)
  have hQ1 := QKeeps.of_below (S := S) hb1
  have C1 := Lib.hid (ihb _ S n o q u h1 (hw.trans (hb1.mono h.blt)) hu)
  have HQ1 := Lib.hid hQ1
  have Hw1 := Lib.hid (hw.trans (hb1.mono h.blt))
  have H1 := Lib.hid h1
  have Hn1 := Lib.hid hn1
  have IH := Lib.hid (fun (W : World) (S2 : Nat → Prop) (q2 : List (Nat × Nat)) (hc : CutAt P (.slice (some ⟨ba, offa, none⟩) n0 c0) B r mb S2 n o q2 W) (hW : Below B w0 W) => ihc W S2 n o q2 u hc hW hu)
  have CN0 := Lib.hid (fun (V : World) (hV : Below B w0 V) => snames_any (c := c0) he (Nat.lt_trans la hi) V (HN.out.below (B := 0) (HBe.out ▸ hV)))
  have hneed : (St.ite e y z).need u = if (y.need u).2 || (z.need u).2 then ((y.need u).1 ||| (z.need u).1 ||| e.names, true) else (u, false) := rfl
  rw [hneed]
  have h1s : (y.need u).1 < 2 ^ 6 := need_lt hy hu
  have h2s : (z.need u).1 < 2 ^ 6 := need_lt hz hu
  have hes : e.names < 2 ^ 6 := names_lt64 he.ok
  have hO1 := bits_or_nat (y.need u).1 (z.need u).1 (by omega) (by omega)
  have hvs : (y.need u).1 ||| (z.need u).1 < 2 ^ 6 := Nat.or_lt_two_pow h1s h2s
  have hO2 := bits_or_nat ((y.need u).1 ||| (z.need u).1) e.names (by omega) (by omega)
  have y3 := hx1.cell (k := 3) rfl
  generalize (y.need u).1 = s1 at *
  generalize (y.need u).2 = f1 at *
  generalize (z.need u).1 = s2 at *
  generalize (z.need u).2 = f2 at *
  generalize e.names = en at *
  clear h hw hN hB hb1 ihb ihc hneed hQ1 h1 hn1 h1s h2s hes hvs he
  go_enter Tryd.func77, Tryd.ntmps77
  go_wp2_with fail
  generalize w.alloc (.cells #[.int .i64 8, .int .i64 x1, .int .i64 (a : Nat), .int .i64 (b : Nat), .int .i64 (c : Nat)] 51) = w1 at *
  generalize hb1n : w.heap.size = b1 at *
  refine C1.out.mono ?_
  rintro e w2 ⟨rfl, q2, ⟨S2, k2, kS2, kQ2⟩, kq2⟩
  obtain ⟨hx2, hn2⟩ := kQ2.nbox hx1 Hn1.out kS2
  have y4 := hx2.cell (k := 4) rfl
  have HQ2 := Lib.hid (HQ1.out.trans kQ2 (fun b hb => .inl hb))
  have HS2 := Lib.hid (fun b (hb : S2 b) => (kS2 b hb).elim (fun e => Or.inl e) (fun e => (Or.inr (Nat.le_trans HQ1.out.size e) : S b ∨ w.heap.size ≤ b)))
  have C2 := Lib.hid (IH.out w2 S2 q2 k2 (H1.out.to_below kQ2 Hw1.out))
  have Hw2 := Lib.hid (H1.out.to_below kQ2 Hw1.out)
  have K2 := Lib.hid k2
  have Hq2 := Lib.hid kq2
  clear C1 kQ2 kS2 k2 hx1 IH kq2 y3
  go_wp2_with fail
  refine C2.out.mono ?_
  rintro e w3 ⟨rfl, q3, ⟨S3, k3, kS3, kQ3⟩, kq3⟩
  obtain ⟨hx3, hn3⟩ := kQ3.nbox hx2 hn2 kS3
  have y2 := hx3.cell (k := 2) rfl
  have z3 := k3.cell0
  have Hq3 := Lib.hid (fun z (hz : z ∈ q3) => (kq3 z hz).elim (fun e => (Hq2.out z e).elim (fun e => Or.inl e) (fun e => Or.inr (Nat.lt_of_le_of_lt e lb))) (fun e => Or.inr (Nat.lt_of_le_of_lt e lc)))
  have Hw3 := Lib.hid (K2.out.to_below kQ3 Hw2.out)
  have HT := Lib.hid (CutTo.trans HQ2.out HS2.out ⟨S3, k3, kS3, kQ3⟩)
  have CN := Lib.hid (fun (V : World) (hV : Below w3.heap.size w3 V) => CN0.out V (Hw3.out.trans (hV.mono k3.blt)))
  have HTz := Lib.hid (fun (V : World) (hV : Below w3.heap.size w3 V) => CutTo.trans HQ2.out HS2.out ⟨S3, k3.below hV, kS3, kQ3.trans (QKeeps.of_below (S := fun _ => False) hV) (fun b hb => hb.elim)⟩)
  have hbl := Below.refl w3.heap.size w3
  clear C2 kQ3 kS3 k3 hx2 hn2 hx3 hn3 kq3 y4 CN0
  cases f1 with
  | false =>
    cases f2 with
    | false =>
      go_wp2_with fail
      go_ret2
      exact ⟨rfl, q3, HT.out, by intros; exact Hq3.out _ (by assumption)⟩
    | true =>
      go_wp2_with fail
      go_region_law ((go_simp; go_at_call 100; (with_reducible refine (CN.out _ (by repeat (first | assumption | refine Below.drew ?_))).mono ?_); rintro e wb ⟨he, hz⟩; subst he))
      all_goals
        have HT := Lib.hid (HTz.out wb ((belowD hbl 1).trans (hz.mono (Nat.le_refl _))))
        clear hz
        go_wp2_with fail
        go_ret2
        exact ⟨by simp, q3, HT.out, by intros; exact Hq3.out _ (by assumption)⟩
  | true =>
    go_wp2_with fail
    go_region_law ((go_simp; go_at_call 100; (with_reducible refine (CN.out _ (by repeat (first | assumption | refine Below.drew ?_))).mono ?_); rintro e wb ⟨he, hz⟩; subst he))
    all_goals
      have HT := Lib.hid (HTz.out wb ((belowD hbl 1).trans (hz.mono (Nat.le_refl _))))
      clear hz
      go_wp2_with fail
      go_ret2
      exact ⟨by simp, q3, HT.out, by intros; exact Hq3.out _ (by assumption)⟩
theorem need_st (hN : NodesAt w0 A0 P n0) (hB : B = w0.heap.size) (h80 : n0 ≤ 80) {s : St} (h : IsSt P i s) : i < n0 → NeedOk P (.slice A0 n0 c0) B r mb w0 i s := by
  induction h with
  | skip h0 => exact fun hi => needs_of (.skip h0) (by omega) (find_skip hN hB hi h0)
  | set h0 h1 hn h2 la he => exact fun hi => needs_of (.set h0 h1 hn h2 la he) (by omega) (find_set hN hB hi h0 h1 hn h2 la he)
  | both h0 ha hb la lb hx hy iha ihb => exact fun hi => needs_of (.both h0 ha hb la lb hx hy) (by omega) (find_both hN hB hi h0 ha hb la lb hy.ok (iha (by omega)) (ihb (by omega)))
  | ite h0 ha hb hc la lb lc he hx hy ihb ihc => exact fun hi => needs_of (.ite h0 ha hb hc la lb lc he hx hy) (by omega) (find_ite hN hB hi h0 ha hb hc la lb lc he hx.ok hy.ok (ihb (by omega)) (ihc (by omega)))
  | loop h0 ha hb la lb he hx ihb => exact fun hi => needs_of (.loop h0 ha hb la lb he hx) (by omega) (find_loop hN hB hi h0 ha hb la lb he hx.ok (ihb (by omega)))
end
end Go.Proofs.YtdgncngkalgknaaDoor

namespace Go.Proofs.YtdgncngkalgknaaDoor
open Go.RowKit Go.Maps
set_option maxRecDepth 100000
set_option linter.unusedVariables false
/-- A method that lays cnt nodes behind what is there. -/
def LaysOk (f : FuncId) (P : List Int) (N : Value) (B r mb : Nat) (w0 : World) (more : Array Value) (cnt : Nat) (lay : Nat → List Int) : Prop := ∀ (w : World) (S : Nat → Prop) (n : Nat) (o : List Int) (q : List (Nat × Nat)), CutAt P N B r mb S n o q w → Below B w0 w → n + cnt ≤ 1000 →
  Calls Tryd.prog f (#[.pointer (some ⟨r, 0, none⟩)] ++ more) w fun e w' => e = .returned (.int .i64 ((n + cnt - 1 : Nat) : Int)) ∧ ∃ q', CutTo P N B r mb S (n + cnt) (o ++ lay n) q' w w'
abbrev CopyOk (P : List Int) (N : Value) (B r mb : Nat) (w0 : World) (i : Nat) (cnt : Nat) (lay : Nat → List Int) : Prop := LaysOk 92 P N B r mb w0 #[.int .i64 i] cnt lay
theorem QKeeps.box_set {S : Nat → Prop} {w w2 : World} {b : Nat} (hQ : QKeeps S w w2) (hb : w.heap.size ≤ b) (k : Nat) (v : Value) : QKeeps S w (w2.setCell ⟨b, k, none⟩ v) :=
  hQ.trans ((QKeeps.refl (fun x => x = b) w2).setCell (p := ⟨b, k, none⟩) rfl v) (fun x hx => .inr (hx ▸ hb))
section
variable {P : List Int} {B r mb : Nat} {w0 : World} {i n0 c0 : Nat} {A0 : Option Addr}
set_option maxHeartbeats 4000000 in
theorem copy_leaf {k x1 x2 x3 x4 : Int} (hN : NodesAt w0 A0 P n0) (hB : B = w0.heap.size) (hi : i < n0) (h0 : nd P i 0 = k) (h1 : nd P i 1 = x1) (h2 : nd P i 2 = x2) (h3 : nd P i 3 = x3) (h4 : nd P i 4 = x4) (hk : k = 0 ∨ k = 1) : CopyOk P (.slice A0 n0 c0) B r mb w0 i 1 (RE.leaf k x1 x2 x3 x4).lay := by
  intro w S n o q h hw hcn
  show Calls _ _ #[_, _] w _
  obtain ⟨ba, offa, rfl, p0, p1, p2, p3, p4⟩ := (hN.below (B := 0) (hB ▸ hw)).cells hi
  rw [h0] at p0
  rw [h1] at p1
  rw [h2] at p2
  rw [h3] at p3
  rw [h4] at p4
  have hin := hN.small
  have z0 := h.cell0
  have hb1 := (Below.refl w.heap.size w).alloc (Nat.le_refl _) (.cells #[.int .i64 k, .int .i64 x1, .int .i64 x2, .int .i64 x3, .int .i64 x4] 51)
  have h1 := h.below hb1
  have hx1 := BoxN.new w 51 #[.int .i64 k, .int .i64 x1, .int .i64 x2, .int .i64 x3, .int .i64 x4]
  have hn1 : ¬ S w.heap.size := fun e => Nat.lt_irrefl _ (h.lt _ e)
  have HQ1 := Lib.hid (QKeeps.of_below (S := S) hb1)
  have CP := Lib.hid (fun W => Parts_any k x1 x2 x3 x4 W)
  rw [show partsL k x2 x3 x4 = [] by rcases hk with rfl | rfl <;> rfl] at CP
  have H1 := Lib.hid h1
  have Hx1 := Lib.hid hx1
  have y0 := hx1.cell (k := 0) rfl
  have y1 := hx1.cell (k := 1) rfl
  have y2 := hx1.cell (k := 2) rfl
  have y3 := hx1.cell (k := 3) rfl
  have y4 := hx1.cell (k := 4) rfl
  clear h hw hN hB hb1 h1 hx1 h0 h2 h3 h4 hn1
  go_enter Tryd.func92, Tryd.ntmps92
  go_wp2_with fail
  generalize w.alloc (.cells #[.int .i64 k, .int .i64 x1, .int .i64 x2, .int .i64 x3, .int .i64 x4] 51) = w1 at *
  generalize w.heap.size = b1 at *
  with_reducible refine (CP.out w1).mono ?_
  rintro e w2 ⟨X, cx, rfl, -, hb2, -⟩
  have hx2 := Hx1.out.all hb2
  have h2 := H1.out.below hb2
  have HQ2 := Lib.hid (HQ1.out.trans (QKeeps.of_below (S := S) hb2) (fun b hb => .inl hb))
  have C2 := Lib.hid (CNode h2 (by omega) k x1 x2 x3 x4)
  have q0 := hx2.cell (k := 0) rfl
  have q1 := hx2.cell (k := 1) rfl
  have q2 := hx2.cell (k := 2) rfl
  have q3 := hx2.cell (k := 3) rfl
  have q4 := hx2.cell (k := 4) rfl
  clear hx2 h2 hb2 CP
  go_wp2_with fail
  refine C2.out.mono ?_
  rintro e w3 ⟨rfl, k3⟩
  have HT := Lib.hid (CutTo.trans HQ2.out (fun b hb => .inl hb) k3)
  clear C2 k3
  go_wp2_with fail
  go_ret
  exact ⟨rfl, q, HT.out⟩
set_option maxHeartbeats 4000000 in
theorem copy_op {a b : Nat} {k x1 x4 : Int} {x y : RE} (hN : NodesAt w0 A0 P n0) (hB : B = w0.heap.size) (hi : i < n0) (hk2 : 2 ≤ k) (hk4 : k ≤ 4) (h0 : nd P i 0 = k) (h1 : nd P i 1 = x1) (ha : nd P i 2 = a) (hb : nd P i 3 = b) (h4 : nd P i 4 = x4)
    (iha : CopyOk P (.slice A0 n0 c0) B r mb w0 a x.cnt x.lay) (ihb : CopyOk P (.slice A0 n0 c0) B r mb w0 b y.cnt y.lay) : CopyOk P (.slice A0 n0 c0) B r mb w0 i (RE.op k x1 x4 x y).cnt (RE.op k x1 x4 x y).lay := by
  intro w S n o q h hw hcn
  show Calls _ _ #[_, _] w _
  have hp1 := x.pos
  have hp2 := y.pos
  rw [RE.lay]
  simp only [RE.cnt] at hcn ⊢
  obtain ⟨ba, offa, rfl, p0, p1, p2, p3, p4⟩ := (hN.below (B := 0) (hB ▸ hw)).cells hi
  rw [h0] at p0
  rw [h1] at p1
  rw [ha] at p2
  rw [hb] at p3
  rw [h4] at p4
  have hin := hN.small
  have z0 := h.cell0
  have hb1 := (Below.refl w.heap.size w).alloc (Nat.le_refl _) (.cells #[.int .i64 k, .int .i64 x1, .int .i64 (a : Nat), .int .i64 (b : Nat), .int .i64 x4] 51)
  have h1 := h.below hb1
  have hx1 := BoxN.new w 51 #[.int .i64 k, .int .i64 x1, .int .i64 (a : Nat), .int .i64 (b : Nat), .int .i64 x4]
  have hn1 : ¬ S w.heap.size := fun e => Nat.lt_irrefl _ (h.lt _ e)
  have HQ1 := Lib.hid (QKeeps.of_below (S := S) hb1)
  have HW1 := Lib.hid (hw.trans (hb1.mono h.blt))
  have CP := Lib.hid (fun W => Parts_any k x1 (a : Nat) (b : Nat) x4 W)
  rw [parts_two (.inl ⟨hk2, hk4⟩)] at CP
  have H1 := Lib.hid h1
  have Hx1 := Lib.hid hx1
  have Hn1 := Lib.hid hn1
  have IHa := Lib.hid iha
  have IHb := Lib.hid ihb
  have y0 := hx1.cell (k := 0) rfl
  have y1 := hx1.cell (k := 1) rfl
  have y2 := hx1.cell (k := 2) rfl
  have y3 := hx1.cell (k := 3) rfl
  have y4 := hx1.cell (k := 4) rfl
  have HBb : Hid (B ≤ w.heap.size) := Lib.hid h.blt
  clear h hw hN hB hb1 h1 hx1 h0 h4 hn1 iha ihb ha hb
  go_enter Tryd.func92, Tryd.ntmps92
  go_wp2_with fail
  generalize w.alloc (.cells #[.int .i64 k, .int .i64 x1, .int .i64 (a : Nat), .int .i64 (b : Nat), .int .i64 x4] 51) = w1 at *
  generalize hb1n : w.heap.size = b1 at *
  with_reducible refine (CP.out w1).mono ?_
  rintro e w2 ⟨X, cx, rfl, -, hb2, -⟩
  have hx2 := Hx1.out.all hb2
  have h2 := H1.out.below hb2
  have HQ2 := Lib.hid (HQ1.out.trans (QKeeps.of_below (S := S) hb2) (fun b hb => .inl hb))
  have hw2 := HW1.out.trans (hb2.mono H1.out.blt)
  have C2 := Lib.hid (IHa.out w2 S n o q h2 hw2 (by omega))
  have HW2 := Lib.hid hw2
  have H2 := Lib.hid h2
  have q2 := hx2.cell (k := 2) rfl
  have Hx2 := Lib.hid hx2
  clear hx2 h2 hb2 CP hw2 Hx1 H1
  go_wp2_with fail
  refine C2.out.mono ?_
  rintro e w3 ⟨rfl, qa, S3, k3, kS3, kQ3⟩
  obtain ⟨hx3, hn3⟩ := kQ3.nbox Hx2.out Hn1.out kS3
  have hw3 := H2.out.to_below kQ3 HW2.out
  have f2 := hx3.free 2
  have q3 := hx3.cell (k := 2) rfl
  generalize hia : ((n + x.cnt - 1 : Nat) : Int) = ia at *
  have hx4 : BoxN (w3.setCell ⟨b1, 2, none⟩ (.int .i64 ia)) b1 51 #[.int .i64 k, .int .i64 x1, .int .i64 ia, .int .i64 (b : Nat), .int .i64 x4] := hx3.set 2 (.int .i64 ia)
  have k4 := k3.off (p := ⟨b1, 2, none⟩) hn3 (.int .i64 ia)
  have hQ4 := QKeeps.box_set (b := b1) (HQ2.out.trans kQ3 (fun b hb => .inl hb)) (Nat.le_of_eq hb1n) 2 (.int .i64 ia)
  have hS4 := fun b (hb : S3 b) => (kS3 b hb).elim (fun e => Or.inl e) (fun e => (Or.inr (Nat.le_trans HQ2.out.size e) : S b ∨ w.heap.size ≤ b))
  have hw4 := hw3.setCell (p := ⟨b1, 2, none⟩) HBb.out (.int .i64 ia)
  have C3 := Lib.hid (IHb.out _ S3 _ _ qa k4 hw4 (by omega))
  have HQ4 := Lib.hid hQ4
  have HS4 := Lib.hid hS4
  have HW4 := Lib.hid hw4
  have K4 := Lib.hid k4
  have Hx4 := Lib.hid hx4
  have Hn4 := Lib.hid hn3
  have q4 := hx4.cell (k := 3) rfl
  clear C2 hx4 k4 hQ4 hS4 hw4 hx3 hn3 k3 kS3 kQ3 hw3 Hx2 H2 HQ2
  go_wp2_with fail
  refine C3.out.mono ?_
  rintro e w5 ⟨rfl, qb, S5, k5, kS5, kQ5⟩
  obtain ⟨hx5, hn5⟩ := kQ5.nbox Hx4.out Hn4.out kS5
  have f3 := hx5.free 3
  have q5 := hx5.cell (k := 3) rfl
  generalize hib : ((n + x.cnt + y.cnt - 1 : Nat) : Int) = ib at *
  have hx6 : BoxN (w5.setCell ⟨b1, 3, none⟩ (.int .i64 ib)) b1 51 #[.int .i64 k, .int .i64 x1, .int .i64 ia, .int .i64 ib, .int .i64 x4] := hx5.set 3 (.int .i64 ib)
  have k6 := k5.off (p := ⟨b1, 3, none⟩) hn5 (.int .i64 ib)
  have hQ6 := QKeeps.box_set (b := b1) (HQ4.out.trans kQ5 HS4.out) (Nat.le_of_eq hb1n) 3 (.int .i64 ib)
  have hS6 := fun b (hb : S5 b) => (kS5 b hb).elim (HS4.out b) (fun e => (Or.inr (Nat.le_trans HQ4.out.size e) : S b ∨ w.heap.size ≤ b))
  have C4 := Lib.hid (CNode k6 (by omega) k x1 ia ib x4)
  have HQ6 := Lib.hid hQ6
  have HS6 := Lib.hid hS6
  have r0 := hx6.cell (k := 0) rfl
  have r1 := hx6.cell (k := 1) rfl
  have r2 := hx6.cell (k := 2) rfl
  have r3 := hx6.cell (k := 3) rfl
  have r4 := hx6.cell (k := 4) rfl
  clear C3 hx6 k6 hQ6 hS6 hx5 hn5 k5 kS5 kQ5
  go_wp2_with fail
  refine C4.out.mono ?_
  rintro e w7 ⟨rfl, k7⟩
  have k7 := CutTo.trans HQ6.out HS6.out k7
  rw [← hia, ← hib, List.append_assoc, List.append_assoc, show n + x.cnt + y.cnt + 1 = n + (x.cnt + y.cnt + 1) by omega, ← List.append_assoc (x.lay n)] at k7
  have HT := Lib.hid k7
  clear C4 k7
  go_wp2_with fail
  go_ret
  exact ⟨ret_int (by omega), qb, HT.out⟩
set_option maxHeartbeats 4000000 in
theorem copy_set {a : Nat} {x1 x3 x4 : Int} {x : RE} (hN : NodesAt w0 A0 P n0) (hB : B = w0.heap.size) (hi : i < n0) (h0 : nd P i 0 = 6) (h1 : nd P i 1 = x1) (ha : nd P i 2 = a) (h3 : nd P i 3 = x3) (h4 : nd P i 4 = x4)
    (iha : CopyOk P (.slice A0 n0 c0) B r mb w0 a x.cnt x.lay) : CopyOk P (.slice A0 n0 c0) B r mb w0 i (RS.set x1 x3 x4 x).cnt (RS.set x1 x3 x4 x).lay := by
  intro w S n o q h hw hcn
  show Calls _ _ #[_, _] w _
  have hp1 := x.pos
  rw [RS.lay]
  simp only [RS.cnt] at hcn ⊢
  obtain ⟨ba, offa, rfl, p0, p1, p2, p3, p4⟩ := (hN.below (B := 0) (hB ▸ hw)).cells hi
  rw [h0] at p0
  rw [h1] at p1
  rw [ha] at p2
  rw [h3] at p3
  rw [h4] at p4
  have hin := hN.small
  have z0 := h.cell0
  have hb1 := (Below.refl w.heap.size w).alloc (Nat.le_refl _) (.cells #[.int .i64 6, .int .i64 x1, .int .i64 (a : Nat), .int .i64 x3, .int .i64 x4] 51)
  have h1 := h.below hb1
  have hx1 := BoxN.new w 51 #[.int .i64 6, .int .i64 x1, .int .i64 (a : Nat), .int .i64 x3, .int .i64 x4]
  have hn1 : ¬ S w.heap.size := fun e => Nat.lt_irrefl _ (h.lt _ e)
  have HQ1 := Lib.hid (QKeeps.of_below (S := S) hb1)
  have HW1 := Lib.hid (hw.trans (hb1.mono h.blt))
  have CP := Lib.hid (fun W => Parts_any 6 x1 (a : Nat) x3 x4 W)
  rw [show partsL 6 (a : Nat) x3 x4 = [(a : Int)] from rfl] at CP
  have H1 := Lib.hid h1
  have Hx1 := Lib.hid hx1
  have Hn1 := Lib.hid hn1
  have IHa := Lib.hid iha
  have y0 := hx1.cell (k := 0) rfl
  have y1 := hx1.cell (k := 1) rfl
  have y2 := hx1.cell (k := 2) rfl
  have y3 := hx1.cell (k := 3) rfl
  have y4 := hx1.cell (k := 4) rfl
  have HBb : Hid (B ≤ w.heap.size) := Lib.hid h.blt
  clear h hw hN hB hb1 h1 hx1 h0 h3 h4 hn1 iha ha
  go_enter Tryd.func92, Tryd.ntmps92
  go_wp2_with fail
  generalize w.alloc (.cells #[.int .i64 6, .int .i64 x1, .int .i64 (a : Nat), .int .i64 x3, .int .i64 x4] 51) = w1 at *
  generalize hb1n : w.heap.size = b1 at *
  with_reducible refine (CP.out w1).mono ?_
  rintro e w2 ⟨X, cx, rfl, -, hb2, -⟩
  have hx2 := Hx1.out.all hb2
  have h2 := H1.out.below hb2
  have HQ2 := Lib.hid (HQ1.out.trans (QKeeps.of_below (S := S) hb2) (fun b hb => .inl hb))
  have hw2 := HW1.out.trans (hb2.mono H1.out.blt)
  have C2 := Lib.hid (IHa.out w2 S n o q h2 hw2 (by omega))
  have HW2 := Lib.hid hw2
  have H2 := Lib.hid h2
  have q2 := hx2.cell (k := 2) rfl
  have Hx2 := Lib.hid hx2
  clear hx2 h2 hb2 CP hw2 Hx1 H1
  go_wp2_with fail
  refine C2.out.mono ?_
  rintro e w3 ⟨rfl, qa, S3, k3, kS3, kQ3⟩
  obtain ⟨hx3, hn3⟩ := kQ3.nbox Hx2.out Hn1.out kS3
  have f2 := hx3.free 2
  have q3 := hx3.cell (k := 2) rfl
  generalize hia : ((n + x.cnt - 1 : Nat) : Int) = ia at *
  have hx4 : BoxN (w3.setCell ⟨b1, 2, none⟩ (.int .i64 ia)) b1 51 #[.int .i64 6, .int .i64 x1, .int .i64 ia, .int .i64 x3, .int .i64 x4] := hx3.set 2 (.int .i64 ia)
  have k4 := k3.off (p := ⟨b1, 2, none⟩) hn3 (.int .i64 ia)
  have hQ4 := QKeeps.box_set (b := b1) (HQ2.out.trans kQ3 (fun b hb => .inl hb)) (Nat.le_of_eq hb1n) 2 (.int .i64 ia)
  have hS4 := fun b (hb : S3 b) => (kS3 b hb).elim (fun e => Or.inl e) (fun e => (Or.inr (Nat.le_trans HQ2.out.size e) : S b ∨ w.heap.size ≤ b))
  have C4 := Lib.hid (CNode k4 (by omega) 6 x1 ia x3 x4)
  have HQ6 := Lib.hid hQ4
  have HS6 := Lib.hid hS4
  have r0 := hx4.cell (k := 0) rfl
  have r1 := hx4.cell (k := 1) rfl
  have r2 := hx4.cell (k := 2) rfl
  have r3 := hx4.cell (k := 3) rfl
  have r4 := hx4.cell (k := 4) rfl
  clear C2 hx4 k4 hQ4 hS4 hx3 hn3 k3 kS3 kQ3 Hx2 H2 HQ2
  go_wp2_with fail
  refine C4.out.mono ?_
  rintro e w7 ⟨rfl, k7⟩
  have k7 := CutTo.trans HQ6.out HS6.out k7
  rw [← hia, List.append_assoc, show n + x.cnt + 1 = n + (x.cnt + 1) by omega] at k7
  have HT := Lib.hid k7
  clear C4 k7
  go_wp2_with fail
  go_ret
  exact ⟨ret_int (by omega), qa, HT.out⟩
theorem copy_re (hN : NodesAt w0 A0 P n0) (hB : B = w0.heap.size) {x : RE} (h : IsRE P i x) : i < n0 → CopyOk P (.slice A0 n0 c0) B r mb w0 i x.cnt x.lay := by
  induction h with
  | leaf h0 h1 h2 h3 h4 hk => exact fun hi => copy_leaf hN hB hi h0 h1 h2 h3 h4 (hk.elim (fun e => .inl e.1) (fun e => .inr e.1))
  | op k2 k4 h0 h1 ha hb hd la lb _ _ iha ihb => exact fun hi => copy_op hN hB hi k2 k4 h0 h1 ha hb hd (iha (by omega)) (ihb (by omega))
end
end Go.Proofs.YtdgncngkalgknaaDoor

namespace Go.Proofs.YtdgncngkalgknaaDoor
open Go.RowKit Go.Maps
set_option maxRecDepth 100000
set_option linter.unusedVariables false
/-- What keep leaves. -/
def KPost (P : List Int) (N : Value) (B r mb : Nat) (S : Nat → Prop) (n : Nat) (o : List Int) (w : World) (t : Option RS) (e : Ending) (w' : World) : Prop :=
  match t with
  | none => e = .returned (.int .i64 (-1)) ∧ ∃ q', CutTo P N B r mb S n o q' w w'
  | some t => e = .returned (.int .i64 ((n + t.cnt - 1 : Nat) : Int)) ∧ ∃ q', CutTo P N B r mb S (n + t.cnt) (o ++ t.lay n) q' w w'
def KeepOk (P : List Int) (N : Value) (B r mb : Nat) (w0 : World) (i : Nat) (s : RS) : Prop := ∀ (w : World) (S : Nat → Prop) (n : Nat) (o : List Int) (q : List (Nat × Nat)) (u : Nat), CutAt P N B r mb S n o q w → Below B w0 w → u < 64 → n + s.cnt ≤ 1000 →
  Calls Tryd.prog 70 #[.pointer (some ⟨r, 0, none⟩), .int .i64 i, .int .i64 u] w (KPost P N B r mb S n o w (s.cut u))
def BlockOk (P : List Int) (N : Value) (B r mb : Nat) (w0 : World) (i : Nat) (s : RS) : Prop := ∀ (w : World) (S : Nat → Prop) (n : Nat) (o : List Int) (q : List (Nat × Nat)) (u : Nat), CutAt P N B r mb S n o q w → Below B w0 w → u < 64 → n + s.cnt ≤ 1000 →
  Calls Tryd.prog 46 #[.pointer (some ⟨r, 0, none⟩), .int .i64 i, .int .i64 u] w fun e w' => e = .returned (.int .i64 ((n + ((s.cut u).getD .skip).cnt - 1 : Nat) : Int)) ∧ ∃ q', CutTo P N B r mb S (n + ((s.cut u).getD .skip).cnt) (o ++ ((s.cut u).getD .skip).lay n) q' w w'
theorem rcut_none {s : RS} {u : Nat} (h : (s.st.need u).2 = false) : s.cut u = none := by
  have h1 := cut_none h
  rw [← s.cut_st] at h1
  cases hc : s.cut u with
  | none => rfl
  | some t => rw [hc] at h1; cases h1
section
variable {P : List Int} {B r mb : Nat} {w0 : World} {i n0 c0 : Nat} {A0 : Option Addr} {N : Value}
set_option maxHeartbeats 4000000 in
theorem block_of {s : RS} (hk : KeepOk P N B r mb w0 i s) : BlockOk P N B r mb w0 i s := by
  intro w S n o q u h hw hu hcn
  have C1 := hk w S n o q u h hw hu hcn
  have hn39 : n < 2 ^ 39 := by omega
  clear hk h hw hcn
  cases hc : s.cut u with
  | none =>
    rw [hc] at C1
    have HC1 := Lib.hid C1
    clear C1 hc
    show Calls _ _ _ w fun e w' => e = .returned (.int .i64 ((n : Nat) : Int)) ∧ ∃ q', CutTo P N B r mb S (n + 1) (o ++ [5, 0, 0, 0, 0]) q' w w'
    go_enter Tryd.func46, Tryd.ntmps46
    go_wp2_with fail
    refine HC1.out.mono ?_
    rintro e w2 ⟨rfl, q2, S2, k2, kS2, kQ2⟩
    have C2 := Lib.hid (CNode k2 hn39 5 0 0 0 0)
    have HQ := Lib.hid kQ2
    have HS := Lib.hid kS2
    clear HC1 k2 kS2 kQ2
    go_wp2_with fail
    refine C2.out.mono ?_
    rintro e w3 ⟨rfl, k3⟩
    have HT := Lib.hid (CutTo.trans HQ.out HS.out k3)
    clear C2 k3
    go_wp2_with fail
    go_ret
    exact ⟨rfl, q2, HT.out⟩
  | some t =>
    rw [hc] at C1
    have C1 : Calls _ _ _ w fun e w' => e = .returned (.int .i64 ((n + t.cnt - 1 : Nat) : Int)) ∧ ∃ q', CutTo P N B r mb S (n + t.cnt) (o ++ t.lay n) q' w w' := C1
    have HC1 := Lib.hid C1
    clear C1 hc
    show Calls _ _ _ w fun e w' => e = .returned (.int .i64 ((n + t.cnt - 1 : Nat) : Int)) ∧ ∃ q', CutTo P N B r mb S (n + t.cnt) (o ++ t.lay n) q' w w'
    generalize n + t.cnt - 1 = m at *
    go_enter Tryd.func46, Tryd.ntmps46
    go_wp2_with fail
    refine HC1.out.mono ?_
    rintro e w2 ⟨rfl, q2, k2⟩
    have HT := Lib.hid k2
    clear HC1 k2
    go_wp2_with fail
    go_ret
    exact ⟨rfl, q2, HT.out⟩
set_option maxHeartbeats 4000000 in
theorem keep_none {s : RS} (hn : NeedOk P N B r mb w0 i s.st) {w : World} {S : Nat → Prop} {n : Nat} {o : List Int} {q : List (Nat × Nat)} {u : Nat} (h : CutAt P N B r mb S n o q w) (hw : Below B w0 w) (hu : u < 64) (hc : (s.st.need u).2 = false) :
    Calls Tryd.prog 70 #[.pointer (some ⟨r, 0, none⟩), .int .i64 i, .int .i64 u] w (KPost P N B r mb S n o w (s.cut u)) := by
  rw [rcut_none hc]
  have C1 := hn w S n o q u h hw hu
  rw [hc] at C1
  have HC1 := Lib.hid C1
  clear C1 hn h hw hc
  generalize (s.st.need u).1 = v at *
  show Calls _ _ _ w fun e w' => e = .returned (.int .i64 (-1)) ∧ ∃ q', CutTo P N B r mb S n o q' w w'
  go_enter Tryd.func70, Tryd.ntmps70
  go_wp2_with fail
  refine HC1.out.mono ?_
  rintro e w2 ⟨rfl, q2, k2, -⟩
  have HT := Lib.hid k2
  clear HC1 k2
  go_wp2_with fail
  go_ret
  exact ⟨rfl, q2, HT.out⟩
set_option maxHeartbeats 4000000 in
theorem keep_set {a : Nat} {x1 x3 x4 : Int} {x : RE} (hN : NodesAt w0 A0 P n0) (hB : B = w0.heap.size) (hi : i < n0) (h0 : nd P i 0 = 6) (hn : NeedOk P (.slice A0 n0 c0) B r mb w0 i (RS.set x1 x3 x4 x).st) (hcp : CopyOk P (.slice A0 n0 c0) B r mb w0 i (RS.set x1 x3 x4 x).cnt (RS.set x1 x3 x4 x).lay) : KeepOk P (.slice A0 n0 c0) B r mb w0 i (.set x1 x3 x4 x) := by
  intro w S n o q u h hw hu hcn
  cases hc : ((RS.set x1 x3 x4 x).st.need u).2 with
  | false => exact keep_none hn h hw hu hc
  | true =>
    have hcut : (RS.set x1 x3 x4 x).cut u = some (.set x1 x3 x4 x) := by
      simp only [RS.st, St.need] at hc
      simp only [RS.cut]
      split at hc
      · rename_i e; rw [if_pos e]
      · cases hc
    rw [hcut]
    show Calls _ _ _ w fun e w' => e = .returned (.int .i64 ((n + (RS.set x1 x3 x4 x).cnt - 1 : Nat) : Int)) ∧ ∃ q', CutTo P (.slice A0 n0 c0) B r mb S (n + (RS.set x1 x3 x4 x).cnt) (o ++ (RS.set x1 x3 x4 x).lay n) q' w w'
    have C1 := hn w S n o q u h hw hu
    rw [hc] at C1
    have HC1 := Lib.hid C1
    have HCP := Lib.hid (fun (W : World) (S2 : Nat → Prop) (q2 : List (Nat × Nat)) (hc : CutAt P (.slice A0 n0 c0) B r mb S2 n o q2 W) (hW : Below B w0 W) => hcp W S2 n o q2 hc hW hcn)
    have HN := Lib.hid hN
    have HW := Lib.hid hw
    have H := Lib.hid h
    have HBe := Lib.hid hB
    generalize ((RS.set x1 x3 x4 x).st.need u).1 = v at *
    generalize (RS.set x1 x3 x4 x).lay = lay at *
    generalize (RS.set x1 x3 x4 x).cnt = cnt at *
    generalize n + cnt - 1 = m at *
    clear C1 hn h hw hc hcp hN hcn hB hcut
    go_enter Tryd.func70, Tryd.ntmps70
    go_wp2_with fail
    refine HC1.out.mono ?_
    rintro e w2 ⟨rfl, q2, ⟨S2, k2, kS2, kQ2⟩, -⟩
    have hw2 := H.out.to_below kQ2 HW.out
    obtain ⟨ba, offa, hA0, p0, p1, p2, p3, p4⟩ := (HN.out.below (B := 0) (HBe.out ▸ hw2)).cells hi
    subst hA0
    rw [h0] at p0
    have hin := HN.out.small
    have z0 := k2.cell0
    generalize nd P i 1 = y1 at *
    generalize nd P i 2 = y2 at *
    generalize nd P i 3 = y3 at *
    generalize nd P i 4 = y4 at *
    have hb2 := (Below.refl w2.heap.size w2).alloc (Nat.le_refl _) (.cells #[.int .i64 6, .int .i64 y1, .int .i64 y2, .int .i64 y3, .int .i64 y4] 51)
    have C2 := Lib.hid (HCP.out _ S2 q2 (k2.below hb2) (hw2.trans (hb2.mono k2.blt)))
    have HQ := Lib.hid (kQ2.trans (QKeeps.of_below (S := fun _ => False) hb2) (fun b hb => hb.elim))
    have HS := Lib.hid kS2
    clear HC1 k2 kS2 kQ2 hw2 hb2
    go_wp2_with fail
    refine C2.out.mono ?_
    rintro e w3 ⟨rfl, q3, k3⟩
    have HT := Lib.hid (CutTo.trans HQ.out HS.out k3)
    clear C2 k3
    go_wp2_with fail
    go_ret
    exact ⟨rfl, q3, HT.out⟩
end
end Go.Proofs.YtdgncngkalgknaaDoor

namespace Go.Proofs.YtdgncngkalgknaaDoor
open Go.RowKit Go.Maps
set_option maxRecDepth 100000
set_option linter.unusedVariables false
section
variable {P : List Int} {B r mb : Nat} {w0 : World} {i n0 c0 : Nat} {A0 : Option Addr}
set_option maxHeartbeats 8000000 in
theorem keep_both {a b : Nat} {x y : RS} (hN : NodesAt w0 A0 P n0) (hB : B = w0.heap.size) (hi : i < n0) (h0 : nd P i 0 = 7) (ha : nd P i 2 = a) (hb : nd P i 3 = b) (hy : y.st.ok) (hn : NeedOk P (.slice A0 n0 c0) B r mb w0 i (RS.both x y).st) (hnb : NeedOk P (.slice A0 n0 c0) B r mb w0 b y.st)
    (hka : KeepOk P (.slice A0 n0 c0) B r mb w0 a x) (hkb : KeepOk P (.slice A0 n0 c0) B r mb w0 b y) : KeepOk P (.slice A0 n0 c0) B r mb w0 i (.both x y) := by
  intro w S n o q u h hw hu hcn
  cases hany : ((RS.both x y).st.need u).2 with
  | false => exact keep_none hn h hw hu hany
  | true =>
    have hcut : (RS.both x y).cut u = pairR (x.cut (y.st.need u).1) (y.cut u) := rfl
    have hv64 : (y.st.need u).1 < 64 := need_lt hy hu
    simp only [RS.cnt] at hcn
    have C1 := hn w S n o q u h hw hu
    rw [hany] at C1
    have hx1 := fun t => RS.cut0_cnt x t
    have hy1 := fun t => RS.cut0_cnt y t
    have N1 := Lib.hid (fun (W : World) (S2 : Nat → Prop) (q2 : List (Nat × Nat)) (hc : CutAt P (.slice A0 n0 c0) B r mb S2 n o q2 W) (hW : Below B w0 W) => hnb W S2 n o q2 u hc hW hu)
    have K1 := Lib.hid (fun (W : World) (S2 : Nat → Prop) (q2 : List (Nat × Nat)) (hc : CutAt P (.slice A0 n0 c0) B r mb S2 n o q2 W) (hW : Below B w0 W) => hka W S2 n o q2 _ hc hW hv64 (by omega))
    have K2 := Lib.hid (fun (W : World) (S2 : Nat → Prop) (n2 : Nat) (o2 : List Int) (q2 : List (Nat × Nat)) (hc : CutAt P (.slice A0 n0 c0) B r mb S2 n2 o2 q2 W) (hW : Below B w0 W) (hc2 : n2 + y.cnt ≤ 1000) => hkb W S2 n2 o2 q2 u hc hW hu hc2)
    have hcx : ∀ t, x.cut (y.st.need u).1 = some t → t.cnt ≤ x.cnt := fun t e => by have := hx1 (y.st.need u).1; rw [e] at this; exact this
    have hcy : ∀ t, y.cut u = some t → t.cnt ≤ y.cnt := fun t e => by have := hy1 u; rw [e] at this; exact this
    rw [hcut]
    generalize ((RS.both x y).st.need u).1 = vv at *
    generalize (y.st.need u).2 = fb at *
    generalize (y.st.need u).1 = v at *
    generalize x.cut v = ca at *
    generalize y.cut u = cb at *
    have HC1 := Lib.hid C1
    have HN := Lib.hid hN
    have HW := Lib.hid hw
    have H := Lib.hid h
    have HBe := Lib.hid hB
    clear C1 hn hnb h hw hany hka hkb hN hB hcut hx1 hy1
    cases ca with
    | none =>
      cases cb with
      | none =>
        show Calls _ _ _ w fun e w' => e = .returned (.int .i64 (-1)) ∧ ∃ q', CutTo P (.slice A0 n0 c0) B r mb S n o q' w w'
        go_enter Tryd.func70, Tryd.ntmps70
        go_wp2_with fail
        refine HC1.out.mono ?_
        rintro e w2 ⟨rfl, q2, ⟨S2, k2, kS2, kQ2⟩, -⟩
        have hw2 := H.out.to_below kQ2 HW.out
        obtain ⟨ba, offa, hA0, p0, p1, p2, p3, p4⟩ := (HN.out.below (B := 0) (HBe.out ▸ hw2)).cells hi
        subst hA0
        rw [h0] at p0
        rw [ha] at p2
        rw [hb] at p3
        have hin := HN.out.small
        have z0 := k2.cell0
        generalize nd P i 1 = x1 at *
        generalize nd P i 4 = x4 at *
        have hb2 := (Below.refl w2.heap.size w2).alloc (Nat.le_refl _) (.cells #[.int .i64 7, .int .i64 x1, .int .i64 (a : Nat), .int .i64 (b : Nat), .int .i64 x4] 51)
        have hx3 := BoxN.new w2 51 #[.int .i64 7, .int .i64 x1, .int .i64 (a : Nat), .int .i64 (b : Nat), .int .i64 x4]
        have Hn3 := Lib.hid (show ¬ S2 w2.heap.size from fun e => Nat.lt_irrefl _ (k2.lt _ e))
        have K3 := Lib.hid (k2.below hb2)
        have HW3 := Lib.hid (hw2.trans (hb2.mono k2.blt))
        have HQ3 := Lib.hid (kQ2.trans (QKeeps.of_below (S := fun _ => False) hb2) (fun b hb => hb.elim))
        have HS3 := Lib.hid kS2
        have Hx3 := Lib.hid hx3
        have y33 := hx3.cell (k := 3) rfl
        clear HC1 k2 kS2 kQ2 hw2 hb2 hx3
        go_wp2_with fail
        generalize w2.alloc (.cells #[.int .i64 7, .int .i64 x1, .int .i64 (a : Nat), .int .i64 (b : Nat), .int .i64 x4] 51) = w3 at *
        generalize w2.heap.size = b3 at *
        have C4 := Lib.hid (N1.out _ S2 q2 K3.out HW3.out)
        refine C4.out.mono ?_
        rintro e w4 ⟨rfl, q4, ⟨S4, k, kS, kQ⟩, -⟩
        obtain ⟨hx, hn⟩ := kQ.nbox Hx3.out Hn3.out kS
        have HW4 := Lib.hid (K3.out.to_below kQ HW3.out)
        have HQ4 := Lib.hid (HQ3.out.trans kQ HS3.out)
        have HS4 := Lib.hid (fun b (hb : S4 b) => (kS b hb).elim (HS3.out b) (fun e => (Or.inr (Nat.le_trans HQ3.out.size e) : S b ∨ w.heap.size ≤ b)))
        have K4 := Lib.hid k
        have Hx4 := Lib.hid hx
        have Hn4 := Lib.hid hn
        have y42 := hx.cell (k := 2) rfl
        clear C4 k kS kQ hx hn
        have C5 := Lib.hid (K1.out _ S4 q4 K4.out HW4.out)
        go_wp2_with fail
        refine C5.out.mono ?_
        rintro e w5 ⟨rfl, q5, S5, k, kS, kQ⟩
        obtain ⟨hx, hn⟩ := kQ.nbox Hx4.out Hn4.out kS
        have HW5 := Lib.hid (K4.out.to_below kQ HW4.out)
        have HQ5 := Lib.hid (HQ4.out.trans kQ HS4.out)
        have HS5 := Lib.hid (fun b (hb : S5 b) => (kS b hb).elim (HS4.out b) (fun e => (Or.inr (Nat.le_trans HQ4.out.size e) : S b ∨ w.heap.size ≤ b)))
        have K5 := Lib.hid k
        have Hx5 := Lib.hid hx
        have Hn5 := Lib.hid hn
        have y53 := hx.cell (k := 3) rfl
        clear C5 k kS kQ hx hn
        have C6 := Lib.hid (K2.out _ S5 _ _ q5 K5.out HW5.out (by omega))
        go_wp2_with fail
        refine C6.out.mono ?_
        rintro e w6 ⟨rfl, q6, S6, k, kS, kQ⟩
        obtain ⟨hx, hn⟩ := kQ.nbox Hx5.out Hn5.out kS
        have HW6 := Lib.hid (K5.out.to_below kQ HW5.out)
        have HQ6 := Lib.hid (HQ5.out.trans kQ HS5.out)
        have HS6 := Lib.hid (fun b (hb : S6 b) => (kS b hb).elim (HS5.out b) (fun e => (Or.inr (Nat.le_trans HQ5.out.size e) : S b ∨ w.heap.size ≤ b)))
        have K6 := Lib.hid k
        have Hx6 := Lib.hid hx
        have Hn6 := Lib.hid hn
        clear C6 k kS kQ hx hn
        go_wp2_with fail
        go_ret
        exact ⟨rfl, q6, ⟨S6, K6.out, HS6.out, HQ6.out⟩⟩
      | some t =>
        show Calls _ _ _ w fun e w' => e = .returned (.int .i64 ((n + t.cnt - 1 : Nat) : Int)) ∧ ∃ q', CutTo P (.slice A0 n0 c0) B r mb S (n + t.cnt) (o ++ t.lay n) q' w w'
        have K2 : Hid (∀ (W : World) (S2 : Nat → Prop) (q2 : List (Nat × Nat)), CutAt P (.slice A0 n0 c0) B r mb S2 n o q2 W → Below B w0 W → Calls Tryd.prog 70 #[.pointer (some ⟨r, 0, none⟩), .int .i64 b, .int .i64 u] W fun e w' => e = .returned (.int .i64 ((n + t.cnt - 1 : Nat) : Int)) ∧ ∃ q', CutTo P (.slice A0 n0 c0) B r mb S2 (n + t.cnt) (o ++ t.lay n) q' W w') := Lib.hid (fun W S2 q2 hc hW => K2.out W S2 n o q2 hc hW (by omega))
        generalize n + t.cnt - 1 = m at *
        go_enter Tryd.func70, Tryd.ntmps70
        go_wp2_with fail
        refine HC1.out.mono ?_
        rintro e w2 ⟨rfl, q2, ⟨S2, k2, kS2, kQ2⟩, -⟩
        have hw2 := H.out.to_below kQ2 HW.out
        obtain ⟨ba, offa, hA0, p0, p1, p2, p3, p4⟩ := (HN.out.below (B := 0) (HBe.out ▸ hw2)).cells hi
        subst hA0
        rw [h0] at p0
        rw [ha] at p2
        rw [hb] at p3
        have hin := HN.out.small
        have z0 := k2.cell0
        generalize nd P i 1 = x1 at *
        generalize nd P i 4 = x4 at *
        have hb2 := (Below.refl w2.heap.size w2).alloc (Nat.le_refl _) (.cells #[.int .i64 7, .int .i64 x1, .int .i64 (a : Nat), .int .i64 (b : Nat), .int .i64 x4] 51)
        have hx3 := BoxN.new w2 51 #[.int .i64 7, .int .i64 x1, .int .i64 (a : Nat), .int .i64 (b : Nat), .int .i64 x4]
        have Hn3 := Lib.hid (show ¬ S2 w2.heap.size from fun e => Nat.lt_irrefl _ (k2.lt _ e))
        have K3 := Lib.hid (k2.below hb2)
        have HW3 := Lib.hid (hw2.trans (hb2.mono k2.blt))
        have HQ3 := Lib.hid (kQ2.trans (QKeeps.of_below (S := fun _ => False) hb2) (fun b hb => hb.elim))
        have HS3 := Lib.hid kS2
        have Hx3 := Lib.hid hx3
        have y33 := hx3.cell (k := 3) rfl
        clear HC1 k2 kS2 kQ2 hw2 hb2 hx3
        go_wp2_with fail
        generalize w2.alloc (.cells #[.int .i64 7, .int .i64 x1, .int .i64 (a : Nat), .int .i64 (b : Nat), .int .i64 x4] 51) = w3 at *
        generalize w2.heap.size = b3 at *
        have C4 := Lib.hid (N1.out _ S2 q2 K3.out HW3.out)
        refine C4.out.mono ?_
        rintro e w4 ⟨rfl, q4, ⟨S4, k, kS, kQ⟩, -⟩
        obtain ⟨hx, hn⟩ := kQ.nbox Hx3.out Hn3.out kS
        have HW4 := Lib.hid (K3.out.to_below kQ HW3.out)
        have HQ4 := Lib.hid (HQ3.out.trans kQ HS3.out)
        have HS4 := Lib.hid (fun b (hb : S4 b) => (kS b hb).elim (HS3.out b) (fun e => (Or.inr (Nat.le_trans HQ3.out.size e) : S b ∨ w.heap.size ≤ b)))
        have K4 := Lib.hid k
        have Hx4 := Lib.hid hx
        have Hn4 := Lib.hid hn
        have y42 := hx.cell (k := 2) rfl
        clear C4 k kS kQ hx hn
        have C5 := Lib.hid (K1.out _ S4 q4 K4.out HW4.out)
        go_wp2_with fail
        refine C5.out.mono ?_
        rintro e w5 ⟨rfl, q5, S5, k, kS, kQ⟩
        obtain ⟨hx, hn⟩ := kQ.nbox Hx4.out Hn4.out kS
        have HW5 := Lib.hid (K4.out.to_below kQ HW4.out)
        have HQ5 := Lib.hid (HQ4.out.trans kQ HS4.out)
        have HS5 := Lib.hid (fun b (hb : S5 b) => (kS b hb).elim (HS4.out b) (fun e => (Or.inr (Nat.le_trans HQ4.out.size e) : S b ∨ w.heap.size ≤ b)))
        have K5 := Lib.hid k
        have Hx5 := Lib.hid hx
        have Hn5 := Lib.hid hn
        have y53 := hx.cell (k := 3) rfl
        clear C5 k kS kQ hx hn
        have C6 := Lib.hid (K2.out _ S5 q5 K5.out HW5.out)
        go_wp2_with fail
        refine C6.out.mono ?_
        rintro e w6 ⟨rfl, q6, S6, k, kS, kQ⟩
        obtain ⟨hx, hn⟩ := kQ.nbox Hx5.out Hn5.out kS
        have HW6 := Lib.hid (K5.out.to_below kQ HW5.out)
        have HQ6 := Lib.hid (HQ5.out.trans kQ HS5.out)
        have HS6 := Lib.hid (fun b (hb : S6 b) => (kS b hb).elim (HS5.out b) (fun e => (Or.inr (Nat.le_trans HQ5.out.size e) : S b ∨ w.heap.size ≤ b)))
        have K6 := Lib.hid k
        have Hx6 := Lib.hid hx
        have Hn6 := Lib.hid hn
        clear C6 k kS kQ hx hn
        have dib : decide ((m : Int) < 0) = false := by simp
        go_wp2_with fail
        go_ret
        exact ⟨ret_int (by omega), q6, ⟨S6, K6.out, HS6.out, HQ6.out⟩⟩
    | some s =>
      cases cb with
      | none =>
        show Calls _ _ _ w fun e w' => e = .returned (.int .i64 ((n + s.cnt - 1 : Nat) : Int)) ∧ ∃ q', CutTo P (.slice A0 n0 c0) B r mb S (n + s.cnt) (o ++ s.lay n) q' w w'
        have hs := hcx s rfl
        have K1 : Hid (∀ (W : World) (S2 : Nat → Prop) (q2 : List (Nat × Nat)), CutAt P (.slice A0 n0 c0) B r mb S2 n o q2 W → Below B w0 W → Calls Tryd.prog 70 #[.pointer (some ⟨r, 0, none⟩), .int .i64 a, .int .i64 v] W fun e w' => e = .returned (.int .i64 ((n + s.cnt - 1 : Nat) : Int)) ∧ ∃ q', CutTo P (.slice A0 n0 c0) B r mb S2 (n + s.cnt) (o ++ s.lay n) q' W w') := K1
        generalize n + s.cnt - 1 = m at *
        go_enter Tryd.func70, Tryd.ntmps70
        go_wp2_with fail
        refine HC1.out.mono ?_
        rintro e w2 ⟨rfl, q2, ⟨S2, k2, kS2, kQ2⟩, -⟩
        have hw2 := H.out.to_below kQ2 HW.out
        obtain ⟨ba, offa, hA0, p0, p1, p2, p3, p4⟩ := (HN.out.below (B := 0) (HBe.out ▸ hw2)).cells hi
        subst hA0
        rw [h0] at p0
        rw [ha] at p2
        rw [hb] at p3
        have hin := HN.out.small
        have z0 := k2.cell0
        generalize nd P i 1 = x1 at *
        generalize nd P i 4 = x4 at *
        have hb2 := (Below.refl w2.heap.size w2).alloc (Nat.le_refl _) (.cells #[.int .i64 7, .int .i64 x1, .int .i64 (a : Nat), .int .i64 (b : Nat), .int .i64 x4] 51)
        have hx3 := BoxN.new w2 51 #[.int .i64 7, .int .i64 x1, .int .i64 (a : Nat), .int .i64 (b : Nat), .int .i64 x4]
        have Hn3 := Lib.hid (show ¬ S2 w2.heap.size from fun e => Nat.lt_irrefl _ (k2.lt _ e))
        have K3 := Lib.hid (k2.below hb2)
        have HW3 := Lib.hid (hw2.trans (hb2.mono k2.blt))
        have HQ3 := Lib.hid (kQ2.trans (QKeeps.of_below (S := fun _ => False) hb2) (fun b hb => hb.elim))
        have HS3 := Lib.hid kS2
        have Hx3 := Lib.hid hx3
        have y33 := hx3.cell (k := 3) rfl
        clear HC1 k2 kS2 kQ2 hw2 hb2 hx3
        go_wp2_with fail
        generalize w2.alloc (.cells #[.int .i64 7, .int .i64 x1, .int .i64 (a : Nat), .int .i64 (b : Nat), .int .i64 x4] 51) = w3 at *
        generalize w2.heap.size = b3 at *
        have C4 := Lib.hid (N1.out _ S2 q2 K3.out HW3.out)
        refine C4.out.mono ?_
        rintro e w4 ⟨rfl, q4, ⟨S4, k, kS, kQ⟩, -⟩
        obtain ⟨hx, hn⟩ := kQ.nbox Hx3.out Hn3.out kS
        have HW4 := Lib.hid (K3.out.to_below kQ HW3.out)
        have HQ4 := Lib.hid (HQ3.out.trans kQ HS3.out)
        have HS4 := Lib.hid (fun b (hb : S4 b) => (kS b hb).elim (HS3.out b) (fun e => (Or.inr (Nat.le_trans HQ3.out.size e) : S b ∨ w.heap.size ≤ b)))
        have K4 := Lib.hid k
        have Hx4 := Lib.hid hx
        have Hn4 := Lib.hid hn
        have y42 := hx.cell (k := 2) rfl
        clear C4 k kS kQ hx hn
        have C5 := Lib.hid (K1.out _ S4 q4 K4.out HW4.out)
        go_wp2_with fail
        refine C5.out.mono ?_
        rintro e w5 ⟨rfl, q5, S5, k, kS, kQ⟩
        obtain ⟨hx, hn⟩ := kQ.nbox Hx4.out Hn4.out kS
        have HW5 := Lib.hid (K4.out.to_below kQ HW4.out)
        have HQ5 := Lib.hid (HQ4.out.trans kQ HS4.out)
        have HS5 := Lib.hid (fun b (hb : S5 b) => (kS b hb).elim (HS4.out b) (fun e => (Or.inr (Nat.le_trans HQ4.out.size e) : S b ∨ w.heap.size ≤ b)))
        have K5 := Lib.hid k
        have Hx5 := Lib.hid hx
        have Hn5 := Lib.hid hn
        have y53 := hx.cell (k := 3) rfl
        clear C5 k kS kQ hx hn
        have dia : decide ((m : Int) < 0) = false := by simp
        have C6 := Lib.hid (K2.out _ S5 _ _ q5 K5.out HW5.out (by omega))
        go_wp2_with fail
        refine C6.out.mono ?_
        rintro e w6 ⟨rfl, q6, S6, k, kS, kQ⟩
        obtain ⟨hx, hn⟩ := kQ.nbox Hx5.out Hn5.out kS
        have HW6 := Lib.hid (K5.out.to_below kQ HW5.out)
        have HQ6 := Lib.hid (HQ5.out.trans kQ HS5.out)
        have HS6 := Lib.hid (fun b (hb : S6 b) => (kS b hb).elim (HS5.out b) (fun e => (Or.inr (Nat.le_trans HQ5.out.size e) : S b ∨ w.heap.size ≤ b)))
        have K6 := Lib.hid k
        have Hx6 := Lib.hid hx
        have Hn6 := Lib.hid hn
        clear C6 k kS kQ hx hn
        go_wp2_with fail
        go_ret
        exact ⟨ret_int (by omega), q6, ⟨S6, K6.out, HS6.out, HQ6.out⟩⟩
      | some t =>
        have hp1 := s.pos
        have hp2 := t.pos
        have hs := hcx s rfl
        have ht := hcy t rfl
        show Calls _ _ _ w fun e w' => e = .returned (.int .i64 ((n + (s.cnt + t.cnt + 1) - 1 : Nat) : Int)) ∧ ∃ q', CutTo P (.slice A0 n0 c0) B r mb S (n + (s.cnt + t.cnt + 1)) (o ++ (RS.both s t).lay n) q' w w'
        have hlay : (RS.both s t).lay n = (s.lay n ++ t.lay (n + s.cnt)) ++ [7, 0, ((n + s.cnt - 1 : Nat) : Int), ((n + s.cnt + t.cnt - 1 : Nat) : Int), 0] := rfl
        rw [hlay]
        clear hlay
        go_enter Tryd.func70, Tryd.ntmps70
        go_wp2_with fail
        refine HC1.out.mono ?_
        rintro e w2 ⟨rfl, q2, ⟨S2, k2, kS2, kQ2⟩, -⟩
        have hw2 := H.out.to_below kQ2 HW.out
        obtain ⟨ba, offa, hA0, p0, p1, p2, p3, p4⟩ := (HN.out.below (B := 0) (HBe.out ▸ hw2)).cells hi
        subst hA0
        rw [h0] at p0
        rw [ha] at p2
        rw [hb] at p3
        have hin := HN.out.small
        have z0 := k2.cell0
        generalize nd P i 1 = x1 at *
        generalize nd P i 4 = x4 at *
        have hb2 := (Below.refl w2.heap.size w2).alloc (Nat.le_refl _) (.cells #[.int .i64 7, .int .i64 x1, .int .i64 (a : Nat), .int .i64 (b : Nat), .int .i64 x4] 51)
        have hx3 := BoxN.new w2 51 #[.int .i64 7, .int .i64 x1, .int .i64 (a : Nat), .int .i64 (b : Nat), .int .i64 x4]
        have Hn3 := Lib.hid (show ¬ S2 w2.heap.size from fun e => Nat.lt_irrefl _ (k2.lt _ e))
        have K3 := Lib.hid (k2.below hb2)
        have HW3 := Lib.hid (hw2.trans (hb2.mono k2.blt))
        have HQ3 := Lib.hid (kQ2.trans (QKeeps.of_below (S := fun _ => False) hb2) (fun b hb => hb.elim))
        have HS3 := Lib.hid kS2
        have Hx3 := Lib.hid hx3
        have y33 := hx3.cell (k := 3) rfl
        clear HC1 k2 kS2 kQ2 hw2 hb2 hx3
        go_wp2_with fail
        generalize w2.alloc (.cells #[.int .i64 7, .int .i64 x1, .int .i64 (a : Nat), .int .i64 (b : Nat), .int .i64 x4] 51) = w3 at *
        generalize w2.heap.size = b3 at *
        have C4 := Lib.hid (N1.out _ S2 q2 K3.out HW3.out)
        refine C4.out.mono ?_
        rintro e w4 ⟨rfl, q4, ⟨S4, k, kS, kQ⟩, -⟩
        obtain ⟨hx, hn⟩ := kQ.nbox Hx3.out Hn3.out kS
        have HW4 := Lib.hid (K3.out.to_below kQ HW3.out)
        have HQ4 := Lib.hid (HQ3.out.trans kQ HS3.out)
        have HS4 := Lib.hid (fun b (hb : S4 b) => (kS b hb).elim (HS3.out b) (fun e => (Or.inr (Nat.le_trans HQ3.out.size e) : S b ∨ w.heap.size ≤ b)))
        have K4 := Lib.hid k
        have Hx4 := Lib.hid hx
        have Hn4 := Lib.hid hn
        have y42 := hx.cell (k := 2) rfl
        clear C4 k kS kQ hx hn
        have C5 := Lib.hid (K1.out _ S4 q4 K4.out HW4.out)
        go_wp2_with fail
        refine C5.out.mono ?_
        rintro e w5 ⟨rfl, q5, S5, k, kS, kQ⟩
        obtain ⟨hx, hn⟩ := kQ.nbox Hx4.out Hn4.out kS
        have HW5 := Lib.hid (K4.out.to_below kQ HW4.out)
        have HQ5 := Lib.hid (HQ4.out.trans kQ HS4.out)
        have HS5 := Lib.hid (fun b (hb : S5 b) => (kS b hb).elim (HS4.out b) (fun e => (Or.inr (Nat.le_trans HQ4.out.size e) : S b ∨ w.heap.size ≤ b)))
        have K5 := Lib.hid k
        have Hx5 := Lib.hid hx
        have Hn5 := Lib.hid hn
        have y53 := hx.cell (k := 3) rfl
        clear C5 k kS kQ hx hn
        generalize hia : ((n + s.cnt - 1 : Nat) : Int) = ia at *
        have hia0 : (0 : Int) ≤ ia := by omega
        have dia : decide (ia < 0) = false := by simp; omega
        have C6 := Lib.hid (K2.out _ S5 _ _ q5 K5.out HW5.out (by omega))
        go_wp2_with fail
        refine C6.out.mono ?_
        rintro e w6 ⟨rfl, q6, S6, k, kS, kQ⟩
        obtain ⟨hx, hn⟩ := kQ.nbox Hx5.out Hn5.out kS
        have HW6 := Lib.hid (K5.out.to_below kQ HW5.out)
        have HQ6 := Lib.hid (HQ5.out.trans kQ HS5.out)
        have HS6 := Lib.hid (fun b (hb : S6 b) => (kS b hb).elim (HS5.out b) (fun e => (Or.inr (Nat.le_trans HQ5.out.size e) : S b ∨ w.heap.size ≤ b)))
        have K6 := Lib.hid k
        have Hx6 := Lib.hid hx
        have Hn6 := Lib.hid hn
        clear C6 k kS kQ hx hn
        generalize hib : ((n + s.cnt + t.cnt - 1 : Nat) : Int) = ib at *
        have hib0 : (0 : Int) ≤ ib := by omega
        have dib : decide (ib < 0) = false := by simp; omega
        have C7 := Lib.hid (CNode K6.out (by omega) 7 0 ia ib 0)
        go_wp2_with fail
        refine C7.out.mono ?_
        rintro e w7 ⟨rfl, k7⟩
        have k7 := CutTo.trans HQ6.out HS6.out k7
        rw [← hia, ← hib, List.append_assoc, List.append_assoc, show n + s.cnt + t.cnt + 1 = n + (s.cnt + t.cnt + 1) by omega, ← List.append_assoc (s.lay n)] at k7
        have HT := Lib.hid k7
        clear C7 k7
        go_wp2_with fail
        go_ret
        exact ⟨ret_int (by omega), q6, HT.out⟩
set_option maxHeartbeats 8000000 in
theorem keep_ite {a b c : Nat} {z : RE} {x y : RS} (hN : NodesAt w0 A0 P n0) (hB : B = w0.heap.size) (hi : i < n0) (h0 : nd P i 0 = 8) (ha : nd P i 2 = a) (hb : nd P i 3 = b) (hc : nd P i 4 = c) (hn : NeedOk P (.slice A0 n0 c0) B r mb w0 i (RS.ite z x y).st)
    (hcp : CopyOk P (.slice A0 n0 c0) B r mb w0 a z.cnt z.lay) (hkb : BlockOk P (.slice A0 n0 c0) B r mb w0 b x) (hkc : BlockOk P (.slice A0 n0 c0) B r mb w0 c y) : KeepOk P (.slice A0 n0 c0) B r mb w0 i (.ite z x y) := by
  intro w S n o q u h hw hu hcn
  cases hany : ((RS.ite z x y).st.need u).2 with
  | false => exact keep_none hn h hw hu hany
  | true =>
    have hcut : (RS.ite z x y).cut u = some (.ite z ((x.cut u).getD .skip) ((y.cut u).getD .skip)) := by
      simp only [RS.st, St.need] at hany
      simp only [RS.cut]
      split at hany
      · rename_i e; rw [if_pos e]
      · cases hany
    rw [hcut]
    simp only [RS.cnt] at hcn
    have C1 := hn w S n o q u h hw hu
    rw [hany] at C1
    have hx1 := RS.cut0_cnt x u
    have hy1 := RS.cut0_cnt y u
    have K1 := Lib.hid (fun (W : World) (S2 : Nat → Prop) (q2 : List (Nat × Nat)) (hc : CutAt P (.slice A0 n0 c0) B r mb S2 n o q2 W) (hW : Below B w0 W) => (hcp W S2 n o q2 hc hW (by omega) : Calls Tryd.prog _ #[.pointer (some ⟨r, 0, none⟩), .int .i64 a] W _))
    have K2 := Lib.hid (fun (W : World) (S2 : Nat → Prop) (n2 : Nat) (o2 : List Int) (q2 : List (Nat × Nat)) (hc : CutAt P (.slice A0 n0 c0) B r mb S2 n2 o2 q2 W) (hW : Below B w0 W) (hc2 : n2 + x.cnt ≤ 1000) => hkb W S2 n2 o2 q2 u hc hW hu hc2)
    have Q1 := Lib.hid (fun (W : World) (S2 : Nat → Prop) (n2 : Nat) (o2 : List Int) (q2 : List (Nat × Nat)) (hc : CutAt P (.slice A0 n0 c0) B r mb S2 n2 o2 q2 W) (hW : Below B w0 W) (hc2 : n2 + y.cnt ≤ 1000) => hkc W S2 n2 o2 q2 u hc hW hu hc2)
    generalize ((RS.ite z x y).st.need u).1 = vv at *
    generalize (x.cut u).getD .skip = s at *
    generalize (y.cut u).getD .skip = t at *
    have hp0 := z.pos
    have hp1 := s.pos
    have hp2 := t.pos
    show Calls _ _ _ w fun e w' => e = .returned (.int .i64 ((n + (z.cnt + s.cnt + t.cnt + 1) - 1 : Nat) : Int)) ∧ ∃ q', CutTo P (.slice A0 n0 c0) B r mb S (n + (z.cnt + s.cnt + t.cnt + 1)) (o ++ (RS.ite z s t).lay n) q' w w'
    have hlay : o ++ (RS.ite z s t).lay n = (((o ++ z.lay n) ++ s.lay (n + z.cnt)) ++ t.lay (n + z.cnt + s.cnt)) ++ [8, 0, ((n + z.cnt - 1 : Nat) : Int), ((n + z.cnt + s.cnt - 1 : Nat) : Int), ((n + z.cnt + s.cnt + t.cnt - 1 : Nat) : Int)] := by
      rw [RS.lay]; simp only [List.append_assoc]
    rw [hlay]
    have HC1 := Lib.hid C1
    have HN := Lib.hid hN
    have HW := Lib.hid hw
    have H := Lib.hid h
    have HBe := Lib.hid hB
    clear C1 hn h hw hany hcp hkb hkc hN hB hcut hlay
    go_enter Tryd.func70, Tryd.ntmps70
    go_wp2_with fail
    refine HC1.out.mono ?_
    rintro e w2 ⟨rfl, q2, ⟨S2, k2, kS2, kQ2⟩, -⟩
    have hw2 := H.out.to_below kQ2 HW.out
    obtain ⟨ba, offa, hA0, p0, p1, p2, p3, p4⟩ := (HN.out.below (B := 0) (HBe.out ▸ hw2)).cells hi
    subst hA0
    rw [h0] at p0
    rw [ha] at p2
    rw [hb] at p3
    rw [hc] at p4
    have hin := HN.out.small
    have z0 := k2.cell0
    generalize nd P i 1 = x1 at *
    have hb2 := (Below.refl w2.heap.size w2).alloc (Nat.le_refl _) (.cells #[.int .i64 8, .int .i64 x1, .int .i64 (a : Nat), .int .i64 (b : Nat), .int .i64 (c : Nat)] 51)
    have hx3 := BoxN.new w2 51 #[.int .i64 8, .int .i64 x1, .int .i64 (a : Nat), .int .i64 (b : Nat), .int .i64 (c : Nat)]
    have Hn3 := Lib.hid (show ¬ S2 w2.heap.size from fun e => Nat.lt_irrefl _ (k2.lt _ e))
    have K3 := Lib.hid (k2.below hb2)
    have HW3 := Lib.hid (hw2.trans (hb2.mono k2.blt))
    have HQ3 := Lib.hid (kQ2.trans (QKeeps.of_below (S := fun _ => False) hb2) (fun b hb => hb.elim))
    have HS3 := Lib.hid kS2
    have Hx3 := Lib.hid hx3
    have y32 := hx3.cell (k := 2) rfl
    clear HC1 k2 kS2 kQ2 hw2 hb2 hx3
    go_wp2_with fail
    generalize w2.alloc (.cells #[.int .i64 8, .int .i64 x1, .int .i64 (a : Nat), .int .i64 (b : Nat), .int .i64 (c : Nat)] 51) = w3 at *
    generalize w2.heap.size = b3 at *
    have C4 := Lib.hid (K1.out _ S2 q2 K3.out HW3.out)
    refine C4.out.mono ?_
    rintro e w4 ⟨rfl, q4, S4, k, kS, kQ⟩
    obtain ⟨hx, hn⟩ := kQ.nbox Hx3.out Hn3.out kS
    have HW4 := Lib.hid (K3.out.to_below kQ HW3.out)
    have HQ4 := Lib.hid (HQ3.out.trans kQ HS3.out)
    have HS4 := Lib.hid (fun b (hb : S4 b) => (kS b hb).elim (HS3.out b) (fun e => (Or.inr (Nat.le_trans HQ3.out.size e) : S b ∨ w.heap.size ≤ b)))
    have K4 := Lib.hid k
    have Hx4 := Lib.hid hx
    have Hn4 := Lib.hid hn
    have y43 := hx.cell (k := 3) rfl
    clear C4 k kS kQ hx hn
    generalize hia : ((n + z.cnt - 1 : Nat) : Int) = ia at *
    have C5 := Lib.hid (K2.out _ S4 _ _ q4 K4.out HW4.out (by omega))
    go_wp2_with fail
    refine C5.out.mono ?_
    rintro e w5 ⟨rfl, q5, S5, k, kS, kQ⟩
    obtain ⟨hx, hn⟩ := kQ.nbox Hx4.out Hn4.out kS
    have HW5 := Lib.hid (K4.out.to_below kQ HW4.out)
    have HQ5 := Lib.hid (HQ4.out.trans kQ HS4.out)
    have HS5 := Lib.hid (fun b (hb : S5 b) => (kS b hb).elim (HS4.out b) (fun e => (Or.inr (Nat.le_trans HQ4.out.size e) : S b ∨ w.heap.size ≤ b)))
    have K5 := Lib.hid k
    have Hx5 := Lib.hid hx
    have Hn5 := Lib.hid hn
    have y54 := hx.cell (k := 4) rfl
    clear C5 k kS kQ hx hn
    generalize hib : ((n + z.cnt + s.cnt - 1 : Nat) : Int) = ib at *
    have C6 := Lib.hid (Q1.out _ S5 _ _ q5 K5.out HW5.out (by omega))
    go_wp2_with fail
    refine C6.out.mono ?_
    rintro e w6 ⟨rfl, q6, S6, k, kS, kQ⟩
    obtain ⟨hx, hn⟩ := kQ.nbox Hx5.out Hn5.out kS
    have HW6 := Lib.hid (K5.out.to_below kQ HW5.out)
    have HQ6 := Lib.hid (HQ5.out.trans kQ HS5.out)
    have HS6 := Lib.hid (fun b (hb : S6 b) => (kS b hb).elim (HS5.out b) (fun e => (Or.inr (Nat.le_trans HQ5.out.size e) : S b ∨ w.heap.size ≤ b)))
    have K6 := Lib.hid k
    have Hx6 := Lib.hid hx
    have Hn6 := Lib.hid hn
    clear C6 k kS kQ hx hn
    generalize hic : ((n + z.cnt + s.cnt + t.cnt - 1 : Nat) : Int) = ic at *
    have C7 := Lib.hid (CNode K6.out (by omega) 8 0 ia ib ic)
    go_wp2_with fail
    refine C7.out.mono ?_
    rintro e w7 ⟨rfl, k7⟩
    have k7 := CutTo.trans HQ6.out HS6.out k7
    rw [← hia, ← hib, ← hic, show n + z.cnt + s.cnt + t.cnt + 1 = n + (z.cnt + s.cnt + t.cnt + 1) by omega] at k7
    have HT := Lib.hid k7
    clear C7 k7
    go_wp2_with fail
    go_ret
    exact ⟨ret_int (by omega), q6, HT.out⟩
set_option maxHeartbeats 8000000 in
theorem keep_loop {a b : Nat} {z : RE} {x : RS} (hN : NodesAt w0 A0 P n0) (hB : B = w0.heap.size) (hi : i < n0) (h0 : nd P i 0 = 9) (ha : nd P i 2 = a) (hb : nd P i 3 = b) (hx : x.st.ok) (hz : z.ex.ok) (hn : NeedOk P (.slice A0 n0 c0) B r mb w0 i (RS.loop z x).st)
    (har : ∀ x1 x4, AroundOk P (.slice A0 n0 c0) B r mb w0 x1 x4 a b z.ex x.st) (hcp : CopyOk P (.slice A0 n0 c0) B r mb w0 a z.cnt z.lay) (hkb : BlockOk P (.slice A0 n0 c0) B r mb w0 b x) : KeepOk P (.slice A0 n0 c0) B r mb w0 i (.loop z x) := by
  intro w S n o q u h hw hu hcn
  cases hany : ((RS.loop z x).st.need u).2 with
  | false => exact keep_none hn h hw hu hany
  | true =>
    have hneed : (St.loop z.ex x.st).need u = (rise (St.once z.ex x.st) 64 u, true) := by
      have h2 : ((St.loop z.ex x.st).need u).2 = true := hany
      rw [need_loop] at h2 ⊢
      split at h2
      · rename_i e; rw [if_pos e]
      · cases h2
    have hv64 : rise (St.once z.ex x.st) 64 u < 64 := by
      have := need_lt (s := St.loop z.ex x.st) ⟨hz, hx⟩ hu
      rw [hneed] at this
      exact this
    have hcut : (RS.loop z x).cut u = some (.loop z ((x.cut (rise (St.once z.ex x.st) 64 u)).getD .skip)) := by
      have h2 : ((St.loop z.ex x.st).need u).2 = true := hany
      rw [need_loop] at h2
      simp only [RS.cut]
      split at h2
      · rename_i e; rw [if_pos e]
      · cases h2
    rw [hcut]
    simp only [RS.cnt] at hcn
    have C1 := hn w S n o q u h hw hu
    rw [hany] at C1
    have hx1 := RS.cut0_cnt x (rise (St.once z.ex x.st) 64 u)
    have N1 := Lib.hid (fun (x1 x4 : Int) (W : World) (S2 : Nat → Prop) (q2 : List (Nat × Nat)) (hc : CutAt P (.slice A0 n0 c0) B r mb S2 n o q2 W) (hW : Below B w0 W) => har x1 x4 W S2 n o q2 u hc hW hu)
    rw [hneed] at N1
    have K1 := Lib.hid (fun (W : World) (S2 : Nat → Prop) (q2 : List (Nat × Nat)) (hc : CutAt P (.slice A0 n0 c0) B r mb S2 n o q2 W) (hW : Below B w0 W) => (hcp W S2 n o q2 hc hW (by omega) : Calls Tryd.prog _ #[.pointer (some ⟨r, 0, none⟩), .int .i64 a] W _))
    have K2 := Lib.hid (fun (W : World) (S2 : Nat → Prop) (n2 : Nat) (o2 : List Int) (q2 : List (Nat × Nat)) (hc : CutAt P (.slice A0 n0 c0) B r mb S2 n2 o2 q2 W) (hW : Below B w0 W) (hc2 : n2 + x.cnt ≤ 1000) => hkb W S2 n2 o2 q2 _ hc hW hv64 hc2)
    generalize ((RS.loop z x).st.need u).1 = vv at *
    generalize rise (St.once z.ex x.st) 64 u = v at *
    generalize (x.cut v).getD .skip = s at *
    have hp0 := z.pos
    have hp1 := s.pos
    show Calls _ _ _ w fun e w' => e = .returned (.int .i64 ((n + (z.cnt + s.cnt + 1) - 1 : Nat) : Int)) ∧ ∃ q', CutTo P (.slice A0 n0 c0) B r mb S (n + (z.cnt + s.cnt + 1)) (o ++ (RS.loop z s).lay n) q' w w'
    have hlay : o ++ (RS.loop z s).lay n = ((o ++ z.lay n) ++ s.lay (n + z.cnt)) ++ [9, 0, ((n + z.cnt - 1 : Nat) : Int), ((n + z.cnt + s.cnt - 1 : Nat) : Int), 0] := by
      rw [RS.lay]; simp only [List.append_assoc]
    rw [hlay]
    have HC1 := Lib.hid C1
    have HN := Lib.hid hN
    have HW := Lib.hid hw
    have H := Lib.hid h
    have HBe := Lib.hid hB
    clear C1 hn h hw hany hcp hkb har hN hB hcut hlay hneed
    go_enter Tryd.func70, Tryd.ntmps70
    go_wp2_with fail
    refine HC1.out.mono ?_
    rintro e w2 ⟨rfl, q2, ⟨S2, k2, kS2, kQ2⟩, -⟩
    have hw2 := H.out.to_below kQ2 HW.out
    obtain ⟨ba, offa, hA0, p0, p1, p2, p3, p4⟩ := (HN.out.below (B := 0) (HBe.out ▸ hw2)).cells hi
    subst hA0
    rw [h0] at p0
    rw [ha] at p2
    rw [hb] at p3
    have hin := HN.out.small
    have z0 := k2.cell0
    generalize nd P i 1 = x1 at *
    generalize nd P i 4 = x4 at *
    have hb2 := (Below.refl w2.heap.size w2).alloc (Nat.le_refl _) (.cells #[.int .i64 9, .int .i64 x1, .int .i64 (a : Nat), .int .i64 (b : Nat), .int .i64 x4] 51)
    have hx3 := BoxN.new w2 51 #[.int .i64 9, .int .i64 x1, .int .i64 (a : Nat), .int .i64 (b : Nat), .int .i64 x4]
    have Hn3 := Lib.hid (show ¬ S2 w2.heap.size from fun e => Nat.lt_irrefl _ (k2.lt _ e))
    have K3 := Lib.hid (k2.below hb2)
    have HW3 := Lib.hid (hw2.trans (hb2.mono k2.blt))
    have HQ3 := Lib.hid (kQ2.trans (QKeeps.of_below (S := fun _ => False) hb2) (fun b hb => hb.elim))
    have HS3 := Lib.hid kS2
    have Hx3 := Lib.hid hx3
    have y30 := hx3.cell (k := 0) rfl
    have y31 := hx3.cell (k := 1) rfl
    have y32 := hx3.cell (k := 2) rfl
    have y33 := hx3.cell (k := 3) rfl
    have y34 := hx3.cell (k := 4) rfl
    clear HC1 k2 kS2 kQ2 hw2 hb2 hx3
    go_wp2_with fail
    generalize w2.alloc (.cells #[.int .i64 9, .int .i64 x1, .int .i64 (a : Nat), .int .i64 (b : Nat), .int .i64 x4] 51) = w3 at *
    generalize w2.heap.size = b3 at *
    have C4 := Lib.hid (N1.out x1 x4 _ S2 q2 K3.out HW3.out)
    refine C4.out.mono ?_
    rintro e w4 ⟨rfl, q4, ⟨S4, k, kS, kQ⟩, -⟩
    obtain ⟨hx, hn⟩ := kQ.nbox Hx3.out Hn3.out kS
    have HW4 := Lib.hid (K3.out.to_below kQ HW3.out)
    have HQ4 := Lib.hid (HQ3.out.trans kQ HS3.out)
    have HS4 := Lib.hid (fun b (hb : S4 b) => (kS b hb).elim (HS3.out b) (fun e => (Or.inr (Nat.le_trans HQ3.out.size e) : S b ∨ w.heap.size ≤ b)))
    have K4 := Lib.hid k
    have Hx4 := Lib.hid hx
    have Hn4 := Lib.hid hn
    have y42 := hx.cell (k := 2) rfl
    clear C4 k kS kQ hx hn
    have C5 := Lib.hid (K1.out _ S4 q4 K4.out HW4.out)
    go_wp2_with fail
    refine C5.out.mono ?_
    rintro e w5 ⟨rfl, q5, S5, k, kS, kQ⟩
    obtain ⟨hx, hn⟩ := kQ.nbox Hx4.out Hn4.out kS
    have HW5 := Lib.hid (K4.out.to_below kQ HW4.out)
    have HQ5 := Lib.hid (HQ4.out.trans kQ HS4.out)
    have HS5 := Lib.hid (fun b (hb : S5 b) => (kS b hb).elim (HS4.out b) (fun e => (Or.inr (Nat.le_trans HQ4.out.size e) : S b ∨ w.heap.size ≤ b)))
    have K5 := Lib.hid k
    have Hx5 := Lib.hid hx
    have Hn5 := Lib.hid hn
    have y53 := hx.cell (k := 3) rfl
    clear C5 k kS kQ hx hn
    generalize hia : ((n + z.cnt - 1 : Nat) : Int) = ia at *
    have C6 := Lib.hid (K2.out _ S5 _ _ q5 K5.out HW5.out (by omega))
    go_wp2_with fail
    refine C6.out.mono ?_
    rintro e w6 ⟨rfl, q6, S6, k, kS, kQ⟩
    obtain ⟨hx, hn⟩ := kQ.nbox Hx5.out Hn5.out kS
    have HW6 := Lib.hid (K5.out.to_below kQ HW5.out)
    have HQ6 := Lib.hid (HQ5.out.trans kQ HS5.out)
    have HS6 := Lib.hid (fun b (hb : S6 b) => (kS b hb).elim (HS5.out b) (fun e => (Or.inr (Nat.le_trans HQ5.out.size e) : S b ∨ w.heap.size ≤ b)))
    have K6 := Lib.hid k
    have Hx6 := Lib.hid hx
    have Hn6 := Lib.hid hn
    clear C6 k kS kQ hx hn
    generalize hib : ((n + z.cnt + s.cnt - 1 : Nat) : Int) = ib at *
    have C7 := Lib.hid (CNode K6.out (by omega) 9 0 ia ib 0)
    go_wp2_with fail
    refine C7.out.mono ?_
    rintro e w7 ⟨rfl, k7⟩
    have k7 := CutTo.trans HQ6.out HS6.out k7
    rw [← hia, ← hib, show n + z.cnt + s.cnt + 1 = n + (z.cnt + s.cnt + 1) by omega] at k7
    have HT := Lib.hid k7
    clear C7 k7
    go_wp2_with fail
    go_ret
    exact ⟨ret_int (by omega), q6, HT.out⟩
theorem keep_rs (hN : NodesAt w0 A0 P n0) (hB : B = w0.heap.size) (h80 : n0 ≤ 80) {s : RS} (h : IsRS P i s) : i < n0 → KeepOk P (.slice A0 n0 c0) B r mb w0 i s := by
  induction h with
  | @skip i h0 => exact fun hi w S n o q u h hw hu hcn => keep_none (need_st hN hB h80 (.skip h0) hi) h hw hu rfl
  | @set i a x1 x3 x4 x h0 h1 hn hn6 ha h3 h4 la he => exact fun hi => keep_set (a := a) hN hB hi h0 (need_st hN hB h80 (IsRS.set h0 h1 hn hn6 ha h3 h4 la he).is hi) (copy_set hN hB hi h0 h1 ha h3 h4 (copy_re hN hB he (by omega)))
  | @both i a b x y h0 ha hb la lb hx hy iha ihb => exact fun hi => keep_both hN hB hi h0 ha hb hy.is.ok (need_st hN hB h80 (IsRS.both h0 ha hb la lb hx hy).is hi) (need_st hN hB h80 hy.is (by omega)) (iha (by omega)) (ihb (by omega))
  | @ite i a b c z x y h0 ha hb hc la lb lc hz hx hy ihb ihc => exact fun hi => keep_ite hN hB hi h0 ha hb hc (need_st hN hB h80 (IsRS.ite h0 ha hb hc la lb lc hz hx hy).is hi) (copy_re hN hB hz (by omega)) (block_of (ihb (by omega))) (block_of (ihc (by omega)))
  | @loop i a b z x h0 ha hb la lb hz hx ihb => exact fun hi => keep_loop hN hB hi h0 ha hb hx.is.ok hz.is.ok (need_st hN hB h80 (IsRS.loop h0 ha hb la lb hz hx).is hi) (fun x1 x4 => around_of hN hB hx.is.ok (by omega) hz.is (need_st hN hB h80 hx.is (by omega))) (copy_re hN hB hz (by omega)) (block_of (ihb (by omega)))
end
end Go.Proofs.YtdgncngkalgknaaDoor

namespace Go.Proofs.YtdgncngkalgknaaDoor
open Go.RowKit Go.Maps
set_option maxRecDepth 100000
set_option linter.unusedVariables false
/-- What is wrong with a program and a variable. -/
def sliceCode (P : List Int) (n : Nat) (k : Int) : Nat := if progCode P n = 0 then if 0 ≤ k ∧ k ≤ 5 then 0 else 1 else progCode P n
section
variable {P : List Int} {n c : Nat} {A : Option Addr} {w : World} {k : Int}
set_option maxHeartbeats 2000000 in
theorem SCheck_any (h : NodesAt w A P n) : Calls Tryd.prog 45 #[.slice A n c, .int .i64 k] w fun e w' => e = .returned (errVal (sliceCode P n k)) ∧ Below w.heap.size w w' := by
  have HC := PCheck_any (c := c) h
  by_cases hc : progCode P n = 0
  · rw [hc, errVal_zero] at HC
    have HC := Lib.hid HC
    by_cases hk : 0 ≤ k ∧ k ≤ 5
    · have Hs := Lib.hid (show sliceCode P n k = 0 by unfold sliceCode; rw [if_pos hc, if_pos hk])
      have CW := Lib.hid (fun V => Within3_is k 0 5 true V (decide_eq_true hk))
      rw [Hs.out, errVal_zero]
      clear h hc hk
      go_enter Tryd.func45, Tryd.ntmps45
      go_wp2_with (go_at_call 30; with_reducible refine HC.out.mono ?_; rintro e w1 ⟨rfl, hb1⟩)
      refine (CW.out _).mono ?_
      rintro e w2 ⟨rfl, rfl⟩
      go_wp2_with fail
      go_ret
      exact ⟨rfl, hb1⟩
    · have Hs := Lib.hid (show sliceCode P n k = 1 by unfold sliceCode; rw [if_pos hc, if_neg hk])
      have CW := Lib.hid (fun V => Within3_is k 0 5 false V (decide_eq_false hk))
      rw [Hs.out, errVal_pos (by decide)]
      clear h hc hk
      go_enter Tryd.func45, Tryd.ntmps45
      go_wp2_with (go_at_call 30; with_reducible refine HC.out.mono ?_; rintro e w1 ⟨rfl, hb1⟩)
      refine (CW.out _).mono ?_
      rintro e w2 ⟨rfl, rfl⟩
      go_wp2_with fail
      go_ret
      exact ⟨rfl, hb1⟩
  · obtain ⟨q, hq⟩ : ∃ q, progCode P n = q := ⟨_, rfl⟩
    have Hs := Lib.hid (show sliceCode P n k = q by unfold sliceCode; rw [if_neg hc, hq])
    rw [hq] at HC hc
    rw [errVal_pos hc] at HC
    have HC := Lib.hid HC
    rw [Hs.out, errVal_pos hc]
    clear h hc hq
    go_enter Tryd.func45, Tryd.ntmps45
    go_wp2_with (go_at_call 30; with_reducible refine HC.out.mono ?_; rintro e w1 ⟨rfl, hb1⟩)
    go_ret
    exact ⟨rfl, hb1⟩
set_option maxHeartbeats 2000000 in
theorem Cut_bad {q : Nat} (h : NodesAt w A P n) (hq : sliceCode P n k = q) (h0 : q ≠ 0) :
    Calls Tryd.prog 17 #[.slice A n c, .int .i64 k] w fun e w' => e = .returned (.tuple #[.slice none 0 0, .iface 61 (.int .i64 q)]) ∧ Below w.heap.size w w' := by
  have HC := SCheck_any (c := c) (k := k) h
  rw [hq, errVal_pos h0] at HC
  have HC := Lib.hid HC
  clear h hq h0
  go_enter Tryd.func17, Tryd.ntmps17
  go_wp2_with (go_at_call 45; with_reducible refine HC.out.mono ?_; rintro e w1 ⟨rfl, hb1⟩)
  go_ret2
  exact ⟨rfl, hb1⟩
set_option maxHeartbeats 2000000 in
theorem Needs_bad {q : Nat} (h : NodesAt w A P n) (hq : sliceCode P n k = q) (h0 : q ≠ 0) :
    Calls Tryd.prog 25 #[.slice A n c, .int .i64 k] w fun e w' => e = .returned (.tuple #[.int .i64 0, .iface 61 (.int .i64 q)]) ∧ Below w.heap.size w w' := by
  have HC := SCheck_any (c := c) (k := k) h
  rw [hq, errVal_pos h0] at HC
  have HC := Lib.hid HC
  clear h hq h0
  go_enter Tryd.func25, Tryd.ntmps25
  go_wp2_with (go_at_call 45; with_reducible refine HC.out.mono ?_; rintro e w1 ⟨rfl, hb1⟩)
  go_ret2
  exact ⟨rfl, hb1⟩
theorem cut_new (N : Value) (w : World) : CutAt P N w.heap.size (w.heap.size + 1) w.heap.size (fun b => b = w.heap.size ∨ b = w.heap.size + 1) 0 [] [] ((w.alloc (.map #[] 0)).alloc (.cells #[N, .slice none 0 0, .map (some w.heap.size)] 83)) where
  ex := by
    have h := BoxN.new (w.alloc (.map #[] 0)) 83 #[N, .slice none 0 0, .map (some w.heap.size)]
    rw [show (w.alloc (.map #[] 0)).heap.size = w.heap.size + 1 by simp] at h
    exact ⟨.slice none 0 0, h, OwnN.nil _ _, fun g hg => by simp [Value.ownBlock] at hg⟩
  memo := (MemoAt.new P w).keep (((Below.refl _ (w.alloc (.map #[] 0))).alloc (Nat.le_refl _) _).block _ (by simp))
  self := .inr rfl
  map := .inl rfl
  lt := by rintro b (rfl | rfl) <;> simp <;> omega
  low := by rintro b (rfl | rfl) <;> omega
theorem below_two {w : World} (o o' : Obj) : Below w.heap.size w ((w.alloc o).alloc o') := ((Below.refl _ w).alloc (Nat.le_refl _) o).alloc (by simp) o'
set_option maxHeartbeats 4000000 in
theorem Needs_good {k u : Nat} {s : RS} (h : NodesAt w A P (n + 1)) (hc : progCode P (n + 1) = 0) (hs : IsRS P n s) (hk : k < 6) (hu : 2 ^ k = u) :
    Calls Tryd.prog 25 #[.slice A (n + 1) c, .int .i64 k] w fun e w' => e = .returned (.tuple #[.int .i64 ((s.st.need u).1 : Nat), .nilIface]) ∧ Below w.heap.size w w' := by
  have HC := SCheck_any (c := c) (k := k) h
  rw [show sliceCode P (n + 1) k = 0 by unfold sliceCode; rw [if_pos hc, if_pos (by omega)], errVal_zero] at HC
  have HC := Lib.hid HC
  have h80 := (progCode_tree hc).1.2
  have hu64 : u < 64 := by subst hu; exact Nat.pow_lt_pow_right (n := 6) (by decide) hk
  have hsh : IntKind.i64.wrap (2 ^ k) = (u : Int) := by rw [wrap_powS k (by omega), hu]
  have CB := Lib.hid (fun (W : World) (hW : Below w.heap.size w W) => need_st (r := W.heap.size + 1) (mb := W.heap.size) (c0 := c) (h.below (B := 0) hW) rfl h80 hs.is (Nat.lt_succ_self n) _ _ 0 [] [] u (cut_new (P := P) (.slice A (n + 1) c) W) (below_two _ _) hu64)
  have hmm := @run_makeMap Tryd.prog
  generalize (s.st.need u).1 = v at *
  generalize (s.st.need u).2 = fv at *
  clear h hc hs
  go_enter Tryd.func25, Tryd.ntmps25
  go_wp2_with (go_at_call 45; with_reducible refine HC.out.mono ?_; rintro e w1 ⟨rfl, hb1⟩; have C2 := Lib.hid (CB.out w1 hb1))
  refine C2.out.mono ?_
  rintro e w2 ⟨rfl, q2, ⟨S2, k2, kS2, kQ2⟩, -⟩
  have HB := Lib.hid (hb1.trans (((cut_new (P := P) (.slice A (n + 1) c) w1).to_below kQ2 (below_two _ _)).mono hb1.size))
  clear C2 k2 kS2 kQ2 hb1
  go_wp2_with fail
  go_ret2
  exact ⟨rfl, HB.out⟩
set_option maxHeartbeats 4000000 in
theorem Cut_good {k u : Nat} {s : RS} (h : NodesAt w A P (n + 1)) (hc : progCode P (n + 1) = 0) (hs : IsRS P n s) (hk : k < 6) (hu : 2 ^ k = u) :
    Calls Tryd.prog 17 #[.slice A (n + 1) c, .int .i64 k] w fun e w' => (∃ A' c', e = .returned (.tuple #[.slice A' ((s.cut u).getD .skip).cnt c', .nilIface]) ∧ NodesAt w' A' (((s.cut u).getD .skip).lay 0) ((s.cut u).getD .skip).cnt) ∧ Below w.heap.size w w' := by
  have HC := SCheck_any (c := c) (k := k) h
  rw [show sliceCode P (n + 1) k = 0 by unfold sliceCode; rw [if_pos hc, if_pos (by omega)], errVal_zero] at HC
  have HC := Lib.hid HC
  have h80 := (progCode_tree hc).1.2
  have hu64 : u < 64 := by subst hu; exact Nat.pow_lt_pow_right (n := 6) (by decide) hk
  have hsh : IntKind.i64.wrap (2 ^ k) = (u : Int) := by rw [wrap_powS k (by omega), hu]
  have hcn : s.cnt ≤ 80 := by rw [← RS.cnt_st]; exact Nat.le_trans (root_cnt hc hs.is) h80
  have hct := RS.cut0_cnt s u
  have hmm := @run_makeMap Tryd.prog
  have CB := Lib.hid (fun (W : World) (hW : Below w.heap.size w W) => block_of (keep_rs (r := W.heap.size + 1) (mb := W.heap.size) (c0 := c) (h.below (B := 0) hW) rfl h80 hs (Nat.lt_succ_self n)) _ _ 0 [] [] u (cut_new (P := P) (.slice A (n + 1) c) W) (below_two _ _) hu64 (by omega))
  generalize (s.cut u).getD .skip = t at *
  have hl := RS.len t 0
  generalize t.lay 0 = L at *
  clear h hc hs
  go_enter Tryd.func17, Tryd.ntmps17
  go_wp2_with (go_at_call 45; with_reducible refine HC.out.mono ?_; rintro e w1 ⟨rfl, hb1⟩; have C2 := Lib.hid (CB.out w1 hb1))
  refine C2.out.mono ?_
  rintro e w2 ⟨rfl, q2, ⟨S2, k2, kS2, kQ2⟩⟩
  have HB := Lib.hid (hb1.trans (((cut_new (P := P) (.slice A (n + 1) c) w1).to_below kQ2 (below_two _ _)).mono hb1.size))
  rw [Nat.zero_add, List.nil_append] at k2
  obtain ⟨v, hbx, hown, -⟩ := k2.ex
  obtain ⟨A', c', rfl⟩ := hown.form
  have z1 := hbx.cell (k := 1) rfl
  have HNo := Lib.hid (show NodesAt w2 A' L t.cnt from ⟨(CellsAt.own hown.2).ints, hown.1, by omega⟩)
  clear C2 k2 kS2 kQ2 hb1 hbx hown CB HC
  go_wp2_with fail
  go_ret2
  exact ⟨⟨A', c', rfl, HNo.out⟩, HB.out⟩
end
end Go.Proofs.YtdgncngkalgknaaDoor
