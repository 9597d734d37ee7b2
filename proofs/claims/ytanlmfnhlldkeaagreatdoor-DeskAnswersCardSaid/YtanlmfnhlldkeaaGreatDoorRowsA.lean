/-
  Words for slices that a call makes itself and lengthens: a row of its own; 'append' of cells that lie anywhere. No program is looked at, but for the types' rows.
  Words: a block that is known whole; two blocks of different types; what a row of one's own keeps. No program is looked at.
  Contracts, said of all worlds that lie over one. No program is looked at.
  Worlds that differ in certain blocks alone.
  Contract: slices.Clone at ints.
  Words: a slice of sets in memory. No program is looked at, but for the type of ints.
  Contracts: quietwingref1.Bit of any number from 0 on, Pow2, With.
  What is within what, as sets and as numbers.
  Contracts: label.both, Below.
  Words of rows and of what is told; two_pow at 64 bits.
-/
import Derived.Test.YtanlmfnhlldkeaaGreatDoorBaseA
import Derived.Maps.AppendAt
import Derived.Deep.AppendLies
import Derived.OwnWalk
import Derived.Laws.OwnMore
import Derived.Below
import Derived.Laws.AppendOwn
import Derived.RangeFuncOwn
import Derived.Maps.OwnSet
namespace Go.Proofs.YtanlmfnhlldkeaaGreatDoor
open Go.RowKit

/-- Cells that lie behind a slice's address. -/
def CellsAt (w : World) (A : Option Addr) (xs : List Value) : Prop :=
  xs ≠ [] → ∃ b off, A = some ⟨b, off, none⟩ ∧ ∀ j u, xs[j]? = some u → w.cell? ⟨b, off + j, none⟩ = some u
section
variable {w w' : World} {A : Option Addr} {xs : List Value}
theorem CellsAt.nil : CellsAt w A [] := fun h => absurd rfl h
theorem CellsAt.keep (h : CellsAt w A xs) (hk : ∀ p : Addr, p.block < w.heap.size → w'.cell? p = w.cell? p) : CellsAt w' A xs := fun hl => by
  obtain ⟨b, off, hA, hc⟩ := h hl
  refine ⟨b, off, hA, fun j x hx => ?_⟩
  have := hc j x hx
  rw [hk _ (block_lt this)]
  exact this
theorem CellsAt.below (h : CellsAt w A xs) (hb : Below w.heap.size w w') : CellsAt w' A xs := h.keep fun _ hp => hb.cell hp
theorem CellsAt.drewN (h : CellsAt w A xs) (n : Nat) : CellsAt (w.drewN n) A xs := h
theorem CellsAt.drew (h : CellsAt w A xs) : CellsAt w.drew A xs := h
theorem CellsAt.own {base size n c : Nat} {e : TypeId} (h : w.ownsRow base e size (.slice A n c) n xs) : CellsAt w A xs := fun hx => by
  rcases h.2 with ⟨_, h0⟩ | ⟨g, cap, cur, hv, hb, hg, hnc, _, hs, ht⟩
  · have := h.1; rw [h0, Nat.zero_mul] at this; exact absurd (List.length_eq_zero_iff.1 this) hx
  · refine ⟨g, 0, by injection hv, fun j u hj => ?_⟩
    rw [Nat.zero_add, cell_of_row w g j cur e (0, 0) hg]
    rw [← ht, List.getElem?_take] at hj
    split at hj
    · simpa using hj
    · cases hj
theorem IntsAt.cells {l : List Int} (h : IntsAt w A l) : CellsAt w A (l.map (.int .i64)) := fun hx => by
  obtain ⟨b, off, hA, hc⟩ := h (by rintro rfl; simp at hx)
  refine ⟨b, off, hA, fun j u hj => ?_⟩
  rw [List.getElem?_map] at hj
  cases hl : l[j]? with
  | none => rw [hl] at hj; cases hj
  | some x => rw [hl] at hj; injection hj with hj; subst hj; exact hc j x hl
theorem CellsAt.ints {l : List Int} (h : CellsAt w A (l.map (.int .i64))) : IntsAt w A l := fun hx => by
  obtain ⟨b, off, hA, hc⟩ := h (by simpa using hx)
  exact ⟨b, off, hA, fun j x hj => hc j _ (by rw [List.getElem?_map, hj]; rfl)⟩
theorem cellsAt_new (w : World) (t : TypeId) (xs : List Value) : CellsAt (w.alloc (.cells xs.toArray t)) (some ⟨w.heap.size, 0, none⟩) xs := fun _ => by
  refine ⟨w.heap.size, 0, rfl, fun j u hj => ?_⟩
  rw [Nat.zero_add, cell_of_row _ w.heap.size j _ _ _ (heap_alloc_new w _)]
  simpa using hj
end

/-- What the walk wants of a slice's type. -/
structure EInfo (P : Program) (t e : TypeId) (size bytes : Nat) : Prop where
  under : P.underlying t = some (.slice e)
  info : ∃ i z, P.info? e = some i ∧ i.zero = some z ∧ i.size = size ∧ i.bytes = bytes ∧ z.cells.size = size
  pos : 0 < size
theorem EInfo.of {P : Program} {t e : TypeId} {size bytes : Nat} {z : Value} (h : P.underlying t = some (.slice e)) (hi : (P.info? e).map (fun i => (i.zero, i.size, i.bytes)) = some (some z, size, bytes)) (hz : z.cells.size = size) (hp : 0 < size) : EInfo P t e size bytes := by
  obtain ⟨i, h1, h2, h3, h4⟩ := info_parts hi
  exact ⟨h, ⟨i, z, h1, h2, h3, h4, hz⟩, hp⟩
section
variable {P : Program}
theorem run_append_nil (w : World) (base : Nat) (t ty e : TypeId) (i : TypeInfo) (size : Nat) (ht : P.underlying t = some (.slice e)) (hi : P.info? e = some i)
    (v : Value) (n : Nat) (xs : List Value) (hown : w.ownsRow base e size v n xs) (c : Nat) : (Builtin.append_ #[t, t] ty #[v, .slice none 0 c]).run P w = .ok v w := by
  rcases hown.2 with ⟨rfl, rfl⟩ | ⟨g, cap, cur, rfl, _, _, hnc, _⟩
  · simp [Builtin.append_, run_underlying ht, sizeOf, typeInfo, hi, Builtin.lenOf, Builtin.firstCells]
  · simp [Builtin.append_, run_underlying ht, sizeOf, typeInfo, hi, Builtin.lenOf, Builtin.firstCells, hnc, storeCells]
/-- What comes of an append onto a row of one's own. -/
structure Pushed (w w' : World) (base : Nat) (e : TypeId) (size : Nat) (v v' : Value) (n m : Nat) (xs news : List Value) : Prop where
  own : w'.ownsRow base e size v' (n + m) (xs ++ news)
  grew : w.grownBy w' v.ownBlock
  block : v'.ownBlock = v.ownBlock ∨ v'.ownBlock = some w.heap.size
theorem run_append_cells (w : World) {base : Nat} {t e : TypeId} {size bytes : Nat} (ty : TypeId) (E : EInfo P t e size bytes) {v : Value} {n : Nat} {xs : List Value} (hown : w.ownsRow base e size v n xs)
    (A : Option Addr) (m c : Nat) (news : List Value) (hc : CellsAt w A news) (hl : news.length = m * size) (h1 : ∀ u ∈ news, u.oneCell' = true)
    (hbytes : (n + m) * bytes ≤ 140737488355328) (h63 : n + m ≤ 140737488355328) (hbase : base ≤ w.heap.size) :
    ∃ v' w', (Builtin.append_ #[t, t] ty #[v, .slice A m c]).run P w = .ok v' w' ∧ Pushed w w' base e size v v' n m xs news := by
  obtain ⟨i, z, hi, hz, hsize, hby, hzs⟩ := E.info
  cases A with
  | none =>
    have hm : m = 0 := by
      rcases Nat.eq_zero_or_pos m with h0 | h0
      · exact h0
      · have : news ≠ [] := by
          rintro rfl
          have h1 : 0 < m * size := Nat.mul_pos h0 E.pos
          rw [← hl] at h1
          simp at h1
        obtain ⟨b, off, h, _⟩ := hc this
        cases h
    subst hm
    have hn : news = [] := List.eq_nil_of_length_eq_zero (by simpa using hl)
    subst hn
    exact ⟨v, w, run_append_nil w base t ty e i size E.under hi v n xs hown c, ⟨by simpa using hown, World.grownBy.refl w _, .inl rfl⟩⟩
  | some ad =>
    have hcells : ∀ j u, news[j]? = some u → w.cell? (ad.add j) = some u := by
      intro j u hu
      obtain ⟨b, off, h, hc'⟩ := hc (by rintro rfl; simp at hu)
      injection h with h
      subst h
      rw [Addr.add_lit]
      exact hc' j u hu
    obtain ⟨v', w', hrun, h2, h3, _, h5⟩ := run_append_own_at (P := P) w base t ty e i z size bytes E.under hi hz hsize hby hzs E.pos v n xs hown ad m c news hl hcells h1 (by unfold maxLen; omega) hbytes hbase
    exact ⟨v', w', hrun, ⟨h2, h3, h5⟩⟩
theorem wpList_append_cells {w : World} {ops : Array Oper} {rest : List Oper} {o : Oper} {a : Act} {Q : Exit → Act → World → Prop} (hgd : o.guard = none) (s x : Operand) {t : TypeId}
    (ho : o.op = .call { callee := .builtin .append, args := #[s, x], argTypes := #[t, t] })
    {base : Nat} {e : TypeId} {size bytes : Nat} (E : EInfo P t e size bytes) {v : Value} {n : Nat} {xs : List Value} (hs : a.eval s = v) (hown : w.ownsRow base e size v n xs)
    (A : Option Addr) (m c : Nat) (news : List Value) (hx : a.eval x = .slice A m c) (hc : CellsAt w A news) (hl : news.length = m * size) (h1 : ∀ u ∈ news, u.oneCell' = true)
    (hbytes : (n + m) * bytes ≤ 140737488355328) (h63 : n + m ≤ 140737488355328) (hbase : base ≤ w.heap.size)
    (h : ∀ v' w', Pushed w w' base e size v v' n m xs news → wpList P ops Q rest (a.put o.dst v') w') : wpList P ops Q (o :: rest) a w := by
  refine wpList_plain hgd fun _ hK => ?_
  obtain ⟨v', w', hrun, hp⟩ := run_append_cells w o.type E hown A m c news hc hl h1 hbytes h63 hbase
  unfold Oper.wp execOp
  simp only [ho, resolve, invoke, builtin, Sem.run_bind, Sem.run_pure, Result.andThen_ok, List.map_toArray, List.map_cons, List.map_nil, hs, hx, hrun]
  exact hK _ _ (h v' w' hp)
end

section
variable {w w' : World} {base : Nat} {e : TypeId} {size n m : Nat} {v v' : Value} {xs news : List Value}
theorem Pushed.below {w0 : World} (h : Pushed w w' base e size v v' n m xs news) (hown : w.ownsRow base e size v n xs) (hb : Below base w0 w) (hB : base ≤ w.heap.size) : Below base w0 w' :=
  hb.grown h.grew hB (fun k hk => (hown.lt k hk).1)
theorem ownsRow_below {w0 w1 : World} {B : Nat} (h : w0.ownsRow base e size v n xs) (hb : Below B w0 w1) (hB : w0.heap.size ≤ B) : w1.ownsRow base e size v n xs := by
  refine ⟨h.1, ?_⟩
  rcases h.2 with h0 | ⟨g, cap, cur, hv, hg, hc, r⟩
  · exact .inl h0
  · exact .inr ⟨g, cap, cur, hv, hg, (hb.block g (by have := (Array.getElem?_eq_some_iff.1 hc).1; omega)).trans hc, r⟩
/-- The row's value as a slice. -/
theorem ownsRow_form (h : w.ownsRow base e size v n xs) : ∃ A c, v = .slice A n c := by
  rcases h.2 with ⟨rfl, rfl⟩ | ⟨g, cap, cur, rfl, _⟩
  · exact ⟨_, _, rfl⟩
  · exact ⟨_, _, rfl⟩
end

/-- A slice of ints of one's own. -/
def OwnI (w : World) (base : Nat) (v : Value) (xs : List Int) : Prop := w.ownsRow base 3 1 v xs.length (xs.map (.int .i64))
theorem eInts : EInfo Tryz.prog 24 3 1 8 := EInfo.of (z := .int .i64 0) Tryz.underlying24 (by kernel_rfl) rfl (by decide)
section
variable {w w' : World} {base : Nat} {v v' : Value} {xs : List Int}
theorem OwnI.nil (w : World) (base : Nat) : OwnI w base (.slice none 0 0) [] := World.ownsRow_nil w base _ 1
theorem OwnI.below {B : Nat} (h : OwnI w base v xs) (hb : Below B w w') (hB : w.heap.size ≤ B) : OwnI w' base v xs := ownsRow_below h hb hB
theorem OwnI.next (h : OwnI w base v xs) (hb : Below w.heap.size w w') : OwnI w' base v xs := ownsRow_below h hb (Nat.le_refl _)
theorem OwnI.drew (h : OwnI w base v xs) : OwnI w.drew base v xs := h
theorem OwnI.drewN (h : OwnI w base v xs) (n : Nat) : OwnI (w.drewN n) base v xs := h
theorem OwnI.form (h : OwnI w base v xs) : ∃ A c, v = .slice A xs.length c ∧ IntsAt w A xs := by
  have h' : w.ownsRow base 3 1 v xs.length (xs.map (.int .i64)) := h
  obtain ⟨A, c, rfl⟩ := ownsRow_form h'
  exact ⟨A, c, rfl, (CellsAt.own h').ints⟩
theorem OwnI.pushed {k : Int} (h : Pushed w w' base 3 1 v v' xs.length 1 (xs.map (.int .i64)) [.int .i64 k]) : OwnI w' base v' (xs ++ [k]) := by
  have := h.own
  unfold OwnI
  simpa using this
end

/-- 'out = append(out, x)' at ints: x lies in a block of its own. -/
theorem wpList_push_int {w : World} {ops : Array Oper} {rest : List Oper} {o : Oper} {a : Act} {Q : Exit → Act → World → Prop} (hgd : o.guard = none) (s x : Operand)
    (ho : o.op = .call { callee := .builtin .append, args := #[s, x], argTypes := #[24, 24] })
    {base : Nat} {v : Value} {xs : List Int} (hs : a.eval s = v) (hown : OwnI w base v xs) (g : Nat) (k : Int) (hx : a.eval x = .slice (some ⟨g, 0, none⟩) 1 1) (hc : w.cell? ⟨g, 0, none⟩ = some (.int .i64 k))
    (hn : xs.length < 2 ^ 40) (hbase : base ≤ w.heap.size)
    (h : ∀ v' w', OwnI w' base v' (xs ++ [k]) → w.grownBy w' v.ownBlock → (v'.ownBlock = v.ownBlock ∨ v'.ownBlock = some w.heap.size) → (∀ w0, Below base w0 w → Below base w0 w') → wpList Tryz.prog ops Q rest (a.put o.dst v') w') : wpList Tryz.prog ops Q (o :: rest) a w := by
  have hown' : w.ownsRow base 3 1 v xs.length (xs.map (.int .i64)) := hown
  refine wpList_append_cells hgd s x ho eInts hs hown' (some ⟨g, 0, none⟩) 1 1 [.int .i64 k] hx (fun _ => ⟨g, 0, rfl, fun j u hj => ?_⟩) rfl (fun u hu => ?_) (by omega) (by omega) hbase (fun v' w' hp => ?_)
  · match j, hj with
    | 0, hj => simp at hj; subst hj; simpa using hc
    | j + 1, hj => simp at hj
  · simp at hu; subst hu; rfl
  · exact h v' w' (OwnI.pushed hp) hp.grew hp.block fun w0 hb => hp.below hown' hb hbase
/-- The same, at a step of a region that draws. -/
theorem step_push_int {w : World} {ops : Array Oper} {o : Oper} {a : Act} {K : Act → World → Prop} {Q : Exit → Act → World → Prop} {E : Prop} (hgd : o.guard = none) (s x : Operand)
    (ho : o.op = .call { callee := .builtin .append, args := #[s, x], argTypes := #[24, 24] })
    {base : Nat} {v : Value} {xs : List Int} (hs : a.eval s = v) (hown : OwnI w base v xs) (g : Nat) (k : Int) (hx : a.eval x = .slice (some ⟨g, 0, none⟩) 1 1) (hc : w.cell? ⟨g, 0, none⟩ = some (.int .i64 k))
    (hn : xs.length < 2 ^ 40) (hbase : base ≤ w.heap.size)
    (h : ∀ B c w', OwnI w' base (.slice B (xs.length + 1) c) (xs ++ [k]) → IntsAt w' B (xs ++ [k]) → (∀ w0, Below base w0 w → Below base w0 w') → K (a.put o.dst (.slice B (xs.length + 1) c)) w') : if Region.wanted o (yielded ops a.tmps) = true then Oper.wp Tryz.prog o a w K Q else E := by
  have hw : Region.wanted o (yielded ops a.tmps) = true := by simp [Region.wanted, hgd]
  rw [if_pos hw]
  have hown' : w.ownsRow base 3 1 v xs.length (xs.map (.int .i64)) := hown
  have hcells : CellsAt w (some ⟨g, 0, none⟩) [.int .i64 k] := fun _ => ⟨g, 0, rfl, fun j u hj => by
    match j, hj with
    | 0, hj => simp at hj; subst hj; simpa using hc
    | j + 1, hj => simp at hj⟩
  obtain ⟨v', w', hrun, hp⟩ := run_append_cells w o.type eInts hown' (some ⟨g, 0, none⟩) 1 1 [.int .i64 k] hcells rfl (fun u hu => by simp at hu; subst hu; rfl) (by omega) (by omega) hbase
  have hpu := OwnI.pushed hp
  obtain ⟨B, c, rfl, hi⟩ := hpu.form
  have hlen : (xs ++ [k]).length = xs.length + 1 := by simp
  rw [hlen] at hpu
  have := h B c w' hpu hi (fun w0 hb => hp.below hown' hb hbase)
  unfold Oper.wp
  simp only [execOp, ho, resolve, invoke, builtin, Sem.run_bind, Sem.run_pure, Result.andThen_ok, List.map_toArray, List.map_cons, List.map_nil, hs, hx, hrun]
  rw [hlen]
  exact this
end Go.Proofs.YtanlmfnhlldkeaaGreatDoor

set_option linter.unusedVariables false
namespace Go.Proofs.YtanlmfnhlldkeaaGreatDoor
open Go.RowKit

/-- A block that the call itself laid holds just these values. -/
def BoxN (w : World) (b : Nat) (t : TypeId) (vs : Array Value) : Prop := w.heap[b]? = some (.cells vs t (0, 0))
section
variable {w w' : World} {b : Nat} {t : TypeId} {vs : Array Value}
theorem BoxN.cell (h : BoxN w b t vs) {k : Nat} {v : Value} (hv : vs[k]? = some v) : w.cell? ⟨b, k, none⟩ = some v := by
  rw [cell_of_row w b k vs t (0, 0) h]; exact hv
theorem BoxN.free (h : BoxN w b t vs) (k : Nat) : w.frozen? ⟨b, k, none⟩ = false := by
  have h' : w.heap[b]? = some (.cells vs t (0, 0)) := h
  simp [World.frozen?, h']
theorem BoxN.lt (h : BoxN w b t vs) : b < w.heap.size := (Array.getElem?_eq_some_iff.1 h).1
theorem BoxN.below {B : Nat} (h : BoxN w b t vs) (hb : Below B w w') (hB : b < B) : BoxN w' b t vs := (hb.block b hB).trans h
theorem BoxN.all (h : BoxN w b t vs) (hb : Below w.heap.size w w') : BoxN w' b t vs := h.below hb h.lt
theorem BoxN.new (w : World) (t : TypeId) (vs : Array Value) : BoxN (w.alloc (.cells vs t)) w.heap.size t vs := heap_alloc_new w _
theorem BoxN.alloc (h : BoxN w b t vs) (o : Obj) : BoxN (w.alloc o) b t vs := h.all ((Below.refl _ w).alloc (Nat.le_refl _) o)
theorem BoxN.drew (h : BoxN w b t vs) : BoxN w.drew b t vs := h
theorem BoxN.drewN (h : BoxN w b t vs) (n : Nat) : BoxN (w.drewN n) b t vs := h
theorem BoxN.set (h : BoxN w b t vs) (k : Nat) (v : Value) : BoxN (w.setCell ⟨b, k, none⟩ v) b t (vs.setIfInBounds k v) := by
  have h' : w.heap[b]? = some (.cells vs t (0, 0)) := h
  unfold BoxN
  simp [World.setCell, Array.getElem?_modify, h']
theorem BoxN.other (h : BoxN w b t vs) {a : Addr} (hne : b ≠ a.block) (v : Value) : BoxN (w.setCell a v) b t vs := (Below.heap_setCell w a v b hne).trans h
theorem BoxN.own (h : BoxN w b t vs) {row : Option Nat} (hg : w.grownBy w' row) (hr : ∀ r, row = some r → ∃ o : Obj, w.heap[r]? = some o ∧ o.isCells = false) : BoxN w' b t vs :=
  (hg.block b h.lt fun eq => by
    obtain ⟨o, ho, hc⟩ := hr b eq.symm
    have h' : w.heap[b]? = some (.cells vs t (0, 0)) := h
    rw [h'] at ho
    injection ho with ho
    subst ho
    cases hc).trans h
end

section
variable {w w' : World} {g p : Nat} {e t : TypeId} {l : List Value} {vs : Array Value}
theorem OwnAt.ne_box (h : OwnAt w g e l) (hb : BoxN w p t vs) (hne : e ≠ t) : g ≠ p := by
  rintro rfl
  obtain ⟨cur, hg, _⟩ := h
  have hb' : w.heap[g]? = some (.cells vs t (0, 0)) := hb
  rw [hg] at hb'
  injection hb' with hb'
  injection hb' with _ h2
  exact hne h2
theorem OwnAt.far (h : OwnAt w g e l) {a : Addr} (hne : g ≠ a.block) (v : Value) : OwnAt (w.setCell a v) g e l := h.block (Below.heap_setCell w a v g hne)
theorem OwnAt.all (h : OwnAt w g e l) (hb : Below w.heap.size w w') : OwnAt w' g e l := h.below hb h.lt
end

/-- Only blocks of cells of type e have turned, and none has gone. -/
def KeepsT (e : TypeId) (w w' : World) : Prop := ∀ (b : Nat) (cs : Array Value) (t : TypeId) (fz : Nat × Nat), w.heap[b]? = some (Obj.cells cs t fz) → t ≠ e → w'.heap[b]? = some (Obj.cells cs t fz)
section
variable {w w' w'' : World} {e : TypeId}
theorem KeepsT.refl (e : TypeId) (w : World) : KeepsT e w w := fun _ _ _ _ h _ => h
theorem KeepsT.trans (h : KeepsT e w w') (k : KeepsT e w' w'') : KeepsT e w w'' := fun b cs t fz hb ht => k b cs t fz (h b cs t fz hb ht) ht
theorem KeepsT.of_below (h : Below w.heap.size w w') : KeepsT e w w' := fun b cs t fz hb _ => (h.block b (Array.getElem?_eq_some_iff.1 hb).1).trans hb
theorem KeepsT.setCell (h : KeepsT e w w') {g : Nat} {cur : Array Value} {fz : Nat × Nat} (hg : w'.heap[g]? = some (.cells cur e fz)) (k : Nat) (v : Value) : KeepsT e w (w'.setCell ⟨g, k, none⟩ v) := fun b cs t fz' hb ht => by
  have h1 := h b cs t fz' hb ht
  rw [Below.heap_setCell w' ⟨g, k, none⟩ v b (fun e' => ?_)]
  · exact h1
  · subst e'
    rw [hg] at h1
    injection h1 with h1
    injection h1 with _ h2
    exact ht h2.symm
theorem KeepsT.box {b : Nat} {t : TypeId} {vs : Array Value} (h : KeepsT e w w') (hb : BoxN w b t vs) (ht : t ≠ e) : BoxN w' b t vs := h b vs t (0, 0) hb ht
end
end Go.Proofs.YtanlmfnhlldkeaaGreatDoor

namespace Go.Proofs.YtanlmfnhlldkeaaGreatDoor
open Go.RowKit

theorem belowD {B : Nat} {a w : World} (h : Below B a w) (n : Nat) : Below B a (w.drewN n) := ⟨h.os, h.tape, h.output, h.size, h.block⟩
end Go.Proofs.YtanlmfnhlldkeaaGreatDoor

namespace Go.Proofs.YtanlmfnhlldkeaaGreatDoor
open Go.RowKit Go.Maps
set_option linter.unusedVariables false

/-- Nothing has turned but what is in S, and nothing has gone. -/
structure QKeeps (S : Nat → Prop) (w w' : World) : Prop where
  os : w'.os = w.os
  tape : w'.tape = w.tape
  output : w'.output = w.output
  size : w.heap.size ≤ w'.heap.size
  block : ∀ b, b < w.heap.size → ¬ S b → w'.heap[b]? = w.heap[b]?
section
variable {S S' : Nat → Prop} {w w' w'' : World}
theorem QKeeps.refl (S : Nat → Prop) (w : World) : QKeeps S w w := ⟨rfl, rfl, rfl, Nat.le_refl _, fun _ _ _ => rfl⟩
theorem QKeeps.trans (h : QKeeps S w w') (k : QKeeps S' w' w'') (hS : ∀ b, S' b → S b ∨ w.heap.size ≤ b) : QKeeps S w w'' :=
  ⟨k.os.trans h.os, k.tape.trans h.tape, k.output.trans h.output, Nat.le_trans h.size k.size, fun b hb hn => (k.block b (Nat.lt_of_lt_of_le hb h.size) (fun h' => (hS b h').elim hn (fun e => by omega))).trans (h.block b hb hn)⟩
theorem QKeeps.drewN (h : QKeeps S w w') (n : Nat) : QKeeps S w (w'.drewN n) := ⟨h.os, h.tape, h.output, h.size, h.block⟩
theorem QKeeps.of_below (h : Below w.heap.size w w') : QKeeps S w w' := ⟨h.os, h.tape, h.output, h.size, fun b hb _ => h.block b hb⟩
theorem QKeeps.grown {row : Option Nat} (h : QKeeps S w w') (hg : w'.grownBy w'' row) (hr : ∀ g, row = some g → S g ∨ w.heap.size ≤ g) : QKeeps S w w'' :=
  ⟨hg.os.trans h.os, hg.tape.trans h.tape, hg.output.trans h.output, Nat.le_trans h.size hg.size, fun b hb hn => (hg.block b (Nat.lt_of_lt_of_le hb h.size) (fun e => (hr b e.symm).elim hn (fun e => by omega))).trans (h.block b hb hn)⟩
theorem QKeeps.setCell (h : QKeeps S w w') {p : Addr} (hp : S p.block) (v : Value) : QKeeps S w (w'.setCell p v) :=
  ⟨h.os, h.tape, h.output, by simpa using h.size, fun b hb hn => (Below.heap_setCell w' p v b (fun e => hn (by rw [e]; exact hp))).trans (h.block b hb hn)⟩
theorem QKeeps.alloc (h : QKeeps S w w') (o : Obj) : QKeeps S w (w'.alloc o) := h.grown (World.grownBy_alloc w' o none) (fun _ e => by cases e)
theorem QKeeps.to_below {B : Nat} {w0 : World} (h : QKeeps S w w') (hS : ∀ b, S b → B ≤ b) (hb : Below B w0 w) (hB : B ≤ w.heap.size) : Below B w0 w' :=
  ⟨h.os.trans hb.os, h.tape.trans hb.tape, h.output.trans hb.output, Nat.le_trans hb.size h.size, fun k hk => (h.block k (by omega) (fun e => by have := hS k e; omega)).trans (hb.block k hk)⟩
theorem QKeeps.box {b : Nat} {t : TypeId} {vs : Array Value} (h : QKeeps S w w') (hb : BoxN w b t vs) (hn : ¬ S b) : BoxN w' b t vs := (h.block b hb.lt hn).trans hb
theorem QKeeps.row {base size n : Nat} {e : TypeId} {v : Value} {xs : List Value} (h : QKeeps S w w') (hr : w.ownsRow base e size v n xs) (hn : ∀ g, v.ownBlock = some g → ¬ S g) : w'.ownsRow base e size v n xs := by
  refine ⟨hr.1, ?_⟩
  rcases hr.2 with h0 | ⟨g, cap, cur, hv, hg, hc, r⟩
  · exact .inl h0
  · exact .inr ⟨g, cap, cur, hv, hg, (h.block g (Array.getElem?_eq_some_iff.1 hc).1 (hn g (by rw [hv]; rfl))).trans hc, r⟩
end
section
variable {w : World}
end
end Go.Proofs.YtanlmfnhlldkeaaGreatDoor

namespace Go.Proofs.YtanlmfnhlldkeaaGreatDoor
open Go.RowKit
set_option maxRecDepth 100000

end Go.Proofs.YtanlmfnhlldkeaaGreatDoor

namespace Go.Proofs.YtanlmfnhlldkeaaGreatDoor
open Go.RowKit

def castL (r : List Nat) : List Int := r.map Int.ofNat
theorem length_castL (r : List Nat) : (castL r).length = r.length := by simp [castL]
theorem castL_append (p r : List Nat) : castL (p ++ r) = castL p ++ castL r := by simp [castL]
theorem get_castL {r : List Nat} {k : Nat} {x : Int} (h : (castL r)[k]? = some x) : x = ((row r k : Nat) : Int) := by
  unfold castL at h
  rw [List.getElem?_map] at h
  unfold row
  cases hx : r[k]? with
  | none => rw [hx] at h; cases h
  | some y => rw [hx] at h; injection h with h; rw [← h]; rfl
theorem map_set_cast (l : List Nat) (k x : Nat) : (castL (l.set k x)).map (Value.int .i64) = ((castL l).map (Value.int .i64)).set k (.int .i64 (x : Int)) := by
  unfold castL; rw [List.map_set, List.map_set]; rfl
theorem get_cast_val (l : List Nat) (k : Nat) (hk : k < l.length) : ((castL l).map (Value.int .i64))[k]? = some (.int .i64 (row l k : Int)) := by
  unfold castL row; rw [List.getElem?_map, List.getElem?_map, List.getElem?_eq_getElem hk]; rfl
/-- The cell of a set in a slice of sets. -/
theorem IntsAt.row {w : World} {A : Option Addr} {r : List Nat} (h : IntsAt w A (castL r)) {k : Nat} (hk : k < r.length) :
    ∃ b off, A = some ⟨b, off, none⟩ ∧ w.cell? ⟨b, off + k, none⟩ = some (.int .i64 (row r k : Nat)) := by
  obtain ⟨b, off, x, hA, hx, hc⟩ := h.at_ (k := k) (by rw [length_castL]; exact hk)
  have := get_castL hx.out
  subst this
  exact ⟨b, off, hA, hc⟩
theorem OwnAt.other {w : World} {g : Nat} {e : TypeId} {l : List Value} (h : OwnAt w g e l) {a : Addr} (hne : g ≠ a.block) (v : Value) : OwnAt (w.setCell a v) g e l := h.block (Below.heap_setCell w a v g hne)
theorem intInfo : (Tryz.prog.info? 3).map (fun i => (i.zero, i.size, i.bytes)) = some (some (.int .i64 0), 1, 8) := by kernel_rfl
end Go.Proofs.YtanlmfnhlldkeaaGreatDoor

namespace Go.Proofs.YtanlmfnhlldkeaaGreatDoor
open Go.RowKit

theorem add_pow_or (s i : Nat) (hs : s.testBit i = false) : s + 2 ^ i = s ||| 2 ^ i := by
  induction i generalizing s with
  | zero =>
    rw [Nat.testBit_zero] at hs
    have h0 : s % 2 = 0 := by simpa using hs
    refine Nat.eq_of_testBit_eq fun j => ?_
    rw [tb_or]
    cases j with
    | zero => simp [Nat.testBit_zero]; omega
    | succ j =>
      rw [Nat.testBit_succ, Nat.testBit_succ, Nat.testBit_succ]
      have e1 : (s + 2 ^ 0) / 2 = s / 2 := by omega
      rw [e1]; simp
  | succ i ih =>
    rw [Nat.testBit_succ] at hs
    have h := ih (s / 2) hs
    have e : (s + 2 ^ (i + 1)) / 2 = s / 2 + 2 ^ i := by rw [Nat.pow_succ]; omega
    have e2 : (s + 2 ^ (i + 1)) % 2 = s % 2 := by rw [Nat.pow_succ]; omega
    refine Nat.eq_of_testBit_eq fun j => ?_
    rw [tb_or]
    cases j with
    | zero =>
      rw [Nat.testBit_zero, Nat.testBit_zero, e2, tb_pow]
      simp
    | succ j =>
      rw [Nat.testBit_succ, e, h, tb_or, Nat.testBit_succ, tb_pow, tb_pow]
      simp
set_option maxHeartbeats 400000 in
theorem BitW_any (s i : Nat) (w : World) (hs : s < 2 ^ 63) (hi : i < 2 ^ 62) :
    Calls Tryz.prog 128 #[.int .i64 s, .int .i64 i] w fun e w' => e = .returned (.bool (s.testBit i)) ∧ w = w' := by
  go_enter Tryz.func128, Tryz.ntmps128
  go_wp2
  go_loop [0, 5] (fun v k => ∃ j : Nat, j ≤ i ∧ k = .int .i64 j ∧ v = .int .i64 (s / 2 ^ j : Nat)) (fun _ k => i - (intOf k).toNat)
  case atStart => exact ⟨0, Nat.zero_le _, rfl, by simp⟩
  case round =>
    obtain ⟨j, hj, rfl, rfl⟩ := hrel
    have hb : s / 2 ^ j < 2 ^ 63 := Nat.lt_of_le_of_lt (Nat.div_le_self _ _) hs
    generalize hd : s / 2 ^ j = d at *
    have Hd := Lib.hid hd
    clear hd
    by_cases hlt : j < i
    · by_cases hz : d = 0
      · subst hz
        go_wp2
        go_ret
        exact ⟨ret_bool (bit_end s i 0 (bit_zero s i j hj Hd.out)), rfl⟩
      · go_wp2
        refine ⟨⟨j + 1, by omega, by go_num, by rw [div_succ_cast s j d Hd.out]⟩, by simp [intOf]; omega⟩
    · obtain rfl : j = i := by omega
      go_wp2
      go_ret
      exact ⟨ret_bool (bit_end s j d Hd.out), rfl⟩
theorem Pow2_any (n : Nat) (w : World) (hn : n < 60) :
    Calls Tryz.prog 124 #[.int .i64 n] w fun e w' => e = .returned (.int .i64 (2 ^ n : Nat)) ∧ w = w' := by
  have hp : 2 ^ n ≤ 2 ^ 59 := Nat.pow_le_pow_right (by decide) (by omega)
  go_enter Tryz.func124, Tryz.ntmps124
  go_wp2
  go_loop [3, 4] (fun v k => ∃ j : Nat, j ≤ n ∧ k = .int .i64 j ∧ v = .int .i64 (2 ^ j : Nat)) (fun _ k => n - (intOf k).toNat)
  case atStart => exact ⟨0, Nat.zero_le _, rfl, rfl⟩
  case round =>
    obtain ⟨j, hj, rfl, rfl⟩ := hrel
    have hpj : 2 ^ j ≤ 2 ^ n := Nat.pow_le_pow_right (by decide) hj
    have Hs := Lib.hid (show (2 ^ (j + 1) : Nat) = 2 ^ j * 2 from Nat.pow_succ 2 j)
    generalize hd : 2 ^ j = d at *
    have Hd := Lib.hid hd
    clear hd
    by_cases hlt : j < n
    · generalize 2 ^ n = m at *
      go_wp2
      refine ⟨⟨j + 1, by omega, by go_num, by rw [Hs.out]; go_num⟩, by simp [intOf]; omega⟩
    · obtain rfl : j = n := by omega
      clear hpj
      go_wp2
      go_ret
      exact ⟨ret_int (by rw [← Hd.out]; simp), rfl⟩
end Go.Proofs.YtanlmfnhlldkeaaGreatDoor

namespace Go.Proofs.YtanlmfnhlldkeaaGreatDoor
open Go.RowKit

end Go.Proofs.YtanlmfnhlldkeaaGreatDoor

namespace Go.Proofs.YtanlmfnhlldkeaaGreatDoor
open Go.RowKit
set_option maxRecDepth 100000

set_option maxHeartbeats 400000 in
theorem Below_ok (v v' : Int) (s s' : Nat) (w : World) (h : labOk v s) (h' : labOk v' s') :
    Calls Tryz.prog 170 #[.agg #[.int .i64 v, .int .i64 s], .agg #[.int .i64 v', .int .i64 s']] w fun e w' => e = .returned (.tuple #[.bool (decide (v ≤ v') && within s s'), .nilIface]) ∧ Below w.heap.size w w' := by
  have H1 := Lib.hid (fun W => both_ok v s v' s' W h h')
  have hs : s < 2 ^ 62 := by have := h.2.2.2; omega
  have hs' : s' < 2 ^ 62 := by have := h'.2.2.2; omega
  have hd := bits_andNot_nat s s' hs hs'
  have Hz := Lib.hid (diff_zero s s')
  generalize within s s' = b at *
  generalize diff s s' = d at *
  clear h h'
  by_cases hv : v ≤ v'
  · go_enter Tryz.func170, Tryz.ntmps170
    go_wp2_with fail
    refine (H1.out _).mono ?_
    rintro e w1 ⟨rfl, hb1⟩
    obtain ⟨hc, hf⟩ := bcell2 hb1
    go_wp2_with fail
    go_ret2
    refine ⟨?_, (((Below.refl _ w).alloc (Nat.le_refl _) _).alloc (by simp) _).trans (hb1.mono (by simp; omega))⟩
    have e : ((d : Int) == 0) = b := by rw [← Hz.out, Bool.eq_iff_iff, beq_iff_eq, beq_iff_eq]; omega
    simp [hv, ← e]
  · go_enter Tryz.func170, Tryz.ntmps170
    go_wp2_with fail
    refine (H1.out _).mono ?_
    rintro e w1 ⟨rfl, hb1⟩
    obtain ⟨hc, hf⟩ := bcell2 hb1
    go_wp2_with fail
    go_ret2
    refine ⟨?_, (((Below.refl _ w).alloc (Nat.le_refl _) _).alloc (by simp) _).trans (hb1.mono (by simp; omega))⟩
    have e : decide (v ≤ v') = false := by simpa using hv
    rw [e]; rfl
end Go.Proofs.YtanlmfnhlldkeaaGreatDoor

namespace Go.Proofs.YtanlmfnhlldkeaaGreatDoor
open Go.RowKit
set_option linter.unusedVariables false

abbrev vI (l : List Int) : List Value := l.map (Value.int .i64)
theorem OwnAt.gI {w : World} {g : Nat} {l : List Int} (h : OwnAt w g 3 (vI l)) {i : Nat} (hi : i < l.length) : w.cell? ⟨g, i, none⟩ = some (.int .i64 (gI l i)) :=
  h.cell (by rw [List.getElem?_map, get_gI hi]; rfl)
theorem vN_set (l : List Nat) (i x : Nat) : vI (castL (l.set i x)) = (vI (castL l)).set i (.int .i64 (x : Int)) := map_set_cast l i x
theorem OwnAt.row_ {w : World} {g : Nat} {l : List Nat} (h : OwnAt w g 3 (vI (castL l))) {i : Nat} (hi : i < l.length) : w.cell? ⟨g, i, none⟩ = some (.int .i64 (row l i : Nat)) := h.cell (get_cast_val l i hi)
/-- What is told of a user, or a firm. -/
def told (l : List Nat) (u : Int) : Nat := if 0 ≤ u ∧ u < l.length then row l u.toNat else 0
theorem wrap_pow (k : Nat) (h : k < 62) : IntKind.i64.wrap (2 ^ k) = ((2 ^ k : Nat) : Int) := by
  have h0 := two_pow_lt k h
  have h1 : (0 : Int) < 2 ^ k := Int.pow_pos (by decide)
  rw [IntKind.wrap_i64]; push_cast; omega
theorem own_zeros (w : World) (m : Nat) : OwnAt (w.alloc (.cells (madeCells #[Value.int .i64 0] m) 3)) w.heap.size 3 (vI (castL (List.replicate m 0))) := by
  refine ⟨_, heap_alloc_new w _, ?_, ?_⟩
  · simp [castL, vI, ← Array.length_toList, toList_madeCells_one]
  · intro j v hj
    rw [← Array.getElem?_toList, toList_madeCells_one]
    simpa [castL, vI] using hj
/-- Blocks that are spared. -/
def Spares (ok : Nat → Prop) (w w' : World) : Prop := ∀ b, ok b → b < w.heap.size → w'.heap[b]? = w.heap[b]?
theorem Spares.trans {ok : Nat → Prop} {w w' w'' : World} (h : Spares ok w w') (k : Spares ok w' w'') (hs : w.heap.size ≤ w'.heap.size) : Spares ok w w'' := fun b hb hl => (k b hb (by omega)).trans (h b hb hl)
theorem Spares.of_below {ok : Nat → Prop} {w w' : World} (h : Below w.heap.size w w') : Spares ok w w' := fun b _ hl => h.block b hl
theorem OwnI.setOut {w : World} {base : Nat} {v : Value} {xs : List Int} (h : OwnI w base v xs) {a : Addr} (ha : a.block < base) (u : Value) : OwnI (w.setCell a u) base v xs := by
  refine ⟨h.1, ?_⟩
  rcases h.2 with h0 | ⟨g, cap, cur, hv, hb, hc, r⟩
  · exact .inl h0
  · exact .inr ⟨g, cap, cur, hv, hb, (Below.heap_setCell w a u g (by omega)).trans hc, r⟩
end Go.Proofs.YtanlmfnhlldkeaaGreatDoor
