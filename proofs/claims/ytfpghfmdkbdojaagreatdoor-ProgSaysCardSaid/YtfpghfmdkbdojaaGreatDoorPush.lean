/-
  Words for slices that a call makes itself and lengthens: a row of its own; 'append' of cells that lie anywhere. No program is looked at, but for the types' rows.
-/
import Derived.Test.YtfpghfmdkbdojaaGreatDoorBase
import Derived.Maps.AppendAt
import Derived.Deep.AppendLies
import Derived.OwnWalk
import Derived.Laws.OwnMore
namespace Go.Proofs.YtfpghfmdkbdojaaGreatDoor
open Go.RowKit

/-- Cells that lie behind a slice's address. -/
def CellsAt (w : World) (A : Option Addr) (xs : List Value) : Prop :=
  xs ≠ [] → ∃ b off, A = some ⟨b, off, none⟩ ∧ ∀ j u, xs[j]? = some u → w.cell? ⟨b, off + j, none⟩ = some u
section
variable {w w' : World} {A : Option Addr} {xs : List Value}
theorem CellsAt.nil : CellsAt w A [] := fun h => absurd rfl h
theorem CellsAt.keep (h : CellsAt w A xs) (hk : ∀ p : Addr, p.block < w.heap.size → w'.cell? p = w.cell? p) : CellsAt w' A xs := fun hl => by
  obtain ⟨b, off, hA, hc⟩ := h hl
  refine ⟨b, off, hA, fun j x hx => ?_⟩
  have := hc j x hx
  rw [hk _ (block_lt this)]
  exact this
theorem CellsAt.below (h : CellsAt w A xs) (hb : Below w.heap.size w w') : CellsAt w' A xs := h.keep fun _ hp => hb.cell hp
theorem CellsAt.drewN (h : CellsAt w A xs) (n : Nat) : CellsAt (w.drewN n) A xs := h
theorem CellsAt.drew (h : CellsAt w A xs) : CellsAt w.drew A xs := h
theorem CellsAt.own {base size n c : Nat} {e : TypeId} (h : w.ownsRow base e size (.slice A n c) n xs) : CellsAt w A xs := fun hx => by
  rcases h.2 with ⟨_, h0⟩ | ⟨g, cap, cur, hv, hb, hg, hnc, _, hs, ht⟩
  · have := h.1; rw [h0, Nat.zero_mul] at this; exact absurd (List.length_eq_zero_iff.1 this) hx
  · refine ⟨g, 0, by injection hv, fun j u hj => ?_⟩
    rw [Nat.zero_add, cell_of_row w g j cur e (0, 0) hg]
    rw [← ht, List.getElem?_take] at hj
    split at hj
    · simpa using hj
    · cases hj
theorem IntsAt.cells {l : List Int} (h : IntsAt w A l) : CellsAt w A (l.map (.int .i64)) := fun hx => by
  obtain ⟨b, off, hA, hc⟩ := h (by rintro rfl; simp at hx)
  refine ⟨b, off, hA, fun j u hj => ?_⟩
  rw [List.getElem?_map] at hj
  cases hl : l[j]? with
  | none => rw [hl] at hj; cases hj
  | some x => rw [hl] at hj; injection hj with hj; subst hj; exact hc j x hl
theorem CellsAt.ints {l : List Int} (h : CellsAt w A (l.map (.int .i64))) : IntsAt w A l := fun hx => by
  obtain ⟨b, off, hA, hc⟩ := h (by simpa using hx)
  exact ⟨b, off, hA, fun j x hj => hc j _ (by rw [List.getElem?_map, hj]; rfl)⟩
theorem cellsAt_new (w : World) (t : TypeId) (xs : List Value) : CellsAt (w.alloc (.cells xs.toArray t)) (some ⟨w.heap.size, 0, none⟩) xs := fun _ => by
  refine ⟨w.heap.size, 0, rfl, fun j u hj => ?_⟩
  rw [Nat.zero_add, cell_of_row _ w.heap.size j _ _ _ (heap_alloc_new w _)]
  simpa using hj
end

/-- What the walk wants of a slice's type. -/
structure EInfo (P : Program) (t e : TypeId) (size bytes : Nat) : Prop where
  under : P.underlying t = some (.slice e)
  info : ∃ i z, P.info? e = some i ∧ i.zero = some z ∧ i.size = size ∧ i.bytes = bytes ∧ z.cells.size = size
  pos : 0 < size
theorem EInfo.of {P : Program} {t e : TypeId} {size bytes : Nat} {z : Value} (h : P.underlying t = some (.slice e)) (hi : (P.info? e).map (fun i => (i.zero, i.size, i.bytes)) = some (some z, size, bytes)) (hz : z.cells.size = size) (hp : 0 < size) : EInfo P t e size bytes := by
  obtain ⟨i, h1, h2, h3, h4⟩ := info_parts hi
  exact ⟨h, ⟨i, z, h1, h2, h3, h4, hz⟩, hp⟩

section
variable {P : Program}
theorem run_append_nil (w : World) (base : Nat) (t ty e : TypeId) (i : TypeInfo) (size : Nat) (ht : P.underlying t = some (.slice e)) (hi : P.info? e = some i)
    (v : Value) (n : Nat) (xs : List Value) (hown : w.ownsRow base e size v n xs) (c : Nat) : (Builtin.append_ #[t, t] ty #[v, .slice none 0 c]).run P w = .ok v w := by
  rcases hown.2 with ⟨rfl, rfl⟩ | ⟨g, cap, cur, rfl, _, _, hnc, _⟩
  · simp [Builtin.append_, run_underlying ht, sizeOf, typeInfo, hi, Builtin.lenOf, Builtin.firstCells]
  · simp [Builtin.append_, run_underlying ht, sizeOf, typeInfo, hi, Builtin.lenOf, Builtin.firstCells, hnc, storeCells]

/-- What comes of an append onto a row of one's own. -/
structure Pushed (w w' : World) (base : Nat) (e : TypeId) (size : Nat) (v v' : Value) (n m : Nat) (xs news : List Value) : Prop where
  own : w'.ownsRow base e size v' (n + m) (xs ++ news)
  grew : w.grownBy w' v.ownBlock
  block : v'.ownBlock = v.ownBlock ∨ v'.ownBlock = some w.heap.size

theorem run_append_cells (w : World) {base : Nat} {t e : TypeId} {size bytes : Nat} (ty : TypeId) (E : EInfo P t e size bytes) {v : Value} {n : Nat} {xs : List Value} (hown : w.ownsRow base e size v n xs)
    (A : Option Addr) (m c : Nat) (news : List Value) (hc : CellsAt w A news) (hl : news.length = m * size) (h1 : ∀ u ∈ news, u.oneCell' = true)
    (hbytes : (n + m) * bytes ≤ 140737488355328) (h63 : n + m ≤ 140737488355328) (hbase : base ≤ w.heap.size) :
    ∃ v' w', (Builtin.append_ #[t, t] ty #[v, .slice A m c]).run P w = .ok v' w' ∧ Pushed w w' base e size v v' n m xs news := by
  obtain ⟨i, z, hi, hz, hsize, hby, hzs⟩ := E.info
  cases A with
  | none =>
    have hm : m = 0 := by
      rcases Nat.eq_zero_or_pos m with h0 | h0
      · exact h0
      · have : news ≠ [] := by
          rintro rfl
          have h1 : 0 < m * size := Nat.mul_pos h0 E.pos
          rw [← hl] at h1
          simp at h1
        obtain ⟨b, off, h, _⟩ := hc this
        cases h
    subst hm
    have hn : news = [] := List.eq_nil_of_length_eq_zero (by simpa using hl)
    subst hn
    exact ⟨v, w, run_append_nil w base t ty e i size E.under hi v n xs hown c, ⟨by simpa using hown, World.grownBy.refl w _, .inl rfl⟩⟩
  | some ad =>
    have hcells : ∀ j u, news[j]? = some u → w.cell? (ad.add j) = some u := by
      intro j u hu
      obtain ⟨b, off, h, hc'⟩ := hc (by rintro rfl; simp at hu)
      injection h with h
      subst h
      rw [Addr.add_lit]
      exact hc' j u hu
    obtain ⟨v', w', hrun, h2, h3, _, h5⟩ := run_append_own_at (P := P) w base t ty e i z size bytes E.under hi hz hsize hby hzs E.pos v n xs hown ad m c news hl hcells h1 (by unfold maxLen; omega) hbytes hbase
    exact ⟨v', w', hrun, ⟨h2, h3, h5⟩⟩

theorem wpList_append_cells {w : World} {ops : Array Oper} {rest : List Oper} {o : Oper} {a : Act} {Q : Exit → Act → World → Prop} (hgd : o.guard = none) (s x : Operand) {t : TypeId}
    (ho : o.op = .call { callee := .builtin .append, args := #[s, x], argTypes := #[t, t] })
    {base : Nat} {e : TypeId} {size bytes : Nat} (E : EInfo P t e size bytes) {v : Value} {n : Nat} {xs : List Value} (hs : a.eval s = v) (hown : w.ownsRow base e size v n xs)
    (A : Option Addr) (m c : Nat) (news : List Value) (hx : a.eval x = .slice A m c) (hc : CellsAt w A news) (hl : news.length = m * size) (h1 : ∀ u ∈ news, u.oneCell' = true)
    (hbytes : (n + m) * bytes ≤ 140737488355328) (h63 : n + m ≤ 140737488355328) (hbase : base ≤ w.heap.size)
    (h : ∀ v' w', Pushed w w' base e size v v' n m xs news → wpList P ops Q rest (a.put o.dst v') w') : wpList P ops Q (o :: rest) a w := by
  refine wpList_plain hgd fun _ hK => ?_
  obtain ⟨v', w', hrun, hp⟩ := run_append_cells w o.type E hown A m c news hc hl h1 hbytes h63 hbase
  unfold Oper.wp execOp
  simp only [ho, resolve, invoke, builtin, Sem.run_bind, Sem.run_pure, Result.andThen_ok, List.map_toArray, List.map_cons, List.map_nil, hs, hx, hrun]
  exact hK _ _ (h v' w' hp)
end

section
variable {w w' : World} {base : Nat} {e : TypeId} {size n m : Nat} {v v' : Value} {xs news : List Value}
theorem Pushed.below {w0 : World} (h : Pushed w w' base e size v v' n m xs news) (hown : w.ownsRow base e size v n xs) (hb : Below base w0 w) (hB : base ≤ w.heap.size) : Below base w0 w' :=
  hb.grown h.grew hB (fun k hk => (hown.lt k hk).1)
theorem ownsRow_below {w0 w1 : World} {B : Nat} (h : w0.ownsRow base e size v n xs) (hb : Below B w0 w1) (hB : w0.heap.size ≤ B) : w1.ownsRow base e size v n xs := by
  refine ⟨h.1, ?_⟩
  rcases h.2 with h0 | ⟨g, cap, cur, hv, hg, hc, r⟩
  · exact .inl h0
  · exact .inr ⟨g, cap, cur, hv, hg, (hb.block g (by have := (Array.getElem?_eq_some_iff.1 hc).1; omega)).trans hc, r⟩
/-- The row's value as a slice. -/
theorem ownsRow_form (h : w.ownsRow base e size v n xs) : ∃ A c, v = .slice A n c := by
  rcases h.2 with ⟨rfl, rfl⟩ | ⟨g, cap, cur, rfl, _⟩
  · exact ⟨_, _, rfl⟩
  · exact ⟨_, _, rfl⟩
end

/-- A slice of ints of one's own. -/
def OwnI (w : World) (base : Nat) (v : Value) (xs : List Int) : Prop := w.ownsRow base 3 1 v xs.length (xs.map (.int .i64))
theorem eInts : EInfo Tryz.prog 37 3 1 8 := EInfo.of (z := .int .i64 0) Tryz.underlying37 (by kernel_rfl) rfl (by decide)
section
variable {w w' : World} {base : Nat} {v v' : Value} {xs : List Int}
theorem OwnI.nil (w : World) (base : Nat) : OwnI w base (.slice none 0 0) [] := World.ownsRow_nil w base _ 1
theorem OwnI.below {B : Nat} (h : OwnI w base v xs) (hb : Below B w w') (hB : w.heap.size ≤ B) : OwnI w' base v xs := ownsRow_below h hb hB
theorem OwnI.next (h : OwnI w base v xs) (hb : Below w.heap.size w w') : OwnI w' base v xs := ownsRow_below h hb (Nat.le_refl _)
theorem OwnI.drew (h : OwnI w base v xs) : OwnI w.drew base v xs := h
theorem OwnI.drewN (h : OwnI w base v xs) (n : Nat) : OwnI (w.drewN n) base v xs := h
theorem OwnI.form (h : OwnI w base v xs) : ∃ A c, v = .slice A xs.length c ∧ IntsAt w A xs := by
  have h' : w.ownsRow base 3 1 v xs.length (xs.map (.int .i64)) := h
  obtain ⟨A, c, rfl⟩ := ownsRow_form h'
  exact ⟨A, c, rfl, (CellsAt.own h').ints⟩
theorem OwnI.pushed {k : Int} (h : Pushed w w' base 3 1 v v' xs.length 1 (xs.map (.int .i64)) [.int .i64 k]) : OwnI w' base v' (xs ++ [k]) := by
  have := h.own
  unfold OwnI
  simpa using this
theorem OwnI.joined {ys : List Int} (h : Pushed w w' base 3 1 v v' xs.length ys.length (xs.map (.int .i64)) (ys.map (.int .i64))) : OwnI w' base v' (xs ++ ys) := by
  have := h.own
  unfold OwnI
  simpa using this
end

/-- 'out = append(out, x)' at ints: x lies in a block of its own. -/
theorem wpList_push_int {w : World} {ops : Array Oper} {rest : List Oper} {o : Oper} {a : Act} {Q : Exit → Act → World → Prop} (hgd : o.guard = none) (s x : Operand)
    (ho : o.op = .call { callee := .builtin .append, args := #[s, x], argTypes := #[37, 37] })
    {base : Nat} {v : Value} {xs : List Int} (hs : a.eval s = v) (hown : OwnI w base v xs) (g : Nat) (k : Int) (hx : a.eval x = .slice (some ⟨g, 0, none⟩) 1 1) (hc : w.cell? ⟨g, 0, none⟩ = some (.int .i64 k))
    (hn : xs.length < 2 ^ 40) (hbase : base ≤ w.heap.size)
    (h : ∀ v' w', OwnI w' base v' (xs ++ [k]) → w.grownBy w' v.ownBlock → (v'.ownBlock = v.ownBlock ∨ v'.ownBlock = some w.heap.size) → (∀ w0, Below base w0 w → Below base w0 w') → wpList Tryz.prog ops Q rest (a.put o.dst v') w') : wpList Tryz.prog ops Q (o :: rest) a w := by
  have hown' : w.ownsRow base 3 1 v xs.length (xs.map (.int .i64)) := hown
  refine wpList_append_cells hgd s x ho eInts hs hown' (some ⟨g, 0, none⟩) 1 1 [.int .i64 k] hx (fun _ => ⟨g, 0, rfl, fun j u hj => ?_⟩) rfl (fun u hu => ?_) (by omega) (by omega) hbase (fun v' w' hp => ?_)
  · match j, hj with
    | 0, hj => simp at hj; subst hj; simpa using hc
    | j + 1, hj => simp at hj
  · simp at hu; subst hu; rfl
  · exact h v' w' (OwnI.pushed hp) hp.grew hp.block fun w0 hb => hp.below hown' hb hbase

/-- The same, at a step of a region that draws. -/
theorem step_push_int {w : World} {ops : Array Oper} {o : Oper} {a : Act} {K : Act → World → Prop} {Q : Exit → Act → World → Prop} {E : Prop} (hgd : o.guard = none) (s x : Operand)
    (ho : o.op = .call { callee := .builtin .append, args := #[s, x], argTypes := #[37, 37] })
    {base : Nat} {v : Value} {xs : List Int} (hs : a.eval s = v) (hown : OwnI w base v xs) (g : Nat) (k : Int) (hx : a.eval x = .slice (some ⟨g, 0, none⟩) 1 1) (hc : w.cell? ⟨g, 0, none⟩ = some (.int .i64 k))
    (hn : xs.length < 2 ^ 40) (hbase : base ≤ w.heap.size)
    (h : ∀ B c w', OwnI w' base (.slice B (xs.length + 1) c) (xs ++ [k]) → IntsAt w' B (xs ++ [k]) → (∀ w0, Below base w0 w → Below base w0 w') → K (a.put o.dst (.slice B (xs.length + 1) c)) w') : if Region.wanted o (yielded ops a.tmps) = true then Oper.wp Tryz.prog o a w K Q else E := by
  have hw : Region.wanted o (yielded ops a.tmps) = true := by simp [Region.wanted, hgd]
  rw [if_pos hw]
  have hown' : w.ownsRow base 3 1 v xs.length (xs.map (.int .i64)) := hown
  have hcells : CellsAt w (some ⟨g, 0, none⟩) [.int .i64 k] := fun _ => ⟨g, 0, rfl, fun j u hj => by
    match j, hj with
    | 0, hj => simp at hj; subst hj; simpa using hc
    | j + 1, hj => simp at hj⟩
  obtain ⟨v', w', hrun, hp⟩ := run_append_cells w o.type eInts hown' (some ⟨g, 0, none⟩) 1 1 [.int .i64 k] hcells rfl (fun u hu => by simp at hu; subst hu; rfl) (by omega) (by omega) hbase
  have hpu := OwnI.pushed hp
  obtain ⟨B, c, rfl, hi⟩ := hpu.form
  have hlen : (xs ++ [k]).length = xs.length + 1 := by simp
  rw [hlen] at hpu
  have := h B c w' hpu hi (fun w0 hb => hp.below hown' hb hbase)
  unfold Oper.wp
  simp only [execOp, ho, resolve, invoke, builtin, Sem.run_bind, Sem.run_pure, Result.andThen_ok, List.map_toArray, List.map_cons, List.map_nil, hs, hx, hrun]
  rw [hlen]
  exact this
end Go.Proofs.YtfpghfmdkbdojaaGreatDoor
