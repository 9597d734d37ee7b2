/-
  Words for slices of slices of ints (or of structs of ints, laid flat): as a list of lists; and how an argument is read so. No program is looked at.
  Words for rows of ints that a monitor holds and lengthens: each in a block of its own, from any place of it on. No program is looked at, but for the types' rows.
  A kernel as it lies in memory. No program is looked at, but for the types' rows.
  Contracts: kernel.operation.
  Contract: kernel.Check.
-/
import Derived.Test.YtanlmfnhlldkeaaGreatDoorDoorA
import Derived.Deep.Slices
import Derived.Deep.Fields
import Derived.ChangeSame
import Derived.Test.YtanlmfnhlldkeaaGreatDoorRowsA
import Derived.Test.YtanlmfnhlldkeaaGreatDoorKerA
import Derived.Deep.OwnRows
import Derived.Test.YtanlmfnhlldkeaaGreatDoorBaseA
namespace Go.Proofs.YtanlmfnhlldkeaaGreatDoor
open Go.ChangeShapes Go.WideShapes Go.ChangeAt Go.RowKit Go.Deep
set_option maxRecDepth 100000
set_option linter.unusedVariables false

/-- As IntsAt, in a block that is `ok`. -/
def IntsIn (ok : Nat → Prop) (w : World) (A : Option Addr) (l : List Int) : Prop :=
  l ≠ [] → ∃ b off, A = some ⟨b, off, none⟩ ∧ ok b ∧ ∀ j x, l[j]? = some x → w.cell? ⟨b, off + j, none⟩ = some (.int .i64 x)
/-- A slice of slices of things of k ints each. -/
def RowsIn (ok : Nat → Prop) (k : Nat) (w : World) (A : Option Addr) (Ls : List (List Int)) : Prop :=
  Ls ≠ [] → ∃ b off, A = some ⟨b, off, none⟩ ∧ ok b ∧ ∀ (i : Nat) (l : List Int), Ls[i]? = some l → ∃ (Ai : Option Addr) (ni ci : Nat), w.cell? ⟨b, off + i, none⟩ = some (.slice Ai ni ci) ∧ l.length = ni * k ∧ ni ≤ maxLen ∧ IntsIn ok w Ai l
abbrev anyB : Nat → Prop := fun _ => True

section
variable {ok ok' : Nat → Prop} {k : Nat} {w w' : World} {A : Option Addr} {l : List Int} {Ls : List (List Int)}
theorem IntsIn.at_ (h : IntsIn ok w A l) : IntsAt w A l := fun hl => by
  obtain ⟨b, off, e, _, hc⟩ := h hl
  exact ⟨b, off, e, hc⟩
theorem IntsAt.in_ (h : IntsAt w A l) : IntsIn anyB w A l := fun hl => by
  obtain ⟨b, off, e, hc⟩ := h hl
  exact ⟨b, off, e, trivial, hc⟩
theorem IntsIn.nil : IntsIn ok w A [] := fun h => absurd rfl h
theorem IntsIn.keep (h : IntsIn ok w A l) (hk : ∀ b, b < w.heap.size → ok b → w'.heap[b]? = w.heap[b]?) : IntsIn ok w' A l := fun hl => by
  obtain ⟨b, off, e, ho, hc⟩ := h hl
  refine ⟨b, off, e, ho, fun j x hx => ?_⟩
  have h1 := hc j x hx
  exact (World.cell?_of_block (hk b (block_lt h1) ho)).trans h1
theorem IntsIn.mono (h : IntsIn ok w A l) (ho : ∀ b, b < w.heap.size → ok b → ok' b) : IntsIn ok' w A l := fun hl => by
  obtain ⟨b, off, e, hb, hc⟩ := h hl
  obtain ⟨x, r, rfl⟩ : ∃ x r, l = x :: r := by cases l with
    | nil => exact absurd rfl hl
    | cons x r => exact ⟨x, r, rfl⟩
  exact ⟨b, off, e, ho b (block_lt (hc 0 x rfl)) hb, hc⟩
theorem RowsIn.nil : RowsIn ok k w A [] := fun h => absurd rfl h
theorem RowsIn.keep (h : RowsIn ok k w A Ls) (hk : ∀ b, b < w.heap.size → ok b → w'.heap[b]? = w.heap[b]?) : RowsIn ok k w' A Ls := fun hl => by
  obtain ⟨b, off, e, ho, hc⟩ := h hl
  refine ⟨b, off, e, ho, fun i l hi => ?_⟩
  obtain ⟨Ai, ni, ci, h1, h2, h3, h4⟩ := hc i l hi
  exact ⟨Ai, ni, ci, (World.cell?_of_block (hk b (block_lt h1) ho)).trans h1, h2, h3, h4.keep hk⟩
theorem RowsIn.below (h : RowsIn ok k w A Ls) (hb : Below w.heap.size w w') : RowsIn ok k w' A Ls := h.keep fun b h1 _ => hb.block b h1
theorem RowsIn.below2 {w0 : World} (h : RowsIn ok k w0 A Ls) (h0 : Below w0.heap.size w0 w) (hb : Below w.heap.size w w') : RowsIn ok k w' A Ls := h.below (h0.trans (hb.mono h0.size))
theorem RowsIn.get (h : RowsIn ok k w A Ls) {i : Nat} (hi : i < Ls.length) : ∃ (b off : Nat) (Ai : Option Addr) (ni ci : Nat), A = some ⟨b, off, none⟩ ∧ w.cell? ⟨b, off + i, none⟩ = some (.slice Ai ni ci) ∧ (Ls.getD i []).length = ni * k ∧ ni ≤ maxLen ∧ IntsIn ok w Ai (Ls.getD i []) := by
  obtain ⟨b, off, e, _, hc⟩ := h (by rintro rfl; simp at hi)
  obtain ⟨Ai, ni, ci, h1, h2, h3, h4⟩ := hc i (Ls.getD i []) (by rw [List.getD_eq_getElem?_getD, List.getElem?_eq_getElem hi]; rfl)
  exact ⟨b, off, Ai, ni, ci, e, h1, h2, h3, h4⟩
end

section
variable {H : Type} {enc : TypeId × Value → H} {P : Program} {W : World}
/-- What is read of a cell that holds a slice of things of k ints each. -/
def OneRow (P : Program) (enc : TypeId × Value → H) (W : World) (k : Nat) (t : TypeId) : Prop := ∀ (c : Value) (fuel : Nat) (x : DataW H × List MemPlace), DataW.trod enc P W 0 (fun _ => true) true fuel t [c] = some x →
  ∃ (l : List Int) (A : Option Addr) (n cap : Nat), c = .slice A n cap ∧ l.length = n * k ∧ n ≤ maxLen ∧ IntsAt W A l ∧ ∀ x ∈ l, I64 x
theorem structs_of_cell {t e ti : TypeId} {fs : Array Field} {k : Nat} (ht : P.underlying t = some (.slice e)) (he : P.underlying e = some (.struct fs)) (hti : P.underlying ti = some (.int .i64)) (hfs : (List.range fs.size).all (fun i => (fs[i]?.map (·.type)) == some ti) = true)
    (hk : fs.size = k) (hk0 : 0 < k) (hone : oneCellFields P fs = true) (hC : P.cellsOf e = fs.size) : OneRow P enc W k t := by
  intro c fuel x hf
  subst hk
  rcases open_slice_fields ht he hone hC hf with ⟨hcs, _⟩ | ⟨a, len, cap, m, D, Pl, hcs, _, hl, hm, hmm, hx, hi⟩
  · injection hcs with hcs
    exact ⟨[], none, 0, 0, hcs, by simp, by unfold maxLen; omega, IntsAt.nil, fun x hx => by cases hx⟩
  · injection hcs with hcs
    simp only [if_true] at hmm
    subst hmm
    have hcell : ∀ q, q < m * fs.size → ∃ z : Int, W.cell? (a.add q) = some (.int .i64 z) ∧ I64 z := fun q hq => by
      obtain ⟨ys, n', _, _, _, hfd⟩ := hi (q / fs.size) ((Nat.div_lt_iff_lt_mul hk0).2 hq)
      have hr : q % fs.size < fs.size := Nat.mod_lt _ hk0
      have hft := List.all_eq_true.1 hfs (q % fs.size) (List.mem_range.2 hr)
      obtain ⟨f, hf1⟩ : ∃ f, fs[q % fs.size]? = some f := ⟨fs[q % fs.size], Array.getElem?_eq_getElem hr⟩
      rw [hf1] at hft
      have hft : f.type = ti := by simpa using hft
      obtain ⟨v, y, hv, _, hy⟩ := hfd (q % fs.size) f hf1
      rw [hft] at hy
      obtain ⟨z, hz, _, wz⟩ := DataW.trod_int hti hy
      injection hz with hz
      subst hz
      rw [show q / fs.size * fs.size + q % fs.size = q by rw [Nat.mul_comm]; exact Nat.div_add_mod q fs.size] at hv
      exact ⟨z, hv, bounds_i64 wz⟩
    obtain ⟨zs, hzl, hzc, hzI⟩ := ints_of_cells (m * fs.size) hcell
    have hlm : len * fs.size ≤ m * fs.size := Nat.mul_le_mul_right _ hl
    refine ⟨zs.take (len * fs.size), some a, len, m, hcs, by rw [List.length_take, hzl]; omega, by omega, fun hne => ?_, fun x hx => hzI x (List.mem_of_mem_take hx)⟩
    have hpos : 0 < zs.length := by
      have := List.length_pos_iff.2 hne
      rw [List.length_take] at this
      omega
    obtain ⟨b, off, rfl, hc2⟩ := ints_at hzc hpos
    refine ⟨b, off, rfl, fun j x hj => ?_⟩
    rw [List.getElem?_take] at hj
    split at hj
    · have hjl := (List.getElem?_eq_some_iff.1 hj).1
      have := hc2 j hjl
      rw [List.getD, hj] at this
      exact this
    · cases hj
theorem introw_of_cell {t e : TypeId} (ht : P.underlying t = some (.slice e)) (he : P.underlying e = some (.int .i64)) (hc : P.cellsOf e = 1) : OneRow P enc W 1 t := by
  intro c fuel x hf
  rcases open_ints ht he hc hf with ⟨hcs, _⟩ | ⟨a, len, cap, zs, hcs, _, hl, hm, hz, hx, hcell, hwf⟩
  · injection hcs with hcs
    exact ⟨[], none, 0, 0, hcs, by simp, by unfold maxLen; omega, IntsAt.nil, fun x hx => by cases hx⟩
  · injection hcs with hcs
    have hz' : zs.length = cap := by simpa using hz
    refine ⟨zs.take len, some a, len, cap, hcs, by rw [List.length_take]; omega, by omega, fun hne => ?_, fun x hx => bounds_i64 (hwf x (List.mem_of_mem_take hx))⟩
    have hpos : 0 < zs.length := by
      have := List.length_pos_iff.2 hne
      rw [List.length_take] at this
      omega
    obtain ⟨b, off, rfl, hc2⟩ := ints_at hcell hpos
    refine ⟨b, off, rfl, fun j x hj => ?_⟩
    rw [List.getElem?_take] at hj
    split at hj
    · have hjl := (List.getElem?_eq_some_iff.1 hj).1
      have := hc2 j hjl
      rw [List.getD, hj] at this
      exact this
    · cases hj
theorem lists_of {p : Nat → List Int → Prop} : ∀ (n : Nat), (∀ i, i < n → ∃ l, p i l) → ∃ Ls : List (List Int), Ls.length = n ∧ ∀ i l, Ls[i]? = some l → p i l
  | 0, _ => ⟨[], rfl, fun i l h => by simp at h⟩
  | n + 1, h => by
    obtain ⟨Ls, hl, hp⟩ := lists_of n fun i hi => h i (by omega)
    obtain ⟨l, hq⟩ := h n (by omega)
    refine ⟨Ls ++ [l], by simp [hl], fun i m hi => ?_⟩
    rcases Nat.lt_or_ge i Ls.length with h1 | h1
    · rw [List.getElem?_append_left h1] at hi; exact hp i m hi
    · rw [List.getElem?_append_right h1] at hi
      have h2 : i - Ls.length = 0 := by
        have := (List.getElem?_eq_some_iff.1 hi).1
        simp at this; omega
      rw [h2] at hi
      simp at hi
      subst hi
      rw [show i = n by omega]
      exact hq
/-- Slices of slices. -/
theorem rows_of_cell {t q : TypeId} {k : Nat} {c : Value} {fuel : Nat} {x : DataW H × List MemPlace} (ht : P.underlying t = some (.slice q)) (hq : P.cellsOf q = 1) (hrow : OneRow P enc W k q) (hf : DataW.trod enc P W 0 (fun _ => true) true fuel t [c] = some x) :
    ∃ (Ls : List (List Int)) (A : Option Addr) (cap : Nat), c = .slice A Ls.length cap ∧ Ls.length ≤ cap ∧ cap ≤ maxLen ∧ RowsIn anyB k W A Ls ∧ ∀ l ∈ Ls, ∀ x ∈ l, I64 x := by
  rcases open_slice1 ht hq hf with ⟨hcs, _⟩ | ⟨a, len, cap, m, n, V, D, Pl, hcs, _, hl, hm, hmm, hx, hi⟩
  · injection hcs with hcs
    exact ⟨[], none, 0, hcs, by simp, by unfold maxLen; omega, RowsIn.nil, fun x hx => by cases hx⟩
  · injection hcs with hcs
    simp only [if_true] at hmm
    subst hmm
    obtain ⟨Ls, hL, hp⟩ := lists_of (p := fun i l => ∃ (Ai : Option Addr) (ni ci : Nat), W.cell? (a.add i) = some (.slice Ai ni ci) ∧ l.length = ni * k ∧ ni ≤ maxLen ∧ IntsIn anyB W Ai l ∧ ∀ x ∈ l, I64 x) len fun i hil => by
      obtain ⟨h1, h2⟩ := hi i (by omega)
      obtain ⟨l, A, nn, cc, e, h3, h4, h5, h6⟩ := hrow _ _ _ h2
      exact ⟨l, A, nn, cc, by rw [h1, e], h3, h4, h5.in_, h6⟩
    refine ⟨Ls, some a, m, by rw [hL]; exact hcs, by omega, hm, fun hne => ?_, fun l hl x hx => ?_⟩
    · have h0 : 0 < len := by rw [← hL]; exact List.length_pos_iff.2 hne
      obtain ⟨b, off, spot⟩ := a
      have hspot : spot = none := by simpa [Addr.add] using World.cell?_spot (hi 0 (by omega)).1
      subst hspot
      refine ⟨b, off, rfl, trivial, fun i l hil => ?_⟩
      obtain ⟨Ai, ni, ci, h1, h2, h3, h4, _⟩ := hp i l hil
      rw [Go.WideShapes.add_plain] at h1
      exact ⟨Ai, ni, ci, h1, h2, h3, h4⟩
    · obtain ⟨i, hi', he⟩ := List.getElem_of_mem hl
      exact (hp i l (by rw [← he]; exact List.getElem?_eq_getElem hi')).elim fun Ai h => by
        obtain ⟨ni, ci, _, _, _, _, h6⟩ := h
        exact h6 x hx
end
end Go.Proofs.YtanlmfnhlldkeaaGreatDoor

namespace Go.Proofs.YtanlmfnhlldkeaaGreatDoor
open Go.RowKit
set_option maxRecDepth 100000
set_option linter.unusedVariables false

/-- A row of ints in a block to which a role is given. -/
def RowW (role : Nat → Nat) (code : Nat) (w : World) (v : Value) (l : List Int) : Prop :=
  (v = .slice none 0 0 ∧ l = []) ∨ ∃ (g off c : Nat) (cur : Array Value), v = .slice (some ⟨g, off, none⟩) l.length c ∧ l.length ≤ c ∧ c ≤ maxLen ∧ w.heap[g]? = some (.cells cur 3 (0, 0)) ∧ off + c ≤ cur.size ∧ role g = code ∧ ∀ j x, l[j]? = some x → cur[off + j]? = some (.int .i64 x)

/-- From one world to a later one: what has no role stays; no role is lost. -/
structure RoleTo (role : Nat → Nat) (w : World) (role' : Nat → Nat) (w' : World) : Prop where
  os : w'.os = w.os
  tape : w'.tape = w.tape
  output : w'.output = w.output
  size : w.heap.size ≤ w'.heap.size
  keep : ∀ b, b < w.heap.size → role' b = role b
  block : ∀ b, b < w.heap.size → role b = 0 → w'.heap[b]? = w.heap[b]?
section
variable {role role' role'' : Nat → Nat} {w w' w'' : World}
theorem RoleTo.refl (role : Nat → Nat) (w : World) : RoleTo role w role w := ⟨rfl, rfl, rfl, Nat.le_refl _, fun _ _ => rfl, fun _ _ _ => rfl⟩
theorem RoleTo.trans (h : RoleTo role w role' w') (k : RoleTo role' w' role'' w'') : RoleTo role w role'' w'' :=
  ⟨k.os.trans h.os, k.tape.trans h.tape, k.output.trans h.output, Nat.le_trans h.size k.size, fun b hb => (k.keep b (Nat.lt_of_lt_of_le hb h.size)).trans (h.keep b hb), fun b hb h0 => (k.block b (Nat.lt_of_lt_of_le hb h.size) ((h.keep b hb).trans h0)).trans (h.block b hb h0)⟩
theorem RoleTo.below (role : Nat → Nat) (h : Below w.heap.size w w') : RoleTo role w role w' := ⟨h.os, h.tape, h.output, h.size, fun _ _ => rfl, fun b hb _ => h.block b hb⟩
theorem RoleTo.to_below {B : Nat} (h : RoleTo role w role' w') (hB : ∀ b, b < B → role b = 0) (hs : B ≤ w.heap.size) : Below B w w' := ⟨h.os, h.tape, h.output, h.size, fun b hb => h.block b (Nat.lt_of_lt_of_le hb hs) (hB b hb)⟩
theorem RoleTo.setCell (h : RoleTo role w role' w') {a : Addr} (ha : role a.block ≠ 0) (v : Value) : RoleTo role w role' (w'.setCell a v) :=
  ⟨h.os, h.tape, h.output, by simpa using h.size, h.keep, fun b hb h0 => (Below.heap_setCell w' a v b (fun e => ha (e ▸ h0))).trans (h.block b hb h0)⟩
theorem RoleTo.box {p : Nat} {t : TypeId} {vs : Array Value} (h : RoleTo role w role' w') (hb : BoxN w p t vs) (h0 : role p = 0) : BoxN w' p t vs := (h.block p hb.lt h0).trans hb
end

section
variable {role : Nat → Nat} {code : Nat} {w w' : World} {v : Value} {l : List Int}
theorem RowW.nil (role : Nat → Nat) (code : Nat) (w : World) : RowW role code w (.slice none 0 0) [] := .inl ⟨rfl, rfl⟩
theorem RowW.keep {role' : Nat → Nat} (h : RowW role code w v l) (hk : ∀ g, g < w.heap.size → role g = code → w'.heap[g]? = w.heap[g]?) (hr : ∀ g, g < w.heap.size → role' g = role g) : RowW role' code w' v l := by
  rcases h with h | ⟨g, off, c, cur, h1, h2, h3, h4, h5, h6, h7⟩
  · exact .inl h
  · have hg : g < w.heap.size := (Array.getElem?_eq_some_iff.1 h4).1
    exact .inr ⟨g, off, c, cur, h1, h2, h3, (hk g hg h6).trans h4, h5, (hr g hg).trans h6, h7⟩
theorem RowW.form (h : RowW role code w v l) : ∃ A c, v = .slice A l.length c ∧ IntsAt w A l := by
  rcases h with ⟨rfl, rfl⟩ | ⟨g, off, c, cur, rfl, h2, h3, h4, h5, h6, h7⟩
  · exact ⟨none, 0, rfl, IntsAt.nil⟩
  · exact ⟨_, c, rfl, fun _ => ⟨g, off, rfl, fun j x hj => by rw [cell_of_row w g (off + j) cur _ _ h4]; exact h7 j x hj⟩⟩
theorem RowW.cut (h : RowW role code w v l) {m : Int} {r : List Int} (hl : l = m :: r) : ∃ g off c, v = .slice (some ⟨g, off, none⟩) l.length c ∧ l.length ≤ c ∧ role g = code ∧ RowW role code w (.slice (some ⟨g, if c = 1 then off else off + 1, none⟩) (l.length - 1) (c - 1)) r := by
  subst hl
  rcases h with ⟨_, h⟩ | ⟨g, off, c, cur, h1, h2, h3, h4, h5, h6, h7⟩
  · cases h
  · simp only [List.length_cons] at h2 h1 ⊢
    refine ⟨g, off, c, h1, h2, h6, .inr ⟨g, _, c - 1, cur, rfl, by omega, by omega, h4, by split <;> omega, h6, fun j x hj => ?_⟩⟩
    have hjr := (List.getElem?_eq_some_iff.1 hj).1
    rw [if_neg (by omega), show off + 1 + j = off + (j + 1) by omega]
    exact h7 (j + 1) x (by simpa using hj)
end

/-- A row with one more of its own. -/
def rolePut (role : Nat → Nat) (n g code : Nat) : Nat → Nat := fun b => if b < n then role b else if b = g then code else 0

theorem rolePut_new {role : Nat → Nat} {n code b : Nat} (h : n + 1 ≤ b) : rolePut role n n code b = 0 := by unfold rolePut; rw [if_neg (by omega), if_neg (by omega)]
section
variable {role : Nat → Nat} {code : Nat} {w : World} {v : Value} {l : List Int}
/-- 'append(row, x)': in its place, or anew. -/
theorem RowW.push (h : RowW role code w v l) (hl : l.length < 2 ^ 40) (ty : TypeId) (ad : Addr) (x : Int) (c : Nat) (hx : w.cell? ad = some (.int .i64 x)) :
    ∃ v' w' role', (Builtin.append_ #[24, 24] ty #[v, .slice (some ad) 1 c]).run Tryz.prog w = .ok v' w' ∧ RowW role' code w' v' (l ++ [x]) ∧
      (∀ b, b < w.heap.size → role' b = role b) ∧ w.heap.size ≤ w'.heap.size ∧ w'.os = w.os ∧ w'.tape = w.tape ∧ w'.output = w.output ∧ (∀ b, b < w.heap.size → role b ≠ code → w'.heap[b]? = w.heap[b]?) ∧ ((∀ b, w.heap.size ≤ b → role b = 0) → ∀ b, w'.heap.size ≤ b → role' b = 0) := by
  obtain ⟨i, z, hi, hz, hsize, hby, hzs⟩ := eInts.info
  have hnews : ∀ j u, [Value.int .i64 x][j]? = some u → w.cell? (ad.add j) = some u := fun j u hj => by
    match j, hj with
    | 0, hj =>
      simp at hj
      subst hj
      have : ad.add 0 = ad := by unfold Addr.add; split <;> simp_all
      rw [this]; exact hx
    | j + 1, hj => simp at hj
  have hlen1 : (l ++ [x]).length = l.length + 1 := by simp
  have newrow : ∀ (cap : Nat) (zs : Array Value), l.length + 1 ≤ cap → cap ≤ maxLen → (l.map (Value.int .i64)).length + 1 + zs.size = cap → RowW (rolePut role w.heap.size w.heap.size code) code (w.drew.alloc (.cells ((l.map (Value.int .i64)).toArray ++ [Value.int .i64 x].toArray ++ zs) 3)) (.slice (some ⟨w.heap.size, 0, none⟩) (l.length + 1) cap) (l ++ [x]) := fun cap zs h1 h2 h3 => by
    refine .inr ⟨w.heap.size, 0, cap, _, by rw [hlen1], by rw [hlen1]; exact h1, h2, heap_alloc_new w.drew _, ?_, ?_, fun j y hj => ?_⟩
    · simp at h3 ⊢; omega
    · unfold rolePut; rw [if_neg (by omega), if_pos rfl]
    · rw [Nat.zero_add]
      have hjl : j < l.length + 1 := by rw [← hlen1]; exact (List.getElem?_eq_some_iff.1 hj).1
      rw [Array.getElem?_append_left (by simp; omega), List.append_toArray, List.getElem?_toArray]
      have : (l.map (Value.int .i64)) ++ [Value.int .i64 x] = (l ++ [x]).map (Value.int .i64) := by simp
      rw [this, List.getElem?_map, hj]; rfl
  rcases h with ⟨rfl, rfl⟩ | ⟨g, off, cap, cur, rfl, h2, h3, h4, h5, h6, h7⟩
  · have hr := Go.run_append_nil (P := Tryz.prog) w 24 ty 3 i z Tryz.underlying24 hi hz ad 1 c [Value.int .i64 x] (by simp [hsize]) hnews (by omega) (by omega) (by rw [hby]; omega)
    refine ⟨_, _, rolePut role w.heap.size w.heap.size code, hr, ?_, fun b hb => by unfold rolePut; rw [if_pos hb], by simp, rfl, rfl, rfl, fun b hb _ => Below.heap_alloc w.drew _ b hb, fun _ b hb => rolePut_new (by simpa using hb)⟩
    have hge := grownCap_ge w 1 0 3
    have hcm : grownCap w 1 0 3 ≤ maxLen := grownCap_le_maxLen w 1 0 3 (by unfold maxLen; omega)
    have := newrow (grownCap w 1 0 3) (Builtin.zeroCells z.cells (grownCap w 1 0 3 - 1)) (by simpa using hge) hcm (by rw [size_zeroCells, hzs]; simp; omega)
    simpa using this
  · have hcells : ∀ j u, (l.map (Value.int .i64))[j]? = some u → w.cell? ((⟨g, off, none⟩ : Addr).add j) = some u := fun j u hj => by
      rw [List.getElem?_map] at hj
      cases hlj : l[j]? with
      | none => rw [hlj] at hj; cases hj
      | some y =>
        rw [hlj] at hj
        injection hj with hj
        subst hj
        rw [Addr.add_lit, cell_of_row w g (off + j) cur _ _ h4]
        exact h7 j y hlj
    by_cases hroom : l.length + 1 ≤ cap
    · have hf := run_firstCells_some (P := Tryz.prog) w i.size 1 ad 1 c [Value.int .i64 x] (by simp [hsize]) hnews
      have hst := run_storeCells_at Tryz.prog g (off + l.length) 3 [Value.int .i64 x] 0 cur w h4 (by simp; omega) (fun u hu => by simp at hu; subst hu; rfl)
      have hL : 1 ≤ cap - l.length := by omega
      refine ⟨.slice (some ⟨g, off, none⟩) (l.length + 1) cap, w.setRow g (cur.toList.take (off + l.length) ++ [Value.int .i64 x] ++ cur.toList.drop (off + l.length + 1)).toArray, role, ?_, ?_, fun _ _ => rfl, by simp, rfl, rfl, rfl, fun b hb hne => setRow_other w g b _ (fun e => hne (by rw [e]; exact h6)), fun h0 b hb => h0 b (by simpa using hb)⟩
      · rw [hsize] at hf
        simp at hst
        simp [Builtin.append_, run_underlying Tryz.underlying24, sizeOf, typeInfo, hi, Builtin.lenOf, hroom, hf, Addr.add_lit, hsize, hst]
      · refine .inr ⟨g, off, cap, _, by rw [hlen1], by rw [hlen1]; exact hroom, h3, setRow_heap w g cur _ 3 _ h4, ?_, h6, fun j y hj => ?_⟩
        · simp; omega
        · have hjl : j < l.length + 1 := by rw [← hlen1]; exact (List.getElem?_eq_some_iff.1 hj).1
          rw [List.getElem?_toArray]
          rcases Nat.lt_or_ge j l.length with hlt | hge
          · rw [List.getElem?_append_left hlt] at hj
            rw [List.append_assoc, List.getElem?_append_left (by simp; omega), List.getElem?_take_of_lt (by omega), Array.getElem?_toList]
            exact h7 j y hj
          · obtain rfl : j = l.length := by omega
            simp at hj
            subst hj
            rw [List.append_assoc, List.getElem?_append_right (by simp; omega), show off + l.length - (cur.toList.take (off + l.length)).length = 0 by simp; omega]
            rfl
    · have hcm2 : cap < l.length + 1 := by omega
      have hr := run_append_grow (P := Tryz.prog) w 24 ty 3 i z Tryz.underlying24 hi hz ⟨g, off, none⟩ l.length cap (l.map (Value.int .i64)) (by simp [hsize]) hcells ad 1 c [Value.int .i64 x] (by simp [hsize]) hnews hcm2 (by omega) (growslice_fits (by omega) (by rw [hby]; omega))
      refine ⟨_, _, rolePut role w.heap.size w.heap.size code, hr, ?_, fun b hb => by unfold rolePut; rw [if_pos hb], by simp, rfl, rfl, rfl, fun b hb _ => Below.heap_alloc w.drew _ b hb, fun _ b hb => rolePut_new (by simpa using hb)⟩
      have hge := grownCap_ge w (l.length + 1) cap 3
      have hcm : grownCap w (l.length + 1) cap 3 ≤ maxLen := grownCap_le_maxLen w (l.length + 1) cap 3 (by unfold maxLen; omega)
      exact newrow (grownCap w (l.length + 1) cap 3) _ hge hcm (by rw [size_zeroCells, hzs]; simp; omega)
end
end Go.Proofs.YtanlmfnhlldkeaaGreatDoor

namespace Go.Proofs.YtanlmfnhlldkeaaGreatDoor
open Go.RowKit
set_option maxRecDepth 100000
set_option linter.unusedVariables false

/-- Where the slices of a kernel lie. -/
structure KF where
  Ap : Option Addr
  Ao : Option Addr
  At : Option Addr
  cp : Nat
  co : Nat
  ct : Nat
  gp : Nat
  gh : Nat
def PartsAt (role : Nat → Nat) (w : World) (gp n : Nat) (st : Nat → KPlace) : Prop :=
  ∃ f : Nat → Value, w.rowIs gp 76 (n * 6) f ∧ ∀ i, i < n → f (i * 6) = .int .i64 (st i).pc ∧ (∀ r, r < 4 → f (i * 6 + 1 + r) = .int .i64 ((st i).regs r)) ∧ RowW role (4 + 2 * i) w (f (i * 6 + 5)) (st i).shown
def HeldAt (role : Nat → Nat) (w : World) (gh q : Nat) (g : Nat → List Int) : Prop :=
  ∃ f : Nat → Value, w.rowIs gh 24 q f ∧ ∀ j, j < q → RowW role (5 + 2 * j) w (f j) (g j)
def kBox (K : KF) (n q m t : Nat) : Array Value := #[.slice K.Ap n K.cp, .slice K.Ao q K.co, .slice K.At m K.ct, .slice (some ⟨K.gp, 0, none⟩) n n, .slice (some ⟨K.gh, 0, none⟩) q q, .int .i64 t]
/-- The blocks that are only read. -/
def readB (role : Nat → Nat) (lo hi : Nat) : Nat → Prop := fun b => lo ≤ b ∧ b < hi ∧ role b = 0
structure KernAt (role : Nat → Nat) (lo hi : Nat) (w : World) (p : Nat) (K : KF) (L : List (List Int)) (P : List Int) (q : Nat) (T : List Int) (s : KState) (t : Nat) : Prop where
  box : BoxN w p 73 (kBox K L.length q T.length t)
  rp : role p = 1
  rgp : role K.gp = 2
  rgh : role K.gh = 3
  low : ∀ b, b < lo → role b = 0
  new : ∀ b, w.heap.size ≤ b → role b = 0
  size : hi ≤ w.heap.size
  inn : (lo ≤ p ∧ p < hi) ∧ (lo ≤ K.gp ∧ K.gp < hi) ∧ lo ≤ K.gh ∧ K.gh < hi
  parts : PartsAt role w K.gp L.length s.parts
  held : HeldAt role w K.gh q s.held
  progs : RowsIn (readB role lo hi) 3 w K.Ap L
  ports : IntsIn (readB role lo hi) w K.Ao P
  turns : IntsIn (readB role lo hi) w K.At T
  plen : P.length = q * 2

section
variable {role role' : Nat → Nat} {lo hi : Nat} {w w' : World} {p : Nat} {K : KF} {L : List (List Int)} {P : List Int} {q : Nat} {T : List Int} {s : KState} {t : Nat}
theorem RowsIn.mono {ok ok' : Nat → Prop} {k : Nat} {A : Option Addr} {Ls : List (List Int)} (h : RowsIn ok k w A Ls) (ho : ∀ b, b < w.heap.size → ok b → ok' b) : RowsIn ok' k w A Ls := fun hne => by
  obtain ⟨b, off, e, hb, hc⟩ := h hne
  obtain ⟨l0, r, rfl⟩ : ∃ l0 r, Ls = l0 :: r := by cases Ls with
    | nil => exact absurd rfl hne
    | cons x r => exact ⟨x, r, rfl⟩
  obtain ⟨_, _, _, h1, _⟩ := hc 0 l0 rfl
  refine ⟨b, off, e, ho b (block_lt h1) hb, fun i l hi => ?_⟩
  obtain ⟨Ai, ni, ci, h1, h2, h3, h4⟩ := hc i l hi
  exact ⟨Ai, ni, ci, h1, h2, h3, h4.mono ho⟩
theorem PartsAt.keep {gp n : Nat} {st : Nat → KPlace} (h : PartsAt role w gp n st) (hg : w'.heap[gp]? = w.heap[gp]?) (hk : ∀ i, i < n → ∀ g, g < w.heap.size → role g = 4 + 2 * i → w'.heap[g]? = w.heap[g]?) (hr : ∀ g, g < w.heap.size → role' g = role g) : PartsAt role' w' gp n st := by
  obtain ⟨f, h1, h2⟩ := h
  exact ⟨f, h1.of_block hg, fun i hi => ⟨(h2 i hi).1, (h2 i hi).2.1, (h2 i hi).2.2.keep (hk i hi) hr⟩⟩
theorem HeldAt.keep {gh q : Nat} {g : Nat → List Int} (h : HeldAt role w gh q g) (hg : w'.heap[gh]? = w.heap[gh]?) (hk : ∀ j, j < q → ∀ b, b < w.heap.size → role b = 5 + 2 * j → w'.heap[b]? = w.heap[b]?) (hr : ∀ b, b < w.heap.size → role' b = role b) : HeldAt role' w' gh q g := by
  obtain ⟨f, h1, h2⟩ := h
  exact ⟨f, h1.of_block hg, fun j hj => (h2 j hj).keep (hk j hj) hr⟩
theorem readB.of {b : Nat} (hr : ∀ b, b < w.heap.size → role' b = role b) (hb : b < w.heap.size) (h : readB role lo hi b) : readB role' lo hi b := ⟨h.1, h.2.1, (hr b hb).trans h.2.2⟩
/-- What stays where all that it reads stays. -/
theorem KernAt.keep (h : KernAt role lo hi w p K L P q T s t) (hs : w.heap.size ≤ w'.heap.size) (hk : ∀ b, b < w.heap.size → role b ≠ 0 ∨ (lo ≤ b ∧ b < hi) → w'.heap[b]? = w.heap[b]?) (hr : ∀ b, b < w.heap.size → role' b = role b) (hw : ∀ b, w'.heap.size ≤ b → role' b = 0) : KernAt role' lo hi w' p K L P q T s t := by
  have hz := h.size
  have hi' := h.inn
  have rd : ∀ b, b < w.heap.size → readB role lo hi b → w'.heap[b]? = w.heap[b]? := fun b hb ho => hk b hb (.inr ⟨ho.1, ho.2.1⟩)
  refine ⟨(hk p (by omega) (.inr hi'.1)).trans h.box, (hr p (by omega)).trans h.rp, (hr K.gp (by omega)).trans h.rgp, (hr K.gh (by omega)).trans h.rgh, fun b hb => (hr b (by omega)).trans (h.low b hb), hw, by omega, hi', h.parts.keep (hk _ (by omega) (.inr hi'.2.1)) (fun i hi g hg hc => hk g hg (.inl (by omega))) hr, h.held.keep (hk _ (by omega) (.inr hi'.2.2)) (fun i hi g hg hc => hk g hg (.inl (by omega))) hr, ?_, ?_, ?_, h.plen⟩
  · exact ((h.progs.keep rd).mono fun b hb ho => ⟨ho.1, ho.2.1, (hr b (by have := ho.2.1; omega)).trans ho.2.2⟩)
  · exact ((h.ports.keep rd).mono fun b hb ho => ⟨ho.1, ho.2.1, (hr b (by have := ho.2.1; omega)).trans ho.2.2⟩)
  · exact ((h.turns.keep rd).mono fun b hb ho => ⟨ho.1, ho.2.1, (hr b (by have := ho.2.1; omega)).trans ho.2.2⟩)
theorem KernAt.below (h : KernAt role lo hi w p K L P q T s t) (hb : Below w.heap.size w w') : KernAt role lo hi w' p K L P q T s t := h.keep hb.size (fun b h1 _ => hb.block b h1) (fun _ _ => rfl) fun b h1 => h.new b (Nat.le_trans hb.size h1)
/-- Another kernel's run: nothing of this one turns. -/
theorem KernAt.off {r2 r2' : Nat → Nat} (h : KernAt role lo hi w p K L P q T s t) (k : RoleTo r2 w r2' w') (hd : ∀ b, b < w.heap.size → role b ≠ 0 ∨ (lo ≤ b ∧ b < hi) → r2 b = 0) : KernAt role lo hi w' p K L P q T s t :=
  h.keep k.size (fun b hb h1 => k.block b hb (hd b hb h1)) (fun _ _ => rfl) fun b h1 => h.new b (Nat.le_trans k.size h1)

theorem upd_upd {α : Type} (f : Nat → α) (i : Nat) (x y : α) : upd (upd f i x) i y = upd f i y := funext fun j => by unfold upd; split <;> rfl
/-- A word of the kernel is stored where it lies. -/
theorem KernAt.store (h : KernAt role lo hi w p K L P q T s t) {a : Addr} (ha : role a.block ≠ 0) (v : Value) (s' : KState) (t' : Nat) (hb : BoxN (w.setCell a v) p 73 (kBox K L.length q T.length t')) (hp : PartsAt role (w.setCell a v) K.gp L.length s'.parts) (hh : HeldAt role (w.setCell a v) K.gh q s'.held) : KernAt role lo hi (w.setCell a v) p K L P q T s' t' := by
  have rd : ∀ b, b < w.heap.size → readB role lo hi b → (w.setCell a v).heap[b]? = w.heap[b]? := fun b hb ho => Below.heap_setCell w a v b (fun e => ha (e ▸ ho.2.2))
  exact ⟨hb, h.rp, h.rgp, h.rgh, h.low, fun b hb => h.new b (by simpa using hb), by simpa using h.size, h.inn, hp, hh, h.progs.keep rd, h.ports.keep rd, h.turns.keep rd, h.plen⟩
theorem rows_store {code : Nat} {v : Value} {l : List Int} (h : RowW role code w v l) {a : Addr} (ha : role a.block ≠ code) (u : Value) : RowW role code (w.setCell a u) v l :=
  h.keep (fun g _ hg => Below.heap_setCell w a u g (fun e => ha (by rw [← e]; exact hg))) fun _ _ => rfl
theorem PartsAt.setPc {gp n : Nat} {st : Nat → KPlace} (h : PartsAt role w gp n st) (hg : role gp = 2) {i : Nat} (hi : i < n) (pc : Nat) : PartsAt role (w.setCell ⟨gp, i * 6, none⟩ (.int .i64 pc)) gp n (upd st i ⟨pc, (st i).regs, (st i).shown⟩) := by
  obtain ⟨f, h1, h2⟩ := h
  refine ⟨_, h1.set (i * 6) _, fun j hj => ?_⟩
  obtain ⟨a1, a2, a3⟩ := h2 j hj
  have a3' := rows_store a3 (a := ⟨gp, i * 6, none⟩) (by show role gp ≠ _; omega) (.int .i64 pc)
  by_cases e : j = i
  · subst e
    rw [upd_same]
    exact ⟨if_pos rfl, fun r hr => (if_neg (by omega)).trans (a2 r hr), by rw [if_neg (by omega)]; exact a3'⟩
  · rw [upd_other _ _ e]
    exact ⟨(if_neg (by omega)).trans a1, fun r hr => (if_neg (by omega)).trans (a2 r hr), by rw [if_neg (by omega)]; exact a3'⟩
theorem PartsAt.setReg {gp n : Nat} {st : Nat → KPlace} (h : PartsAt role w gp n st) (hg : role gp = 2) {i a : Nat} (hi : i < n) (ha : a < 4) (x : Int) : PartsAt role (w.setCell ⟨gp, i * 6 + 1 + a, none⟩ (.int .i64 x)) gp n (upd st i ⟨(st i).pc, upd (st i).regs a x, (st i).shown⟩) := by
  obtain ⟨f, h1, h2⟩ := h
  refine ⟨_, h1.set (i * 6 + 1 + a) _, fun j hj => ?_⟩
  obtain ⟨a1, a2, a3⟩ := h2 j hj
  have a3' := rows_store a3 (a := ⟨gp, i * 6 + 1 + a, none⟩) (by show role gp ≠ _; omega) (.int .i64 x)
  by_cases e : j = i
  · subst e
    rw [upd_same]
    refine ⟨(if_neg (by omega)).trans a1, fun r hr => ?_, by rw [if_neg (by omega)]; exact a3'⟩
    show _ = Value.int .i64 (upd (st j).regs a x r)
    by_cases e2 : r = a
    · subst e2; rw [upd_same]; exact if_pos rfl
    · rw [upd_other _ _ e2]; exact (if_neg (by omega)).trans (a2 r hr)
  · rw [upd_other _ _ e]
    exact ⟨(if_neg (by omega)).trans a1, fun r hr => (if_neg (by omega)).trans (a2 r hr), by rw [if_neg (by omega)]; exact a3'⟩
theorem PartsAt.setShown {gp n : Nat} {st : Nat → KPlace} (h : PartsAt role w gp n st) (hg : role gp = 2) {i : Nat} (hi : i < n) {v : Value} {l : List Int} (hv : RowW role (4 + 2 * i) w v l) : PartsAt role (w.setCell ⟨gp, i * 6 + 5, none⟩ v) gp n (upd st i ⟨(st i).pc, (st i).regs, l⟩) := by
  obtain ⟨f, h1, h2⟩ := h
  refine ⟨_, h1.set (i * 6 + 5) _, fun j hj => ?_⟩
  obtain ⟨a1, a2, a3⟩ := h2 j hj
  have a3' := rows_store a3 (a := ⟨gp, i * 6 + 5, none⟩) (by show role gp ≠ _; omega) v
  have hv' := rows_store hv (a := ⟨gp, i * 6 + 5, none⟩) (by show role gp ≠ _; omega) v
  by_cases e : j = i
  · subst e
    rw [upd_same]
    exact ⟨(if_neg (by omega)).trans a1, fun r hr => (if_neg (by omega)).trans (a2 r hr), by rw [if_pos rfl]; exact hv'⟩
  · rw [upd_other _ _ e]
    exact ⟨(if_neg (by omega)).trans a1, fun r hr => (if_neg (by omega)).trans (a2 r hr), by rw [if_neg (by omega)]; exact a3'⟩
theorem HeldAt.setRow {gh q : Nat} {g : Nat → List Int} (h : HeldAt role w gh q g) (hg : role gh = 3) {j : Nat} (hj : j < q) {v : Value} {l : List Int} (hv : RowW role (5 + 2 * j) w v l) : HeldAt role (w.setCell ⟨gh, j, none⟩ v) gh q (upd g j l) := by
  obtain ⟨f, h1, h2⟩ := h
  refine ⟨_, h1.set j _, fun i hi => ?_⟩
  have a3' := rows_store (h2 i hi) (a := ⟨gh, j, none⟩) (by show role gh ≠ _; omega) v
  have hv' := rows_store hv (a := ⟨gh, j, none⟩) (by show role gh ≠ _; omega) v
  by_cases e : i = j
  · subst e
    rw [upd_same, if_pos rfl]; exact hv'
  · rw [upd_other _ _ e, if_neg e]; exact a3'
theorem PartsAt.far {gp n : Nat} {st : Nat → KPlace} (h : PartsAt role w gp n st) {a : Addr} (hne : a.block ≠ gp) (hc : role a.block < 4) (v : Value) : PartsAt role (w.setCell a v) gp n st :=
  h.keep (Below.heap_setCell w a v gp (fun e => hne e.symm)) (fun i hi g _ hg => Below.heap_setCell w a v g (fun e => by rw [e] at hg; omega)) fun _ _ => rfl
theorem HeldAt.far {gh q : Nat} {g : Nat → List Int} (h : HeldAt role w gh q g) {a : Addr} (hne : a.block ≠ gh) (hc : role a.block < 5) (v : Value) : HeldAt role (w.setCell a v) gh q g :=
  h.keep (Below.heap_setCell w a v gh (fun e => hne e.symm)) (fun i hi g _ hg => Below.heap_setCell w a v g (fun e => by rw [e] at hg; omega)) fun _ _ => rfl
theorem KernAt.ne (h : KernAt role lo hi w p K L P q T s t) : p ≠ K.gp ∧ p ≠ K.gh ∧ K.gp ≠ K.gh :=
  ⟨fun e => by have h1 := h.rp; have h2 := h.rgp; rw [e] at h1; omega, fun e => by have h1 := h.rp; have h2 := h.rgh; rw [e] at h1; omega, fun e => by have h1 := h.rgp; have h2 := h.rgh; rw [e] at h1; omega⟩
theorem KernAt.setPc (h : KernAt role lo hi w p K L P q T s t) {i : Nat} (hil : i < L.length) (pc : Nat) : KernAt role lo hi (w.setCell ⟨K.gp, i * 6, none⟩ (.int .i64 pc)) p K L P q T (s.place i ⟨pc, (s.parts i).regs, (s.parts i).shown⟩) t :=
  h.store (a := ⟨K.gp, i * 6, none⟩) (by show role K.gp ≠ 0; rw [h.rgp]; decide) _ _ _ (h.box.other (a := ⟨K.gp, i * 6, none⟩) h.ne.1 _) (h.parts.setPc h.rgp hil pc) (h.held.far (a := ⟨K.gp, i * 6, none⟩) h.ne.2.2 (by show role K.gp < 5; rw [h.rgp]; decide) _)
theorem KernAt.setReg (h : KernAt role lo hi w p K L P q T s t) {i a : Nat} (hil : i < L.length) (ha : a < 4) (x : Int) : KernAt role lo hi (w.setCell ⟨K.gp, i * 6 + 1 + a, none⟩ (.int .i64 x)) p K L P q T (s.place i ⟨(s.parts i).pc, upd (s.parts i).regs a x, (s.parts i).shown⟩) t :=
  h.store (a := ⟨K.gp, i * 6 + 1 + a, none⟩) (by show role K.gp ≠ 0; rw [h.rgp]; decide) _ _ _ (h.box.other (a := ⟨K.gp, i * 6 + 1 + a, none⟩) h.ne.1 _) (h.parts.setReg h.rgp hil ha x) (h.held.far (a := ⟨K.gp, i * 6 + 1 + a, none⟩) h.ne.2.2 (by show role K.gp < 5; rw [h.rgp]; decide) _)
theorem KernAt.setShown (h : KernAt role lo hi w p K L P q T s t) {i : Nat} (hil : i < L.length) {v : Value} {l : List Int} (hv : RowW role (4 + 2 * i) w v l) : KernAt role lo hi (w.setCell ⟨K.gp, i * 6 + 5, none⟩ v) p K L P q T (s.place i ⟨(s.parts i).pc, (s.parts i).regs, l⟩) t :=
  h.store (a := ⟨K.gp, i * 6 + 5, none⟩) (by show role K.gp ≠ 0; rw [h.rgp]; decide) _ _ _ (h.box.other (a := ⟨K.gp, i * 6 + 5, none⟩) h.ne.1 _) (h.parts.setShown h.rgp hil hv) (h.held.far (a := ⟨K.gp, i * 6 + 5, none⟩) h.ne.2.2 (by show role K.gp < 5; rw [h.rgp]; decide) _)
theorem KernAt.setHeld (h : KernAt role lo hi w p K L P q T s t) {j : Nat} (hj : j < q) {v : Value} {l : List Int} (hv : RowW role (5 + 2 * j) w v l) : KernAt role lo hi (w.setCell ⟨K.gh, j, none⟩ v) p K L P q T (s.port j l) t :=
  h.store (a := ⟨K.gh, j, none⟩) (by show role K.gh ≠ 0; rw [h.rgh]; decide) _ _ _ (h.box.other (a := ⟨K.gh, j, none⟩) h.ne.2.1 _) (h.parts.far (a := ⟨K.gh, j, none⟩) (fun e => h.ne.2.2 e.symm) (by show role K.gh < 4; rw [h.rgh]; decide) _) (h.held.setRow h.rgh hj hv)
theorem KernAt.setTick (h : KernAt role lo hi w p K L P q T s t) (t' : Nat) : KernAt role lo hi (w.setCell ⟨p, 5, none⟩ (.int .i64 t')) p K L P q T s t' :=
  h.store (a := ⟨p, 5, none⟩) (by show role p ≠ 0; rw [h.rp]; decide) _ _ _ (h.box.set 5 _) (h.parts.far (a := ⟨p, 5, none⟩) h.ne.1 (by show role p < 4; rw [h.rp]; decide) _) (h.held.far (a := ⟨p, 5, none⟩) h.ne.2.1 (by show role p < 5; rw [h.rp]; decide) _)
/-- A row was lengthened, and lies aside. -/
theorem KernAt.pushed {code : Nat} (hc : 4 ≤ code) (h : KernAt role lo hi w p K L P q T s t) (hr : ∀ b, b < w.heap.size → role' b = role b) (hs : w.heap.size ≤ w'.heap.size) (hb : ∀ b, b < w.heap.size → role b ≠ code → w'.heap[b]? = w.heap[b]?) (hw : ∀ b, w'.heap.size ≤ b → role' b = 0) :
    (∀ i, 4 + 2 * i = code → i < L.length → ∀ v l, RowW role' code w' v l → KernAt role' lo hi (w'.setCell ⟨K.gp, i * 6 + 5, none⟩ v) p K L P q T (s.place i ⟨(s.parts i).pc, (s.parts i).regs, l⟩) t) ∧
    (∀ j, 5 + 2 * j = code → j < q → ∀ v l, RowW role' code w' v l → KernAt role' lo hi (w'.setCell ⟨K.gh, j, none⟩ v) p K L P q T (s.port j l) t) := by
  have hz := h.size
  have hin := h.inn
  have r1 := h.rp
  have r2 := h.rgp
  have r3 := h.rgh
  have hne := h.ne
  have rd : ∀ b, b < w.heap.size → readB role lo hi b → w'.heap[b]? = w.heap[b]? := fun b h1 ho => hb b h1 (by rw [ho.2.2]; omega)
  have hbox : BoxN w' p 73 (kBox K L.length q T.length t) := (hb p (by omega) (by omega)).trans h.box
  have c1 : RowsIn (readB role' lo hi) 3 w' K.Ap L := ((h.progs.keep rd).mono fun b hb ho => ⟨ho.1, ho.2.1, (hr b (by have := ho.2.1; omega)).trans ho.2.2⟩)
  have c2 : IntsIn (readB role' lo hi) w' K.Ao P := ((h.ports.keep rd).mono fun b hb ho => ⟨ho.1, ho.2.1, (hr b (by have := ho.2.1; omega)).trans ho.2.2⟩)
  have c3 : IntsIn (readB role' lo hi) w' K.At T := ((h.turns.keep rd).mono fun b hb ho => ⟨ho.1, ho.2.1, (hr b (by have := ho.2.1; omega)).trans ho.2.2⟩)
  have q2 : role' K.gp = 2 := (hr _ (by omega)).trans r2
  have q3 : role' K.gh = 3 := (hr _ (by omega)).trans r3
  have q1 : role' p = 1 := (hr _ (by omega)).trans r1
  have low : ∀ b, b < lo → role' b = 0 := fun b hb => (hr b (by omega)).trans (h.low b hb)
  have rset : ∀ (a : Addr) (v : Value), role' a.block ≠ 0 → (∀ b, readB role' lo hi b → (w'.setCell a v).heap[b]? = w'.heap[b]?) := fun a v ha b ho => Below.heap_setCell w' a v b (fun e => ha (e ▸ ho.2.2))
  obtain ⟨f, f1, f2⟩ := h.parts
  obtain ⟨g, g1, g2⟩ := h.held
  have f1' := f1.of_block (hb K.gp (by omega) (by omega))
  have g1' := g1.of_block (hb K.gh (by omega) (by omega))
  constructor
  · rintro i rfl hi v l hv
    have hset := rset ⟨K.gp, i * 6 + 5, none⟩ v (by show role' K.gp ≠ 0; omega)
    refine ⟨hbox.other (a := ⟨K.gp, i * 6 + 5, none⟩) hne.1 v, q1, q2, q3, low, fun b hb => hw b (by simpa using hb), by simp; omega, hin, ⟨_, f1'.set (i * 6 + 5) v, fun j hj => ?_⟩, ⟨_, g1'.setOther (a := ⟨K.gp, i * 6 + 5, none⟩) (fun e => hne.2.2 e.symm) v, fun j hj => ?_⟩, c1.keep fun b _ => hset b, c2.keep fun b _ => hset b, c3.keep fun b _ => hset b, h.plen⟩
    · obtain ⟨a1, a2, a3⟩ := f2 j hj
      by_cases e : j = i
      · subst e
        show _ = Value.int .i64 (upd s.parts j _ j).pc ∧ (∀ r, r < 4 → _ = Value.int .i64 ((upd s.parts j _ j).regs r)) ∧ RowW _ _ _ _ (upd s.parts j _ j).shown
        rw [upd_same]
        exact ⟨(if_neg (by omega)).trans a1, fun r hr => (if_neg (by omega)).trans (a2 r hr), by rw [if_pos rfl]; exact rows_store hv (a := ⟨K.gp, j * 6 + 5, none⟩) (by show role' K.gp ≠ _; omega) v⟩
      · show _ = Value.int .i64 (upd s.parts i _ j).pc ∧ (∀ r, r < 4 → _ = Value.int .i64 ((upd s.parts i _ j).regs r)) ∧ RowW _ _ _ _ (upd s.parts i _ j).shown
        rw [upd_other _ _ e]
        exact ⟨(if_neg (by omega)).trans a1, fun r hr => (if_neg (by omega)).trans (a2 r hr), by rw [if_neg (by omega)]; exact rows_store (a3.keep (fun b hb1 hc1 => hb b hb1 (by omega)) hr) (a := ⟨K.gp, i * 6 + 5, none⟩) (by show role' K.gp ≠ _; omega) v⟩
    · exact rows_store ((g2 j hj).keep (fun b hb1 hc1 => hb b hb1 (by omega)) hr) (a := ⟨K.gp, i * 6 + 5, none⟩) (by show role' K.gp ≠ _; omega) v
  · rintro j rfl hj v l hv
    have hset := rset ⟨K.gh, j, none⟩ v (by show role' K.gh ≠ 0; omega)
    refine ⟨hbox.other (a := ⟨K.gh, j, none⟩) hne.2.1 v, q1, q2, q3, low, fun b hb => hw b (by simpa using hb), by simp; omega, hin, ⟨_, f1'.setOther (a := ⟨K.gh, j, none⟩) hne.2.2 v, fun i hi => ?_⟩, ⟨_, g1'.set j v, fun i hi => ?_⟩, c1.keep fun b _ => hset b, c2.keep fun b _ => hset b, c3.keep fun b _ => hset b, h.plen⟩
    · obtain ⟨a1, a2, a3⟩ := f2 i hi
      exact ⟨a1, a2, rows_store (a3.keep (fun b hb1 hc1 => hb b hb1 (by omega)) hr) (a := ⟨K.gh, j, none⟩) (by show role' K.gh ≠ _; omega) v⟩
    · by_cases e : i = j
      · subst e
        show RowW _ _ _ _ (upd s.held i _ i)
        rw [upd_same, if_pos rfl]; exact rows_store hv (a := ⟨K.gh, i, none⟩) (by show role' K.gh ≠ _; omega) v
      · show RowW _ _ _ _ (upd s.held j _ i)
        rw [upd_other _ _ e, if_neg e]; exact rows_store ((g2 i hi).keep (fun b hb1 hc1 => hb b hb1 (by omega)) hr) (a := ⟨K.gh, j, none⟩) (by show role' K.gh ≠ _; omega) v
/-- A part's words. -/
theorem KernAt.part (h : KernAt role lo hi w p K L P q T s t) {i : Nat} (hi : i < L.length) : w.cell? ⟨K.gp, i * 6, none⟩ = some (.int .i64 (s.parts i).pc) ∧ (∀ r, r < 4 → w.cell? ⟨K.gp, i * 6 + 1 + r, none⟩ = some (.int .i64 ((s.parts i).regs r))) ∧ (∃ v, w.cell? ⟨K.gp, i * 6 + 5, none⟩ = some v ∧ RowW role (4 + 2 * i) w v (s.parts i).shown) ∧ ∀ k, w.frozen? ⟨K.gp, k, none⟩ = false := by
  obtain ⟨f, h1, h2⟩ := h.parts
  obtain ⟨a1, a2, a3⟩ := h2 i hi
  exact ⟨by rw [h1.cell (by omega), a1], fun r hr => by rw [h1.cell (by omega), a2 r hr], ⟨_, h1.cell (by omega), a3⟩, fun k => h1.frozen k⟩
theorem KernAt.port (h : KernAt role lo hi w p K L P q T s t) {j : Nat} (hj : j < q) : (∃ v, w.cell? ⟨K.gh, j, none⟩ = some v ∧ RowW role (5 + 2 * j) w v (s.held j)) ∧ ∀ k, w.frozen? ⟨K.gh, k, none⟩ = false := by
  obtain ⟨f, h1, h2⟩ := h.held
  exact ⟨⟨_, h1.cell hj, h2 j hj⟩, fun k => h1.frozen k⟩
end
end Go.Proofs.YtanlmfnhlldkeaaGreatDoor

namespace Go.Proofs.YtanlmfnhlldkeaaGreatDoor
open Go.RowKit
set_option maxRecDepth 100000
set_option linter.unusedVariables false

theorem reg_is (n : Int) (b : Bool) (w : World) (hb : okReg n = b) : Calls Tryz.prog 78 #[.int .i64 n] w fun e w' => e = .returned (.bool b) ∧ w = w' := by
  have H := Lib.hid (Within3_is n 0 3 b w hb)
  clear hb
  go_enter Tryz.func78, Tryz.ntmps78
  go_wp2_with (with_reducible refine H.out.mono ?_; rintro e w' ⟨rfl, rfl⟩)
  go_ret
  exact ⟨rfl, rfl⟩

/-- A port's two numbers, as they lie. -/
theorem port_cells {ok : Nat → Prop} {w : World} {A : Option Addr} {P : List Int} {q : Nat} (h : IntsIn ok w A P) (hl : P.length = q * 2) {i : Nat} (hi : i < q) :
    ∃ b off, A = some ⟨b, off, none⟩ ∧ w.cell? ⟨b, off + i * 2, none⟩ = some (.int .i64 (nI P (2 * i))) ∧ w.cell? ⟨b, off + i * 2 + 1, none⟩ = some (.int .i64 (nI P (2 * i + 1))) := by
  obtain ⟨b, off, e, _, hc⟩ := h (by rintro rfl; simp at hl; omega)
  have hg : ∀ j, j < P.length → P[j]? = some (nI P j) := fun j hj => by unfold nI; rw [List.getD_eq_getElem?_getD, List.getElem?_eq_getElem hj]; rfl
  refine ⟨b, off, e, ?_, ?_⟩
  · have := hc (2 * i) _ (hg _ (by omega))
    rwa [show off + 2 * i = off + i * 2 by omega] at this
  · have := hc (2 * i + 1) _ (hg _ (by omega))
    rwa [show off + (2 * i + 1) = off + i * 2 + 1 by omega] at this

theorem cell_lift2 {w : World} {b o : Nat} {v : Value} (h : w.cell? ⟨b, o, none⟩ = some v) (x y : Obj) : ((w.alloc x).alloc y).cell? ⟨b, o, none⟩ = some v := by
  have hlt := block_lt h
  exact ((((Below.refl w.heap.size w).alloc (Nat.le_refl _) x).alloc (by simp) y).cell (p := ⟨b, o, none⟩) hlt).trans h
def opBad (P : List Int) (part : Nat) (k b : Int) : Bool := decide (k = 2 ∧ nI P (2 * b.toNat) ≠ part ∨ k = 3 ∧ nI P (2 * b.toNat + 1) ≠ part)
theorem opCode_eq (P : List Int) (q part : Nat) (k a b : Int) : opCode P q part k a b = if opOk q k a b = false then 1 else if opBad P part k b = true then 7 else 0 := by
  unfold opCode opBad
  split
  · rfl
  · by_cases h : k = 2 ∧ nI P (2 * b.toNat) ≠ part ∨ k = 3 ∧ nI P (2 * b.toNat + 1) ≠ part
    · rw [if_pos h, if_pos (decide_eq_true h)]
    · rw [if_neg h, if_neg (by simpa using h)]

theorem two_boxes (w : World) (a b : Obj) : Below w.heap.size w ((w.alloc a).alloc b) := ((Below.refl _ _).alloc (Nat.le_refl _) _).alloc (by simp) _

set_option maxHeartbeats 4000000 in
theorem operation_any {ok : Nat → Prop} {w : World} {Ap Ao At : Option Addr} {P : List Int} {q n m cp co ct : Nat} (hP : IntsIn ok w Ao P) (hl : P.length = q * 2) (hq : q ≤ maxLen) (part : Nat) (k a b : Int) :
    Calls Tryz.prog 55 #[.agg #[.slice Ap n cp, .slice Ao q co, .slice At m ct], .int .i64 part, .agg #[.int .i64 k, .int .i64 a, .int .i64 b]] w
      fun e w' => e = .returned (errVal (opCode P q part k a b)) ∧ Below w.heap.size w w' := by
  have Hcode := Lib.hid (opCode_eq P q part k a b)
  have HR := Lib.hid (fun (n : Int) (V : World) => reg_is n _ V rfl)
  have HW := Lib.hid (fun (n lo hi : Int) (V : World) => Within3_any n lo hi V)
  have hB := Lib.hid (two_boxes w (Obj.cells #[.slice Ap n cp, .slice Ao q co, .slice At m ct] 26) (Obj.cells #[.int .i64 k, .int .i64 a, .int .i64 b] 58))
  have hq2 : q ≤ 9223372036854775807 := by unfold maxLen at hq; omega
  by_cases h0 : k = 0
  · subst h0
    have Hok := Lib.hid (show opOk q 0 a b = (okReg a && decide (0 ≤ b ∧ b ≤ 999999)) from rfl)
    have Hbd := Lib.hid (show opBad P part 0 b = false by unfold opBad; simp)
    have R := Lib.hid (fun V => HR.out a V)
    have W := Lib.hid (fun V => HW.out b 0 999999 V)
    clear HR HW hP
    generalize okReg a = r at *
    generalize decide (0 ≤ b ∧ b ≤ 999999) = s at *
    cases r <;> cases s <;>
    · have Hc := Hcode.out
      rw [Hok.out, Hbd.out] at Hc
      have Hc := Lib.hid Hc
      clear Hcode Hok Hbd
      go_enter Tryz.func55, Tryz.ntmps55
      go_wp2_with (first | (go_at_call 78; with_reducible refine (R.out _).mono ?_; rintro e w' ⟨rfl, rfl⟩) | (go_at_call 41; with_reducible refine (W.out _).mono ?_; rintro e w' ⟨rfl, rfl⟩))
      go_ret
      exact ⟨by rw [Hc.out]; rfl, hB.out⟩
  by_cases h1 : k = 1
  · subst h1
    have Hok := Lib.hid (show opOk q 1 a b = (okReg a && okReg b) from rfl)
    have Hbd := Lib.hid (show opBad P part 1 b = false by unfold opBad; simp)
    have R := Lib.hid (fun V => HR.out a V)
    have R2 := Lib.hid (fun V => HR.out b V)
    clear HR HW hP
    generalize okReg a = r at *
    generalize okReg b = s at *
    cases r <;> cases s <;>
    · have Hc := Hcode.out
      rw [Hok.out, Hbd.out] at Hc
      have Hc := Lib.hid Hc
      clear Hcode Hok Hbd
      go_enter Tryz.func55, Tryz.ntmps55
      go_wp2_with (first | (go_at_call 78; with_reducible refine (R.out _).mono ?_; rintro e w' ⟨rfl, rfl⟩) | (go_at_call 78; with_reducible refine (R2.out _).mono ?_; rintro e w' ⟨rfl, rfl⟩))
      go_ret
      exact ⟨by rw [Hc.out]; rfl, hB.out⟩
  by_cases h4 : k = 4
  · subst h4
    have Hok := Lib.hid (show opOk q 4 a b = (decide (0 ≤ a ∧ a ≤ 12) && okReg b) from rfl)
    have Hbd := Lib.hid (show opBad P part 4 b = false by unfold opBad; simp)
    have R0 := Lib.hid (fun V => HR.out a V)
    have R := Lib.hid (fun V => HR.out b V)
    have W := Lib.hid (fun V => HW.out a 0 12 V)
    clear HR HW hP
    generalize okReg a = r0 at *
    generalize decide (0 ≤ a ∧ a ≤ 12) = r at *
    generalize okReg b = s at *
    cases r <;> cases s <;>
    · have Hc := Hcode.out
      rw [Hok.out, Hbd.out] at Hc
      have Hc := Lib.hid Hc
      clear Hcode Hok Hbd
      go_enter Tryz.func55, Tryz.ntmps55
      go_wp2_with (first | (go_at_call 78; with_reducible refine (R0.out _).mono ?_; rintro e w' ⟨rfl, rfl⟩) | (go_at_call 78; with_reducible refine (R.out _).mono ?_; rintro e w' ⟨rfl, rfl⟩) | (go_at_call 41; with_reducible refine (W.out _).mono ?_; rintro e w' ⟨rfl, rfl⟩))
      go_ret
      exact ⟨by rw [Hc.out]; rfl, hB.out⟩
  by_cases h5 : k = 5
  · subst h5
    have Hok := Lib.hid (show opOk q 5 a b = okReg a from rfl)
    have Hbd := Lib.hid (show opBad P part 5 b = false by unfold opBad; simp)
    have R := Lib.hid (fun V => HR.out a V)
    clear HR HW hP
    generalize okReg a = r at *
    cases r <;>
    · have Hc := Hcode.out
      rw [Hok.out, Hbd.out] at Hc
      have Hc := Lib.hid Hc
      clear Hcode Hok Hbd
      go_enter Tryz.func55, Tryz.ntmps55
      go_wp2_with (first | (go_at_call 78; with_reducible refine (R.out _).mono ?_; rintro e w' ⟨rfl, rfl⟩))
      go_ret
      exact ⟨by rw [Hc.out]; rfl, hB.out⟩
  by_cases h2 : k = 2
  · subst h2
    have Hok := Lib.hid (show opOk q 2 a b = (okReg a && decide (0 ≤ b ∧ b ≤ (q : Int) - 1)) from rfl)
    have R := Lib.hid (fun V => HR.out a V)
    have W := Lib.hid (fun V => HW.out b 0 ((q : Int) - 1) V)
    by_cases hb : 0 ≤ b ∧ b ≤ (q : Int) - 1
    · obtain ⟨j, rfl⟩ := Int.eq_ofNat_of_zero_le hb.1
      have hj : j < q := by omega
      have ds : decide (0 ≤ (j : Int) ∧ (j : Int) ≤ (q : Int) - 1) = true := decide_eq_true hb
      rw [ds] at W
      have Hok2 := Hok.out
      rw [ds] at Hok2
      have Hok := Lib.hid Hok2
      obtain ⟨bb, off, rfl, c0, c1⟩ := port_cells hP hl hj
      have c0 := cell_lift2 c0 (Obj.cells #[.slice Ap n cp, .slice (some ⟨bb, off, none⟩) q co, .slice At m ct] 26) (Obj.cells #[.int .i64 2, .int .i64 a, .int .i64 (j : Nat)] 58)
      have c1 := cell_lift2 c1 (Obj.cells #[.slice Ap n cp, .slice (some ⟨bb, off, none⟩) q co, .slice At m ct] 26) (Obj.cells #[.int .i64 2, .int .i64 a, .int .i64 (j : Nat)] 58)
      have Hbd := Lib.hid (show opBad P part 2 (j : Int) = decide (nI P (2 * j) ≠ part) by unfold opBad; rw [Int.toNat_natCast]; simp)
      generalize nI P (2 * j) = x0 at *
      generalize nI P (2 * j + 1) = x1 at *
      have hjq : (j : Int) < q := by omega
      clear HR HW hP ds hb Hok2
      generalize okReg a = r at *
      by_cases hx : x0 = part
      · have dx : (x0 != (part : Int)) = false := by simpa using hx
        have Hbd2 := Hbd.out
        rw [show decide (x0 ≠ (part : Int)) = false by simpa using hx] at Hbd2
        clear hx
        cases r <;>
        · have Hc := Hcode.out
          rw [Hok.out, Hbd2] at Hc
          have Hc := Lib.hid Hc
          clear Hcode Hok Hbd Hbd2
          go_enter Tryz.func55, Tryz.ntmps55
          go_wp2_with (first | (go_at_call 78; with_reducible refine (R.out _).mono ?_; rintro e w' ⟨rfl, rfl⟩) | (go_at_call 41; with_reducible refine (W.out _).mono ?_; rintro e w' ⟨rfl, rfl⟩))
          go_ret
          exact ⟨by rw [Hc.out]; rfl, hB.out⟩
      · have dx : (x0 != (part : Int)) = true := by simpa using hx
        have Hbd2 := Hbd.out
        rw [show decide (x0 ≠ (part : Int)) = true by simpa using hx] at Hbd2
        clear hx
        cases r <;>
        · have Hc := Hcode.out
          rw [Hok.out, Hbd2] at Hc
          have Hc := Lib.hid Hc
          clear Hcode Hok Hbd Hbd2
          go_enter Tryz.func55, Tryz.ntmps55
          go_wp2_with (first | (go_at_call 78; with_reducible refine (R.out _).mono ?_; rintro e w' ⟨rfl, rfl⟩) | (go_at_call 41; with_reducible refine (W.out _).mono ?_; rintro e w' ⟨rfl, rfl⟩))
          go_ret
          exact ⟨by rw [Hc.out]; rfl, hB.out⟩
    · have ds : decide (0 ≤ b ∧ b ≤ (q : Int) - 1) = false := decide_eq_false hb
      rw [ds] at W
      have Hc := Hcode.out
      rw [Hok.out, ds, Bool.and_false, if_pos rfl] at Hc
      have Hc := Lib.hid Hc
      clear HR HW hP ds hb Hok Hcode
      generalize okReg a = r at *
      cases r <;>
      · go_enter Tryz.func55, Tryz.ntmps55
        go_wp2_with (first | (go_at_call 78; with_reducible refine (R.out _).mono ?_; rintro e w' ⟨rfl, rfl⟩) | (go_at_call 41; with_reducible refine (W.out _).mono ?_; rintro e w' ⟨rfl, rfl⟩))
        go_ret
        exact ⟨by rw [Hc.out]; rfl, hB.out⟩
  by_cases h3 : k = 3
  · subst h3
    have Hok := Lib.hid (show opOk q 3 a b = (okReg a && decide (0 ≤ b ∧ b ≤ (q : Int) - 1)) from rfl)
    have R := Lib.hid (fun V => HR.out a V)
    have W := Lib.hid (fun V => HW.out b 0 ((q : Int) - 1) V)
    by_cases hb : 0 ≤ b ∧ b ≤ (q : Int) - 1
    · obtain ⟨j, rfl⟩ := Int.eq_ofNat_of_zero_le hb.1
      have hj : j < q := by omega
      have ds : decide (0 ≤ (j : Int) ∧ (j : Int) ≤ (q : Int) - 1) = true := decide_eq_true hb
      rw [ds] at W
      have Hok2 := Hok.out
      rw [ds] at Hok2
      have Hok := Lib.hid Hok2
      obtain ⟨bb, off, rfl, c0, c1⟩ := port_cells hP hl hj
      have c0 := cell_lift2 c0 (Obj.cells #[.slice Ap n cp, .slice (some ⟨bb, off, none⟩) q co, .slice At m ct] 26) (Obj.cells #[.int .i64 3, .int .i64 a, .int .i64 (j : Nat)] 58)
      have c1 := cell_lift2 c1 (Obj.cells #[.slice Ap n cp, .slice (some ⟨bb, off, none⟩) q co, .slice At m ct] 26) (Obj.cells #[.int .i64 3, .int .i64 a, .int .i64 (j : Nat)] 58)
      have Hbd := Lib.hid (show opBad P part 3 (j : Int) = decide (nI P (2 * j + 1) ≠ part) by unfold opBad; rw [Int.toNat_natCast]; simp)
      generalize nI P (2 * j) = x0 at *
      generalize nI P (2 * j + 1) = x1 at *
      have hjq : (j : Int) < q := by omega
      clear HR HW hP ds hb Hok2
      generalize okReg a = r at *
      by_cases hx : x1 = part
      · have dx : (x1 != (part : Int)) = false := by simpa using hx
        have Hbd2 := Hbd.out
        rw [show decide (x1 ≠ (part : Int)) = false by simpa using hx] at Hbd2
        clear hx
        cases r <;>
        · have Hc := Hcode.out
          rw [Hok.out, Hbd2] at Hc
          have Hc := Lib.hid Hc
          clear Hcode Hok Hbd Hbd2
          go_enter Tryz.func55, Tryz.ntmps55
          go_wp2_with (first | (go_at_call 78; with_reducible refine (R.out _).mono ?_; rintro e w' ⟨rfl, rfl⟩) | (go_at_call 41; with_reducible refine (W.out _).mono ?_; rintro e w' ⟨rfl, rfl⟩))
          go_ret
          exact ⟨by rw [Hc.out]; rfl, hB.out⟩
      · have dx : (x1 != (part : Int)) = true := by simpa using hx
        have Hbd2 := Hbd.out
        rw [show decide (x1 ≠ (part : Int)) = true by simpa using hx] at Hbd2
        clear hx
        cases r <;>
        · have Hc := Hcode.out
          rw [Hok.out, Hbd2] at Hc
          have Hc := Lib.hid Hc
          clear Hcode Hok Hbd Hbd2
          go_enter Tryz.func55, Tryz.ntmps55
          go_wp2_with (first | (go_at_call 78; with_reducible refine (R.out _).mono ?_; rintro e w' ⟨rfl, rfl⟩) | (go_at_call 41; with_reducible refine (W.out _).mono ?_; rintro e w' ⟨rfl, rfl⟩))
          go_ret
          exact ⟨by rw [Hc.out]; rfl, hB.out⟩
    · have ds : decide (0 ≤ b ∧ b ≤ (q : Int) - 1) = false := decide_eq_false hb
      rw [ds] at W
      have Hc := Hcode.out
      rw [Hok.out, ds, Bool.and_false, if_pos rfl] at Hc
      have Hc := Lib.hid Hc
      clear HR HW hP ds hb Hok Hcode
      generalize okReg a = r at *
      cases r <;>
      · go_enter Tryz.func55, Tryz.ntmps55
        go_wp2_with (first | (go_at_call 78; with_reducible refine (R.out _).mono ?_; rintro e w' ⟨rfl, rfl⟩) | (go_at_call 41; with_reducible refine (W.out _).mono ?_; rintro e w' ⟨rfl, rfl⟩))
        go_ret
        exact ⟨by rw [Hc.out]; rfl, hB.out⟩
  have d0 : (k == 0) = false := by simpa using h0
  have d1 : (k == 1) = false := by simpa using h1
  have d2 : (k == 2) = false := by simpa using h2
  have d3 : (k == 3) = false := by simpa using h3
  have d4 : (k == 4) = false := by simpa using h4
  have d5 : (k == 5) = false := by simpa using h5
  have Hok : opOk q k a b = false := by unfold opOk; rw [if_neg h0, if_neg h1, if_neg (by omega), if_neg h4, if_neg h5]
  have Hc := Hcode.out
  rw [Hok, if_pos rfl] at Hc
  have Hc := Lib.hid Hc
  have R := Lib.hid (fun V => HR.out a V)
  clear Hcode Hok HR HW hP h0 h1 h2 h3 h4 h5
  generalize okReg a = r at *
  go_enter Tryz.func55, Tryz.ntmps55
  go_wp2_with (go_at_call 78; with_reducible refine (R.out _).mono ?_; rintro e w' ⟨rfl, rfl⟩)
  go_ret
  exact ⟨by rw [Hc.out]; rfl, hB.out⟩
end Go.Proofs.YtanlmfnhlldkeaaGreatDoor

namespace Go.Proofs.YtanlmfnhlldkeaaGreatDoor
open Go.RowKit
set_option maxRecDepth 100000
set_option linter.unusedVariables false

theorem IntsIn.below {ok : Nat → Prop} {w w' : World} {A : Option Addr} {l : List Int} (h : IntsIn ok w A l) (hb : Below w.heap.size w w') : IntsIn ok w' A l := h.keep fun b h1 _ => hb.block b h1
/-- An op's three numbers, as they lie. -/
theorem op_cells {ok : Nat → Prop} {w : World} {A : Option Addr} {l : List Int} {m : Nat} (h : IntsIn ok w A l) (hl : l.length = m * 3) {i : Nat} (hi : i < m) :
    ∃ b off, A = some ⟨b, off, none⟩ ∧ w.cell? ⟨b, off + i * 3, none⟩ = some (.int .i64 (nI l (3 * i))) ∧ w.cell? ⟨b, off + i * 3 + 1, none⟩ = some (.int .i64 (nI l (3 * i + 1))) ∧ w.cell? ⟨b, off + i * 3 + 2, none⟩ = some (.int .i64 (nI l (3 * i + 2))) := by
  obtain ⟨b, off, e, _, hc⟩ := h (by rintro rfl; simp at hl; omega)
  have hg : ∀ j, j < l.length → l[j]? = some (nI l j) := fun j hj => by unfold nI; rw [List.getD_eq_getElem?_getD, List.getElem?_eq_getElem hj]; rfl
  refine ⟨b, off, e, ?_, ?_, ?_⟩
  · have := hc (3 * i) _ (hg _ (by omega))
    rwa [show off + 3 * i = off + i * 3 by omega] at this
  · have := hc (3 * i + 1) _ (hg _ (by omega))
    rwa [show off + (3 * i + 1) = off + i * 3 + 1 by omega] at this
  · have := hc (3 * i + 2) _ (hg _ (by omega))
    rwa [show off + (3 * i + 2) = off + i * 3 + 2 by omega] at this
theorem turn_cell {ok : Nat → Prop} {w : World} {A : Option Addr} {T : List Int} (h : IntsIn ok w A T) {i : Nat} (hi : i < T.length) : ∃ b off, A = some ⟨b, off, none⟩ ∧ w.cell? ⟨b, off + i, none⟩ = some (.int .i64 (nI T i)) := by
  obtain ⟨b, off, e, _, hc⟩ := h (by rintro rfl; simp at hi)
  exact ⟨b, off, e, hc i _ (by unfold nI; rw [List.getD_eq_getElem?_getD, List.getElem?_eq_getElem hi]; rfl)⟩
def portF (P : List Int) (n : Nat) (i : Nat) : Nat := portCode n (nI P (2 * i)) (nI P (2 * i + 1))
def turnF (T : List Int) (n : Nat) (i : Nat) : Nat := turnCode n (nI T i)
def rowF (L : List (List Int)) (P : List Int) (q : Nat) (i : Nat) : Nat := rowCode P q i (L.getD i [])
def opF (P : List Int) (q p : Nat) (l : List Int) (i : Nat) : Nat := opCode P q p (nI l (3 * i)) (nI l (3 * i + 1)) (nI l (3 * i + 2))
theorem sysCode_rest {L : List (List Int)} {P : List Int} {q : Nat} {T : List Int} (h1 : ¬ (L.length = 0 ∨ T.length = 0)) (h2 : ¬ (5 < L.length ∨ 6 < q ∨ 12 < T.length)) :
    sysCode L P q T = if firstC (portF P L.length) q 0 ≠ 0 then firstC (portF P L.length) q 0 else if firstC (turnF T L.length) T.length 0 ≠ 0 then firstC (turnF T L.length) T.length 0 else firstC (rowF L P q) L.length 0 := by
  unfold sysCode
  dsimp only
  rw [if_neg h1, if_neg h2]
  rfl
theorem rowF_eq {L : List (List Int)} {P : List Int} {q i m : Nat} {l : List Int} (hl : L.getD i [] = l) (hm : l.length = m * 3) : rowF L P q i = if 12 < m then 4 else firstC (opF P q i l) m 0 := by
  unfold rowF rowCode
  rw [hl, hm, Nat.mul_div_cancel _ (by decide)]
  rfl

set_option maxHeartbeats 8000000 in
theorem KCheck_any {ok : Nat → Prop} {w : World} {Ap Ao At : Option Addr} {L : List (List Int)} {P T : List Int} {q n m cp co ct : Nat} (hL : RowsIn ok 3 w Ap L) (hP : IntsIn ok w Ao P) (hl : P.length = q * 2) (hT : IntsIn ok w At T)
    (hn : L.length = n) (hm : T.length = m) (nm : n ≤ maxLen) (hq : q ≤ maxLen) (tm : m ≤ maxLen) :
    Calls Tryz.prog 39 #[.agg #[.slice Ap n cp, .slice Ao q co, .slice At m ct]] w
      fun e w' => e = .returned (errVal (sysCode L P q T)) ∧ Below w.heap.size w w' := by
  have hB0 := (Below.refl w.heap.size w).alloc (Nat.le_refl _) (Obj.cells #[.slice Ap n cp, .slice Ao q co, .slice At m ct] 26)
  have nm2 : n ≤ 9223372036854775807 := by unfold maxLen at nm; omega
  have qm2 : q ≤ 9223372036854775807 := by unfold maxLen at hq; omega
  have tm2 : m ≤ 9223372036854775807 := by unfold maxLen at tm; omega
  by_cases h1 : n = 0 ∨ m = 0
  · have Hr := Lib.hid (show sysCode L P q T = 5 by unfold sysCode; dsimp only; rw [if_pos (by rw [hn, hm]; exact h1)])
    have HB := Lib.hid hB0
    clear hL hP hT hB0
    by_cases h0 : n = 0
    · subst h0
      go_enter Tryz.func39, Tryz.ntmps39
      go_wp2_with fail
      go_ret
      exact ⟨by rw [Hr.out]; rfl, HB.out⟩
    · have hm0 : m = 0 := by omega
      subst hm0
      have d0 : ((n : Int) == 0) = false := by simp; omega
      clear h1 h0
      go_enter Tryz.func39, Tryz.ntmps39
      go_wp2_with fail
      go_ret
      exact ⟨by rw [Hr.out]; rfl, HB.out⟩
  have d0 : ((n : Int) == 0) = false := by simp; omega
  have d1 : ((m : Int) == 0) = false := by simp; omega
  by_cases h2 : 5 < n ∨ 6 < q ∨ 12 < m
  · have Hr := Lib.hid (show sysCode L P q T = 4 by unfold sysCode; dsimp only; rw [if_neg (by rw [hn, hm]; exact h1), if_pos (by rw [hn, hm]; exact h2)])
    have HB := Lib.hid hB0
    clear hL hP hT hB0 h1
    by_cases h5 : 5 < n
    · have e1 : decide ((n : Int) > 5) = true := by simp; omega
      clear h2 h5
      go_enter Tryz.func39, Tryz.ntmps39
      go_wp2_with fail
      go_ret
      exact ⟨by rw [Hr.out]; rfl, HB.out⟩
    have e1 : decide ((n : Int) > 5) = false := by simp; omega
    by_cases h6 : 6 < q
    · have e2 : decide ((q : Int) > 6) = true := by simp; omega
      clear h2 h5 h6
      go_enter Tryz.func39, Tryz.ntmps39
      go_wp2_with fail
      go_ret
      exact ⟨by rw [Hr.out]; rfl, HB.out⟩
    · have e2 : decide ((q : Int) > 6) = false := by simp; omega
      have e3 : decide ((m : Int) > 12) = true := by simp; omega
      clear h2 h5 h6
      go_enter Tryz.func39, Tryz.ntmps39
      go_wp2_with fail
      go_ret
      exact ⟨by rw [Hr.out]; rfl, HB.out⟩
  have e1 : decide ((n : Int) > 5) = false := by simp; omega
  have e2 : decide ((q : Int) > 6) = false := by simp; omega
  have e3 : decide ((m : Int) > 12) = false := by simp; omega
  have Hc := Lib.hid (sysCode_rest (L := L) (P := P) (q := q) (T := T) (by rw [hn, hm]; exact h1) (by rw [hn, hm]; exact h2))
  have hbx := BoxN.new w 26 #[.slice Ap n cp, .slice Ao q co, .slice At m ct]
  have bn : 1 ≤ n ∧ n ≤ 5 := by omega
  have bm : 1 ≤ m ∧ m ≤ 12 := by omega
  have bq : q ≤ 6 := by omega
  clear h1 h2 nm2 qm2 tm2
  go_enter Tryz.func39, Tryz.ntmps39
  go_wp2_with fail
  go_loopw [43] (fun i wr => ∃ k : Nat, k ≤ q ∧ i = .int .i64 k ∧ Hid (firstC (portF P L.length) q 0 = firstC (portF P L.length) (q - k) k) ∧ Below w.heap.size w wr ∧ BoxN wr w.heap.size 26 #[.slice Ap n cp, .slice Ao q co, .slice At m ct]) (fun i _ => q - (intOf i).toNat)
  case atStart => exact ⟨0, Nat.zero_le _, rfl, Lib.hid rfl, hB0, hbx⟩
  case round =>
    clear hB0 hbx
    obtain ⟨k, hk, rfl, hfc, hbr, hbx⟩ := hrel
    have hsz : w.heap.size < wr.heap.size := hbx.lt
    by_cases hlt : k < q
    · obtain ⟨b, off, rfl, c0, c1⟩ := port_cells (hP.below hbr) hl hlt
      have hpc : portF P L.length k = portCode n (nI P (2 * k)) (nI P (2 * k + 1)) := by unfold portF; rw [hn]
      have hbb := block_lt c0
      generalize nI P (2 * k) = x0 at *
      generalize nI P (2 * k + 1) = x1 at *
      have hba := hbr.alloc (Nat.le_of_lt hsz) (Obj.cells #[.int .i64 x0, .int .i64 x1] 54)
      have hxa := hbx.alloc (Obj.cells #[.int .i64 x0, .int .i64 x1] 54)
      have HF := Lib.hid (fun (hne : portCode n x0 x1 ≠ 0) => show sysCode L P q T = portCode n x0 x1 by
        rw [Hc.out, hfc.out, firstC_bad hlt (by rw [hpc]; exact hne), hpc, if_pos hne])
      have HG := Lib.hid (fun (he : portCode n x0 x1 = 0) => show firstC (portF P L.length) q 0 = firstC (portF P L.length) (q - (k + 1)) (k + 1) by
        rw [hfc.out, firstC_next hlt (by rw [hpc]; exact he)])
      clear hfc hpc
      by_cases hx0 : 0 ≤ x0 ∧ x0 ≤ (n : Int) - 1
      · have W0 := Lib.hid (fun V => Within3_is x0 0 ((n : Int) - 1) true V (decide_eq_true hx0))
        by_cases hx1 : 0 ≤ x1 ∧ x1 ≤ (n : Int) - 1
        · have W1 := Lib.hid (fun V => Within3_is x1 0 ((n : Int) - 1) true V (decide_eq_true hx1))
          by_cases he : x0 = x1
          · have dx : (x0 == x1) = true := by simpa using he
            have Hr := Lib.hid (show sysCode L P q T = 6 by
              have h6 : portCode n x0 x1 = 6 := by unfold portCode; rw [if_neg (by omega), if_pos he]
              rw [HF.out (by rw [h6]; decide), h6])
            clear HF HG hx0 hx1 he
            go_wp2_with (first | (with_reducible refine (W0.out _).mono ?_; rintro e w' ⟨rfl, rfl⟩) | (with_reducible refine (W1.out _).mono ?_; rintro e w' ⟨rfl, rfl⟩))
            go_ret
            exact ⟨by rw [Hr.out]; rfl, hba⟩
          · have dx : (x0 == x1) = false := by simpa using he
            have Hn := Lib.hid (HG.out (by unfold portCode; rw [if_neg (by omega), if_neg he]))
            clear HF HG hx0 hx1 he
            go_wp2_with (first | (with_reducible refine (W0.out _).mono ?_; rintro e w' ⟨rfl, rfl⟩) | (with_reducible refine (W1.out _).mono ?_; rintro e w' ⟨rfl, rfl⟩))
            refine ⟨⟨k + 1, ?ya, ?yb, Hn, hba, hxa⟩, ?yd⟩
            case ya => omega
            case yb => go_num
            case yd => simp [intOf]; omega
        · have W1 := Lib.hid (fun V => Within3_is x1 0 ((n : Int) - 1) false V (decide_eq_false hx1))
          have Hr := Lib.hid (show sysCode L P q T = 1 by
            have h6 : portCode n x0 x1 = 1 := by unfold portCode; rw [if_pos (.inr hx1)]
            rw [HF.out (by rw [h6]; decide), h6])
          clear HF HG hx0 hx1
          go_wp2_with (first | (with_reducible refine (W0.out _).mono ?_; rintro e w' ⟨rfl, rfl⟩) | (with_reducible refine (W1.out _).mono ?_; rintro e w' ⟨rfl, rfl⟩))
          go_ret
          exact ⟨by rw [Hr.out]; rfl, hba⟩
      · have W0 := Lib.hid (fun V => Within3_is x0 0 ((n : Int) - 1) false V (decide_eq_false hx0))
        have Hr := Lib.hid (show sysCode L P q T = 1 by
          have h6 : portCode n x0 x1 = 1 := by unfold portCode; rw [if_pos (.inl hx0)]
          rw [HF.out (by rw [h6]; decide), h6])
        clear HF HG hx0
        go_wp2_with (with_reducible refine (W0.out _).mono ?_; rintro e w' ⟨rfl, rfl⟩)
        go_ret
        exact ⟨by rw [Hr.out]; rfl, hba⟩
    · obtain rfl : k = q := by omega
      have Hc2 := Lib.hid (show sysCode L P k T = if firstC (turnF T L.length) T.length 0 ≠ 0 then firstC (turnF T L.length) T.length 0 else firstC (rowF L P k) L.length 0 by
        rw [Hc.out, if_neg (by rw [hfc.out, firstC_end]; exact fun h => h rfl)])
      clear Hc hfc
      have s2 := hbx.cell (k := 2) rfl
      go_wp2_with fail
      clear s2
      go_loopw [72] (fun i wt => ∃ k2 : Nat, k2 ≤ m ∧ i = .int .i64 k2 ∧ Hid (firstC (turnF T L.length) T.length 0 = firstC (turnF T L.length) (T.length - k2) k2) ∧ Below w.heap.size w wt ∧ BoxN wt w.heap.size 26 #[.slice Ap n cp, .slice Ao k co, .slice At m ct]) (fun i _ => m - (intOf i).toNat)
      case atStart => exact ⟨0, Nat.zero_le _, rfl, Lib.hid rfl, hbr, hbx⟩
      case round =>
        clear hbr hbx hsz
        obtain ⟨wt, rfl⟩ : ∃ wt : World, wt = wr := ⟨_, rfl⟩
        obtain ⟨k2, hk2, rfl, hfc, hbr, hbx⟩ := hrel
        have hsz : w.heap.size < wt.heap.size := hbx.lt
        by_cases hlt : k2 < m
        · obtain ⟨b, off, rfl, c0⟩ := turn_cell (hT.below hbr) (i := k2) (by omega)
          have hbb := block_lt c0
          have hpc : turnF T L.length k2 = turnCode n (nI T k2) := by unfold turnF; rw [hn]
          generalize nI T k2 = x0 at *
          by_cases hx0 : 0 ≤ x0 ∧ x0 ≤ (n : Int) - 1
          · have W0 := Lib.hid (fun V => Within3_is x0 0 ((n : Int) - 1) true V (decide_eq_true hx0))
            have Hn := Lib.hid (show firstC (turnF T L.length) T.length 0 = firstC (turnF T L.length) (T.length - (k2 + 1)) (k2 + 1) by
              rw [hfc.out, firstC_next (by omega) (by rw [hpc]; unfold turnCode; rw [if_neg (fun h => h hx0)])])
            clear hfc hpc hx0
            go_wp2_with (with_reducible refine (W0.out _).mono ?_; rintro e w' ⟨rfl, rfl⟩)
            refine ⟨⟨k2 + 1, ?ya, ?yb, Hn, hbr, hbx⟩, ?yd⟩
            case ya => omega
            case yb => go_num
            case yd => simp [intOf]; omega
          · have W0 := Lib.hid (fun V => Within3_is x0 0 ((n : Int) - 1) false V (decide_eq_false hx0))
            have Hr := Lib.hid (show sysCode L P k T = 1 by
              have h6 : turnF T L.length k2 = 1 := by rw [hpc]; unfold turnCode; rw [if_pos hx0]
              rw [Hc2.out, hfc.out, firstC_bad (by omega) (by rw [h6]; decide), h6, if_pos (by decide)])
            clear hfc hpc hx0
            go_wp2_with (with_reducible refine (W0.out _).mono ?_; rintro e w' ⟨rfl, rfl⟩)
            go_ret
            exact ⟨by rw [Hr.out]; rfl, hbr⟩
        · obtain rfl : k2 = m := by omega
          have Hc3 := Lib.hid (show sysCode L P k T = firstC (rowF L P k) L.length 0 by
            rw [Hc2.out, if_neg (by rw [hfc.out, hm, firstC_end]; exact fun h => h rfl)])
          clear Hc2 hfc
          have s0 := hbx.cell (k := 0) rfl
          go_wp2_with fail
          clear s0
          go_loopw [86] (fun i wp => ∃ k3 : Nat, k3 ≤ n ∧ i = .int .i64 k3 ∧ Hid (firstC (rowF L P k) L.length 0 = firstC (rowF L P k) (L.length - k3) k3) ∧ Below w.heap.size w wp ∧ BoxN wp w.heap.size 26 #[.slice Ap n cp, .slice Ao k co, .slice At k2 ct]) (fun i _ => n - (intOf i).toNat)
          case atStart => exact ⟨0, Nat.zero_le _, rfl, Lib.hid rfl, hbr, hbx⟩
          case round =>
            clear hbr hbx hsz
            obtain ⟨wp, rfl⟩ : ∃ wp : World, wp = wr := ⟨_, rfl⟩
            obtain ⟨k3, hk3, rfl, hfc, hbr, hbx⟩ := hrel
            have hsz : w.heap.size < wp.heap.size := hbx.lt
            by_cases hlt : k3 < n
            · obtain ⟨b, off, Ai, ni, ci, rfl, c0, hli, hni, hi⟩ := (hL.below hbr).get (i := k3) (by omega)
              have ni2 : ni ≤ 9223372036854775807 := by unfold maxLen at hni; omega
              have hrow := rowF_eq (P := P) (q := k) (L := L) (i := k3) rfl hli
              generalize L.getD k3 [] = l at *
              by_cases h12 : 12 < ni
              · have e4 : decide ((ni : Int) > 12) = true := by simp; omega
                have Hr := Lib.hid (show sysCode L P k T = 4 by
                  have h6 : rowF L P k k3 = 4 := by rw [hrow, if_pos h12]
                  rw [Hc3.out, hfc.out, firstC_bad (by omega) (by rw [h6]; decide), h6])
                clear hfc hrow h12 hi
                go_wp2_with fail
                go_ret
                exact ⟨by rw [Hr.out]; rfl, hbr⟩
              · have e4 : decide ((ni : Int) > 12) = false := by simp; omega
                rw [if_neg h12] at hrow
                have Hrow := Lib.hid hrow
                have HI := Lib.hid hi
                have Hsz := Lib.hid (Nat.le_refl wp.heap.size)
                obtain ⟨wz, hwz⟩ : ∃ wz : World, wz = wp := ⟨_, rfl⟩
                have hbz : Below wz.heap.size wz wp := by rw [hwz]; exact Below.refl _ _
                have HI : Hid (IntsIn ok wz Ai l) := by rw [hwz]; exact HI
                have hwz0 : Below w.heap.size w wz := by rw [hwz]; exact hbr
                clear hwz Hsz hi hrow
                go_wp2_with fail
                go_loopw [97] (fun i wo => ∃ j : Nat, j ≤ ni ∧ i = .int .i64 j ∧ Hid (firstC (opF P k k3 l) ni 0 = firstC (opF P k k3 l) (ni - j) j) ∧ Below wz.heap.size wz wo ∧ BoxN wo w.heap.size 26 #[.slice (some ⟨b, off, none⟩) n cp, .slice Ao k co, .slice At k2 ct]) (fun i _ => ni - (intOf i).toNat)
                case atStart => exact ⟨0, Nat.zero_le _, rfl, Lib.hid rfl, hbz, hbx⟩
                case round =>
                  clear hbr hbx hsz hbz
                  obtain ⟨wo, rfl⟩ : ∃ wo : World, wo = wr := ⟨_, rfl⟩
                  obtain ⟨j, hj, rfl, hfo, hbo, hbx⟩ := hrel
                  have hsz : w.heap.size < wo.heap.size := hbx.lt
                  have hbr := hwz0.trans (hbo.mono hwz0.size)
                  by_cases hjl : j < ni
                  · obtain ⟨b3, off3, rfl, o0, o1, o2⟩ := op_cells (HI.out.below hbo) hli hjl
                    have hbb := block_lt o0
                    have hop : opF P k k3 l j = opCode P k k3 (nI l (3 * j)) (nI l (3 * j + 1)) (nI l (3 * j + 2)) := rfl
                    have HO := Lib.hid (fun V (hV : Below w.heap.size w V) => operation_any (Ap := some ⟨b, off, none⟩) (At := At) (n := n) (m := k2) (cp := cp) (co := co) (ct := ct) (hP.below hV) hl hq k3 (nI l (3 * j)) (nI l (3 * j + 1)) (nI l (3 * j + 2)))
                    generalize nI l (3 * j) = x0 at *
                    generalize nI l (3 * j + 1) = x1 at *
                    generalize nI l (3 * j + 2) = x2 at *
                    have hba := hbr.alloc (Nat.le_of_lt hsz) (Obj.cells #[.int .i64 x0, .int .i64 x1, .int .i64 x2] 58)
                    have hbo2 := hbo.alloc hbo.size (Obj.cells #[.int .i64 x0, .int .i64 x1, .int .i64 x2] 58)
                    have hxa := hbx.alloc (Obj.cells #[.int .i64 x0, .int .i64 x1, .int .i64 x2] 58)
                    have HO2 := Lib.hid (HO.out _ hba)
                    have s0 := hxa.cell (k := 0) rfl
                    have s1 := hxa.cell (k := 1) rfl
                    have s2 := hxa.cell (k := 2) rfl
                    by_cases hz : opCode P k k3 x0 x1 x2 = 0
                    · have Hn := Lib.hid (show firstC (opF P k k3 l) ni 0 = firstC (opF P k k3 l) (ni - (j + 1)) (j + 1) by
                        rw [hfo.out, firstC_next hjl (by rw [hop]; exact hz)])
                      have HO3 := HO2.out
                      rw [hz, errVal_zero] at HO3
                      have HO3 := Lib.hid HO3
                      clear hfo hop hz HO HO2
                      have hbxc := hbx
                      clear hbx
                      have s0' := hbxc.cell (k := 0) rfl
                      have s1' := hbxc.cell (k := 1) rfl
                      have s2' := hbxc.cell (k := 2) rfl
                      go_wp2_with (with_reducible refine HO3.out.mono ?_; rintro e w3 ⟨rfl, hb3⟩)
                      refine ⟨⟨j + 1, ?ya, ?yb, Hn, ?yc, ?ye⟩, ?yd⟩
                      case ya => omega
                      case yb => go_num
                      case yc => exact hbo2.trans (hb3.mono hbo2.size)
                      case ye => exact hxa.all hb3
                      case yd => simp [intOf]; omega
                    · have Hr := Lib.hid (show sysCode L P k T = opCode P k k3 x0 x1 x2 by
                        have h6 : rowF L P k k3 = opCode P k k3 x0 x1 x2 := by rw [Hrow.out, hfo.out, firstC_bad hjl (by rw [hop]; exact hz), hop]
                        rw [Hc3.out, hfc.out, firstC_bad (by omega) (by rw [h6]; exact hz), h6])
                      generalize opCode P k k3 x0 x1 x2 = cd at *
                      have HO3 := HO2.out
                      rw [errVal_pos hz] at HO3
                      have HO3 := Lib.hid HO3
                      clear hfo hop HO HO2
                      have hbxc := hbx
                      clear hbx
                      have s0' := hbxc.cell (k := 0) rfl
                      have s1' := hbxc.cell (k := 1) rfl
                      have s2' := hbxc.cell (k := 2) rfl
                      go_wp2_with (with_reducible refine HO3.out.mono ?_; rintro e w3 ⟨rfl, hb3⟩)
                      go_ret
                      exact ⟨by rw [Hr.out, errVal_pos hz]; rfl, hba.trans (hb3.mono hba.size)⟩
                  · obtain rfl : j = ni := by omega
                    have Hn := Lib.hid (show firstC (rowF L P k) L.length 0 = firstC (rowF L P k) (L.length - (k3 + 1)) (k3 + 1) by
                      rw [hfc.out, firstC_next (by omega) (by rw [Hrow.out, hfo.out, firstC_end])])
                    clear hfo hfc
                    go_wp2_with fail
                    refine ⟨⟨k3 + 1, ?ya, ?yb, Hn, hbr, hbx⟩, ?yd⟩
                    case ya => omega
                    case yb => go_num
                    case yd => simp [intOf]; omega
            · obtain rfl : k3 = n := by omega
              have Hr := Lib.hid (show sysCode L P k T = 0 by rw [Hc3.out, hfc.out, hn, firstC_end])
              clear hfc
              go_wp2_with fail
              go_ret
              exact ⟨by rw [Hr.out]; rfl, hbr⟩
end Go.Proofs.YtanlmfnhlldkeaaGreatDoor
