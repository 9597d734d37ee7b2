/-
  Words for slices of slices of ints (or of structs of ints, laid flat): as a list of lists; and how an argument is read so. No program is looked at.
-/
import Derived.Test.YtgkanbaboeppfaaDoorFrame
import Derived.Deep.Slices
import Derived.Deep.Fields
import Derived.ChangeSame
import Derived.Test.YtgkanbaboeppfaaDoorStructs
namespace Go.Proofs.YtgkanbaboeppfaaDoor
open Go.ChangeShapes Go.WideShapes Go.ChangeAt Go.RowKit Go.Deep
set_option maxRecDepth 100000
set_option linter.unusedVariables false

/-- As IntsAt, in a block that is `ok`. -/
def IntsIn (ok : Nat → Prop) (w : World) (A : Option Addr) (l : List Int) : Prop :=
  l ≠ [] → ∃ b off, A = some ⟨b, off, none⟩ ∧ ok b ∧ ∀ j x, l[j]? = some x → w.cell? ⟨b, off + j, none⟩ = some (.int .i64 x)
/-- A slice of slices of things of k ints each. -/
def RowsIn (ok : Nat → Prop) (k : Nat) (w : World) (A : Option Addr) (Ls : List (List Int)) : Prop :=
  Ls ≠ [] → ∃ b off, A = some ⟨b, off, none⟩ ∧ ok b ∧ ∀ (i : Nat) (l : List Int), Ls[i]? = some l → ∃ (Ai : Option Addr) (ni ci : Nat), w.cell? ⟨b, off + i, none⟩ = some (.slice Ai ni ci) ∧ l.length = ni * k ∧ ni ≤ maxLen ∧ IntsIn ok w Ai l
abbrev anyB : Nat → Prop := fun _ => True

section
variable {ok ok' : Nat → Prop} {k : Nat} {w w' : World} {A : Option Addr} {l : List Int} {Ls : List (List Int)}
theorem IntsIn.at_ (h : IntsIn ok w A l) : IntsAt w A l := fun hl => by
  obtain ⟨b, off, e, _, hc⟩ := h hl
  exact ⟨b, off, e, hc⟩
theorem IntsAt.in_ (h : IntsAt w A l) : IntsIn anyB w A l := fun hl => by
  obtain ⟨b, off, e, hc⟩ := h hl
  exact ⟨b, off, e, trivial, hc⟩
theorem IntsIn.nil : IntsIn ok w A [] := fun h => absurd rfl h
theorem IntsIn.keep (h : IntsIn ok w A l) (hk : ∀ b, b < w.heap.size → ok b → w'.heap[b]? = w.heap[b]?) : IntsIn ok w' A l := fun hl => by
  obtain ⟨b, off, e, ho, hc⟩ := h hl
  refine ⟨b, off, e, ho, fun j x hx => ?_⟩
  have h1 := hc j x hx
  exact (World.cell?_of_block (hk b (block_lt h1) ho)).trans h1
theorem IntsIn.mono (h : IntsIn ok w A l) (ho : ∀ b, b < w.heap.size → ok b → ok' b) : IntsIn ok' w A l := fun hl => by
  obtain ⟨b, off, e, hb, hc⟩ := h hl
  obtain ⟨x, r, rfl⟩ : ∃ x r, l = x :: r := by cases l with
    | nil => exact absurd rfl hl
    | cons x r => exact ⟨x, r, rfl⟩
  exact ⟨b, off, e, ho b (block_lt (hc 0 x rfl)) hb, hc⟩
theorem RowsIn.nil : RowsIn ok k w A [] := fun h => absurd rfl h
theorem RowsIn.keep (h : RowsIn ok k w A Ls) (hk : ∀ b, b < w.heap.size → ok b → w'.heap[b]? = w.heap[b]?) : RowsIn ok k w' A Ls := fun hl => by
  obtain ⟨b, off, e, ho, hc⟩ := h hl
  refine ⟨b, off, e, ho, fun i l hi => ?_⟩
  obtain ⟨Ai, ni, ci, h1, h2, h3, h4⟩ := hc i l hi
  exact ⟨Ai, ni, ci, (World.cell?_of_block (hk b (block_lt h1) ho)).trans h1, h2, h3, h4.keep hk⟩
theorem RowsIn.below (h : RowsIn ok k w A Ls) (hb : Below w.heap.size w w') : RowsIn ok k w' A Ls := h.keep fun b h1 _ => hb.block b h1
theorem RowsIn.below2 {w0 : World} (h : RowsIn ok k w0 A Ls) (h0 : Below w0.heap.size w0 w) (hb : Below w.heap.size w w') : RowsIn ok k w' A Ls := h.below (h0.trans (hb.mono h0.size))
theorem RowsIn.get (h : RowsIn ok k w A Ls) {i : Nat} (hi : i < Ls.length) : ∃ (b off : Nat) (Ai : Option Addr) (ni ci : Nat), A = some ⟨b, off, none⟩ ∧ w.cell? ⟨b, off + i, none⟩ = some (.slice Ai ni ci) ∧ (Ls.getD i []).length = ni * k ∧ ni ≤ maxLen ∧ IntsIn ok w Ai (Ls.getD i []) := by
  obtain ⟨b, off, e, _, hc⟩ := h (by rintro rfl; simp at hi)
  obtain ⟨Ai, ni, ci, h1, h2, h3, h4⟩ := hc i (Ls.getD i []) (by rw [List.getD_eq_getElem?_getD, List.getElem?_eq_getElem hi]; rfl)
  exact ⟨b, off, Ai, ni, ci, e, h1, h2, h3, h4⟩
end

section
variable {H : Type} {enc : TypeId × Value → H} {P : Program} {W : World}
/-- What is read of a cell that holds a slice of things of k ints each. -/
def OneRow (P : Program) (enc : TypeId × Value → H) (W : World) (k : Nat) (t : TypeId) : Prop := ∀ (c : Value) (fuel : Nat) (x : DataW H × List MemPlace), DataW.trod enc P W 0 (fun _ => true) true fuel t [c] = some x →
  ∃ (l : List Int) (A : Option Addr) (n cap : Nat), c = .slice A n cap ∧ l.length = n * k ∧ n ≤ maxLen ∧ IntsAt W A l ∧ ∀ x ∈ l, I64 x
theorem structs_of_cell {t e ti : TypeId} {fs : Array Field} {k : Nat} (ht : P.underlying t = some (.slice e)) (he : P.underlying e = some (.struct fs)) (hti : P.underlying ti = some (.int .i64)) (hfs : (List.range fs.size).all (fun i => (fs[i]?.map (·.type)) == some ti) = true)
    (hk : fs.size = k) (hk0 : 0 < k) (hone : oneCellFields P fs = true) (hC : P.cellsOf e = fs.size) : OneRow P enc W k t := by
  intro c fuel x hf
  subst hk
  rcases open_slice_fields ht he hone hC hf with ⟨hcs, _⟩ | ⟨a, len, cap, m, D, Pl, hcs, _, hl, hm, hmm, hx, hi⟩
  · injection hcs with hcs
    exact ⟨[], none, 0, 0, hcs, by simp, by unfold maxLen; omega, IntsAt.nil, fun x hx => by cases hx⟩
  · injection hcs with hcs
    simp only [if_true] at hmm
    subst hmm
    have hcell : ∀ q, q < m * fs.size → ∃ z : Int, W.cell? (a.add q) = some (.int .i64 z) ∧ I64 z := fun q hq => by
      obtain ⟨ys, n', _, _, _, hfd⟩ := hi (q / fs.size) ((Nat.div_lt_iff_lt_mul hk0).2 hq)
      have hr : q % fs.size < fs.size := Nat.mod_lt _ hk0
      have hft := List.all_eq_true.1 hfs (q % fs.size) (List.mem_range.2 hr)
      obtain ⟨f, hf1⟩ : ∃ f, fs[q % fs.size]? = some f := ⟨fs[q % fs.size], Array.getElem?_eq_getElem hr⟩
      rw [hf1] at hft
      have hft : f.type = ti := by simpa using hft
      obtain ⟨v, y, hv, _, hy⟩ := hfd (q % fs.size) f hf1
      rw [hft] at hy
      obtain ⟨z, hz, _, wz⟩ := DataW.trod_int hti hy
      injection hz with hz
      subst hz
      rw [show q / fs.size * fs.size + q % fs.size = q by rw [Nat.mul_comm]; exact Nat.div_add_mod q fs.size] at hv
      exact ⟨z, hv, bounds_i64 wz⟩
    obtain ⟨zs, hzl, hzc, hzI⟩ := ints_of_cells (m * fs.size) hcell
    have hlm : len * fs.size ≤ m * fs.size := Nat.mul_le_mul_right _ hl
    refine ⟨zs.take (len * fs.size), some a, len, m, hcs, by rw [List.length_take, hzl]; omega, by omega, fun hne => ?_, fun x hx => hzI x (List.mem_of_mem_take hx)⟩
    have hpos : 0 < zs.length := by
      have := List.length_pos_iff.2 hne
      rw [List.length_take] at this
      omega
    obtain ⟨b, off, rfl, hc2⟩ := ints_at hzc hpos
    refine ⟨b, off, rfl, fun j x hj => ?_⟩
    rw [List.getElem?_take] at hj
    split at hj
    · have hjl := (List.getElem?_eq_some_iff.1 hj).1
      have := hc2 j hjl
      rw [List.getD, hj] at this
      exact this
    · cases hj
theorem introw_of_cell {t e : TypeId} (ht : P.underlying t = some (.slice e)) (he : P.underlying e = some (.int .i64)) (hc : P.cellsOf e = 1) : OneRow P enc W 1 t := by
  intro c fuel x hf
  rcases open_ints ht he hc hf with ⟨hcs, _⟩ | ⟨a, len, cap, zs, hcs, _, hl, hm, hz, hx, hcell, hwf⟩
  · injection hcs with hcs
    exact ⟨[], none, 0, 0, hcs, by simp, by unfold maxLen; omega, IntsAt.nil, fun x hx => by cases hx⟩
  · injection hcs with hcs
    have hz' : zs.length = cap := by simpa using hz
    refine ⟨zs.take len, some a, len, cap, hcs, by rw [List.length_take]; omega, by omega, fun hne => ?_, fun x hx => bounds_i64 (hwf x (List.mem_of_mem_take hx))⟩
    have hpos : 0 < zs.length := by
      have := List.length_pos_iff.2 hne
      rw [List.length_take] at this
      omega
    obtain ⟨b, off, rfl, hc2⟩ := ints_at hcell hpos
    refine ⟨b, off, rfl, fun j x hj => ?_⟩
    rw [List.getElem?_take] at hj
    split at hj
    · have hjl := (List.getElem?_eq_some_iff.1 hj).1
      have := hc2 j hjl
      rw [List.getD, hj] at this
      exact this
    · cases hj
theorem lists_of {p : Nat → List Int → Prop} : ∀ (n : Nat), (∀ i, i < n → ∃ l, p i l) → ∃ Ls : List (List Int), Ls.length = n ∧ ∀ i l, Ls[i]? = some l → p i l
  | 0, _ => ⟨[], rfl, fun i l h => by simp at h⟩
  | n + 1, h => by
    obtain ⟨Ls, hl, hp⟩ := lists_of n fun i hi => h i (by omega)
    obtain ⟨l, hq⟩ := h n (by omega)
    refine ⟨Ls ++ [l], by simp [hl], fun i m hi => ?_⟩
    rcases Nat.lt_or_ge i Ls.length with h1 | h1
    · rw [List.getElem?_append_left h1] at hi; exact hp i m hi
    · rw [List.getElem?_append_right h1] at hi
      have h2 : i - Ls.length = 0 := by
        have := (List.getElem?_eq_some_iff.1 hi).1
        simp at this; omega
      rw [h2] at hi
      simp at hi
      subst hi
      rw [show i = n by omega]
      exact hq
/-- Slices of slices. -/
theorem rows_of_cell {t q : TypeId} {k : Nat} {c : Value} {fuel : Nat} {x : DataW H × List MemPlace} (ht : P.underlying t = some (.slice q)) (hq : P.cellsOf q = 1) (hrow : OneRow P enc W k q) (hf : DataW.trod enc P W 0 (fun _ => true) true fuel t [c] = some x) :
    ∃ (Ls : List (List Int)) (A : Option Addr) (cap : Nat), c = .slice A Ls.length cap ∧ Ls.length ≤ cap ∧ cap ≤ maxLen ∧ RowsIn anyB k W A Ls ∧ ∀ l ∈ Ls, ∀ x ∈ l, I64 x := by
  rcases open_slice1 ht hq hf with ⟨hcs, _⟩ | ⟨a, len, cap, m, n, V, D, Pl, hcs, _, hl, hm, hmm, hx, hi⟩
  · injection hcs with hcs
    exact ⟨[], none, 0, hcs, by simp, by unfold maxLen; omega, RowsIn.nil, fun x hx => by cases hx⟩
  · injection hcs with hcs
    simp only [if_true] at hmm
    subst hmm
    obtain ⟨Ls, hL, hp⟩ := lists_of (p := fun i l => ∃ (Ai : Option Addr) (ni ci : Nat), W.cell? (a.add i) = some (.slice Ai ni ci) ∧ l.length = ni * k ∧ ni ≤ maxLen ∧ IntsIn anyB W Ai l ∧ ∀ x ∈ l, I64 x) len fun i hil => by
      obtain ⟨h1, h2⟩ := hi i (by omega)
      obtain ⟨l, A, nn, cc, e, h3, h4, h5, h6⟩ := hrow _ _ _ h2
      exact ⟨l, A, nn, cc, by rw [h1, e], h3, h4, h5.in_, h6⟩
    refine ⟨Ls, some a, m, by rw [hL]; exact hcs, by omega, hm, fun hne => ?_, fun l hl x hx => ?_⟩
    · have h0 : 0 < len := by rw [← hL]; exact List.length_pos_iff.2 hne
      obtain ⟨b, off, spot⟩ := a
      have hspot : spot = none := by simpa [Addr.add] using World.cell?_spot (hi 0 (by omega)).1
      subst hspot
      refine ⟨b, off, rfl, trivial, fun i l hil => ?_⟩
      obtain ⟨Ai, ni, ci, h1, h2, h3, h4, _⟩ := hp i l hil
      rw [Go.WideShapes.add_plain] at h1
      exact ⟨Ai, ni, ci, h1, h2, h3, h4⟩
    · obtain ⟨i, hi', he⟩ := List.getElem_of_mem hl
      exact (hp i l (by rw [← he]; exact List.getElem?_eq_getElem hi')).elim fun Ai h => by
        obtain ⟨ni, ci, _, _, _, _, h6⟩ := h
        exact h6 x hx
end
end Go.Proofs.YtgkanbaboeppfaaDoor
