/-
  Words for rows of ints that a monitor holds and lengthens: each in a block of its own, from any place of it on. No program is looked at, but for the types' rows.
-/
import Derived.Test.YtgkanbaboeppfaaDoorPush
import Derived.Test.YtgkanbaboeppfaaDoorBox
namespace Go.Proofs.YtgkanbaboeppfaaDoor
open Go.RowKit
set_option maxRecDepth 100000
set_option linter.unusedVariables false

/-- A row of ints in a block to which a role is given. -/
def RowW (role : Nat → Nat) (code : Nat) (w : World) (v : Value) (l : List Int) : Prop :=
  (v = .slice none 0 0 ∧ l = []) ∨ ∃ (g off c : Nat) (cur : Array Value), v = .slice (some ⟨g, off, none⟩) l.length c ∧ l.length ≤ c ∧ c ≤ maxLen ∧ w.heap[g]? = some (.cells cur 3 (0, 0)) ∧ off + c ≤ cur.size ∧ role g = code ∧ ∀ j x, l[j]? = some x → cur[off + j]? = some (.int .i64 x)

/-- From one world to a later one: what has no role stays; no role is lost. -/
structure RoleTo (role : Nat → Nat) (w : World) (role' : Nat → Nat) (w' : World) : Prop where
  os : w'.os = w.os
  tape : w'.tape = w.tape
  output : w'.output = w.output
  size : w.heap.size ≤ w'.heap.size
  keep : ∀ b, b < w.heap.size → role' b = role b
  block : ∀ b, b < w.heap.size → role b = 0 → w'.heap[b]? = w.heap[b]?
section
variable {role role' role'' : Nat → Nat} {w w' w'' : World}
theorem RoleTo.refl (role : Nat → Nat) (w : World) : RoleTo role w role w := ⟨rfl, rfl, rfl, Nat.le_refl _, fun _ _ => rfl, fun _ _ _ => rfl⟩
theorem RoleTo.trans (h : RoleTo role w role' w') (k : RoleTo role' w' role'' w'') : RoleTo role w role'' w'' :=
  ⟨k.os.trans h.os, k.tape.trans h.tape, k.output.trans h.output, Nat.le_trans h.size k.size, fun b hb => (k.keep b (Nat.lt_of_lt_of_le hb h.size)).trans (h.keep b hb), fun b hb h0 => (k.block b (Nat.lt_of_lt_of_le hb h.size) ((h.keep b hb).trans h0)).trans (h.block b hb h0)⟩
theorem RoleTo.below (role : Nat → Nat) (h : Below w.heap.size w w') : RoleTo role w role w' := ⟨h.os, h.tape, h.output, h.size, fun _ _ => rfl, fun b hb _ => h.block b hb⟩
theorem RoleTo.to_below {B : Nat} (h : RoleTo role w role' w') (hB : ∀ b, b < B → role b = 0) (hs : B ≤ w.heap.size) : Below B w w' := ⟨h.os, h.tape, h.output, h.size, fun b hb => h.block b (Nat.lt_of_lt_of_le hb hs) (hB b hb)⟩
theorem RoleTo.setCell (h : RoleTo role w role' w') {a : Addr} (ha : role a.block ≠ 0) (v : Value) : RoleTo role w role' (w'.setCell a v) :=
  ⟨h.os, h.tape, h.output, by simpa using h.size, h.keep, fun b hb h0 => (Below.heap_setCell w' a v b (fun e => ha (e ▸ h0))).trans (h.block b hb h0)⟩
theorem RoleTo.box {p : Nat} {t : TypeId} {vs : Array Value} (h : RoleTo role w role' w') (hb : BoxN w p t vs) (h0 : role p = 0) : BoxN w' p t vs := (h.block p hb.lt h0).trans hb
end

section
variable {role : Nat → Nat} {code : Nat} {w w' : World} {v : Value} {l : List Int}
theorem RowW.nil (role : Nat → Nat) (code : Nat) (w : World) : RowW role code w (.slice none 0 0) [] := .inl ⟨rfl, rfl⟩
theorem RowW.keep {role' : Nat → Nat} (h : RowW role code w v l) (hk : ∀ g, g < w.heap.size → role g = code → w'.heap[g]? = w.heap[g]?) (hr : ∀ g, g < w.heap.size → role' g = role g) : RowW role' code w' v l := by
  rcases h with h | ⟨g, off, c, cur, h1, h2, h3, h4, h5, h6, h7⟩
  · exact .inl h
  · have hg : g < w.heap.size := (Array.getElem?_eq_some_iff.1 h4).1
    exact .inr ⟨g, off, c, cur, h1, h2, h3, (hk g hg h6).trans h4, h5, (hr g hg).trans h6, h7⟩
theorem RowW.form (h : RowW role code w v l) : ∃ A c, v = .slice A l.length c ∧ IntsAt w A l := by
  rcases h with ⟨rfl, rfl⟩ | ⟨g, off, c, cur, rfl, h2, h3, h4, h5, h6, h7⟩
  · exact ⟨none, 0, rfl, IntsAt.nil⟩
  · exact ⟨_, c, rfl, fun _ => ⟨g, off, rfl, fun j x hj => by rw [cell_of_row w g (off + j) cur _ _ h4]; exact h7 j x hj⟩⟩
theorem RowW.cut (h : RowW role code w v l) {m : Int} {r : List Int} (hl : l = m :: r) : ∃ g off c, v = .slice (some ⟨g, off, none⟩) l.length c ∧ l.length ≤ c ∧ role g = code ∧ RowW role code w (.slice (some ⟨g, if c = 1 then off else off + 1, none⟩) (l.length - 1) (c - 1)) r := by
  subst hl
  rcases h with ⟨_, h⟩ | ⟨g, off, c, cur, h1, h2, h3, h4, h5, h6, h7⟩
  · cases h
  · simp only [List.length_cons] at h2 h1 ⊢
    refine ⟨g, off, c, h1, h2, h6, .inr ⟨g, _, c - 1, cur, rfl, by omega, by omega, h4, by split <;> omega, h6, fun j x hj => ?_⟩⟩
    have hjr := (List.getElem?_eq_some_iff.1 hj).1
    rw [if_neg (by omega), show off + 1 + j = off + (j + 1) by omega]
    exact h7 (j + 1) x (by simpa using hj)
end

/-- A row with one more of its own. -/
def rolePut (role : Nat → Nat) (n g code : Nat) : Nat → Nat := fun b => if b < n then role b else if b = g then code else 0

theorem rolePut_new {role : Nat → Nat} {n code b : Nat} (h : n + 1 ≤ b) : rolePut role n n code b = 0 := by unfold rolePut; rw [if_neg (by omega), if_neg (by omega)]
section
variable {role : Nat → Nat} {code : Nat} {w : World} {v : Value} {l : List Int}
/-- 'append(row, x)': in its place, or anew. -/
theorem RowW.push (h : RowW role code w v l) (hl : l.length < 2 ^ 40) (ty : TypeId) (ad : Addr) (x : Int) (c : Nat) (hx : w.cell? ad = some (.int .i64 x)) :
    ∃ v' w' role', (Builtin.append_ #[24, 24] ty #[v, .slice (some ad) 1 c]).run Tryd.prog w = .ok v' w' ∧ RowW role' code w' v' (l ++ [x]) ∧
      (∀ b, b < w.heap.size → role' b = role b) ∧ w.heap.size ≤ w'.heap.size ∧ w'.os = w.os ∧ w'.tape = w.tape ∧ w'.output = w.output ∧ (∀ b, b < w.heap.size → role b ≠ code → w'.heap[b]? = w.heap[b]?) ∧ ((∀ b, w.heap.size ≤ b → role b = 0) → ∀ b, w'.heap.size ≤ b → role' b = 0) := by
  obtain ⟨i, z, hi, hz, hsize, hby, hzs⟩ := eInts.info
  have hnews : ∀ j u, [Value.int .i64 x][j]? = some u → w.cell? (ad.add j) = some u := fun j u hj => by
    match j, hj with
    | 0, hj =>
      simp at hj
      subst hj
      have : ad.add 0 = ad := by unfold Addr.add; split <;> simp_all
      rw [this]; exact hx
    | j + 1, hj => simp at hj
  have hlen1 : (l ++ [x]).length = l.length + 1 := by simp
  have newrow : ∀ (cap : Nat) (zs : Array Value), l.length + 1 ≤ cap → cap ≤ maxLen → (l.map (Value.int .i64)).length + 1 + zs.size = cap → RowW (rolePut role w.heap.size w.heap.size code) code (w.drew.alloc (.cells ((l.map (Value.int .i64)).toArray ++ [Value.int .i64 x].toArray ++ zs) 3)) (.slice (some ⟨w.heap.size, 0, none⟩) (l.length + 1) cap) (l ++ [x]) := fun cap zs h1 h2 h3 => by
    refine .inr ⟨w.heap.size, 0, cap, _, by rw [hlen1], by rw [hlen1]; exact h1, h2, heap_alloc_new w.drew _, ?_, ?_, fun j y hj => ?_⟩
    · simp at h3 ⊢; omega
    · unfold rolePut; rw [if_neg (by omega), if_pos rfl]
    · rw [Nat.zero_add]
      have hjl : j < l.length + 1 := by rw [← hlen1]; exact (List.getElem?_eq_some_iff.1 hj).1
      rw [Array.getElem?_append_left (by simp; omega), List.append_toArray, List.getElem?_toArray]
      have : (l.map (Value.int .i64)) ++ [Value.int .i64 x] = (l ++ [x]).map (Value.int .i64) := by simp
      rw [this, List.getElem?_map, hj]; rfl
  rcases h with ⟨rfl, rfl⟩ | ⟨g, off, cap, cur, rfl, h2, h3, h4, h5, h6, h7⟩
  · have hr := Go.run_append_nil (P := Tryd.prog) w 24 ty 3 i z Tryd.underlying24 hi hz ad 1 c [Value.int .i64 x] (by simp [hsize]) hnews (by omega) (by omega) (by rw [hby]; omega)
    refine ⟨_, _, rolePut role w.heap.size w.heap.size code, hr, ?_, fun b hb => by unfold rolePut; rw [if_pos hb], by simp, rfl, rfl, rfl, fun b hb _ => Below.heap_alloc w.drew _ b hb, fun _ b hb => rolePut_new (by simpa using hb)⟩
    have hge := grownCap_ge w 1 0 3
    have hcm : grownCap w 1 0 3 ≤ maxLen := grownCap_le_maxLen w 1 0 3 (by unfold maxLen; omega)
    have := newrow (grownCap w 1 0 3) (Builtin.zeroCells z.cells (grownCap w 1 0 3 - 1)) (by simpa using hge) hcm (by rw [size_zeroCells, hzs]; simp; omega)
    simpa using this
  · have hcells : ∀ j u, (l.map (Value.int .i64))[j]? = some u → w.cell? ((⟨g, off, none⟩ : Addr).add j) = some u := fun j u hj => by
      rw [List.getElem?_map] at hj
      cases hlj : l[j]? with
      | none => rw [hlj] at hj; cases hj
      | some y =>
        rw [hlj] at hj
        injection hj with hj
        subst hj
        rw [Addr.add_lit, cell_of_row w g (off + j) cur _ _ h4]
        exact h7 j y hlj
    by_cases hroom : l.length + 1 ≤ cap
    · have hf := run_firstCells_some (P := Tryd.prog) w i.size 1 ad 1 c [Value.int .i64 x] (by simp [hsize]) hnews
      have hst := run_storeCells_at Tryd.prog g (off + l.length) 3 [Value.int .i64 x] 0 cur w h4 (by simp; omega) (fun u hu => by simp at hu; subst hu; rfl)
      have hL : 1 ≤ cap - l.length := by omega
      refine ⟨.slice (some ⟨g, off, none⟩) (l.length + 1) cap, w.setRow g (cur.toList.take (off + l.length) ++ [Value.int .i64 x] ++ cur.toList.drop (off + l.length + 1)).toArray, role, ?_, ?_, fun _ _ => rfl, by simp, rfl, rfl, rfl, fun b hb hne => setRow_other w g b _ (fun e => hne (by rw [e]; exact h6)), fun h0 b hb => h0 b (by simpa using hb)⟩
      · rw [hsize] at hf
        simp at hst
        simp [Builtin.append_, run_underlying Tryd.underlying24, sizeOf, typeInfo, hi, Builtin.lenOf, hroom, hf, Addr.add_lit, hsize, hst]
      · refine .inr ⟨g, off, cap, _, by rw [hlen1], by rw [hlen1]; exact hroom, h3, setRow_heap w g cur _ 3 _ h4, ?_, h6, fun j y hj => ?_⟩
        · simp; omega
        · have hjl : j < l.length + 1 := by rw [← hlen1]; exact (List.getElem?_eq_some_iff.1 hj).1
          rw [List.getElem?_toArray]
          rcases Nat.lt_or_ge j l.length with hlt | hge
          · rw [List.getElem?_append_left hlt] at hj
            rw [List.append_assoc, List.getElem?_append_left (by simp; omega), List.getElem?_take_of_lt (by omega), Array.getElem?_toList]
            exact h7 j y hj
          · obtain rfl : j = l.length := by omega
            simp at hj
            subst hj
            rw [List.append_assoc, List.getElem?_append_right (by simp; omega), show off + l.length - (cur.toList.take (off + l.length)).length = 0 by simp; omega]
            rfl
    · have hcm2 : cap < l.length + 1 := by omega
      have hr := run_append_grow (P := Tryd.prog) w 24 ty 3 i z Tryd.underlying24 hi hz ⟨g, off, none⟩ l.length cap (l.map (Value.int .i64)) (by simp [hsize]) hcells ad 1 c [Value.int .i64 x] (by simp [hsize]) hnews hcm2 (by omega) (growslice_fits (by omega) (by rw [hby]; omega))
      refine ⟨_, _, rolePut role w.heap.size w.heap.size code, hr, ?_, fun b hb => by unfold rolePut; rw [if_pos hb], by simp, rfl, rfl, rfl, fun b hb _ => Below.heap_alloc w.drew _ b hb, fun _ b hb => rolePut_new (by simpa using hb)⟩
      have hge := grownCap_ge w (l.length + 1) cap 3
      have hcm : grownCap w (l.length + 1) cap 3 ≤ maxLen := grownCap_le_maxLen w (l.length + 1) cap 3 (by unfold maxLen; omega)
      exact newrow (grownCap w (l.length + 1) cap 3) _ hge hcm (by rw [size_zeroCells, hzs]; simp; omega)
end
end Go.Proofs.YtgkanbaboeppfaaDoor
