/-
  Contracts: quietwingref5.put, row.
-/
import Derived.Test.YtgkanbaboeppfaaDoorPushOne
import Derived.Test.YtgkanbaboeppfaaDoorKernM
import Derived.Test.YtgkanbaboeppfaaDoorKernF
import Derived.Test.YtgkanbaboeppfaaDoorShownCap
namespace Go.Proofs.YtgkanbaboeppfaaDoor
open Go.RowKit
set_option maxRecDepth 100000
set_option linter.unusedVariables false

theorem eGI : EInfo Tryd.prog 34 24 1 24 := EInfo.of (z := .slice none 0 0) Tryd.underlying34 (by kernel_rfl) rfl (by decide)
/-- A row of ints, to be read. -/
def R1 (ok : Nat → Prop) (w : World) (A : Option Addr) (n : Nat) (l : List Int) : Prop := l.length = n * 1 ∧ n ≤ maxLen ∧ IntsIn ok w A l
theorem R1.below {ok : Nat → Prop} {w w' : World} {A : Option Addr} {n : Nat} {l : List Int} (h : R1 ok w A n l) (hb : Below w.heap.size w w') : R1 ok w' A n l := ⟨h.1, h.2.1, h.2.2.below hb⟩
theorem IntsAt.anyIn {w : World} {A : Option Addr} {l : List Int} (h : IntsAt w A l) : IntsIn anyB w A l := fun hl => by
  obtain ⟨b, off, e, hc⟩ := h hl
  exact ⟨b, off, e, trivial, hc⟩
theorem rows_vals {ok : Nat → Prop} {w : World} {A : Option Addr} {Ls : List (List Int)} (h : RowsIn ok 1 w A Ls) : ∃ xs, SlVals (R1 ok) w xs Ls ∧ CellsAt w A xs := by
  rcases Classical.em (Ls = []) with rfl | hne
  · exact ⟨[], SlVals.nil, CellsAt.nil⟩
  obtain ⟨b, off, rfl, _, hc⟩ := h hne
  have key : ∀ n, n ≤ Ls.length → ∃ xs : List Value, xs.length = n ∧ ∀ (i : Nat) (l : List Int), i < n → Ls[i]? = some l → ∃ (Ai : Option Addr) (ni ci : Nat), xs[i]? = some (.slice Ai ni ci) ∧ w.cell? ⟨b, off + i, none⟩ = some (.slice Ai ni ci) ∧ R1 ok w Ai ni l := by
    intro n
    induction n with
    | zero => intro _; exact ⟨[], rfl, fun i l hi => by omega⟩
    | succ n ih =>
      intro hn
      obtain ⟨xs, h1, h2⟩ := ih (by omega)
      obtain ⟨Ai, ni, ci, g1, g2, g3, g4⟩ := hc n _ (List.getElem?_eq_getElem (by omega))
      refine ⟨xs ++ [.slice Ai ni ci], by simp [h1], fun i l hi hl => ?_⟩
      rcases Nat.lt_or_ge i n with h3 | h3
      · obtain ⟨Aj, nj, cj, k1, k2, k3⟩ := h2 i l h3 hl
        exact ⟨Aj, nj, cj, by rw [List.getElem?_append_left (by omega)]; exact k1, k2, k3⟩
      · obtain rfl : i = n := by omega
        rw [List.getElem?_eq_getElem (by omega)] at hl
        injection hl with hl
        subst hl
        exact ⟨Ai, ni, ci, by rw [← h1]; simp, g1, g2, g3, g4⟩
  obtain ⟨xs, h1, h2⟩ := key Ls.length (Nat.le_refl _)
  refine ⟨xs, ⟨h1, fun i l hl => ?_⟩, fun _ => ⟨b, off, rfl, fun j u hj => ?_⟩⟩
  · obtain ⟨Ai, ni, ci, k1, _, k3⟩ := h2 i l (List.getElem?_eq_some_iff.1 hl).1 hl
    exact ⟨Ai, ni, ci, k1, k3⟩
  · have hlt : j < Ls.length := by have := (List.getElem?_eq_some_iff.1 hj).1; omega
    obtain ⟨Ai, ni, ci, k1, k2, _⟩ := h2 j _ hlt (List.getElem?_eq_getElem hlt)
    rw [hj] at k1
    rw [k2, ← k1]
theorem vals_rows {ok : Nat → Prop} {w : World} {base n c : Nat} {A : Option Addr} {Ls : List (List Int)} {xs : List Value} (h : SlVals (R1 ok) w xs Ls) (ho : w.ownsRow base 24 1 (.slice A n c) n xs) (hb : ∀ b, base ≤ b → ok b) : RowsIn ok 1 w A Ls := fun hne => by
  have hx : xs ≠ [] := by rintro rfl; exact hne (List.length_eq_zero_iff.1 h.1.symm)
  obtain ⟨b, off, e, hc⟩ := CellsAt.own ho hx
  have hbb : base ≤ b := by
    rcases ho.2 with ⟨_, h0⟩ | ⟨g, cap, cur, hv, hg, _⟩
    · have := ho.1; rw [h0] at this; exact absurd (List.length_eq_zero_iff.1 (by simpa using this)) hx
    · injection hv with hv
      rw [e] at hv
      injection hv with hv
      injection hv with hv
      omega
  refine ⟨b, off, e, hb b hbb, fun i l hi => ?_⟩
  obtain ⟨Ai, ni, ci, h1, h2⟩ := h.2 i l hi
  exact ⟨Ai, ni, ci, hc i _ h1, h2⟩
/-- Rows whose room is at least their length. -/
def CapsV (xs : List Value) : Prop := ∀ u ∈ xs, ∃ (A : Option Addr) (n c : Nat), u = .slice A n c ∧ n ≤ c
def CapsIn (ok : Nat → Prop) (w : World) (A : Option Addr) (n : Nat) : Prop := ∀ i, i < n → ∃ (b off : Nat) (Ai : Option Addr) (ni ci : Nat), A = some ⟨b, off, none⟩ ∧ ok b ∧ w.cell? ⟨b, off + i, none⟩ = some (.slice Ai ni ci) ∧ ni ≤ ci
theorem CapsIn.keep {ok : Nat → Prop} {w w' : World} {A : Option Addr} {n : Nat} (h : CapsIn ok w A n) (hk : ∀ b, b < w.heap.size → ok b → w'.heap[b]? = w.heap[b]?) : CapsIn ok w' A n := fun i hi => by
  obtain ⟨b, off, Ai, ni, ci, e, hb, hc, hle⟩ := h i hi
  refine ⟨b, off, Ai, ni, ci, e, hb, ?_, hle⟩
  rw [World.cell?_of_block (hk b (block_lt hc) hb)]
  exact hc
theorem CapsIn.below {ok : Nat → Prop} {w w' : World} {A : Option Addr} {n : Nat} (h : CapsIn ok w A n) (hb : Below w.heap.size w w') : CapsIn ok w' A n := h.keep fun b h1 _ => hb.block b h1
theorem CapsIn.mono {ok ok' : Nat → Prop} {w : World} {A : Option Addr} {n : Nat} (h : CapsIn ok w A n) (ho : ∀ b, b < w.heap.size → ok b → ok' b) : CapsIn ok' w A n := fun i hi => by
  obtain ⟨b, off, Ai, ni, ci, e, hb, hc, hle⟩ := h i hi
  exact ⟨b, off, Ai, ni, ci, e, ho b (block_lt hc) hb, hc, hle⟩
theorem CapsIn.vals {ok : Nat → Prop} {w : World} {A : Option Addr} {n : Nat} {xs : List Value} (h : CapsIn ok w A n) (hc : CellsAt w A xs) (hl : xs.length = n) : CapsV xs := fun u hu => by
  obtain ⟨i, hi, rfl⟩ := List.getElem_of_mem hu
  obtain ⟨b, off, Ai, ni, ci, e, _, hcell, hle⟩ := h i (by omega)
  obtain ⟨b', off', e', hcs⟩ := hc (by rintro rfl; simp at hi)
  rw [e] at e'
  injection e' with e'
  injection e' with e1 e2
  subst e1; subst e2
  have := hcs i _ (List.getElem?_eq_getElem hi)
  rw [hcell] at this
  injection this with this
  exact ⟨Ai, ni, ci, this.symm, hle⟩
theorem CapsV.own {ok : Nat → Prop} {w : World} {base n c : Nat} {A : Option Addr} {xs : List Value} (h : CapsV xs) (ho : w.ownsRow base 24 1 (.slice A n c) n xs) (hb : ∀ b, base ≤ b → ok b) : CapsIn ok w A n := fun i hi => by
  have hl : xs.length = n := by have := ho.1; omega
  have hx : xs ≠ [] := by rintro rfl; simp at hl; omega
  obtain ⟨b, off, e, hc⟩ := CellsAt.own ho hx
  have hbb : base ≤ b := by
    rcases ho.2 with ⟨_, h0⟩ | ⟨g, cap, cur, hv, hg, _⟩
    · omega
    · injection hv with hv
      rw [e] at hv
      injection hv with hv
      injection hv with hv
      omega
  obtain ⟨Ai, ni, ci, hu, hle⟩ := h _ (List.getElem_mem (by omega : i < xs.length))
  exact ⟨b, off, Ai, ni, ci, e, hb b hbb, by rw [← hu]; exact hc i _ (List.getElem?_eq_getElem (by omega)), hle⟩
theorem CapsV.nil : CapsV [] := fun u hu => by cases hu
theorem CapsV.push {xs : List Value} (h : CapsV xs) {A : Option Addr} {n c : Nat} (hc : n ≤ c) : CapsV (xs ++ [.slice A n c]) := fun u hu => by
  rcases List.mem_append.1 hu with hu | hu
  · exact h u hu
  · rw [List.mem_singleton] at hu
    exact ⟨A, n, c, hu, hc⟩
theorem SlVals.one {R : World → Option Addr → Nat → List Int → Prop} {w : World} {xs : List Value} {Ls : List (List Int)} (h : SlVals R w xs Ls) : ∀ u ∈ xs, u.oneCell' = true := fun u hu => by
  obtain ⟨i, hi, rfl⟩ := List.getElem_of_mem hu
  obtain ⟨A, n, c, h1, _⟩ := h.2 i _ (List.getElem?_eq_getElem (by have := h.1; omega))
  rw [List.getElem?_eq_getElem hi] at h1
  injection h1 with h1
  rw [h1]; rfl
theorem SlVals.set {R : World → Option Addr → Nat → List Int → Prop} {w : World} {xs : List Value} {Ls : List (List Int)} (h : SlVals R w xs Ls) (i : Nat) {A : Option Addr} {n c : Nat} {l : List Int} (hl : R w A n l) : SlVals R w (xs.set i (.slice A n c)) (Ls.set i l) := by
  refine ⟨by simp [h.1], fun j m hj => ?_⟩
  rw [List.getElem?_set] at hj
  rw [List.getElem?_set]
  split at hj
  · rename_i e
    subst e
    split at hj
    · rename_i hlt
      injection hj with hj
      subst hj
      exact ⟨A, n, c, by rw [if_pos rfl, if_pos (by have := h.1; omega)], hl⟩
    · cases hj
  · rename_i e
    rw [if_neg e]
    exact h.2 j m hj
theorem CellsAt.take {w : World} {A : Option Addr} {xs : List Value} (h : CellsAt w A xs) (i : Nat) : CellsAt w A (xs.take i) := fun hne => by
  obtain ⟨b, off, e, hc⟩ := h (by rintro rfl; simp at hne)
  exact ⟨b, off, e, fun j u hj => hc j u (by
    rw [List.getElem?_take] at hj
    split at hj
    · exact hj
    · cases hj)⟩
theorem CellsAt.tail {w : World} {b off : Nat} {xs : List Value} (h : CellsAt w (some ⟨b, off, none⟩) xs) (i k : Nat) (hk : k = i ∨ xs.length ≤ i) : CellsAt w (some ⟨b, off + k, none⟩) (xs.drop i) := fun hne => by
  obtain ⟨b', off', e, hc⟩ := h (by rintro rfl; simp at hne)
  injection e with e
  injection e with e1 e2
  subst e1
  subst e2
  refine ⟨b, off + k, rfl, fun j u hj => ?_⟩
  rw [List.getElem?_drop] at hj
  have hlt := (List.getElem?_eq_some_iff.1 hj).1
  have := hc _ u hj
  rw [Nat.add_assoc, show k + j = i + j by omega]
  exact this
/-- A slice of rows: its beginning. -/
theorem run_rows_to (V : World) (A : Option Addr) (n c k : Nat) (h1 : k ≤ n) (h2 : n ≤ c) : (Instr.sliceAt 34 (.slice A n c) none (some (.int .i64 k)) none).run Tryd.prog V = .ok (.slice A k c) V := by
  have e := Tryd.underlying34
  obtain ⟨i, z, hi, hz, hsize, -⟩ := eGI.info
  have n1 : ¬ c < k := by omega
  cases A with
  | none => simp [Instr.sliceAt, Instr.slice, Instr.sliceBounds, run_underlying e, sizeOf, typeInfo, hi, go_sem, n1]
  | some a => simp [Instr.sliceAt, Instr.slice, Instr.sliceBounds, run_underlying e, sizeOf, typeInfo, hi, go_sem, n1]
/-- .. and its end. -/
theorem run_rows_from (g og n c k : Nat) (h1 : k ≤ n) (h2 : n ≤ c) : ∃ k' c', (k' = k ∨ n ≤ k) ∧ ∀ V : World, (Instr.sliceAt 34 (.slice (some ⟨g, og, none⟩) n c) (some (.int .i64 k)) none none).run Tryd.prog V = .ok (.slice (some ⟨g, og + k', none⟩) (n - k) c') V := by
  have e := Tryd.underlying34
  obtain ⟨i, z, hi, hz, hsize, -⟩ := eGI.info
  have n1 : ¬ n < k := by omega
  by_cases hc : c = k
  · refine ⟨0, c - k, .inr (by omega), fun V => ?_⟩
    subst hc
    simp [Instr.sliceAt, Instr.slice, Instr.sliceBounds, run_underlying e, sizeOf, typeInfo, hi, go_sem, n1]
  · refine ⟨k, c - k, .inl rfl, fun V => ?_⟩
    simp [Instr.sliceAt, Instr.slice, Instr.sliceBounds, run_underlying e, sizeOf, typeInfo, hi, hsize, go_sem, n1, hc]

/-- 'append(s, t..)', cells anywhere; the new slice written out. -/
theorem wpList_join {P : Program} {w : World} {ops : Array Oper} {rest : List Oper} {o : Oper} {a : Act} {Q : Exit → Act → World → Prop} (hgd : o.guard = none) (s x : Operand) {t : TypeId}
    (ho : o.op = .call { callee := .builtin .append, args := #[s, x], argTypes := #[t, t] })
    {base : Nat} {e : TypeId} {bytes : Nat} (E : EInfo P t e 1 bytes) {v : Value} {n : Nat} {xs : List Value} (hs : a.eval s = v) (hown : w.ownsRow base e 1 v n xs)
    (A : Option Addr) (m c : Nat) (news : List Value) (hx : a.eval x = .slice A m c) (hc : CellsAt w A news) (hl : news.length = m) (h1 : ∀ u ∈ news, u.oneCell' = true)
    (hbytes : (n + m) * bytes ≤ 140737488355328) (h63 : n + m ≤ 140737488355328) (hbase : base ≤ w.heap.size)
    (h : ∀ B q cc w', Hid (q = n + m) → w'.ownsRow base e 1 (.slice B q cc) q (xs ++ news) → (∀ w0, Below base w0 w → Below base w0 w') → wpList P ops Q rest (a.put o.dst (.slice B q cc)) w') : wpList P ops Q (o :: rest) a w := by
  refine wpList_append_cells hgd s x ho E hs hown A m c news hx hc (by rw [hl, Nat.mul_one]) h1 hbytes h63 hbase (fun v' w' hp => ?_)
  obtain ⟨B, cc, rfl⟩ := ownsRow_form hp.own
  exact h B (n + m) cc w' (Lib.hid rfl) hp.own fun w0 hb => hp.below hown hb hbase

theorem own_head {w : World} {base n c : Nat} {e : TypeId} {A : Option Addr} {xs : List Value} (h : w.ownsRow base e 1 (.slice A n c) n xs) (hn : 0 < n) : ∃ g, A = some ⟨g, 0, none⟩ ∧ base ≤ g := by
  rcases h.2 with ⟨_, h1⟩ | ⟨g, cap, cur, hv, hg, _⟩
  · omega
  · injection hv with hv
    exact ⟨g, hv, hg⟩

theorem own_cell {w : World} {base n c g i : Nat} {e : TypeId} {xs : List Value} (h : w.ownsRow base e 1 (.slice (some ⟨g, 0, none⟩) n c) n xs) (hi : i < n) : ∃ u, w.cell? ⟨g, i, none⟩ = some u := by
  have hl : xs.length = n := by have := h.1; omega
  obtain ⟨b, off, e1, hc⟩ := CellsAt.own h (by rintro rfl; simp at hl; omega)
  injection e1 with e1
  injection e1 with e1 e2
  subst e1
  subst e2
  have := hc i _ (List.getElem?_eq_getElem (by omega))
  rw [Nat.zero_add] at this
  exact ⟨_, this⟩

set_option maxHeartbeats 4000000 in
theorem put_any {l : List Int} {A : Option Addr} {n c i : Nat} {x : Int} {w : World} (hA : IntsAt w A l) (hn : l.length = n) (hi : i < n) (hm : n ≤ 1000000) :
    Calls Tryd.prog 30 #[.slice A n c, .int .i64 i, .int .i64 x] w fun e w' => (∃ A' c', e = .returned (.slice A' n c') ∧ n ≤ c' ∧ IntsIn (fun b => w.heap.size ≤ b) w' A' (l.set i x)) ∧ Below w.heap.size w w' := by
  have hown : w.ownsRow w.heap.size 3 1 (.slice none 0 0) 0 [] := World.ownsRow_nil _ _ _ _
  have hcells := hA.cells
  go_enter Tryd.func30, Tryd.ntmps30
  go_wp2_with (at_builtin; refine wpList_join rfl _ _ rfl eInts rfl hown A n c (l.map (.int .i64)) rfl hcells (by simp [hn]) (fun u hu => by obtain ⟨x, _, rfl⟩ := List.mem_map.1 hu; rfl) (by omega) (by omega) (Nat.le_refl _) ?_; intro A1 q1 c1 w1 Hq hown1 hbl; obtain rfl : q1 = n := (by have := Hq.out; omega); obtain ⟨g, rfl, hgb⟩ := own_head hown1 (by omega); have fz := hown1.frozenAt i; obtain ⟨u0, cu⟩ := own_cell hown1 hi)
  go_ret
  refine ⟨⟨_, _, rfl, ownsRow_cap hown1, ?_⟩, belowSet (hbl w (Below.refl _ _)) hgb _⟩
  have hst := (hown1.stored i (.int .i64 x)).1
  have hc := CellsAt.own hst
  rw [List.nil_append, ← List.map_set] at hc
  intro hne
  obtain ⟨b', o', e', hc'⟩ := hc.ints hne
  injection e' with e'
  injection e' with e1 e2
  subst e1
  subst e2
  exact ⟨g, 0, rfl, hgb, hc'⟩

set_option maxHeartbeats 4000000 in
theorem row_any {ok : Nat → Prop} {Ls : List (List Int)} {A Ax : Option Addr} {n c i nx cx : Nat} {lx : List Int} {w : World} (hA : RowsIn ok 1 w A Ls) (hok : ∀ b, w.heap.size ≤ b → ok b) (hn : Ls.length = n) (hi : i < n) (hc : n ≤ c) (hm : n ≤ 1000000) (hx : R1 ok w Ax nx lx) (hcaps : CapsIn ok w A n) (hcx' : nx ≤ cx) :
    Calls Tryd.prog 31 #[.slice A n c, .int .i64 i, .slice Ax nx cx] w fun e w' => (∃ A' c', e = .returned (.slice A' n c') ∧ n ≤ c' ∧ RowsIn ok 1 w' A' (Ls.set i lx) ∧ CapsIn ok w' A' n) ∧ Below w.heap.size w w' := by
  obtain ⟨xs, hvs, hcx⟩ := rows_vals hA
  have hlen : xs.length = n := by rw [hvs.1, hn]
  obtain ⟨b, off, rfl, -⟩ := hcx (by rintro rfl; simp at hlen; omega)
  have hown : w.ownsRow w.heap.size 24 1 (.slice none 0 0) 0 [] := World.ownsRow_nil _ _ _ _
  have hone := hvs.one
  have cut1 := fun V => run_rows_to V (some ⟨b, off, none⟩) n c i (by omega) hc
  have hct := hcx.take i
  obtain ⟨k', c', hk', cut2⟩ : ∃ k' c', (k' = i + 1 ∨ n ≤ i + 1) ∧ ∀ V : World, (Instr.sliceAt 34 (.slice (some ⟨b, off, none⟩) n c) (some (.int .i64 ((i : Int) + 1))) none none).run Tryd.prog V = .ok (.slice (some ⟨b, off + k', none⟩) (n - (i + 1)) c') V := by
    obtain ⟨k', c', h1, h2⟩ := run_rows_from b off n c (i + 1) (by omega) hc
    exact ⟨k', c', h1, h2⟩
  have hcd := hcx.tail (i + 1) k' (by rw [hlen]; exact hk')
  go_enter Tryd.func31, Tryd.ntmps31
  have Hsz := Lib.hid hlen
  go_wp2_with (first
    | (at_builtin; refine wpList_join rfl _ _ rfl eGI rfl hown (some ⟨b, off, none⟩) i c (xs.take i) rfl hct (by rw [List.length_take]; omega) (fun u hu => hone u (List.mem_of_mem_take hu)) (by omega) (by omega) (Nat.le_refl _) ?_; intro A1 q1 c1 w1 Hq hown1 hbl1; obtain rfl : q1 = i := (by have := Hq.out; omega); have hb1 := hbl1 w (Below.refl _ _); have Hs1 := Lib.hid hb1.size)
    | (at_builtin; refine wpList_push_one eGI (by decide) rfl _ _ rfl rfl (ownsRow_below hown1 (w1 := _) (B := w1.heap.size) ((Below.refl _ _).alloc (Nat.le_refl _) _) (Nat.le_refl _)) w1.heap.size (.slice Ax nx cx) rfl rfl (cell_of_row _ _ 0 _ _ _ (heap_alloc_new _ _)) (by omega) (by have := Hs1.out; simp; omega) ?_; intro A2 c2 w2 hown2 hgr2 hbl2; have hb2 := hbl2 w (hb1.alloc Hs1.out _); have Hs2 := Lib.hid hb2.size; have hcd2 : CellsAt w2 (some ⟨b, off + k', none⟩) (xs.drop (q1 + 1)) := hcd.below hb2)
    | (at_builtin; refine wpList_join rfl _ _ rfl eGI rfl hown2 (some ⟨b, off + k', none⟩) (n - (q1 + 1)) c' (xs.drop (q1 + 1)) rfl hcd2 (by simp [hlen]) (fun u hu => hone u (List.mem_of_mem_drop hu)) (by omega) (by omega) Hs2.out ?_; intro A3 q3 c3 w3 Hq3 hown3 hbl3; obtain rfl : q3 = n := (by have := Hq3.out; omega); have hb3 := hbl3 w hb2))
  go_ret
  have hcv : CapsV (([] ++ xs.take q1 ++ [.slice Ax nx cx]) ++ xs.drop (q1 + 1)) := fun u hu => by
    have hv := hcaps.vals hcx hlen
    rcases List.mem_append.1 hu with hu | hu
    · rcases List.mem_append.1 hu with hu | hu
      · rw [List.nil_append] at hu
        exact hv u (List.mem_of_mem_take hu)
      · rw [List.mem_singleton] at hu
        exact ⟨Ax, nx, cx, hu, hcx'⟩
    · exact hv u (List.mem_of_mem_drop hu)
  refine ⟨⟨A3, c3, rfl, ownsRow_cap hown3, ?_, hcv.own hown3 hok⟩, hb3⟩
  refine vals_rows ?_ hown3 hok
  have := (hvs.keep (w' := w3) (fun A n l h => h.below hb3)).set q1 (hx.below hb3) (c := cx)
  rw [List.set_eq_take_append_cons_drop, if_pos (by omega)] at this
  rw [List.append_assoc]
  exact this
end Go.Proofs.YtgkanbaboeppfaaDoor
