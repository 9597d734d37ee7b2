/-
  Contracts: strings.Builder's copyCheck, WriteString, String at the builder of a trail.
-/
import Derived.Test.YtanlmfnhlldkeaaGreatDoorRowsA
import Derived.Shelf.Strings.BuilderK
import Derived.Lib.ItoaLen
import Derived.Lib.UnsafeStr
import Derived.Lib.AppendStr
namespace Go.Proofs.YtanlmfnhlldkeaaGreatDoor
open Go.RowKit
set_option maxRecDepth 100000
set_option linter.unusedVariables false

section
variable {P : Program} (w : World)
/-- 'append(b, s...)' at bytes: the row stays, or is a new one. -/
theorem run_append_strX (base : Nat) (t u ty e : TypeId) (i : TypeInfo) (ht : P.underlying t = some (.slice e)) (hu : P.underlying u = some .string) (hi : P.info? e = some i) (hz : i.zero = some (.int .u8 0))
    (hsize : i.size = 1) (hby : i.bytes = 1)
    (v : Value) (n : Nat) (xs : List Value) (hown : w.ownsRowF base e 1 v n xs) (s : ByteArray)
    (h63 : n + s.size ≤ maxLen) (hbytes : n + s.size ≤ 140737488355328) (hbase : base ≤ w.heap.size) :
    ∃ v' w', (Builtin.append_ #[t, u] ty #[v, .string s]).run P w = .ok v' w' ∧ w'.ownsRowF base e 1 v' (n + s.size) (xs ++ Lib.strCells s) ∧ w.grownBy w' v.ownBlock ∧
      (v'.ownBlock = v.ownBlock ∨ ∃ m, w.heap.size ≤ m ∧ v'.ownBlock = some m) := by
  rcases hown.2 with ⟨rfl, rfl⟩ | ⟨g, cap, cur, fz, rfl, hbg, hg, hfz, hnc, hcm, hcs, htake⟩
  · obtain ⟨v', w', h1, h2, h3, h4⟩ := Lib.run_append_own_stringF (P := P) w w.heap.size t u ty e i ht hu hi hz hsize hby (.slice none 0 0) 0 xs ⟨hown.1, .inl ⟨rfl, rfl⟩⟩ s h63 hbytes (Nat.le_refl _)
    refine ⟨v', w', h1, ⟨h2.1, ?_⟩, h3, ?_⟩
    · rcases h2.2 with h0 | ⟨g, cap, cur, fz, hv, hg, r⟩
      · exact .inl h0
      · exact .inr ⟨g, cap, cur, fz, hv, Nat.le_trans hbase hg, r⟩
    · rcases h2.2 with ⟨h0, _⟩ | ⟨g, cap, cur, fz, hv, hg, r⟩
      · exact .inl (by rw [h0])
      · exact .inr ⟨g, hg, by rw [hv]; rfl⟩
  · by_cases hroom : n + s.size ≤ cap
    · have hcs' : cur.size = cap := by simpa using hcs
      have hr := Lib.run_append_room_stringF (P := P) w t u ty e i ht hu hi hsize g n cap cur fz hg (by simpa using hfz) s hroom (by omega)
      obtain ⟨v', w', h1, h2, h3, _⟩ := Lib.run_append_own_stringF (P := P) w base t u ty e i ht hu hi hz hsize hby _ n xs hown s h63 hbytes hbase
      rw [h1] at hr
      injection hr with e1 e2
      subst e1
      exact ⟨_, w', h1, h2, h3, .inl rfl⟩
    · have hxl : xs.length = n := by simpa using hown.1
      have holds : ∀ j u, xs[j]? = some u → w.cell? ((⟨g, 0, none⟩ : Addr).add j) = some u := hown.cells (g := g) rfl
      have hr := Lib.run_append_grow_string (P := P) w t u ty e i (.int .u8 0) ht hu hi hz ⟨g, 0, none⟩ n cap xs (by rw [hsize]; simpa using hxl) holds s (by omega) (by omega) (by rw [hby]; exact growslice_fits (by omega) (by omega))
      obtain ⟨v', w', h1, h2, h3, _⟩ := Lib.run_append_own_stringF (P := P) w base t u ty e i ht hu hi hz hsize hby _ n xs hown s h63 hbytes hbase
      rw [h1] at hr
      injection hr with e1 e2
      subst e1
      exact ⟨_, w', h1, h2, h3, .inr ⟨w.heap.size, Nat.le_refl _, rfl⟩⟩
theorem wpList_append_strX {ops : Array Oper} {rest : List Oper} {o : Oper} {a : Act} {Q : Exit → Act → World → Prop} (hgd : o.guard = none) (sl x : Operand) (t u : TypeId)
    (ho : o.op = .call { callee := .builtin .append, args := #[sl, x], argTypes := #[t, u] })
    (base : Nat) (e : TypeId) (i : TypeInfo) (ht : P.underlying t = some (.slice e)) (hu : P.underlying u = some .string) (hi : P.info? e = some i) (hz : i.zero = some (.int .u8 0))
    (hsize : i.size = 1) (hby : i.bytes = 1)
    (v : Value) (n : Nat) (xs : List Value) (hs : a.eval sl = v) (hown : w.ownsRowF base e 1 v n xs) (s : ByteArray) (hx : a.eval x = .string s)
    (h63 : n + s.size ≤ maxLen) (hbytes : n + s.size ≤ 140737488355328) (hbase : base ≤ w.heap.size)
    (h : ∀ v' w', w'.ownsRowF base e 1 v' (n + s.size) (xs ++ Lib.strCells s) → w.grownBy w' v.ownBlock → (v'.ownBlock = v.ownBlock ∨ ∃ m, w.heap.size ≤ m ∧ v'.ownBlock = some m) → wpList P ops Q rest (a.put o.dst v') w') : wpList P ops Q (o :: rest) a w := by
  refine wpList_plain hgd fun K hK => ?_
  obtain ⟨v', w', hr, h2, h3, h4⟩ := run_append_strX (P := P) w base t u o.type e i ht hu hi hz hsize hby v n xs hown s h63 hbytes hbase
  unfold Oper.wp execOp
  simp only [ho, resolve, invoke, builtin, Sem.run_bind, Sem.run_pure, Result.andThen_ok, List.map_toArray, List.map_cons, List.map_nil, hs, hx, hr]
  exact hK _ _ (h v' w' h2 h3 h4)
end

theorem Tryz.sizeBuilder : (Tryz.prog.info? 82).map (·.size) = some 2 := by kernel_rfl
theorem Tryz.liesTrail : liesAt Tryz.prog Tryz.prog.depth 193 (5 / Tryz.prog.cellsOf 193) 1 82 1 = true := by kernel_rfl
theorem Tryz.infoByte : (Tryz.prog.info? 5).map (fun i => (i.zero, i.size, i.bytes)) = some (some (.int .u8 0), 1, 1) := by kernel_rfl
/-- What lies beside a trail's builder: the monitor, how many lines, the last link. -/
structure TF where
  m : Value
  k : Value
  c : Value
/-- A trail in a block of its own, that holds these bytes. -/
def TrlAt (N : TF) (b : Nat) (p v : Value) (bs : List Value) (w : World) : Prop :=
  w.heap[b]? = some (.cells #[N.m, p, v, N.k, N.c] 193 (0, 0)) ∧ w.ownsRowF 0 5 1 v bs.length bs
def Trl (N : TF) (b : Nat) (v : Value) (bs : List Value) (w : World) : Prop := TrlAt N b (.pointer none) v bs w ∨ TrlAt N b (.pointer (some ⟨b, 1, none⟩)) v bs w
/-- A slice of bytes goes on. -/
def GoesOn (w : World) (v v' : Value) : Prop := v'.ownBlock = v.ownBlock ∨ ∃ m, w.heap.size ≤ m ∧ v'.ownBlock = some m
section
variable {N : TF} {b : Nat} {p v v' : Value} {bs bs' : List Value} {w w' : World}
theorem TrlAt.lt (h : TrlAt N b p v bs w) : b < w.heap.size := (Array.getElem?_eq_some_iff.1 h.1).1
theorem TrlAt.box (h : TrlAt N b p v bs w) : BoxN w b 193 #[N.m, p, v, N.k, N.c] := h.1
theorem TrlAt.ne (h : TrlAt N b p v bs w) : v.ownBlock ≠ some b := Lib.ownBlock_neF h.2 h.1 (by decide)
theorem TrlAt.shape (h : TrlAt N b p v bs w) : w.shape? b = some (193, 5) := by simp [World.shape?, h.1]
theorem grown_setCell (w : World) (b k : Nat) (q : Value) : w.grownBy (w.setCell ⟨b, k, none⟩ q) (some b) :=
  ⟨rfl, rfl, rfl, by simp [World.setCell], fun j _ hj => Below.heap_setCell _ _ _ _ (fun e => hj (by simp [e]))⟩
theorem TrlAt.used (h : TrlAt N b p v bs w) (q : Value) : TrlAt N b q v bs (w.setCell ⟨b, 1, none⟩ q) := by
  refine ⟨?_, h.2.kept (grown_setCell w b 1 q) (Or.inr h.ne)⟩
  have := h.box.set 1 q
  exact this
theorem TrlAt.put (hb : w.heap[b]? = some (.cells #[N.m, p, v, N.k, N.c] 193 (0, 0))) (hown : w.ownsRowF 0 5 1 v' bs'.length bs') : TrlAt N b p v' bs' (w.setCell ⟨b, 2, none⟩ v') := by
  have hne := Lib.ownBlock_neF hown hb (by decide)
  refine ⟨?_, hown.kept (grown_setCell w b 2 v') (Or.inr hne)⟩
  have hx : BoxN w b 193 #[N.m, p, v, N.k, N.c] := hb
  exact hx.set 2 v'
theorem Trl.lt (h : Trl N b v bs w) : b < w.heap.size := h.elim (fun h => h.lt) (fun h => h.lt)
theorem Trl.ne (h : Trl N b v bs w) : v.ownBlock ≠ some b := h.elim (fun h => h.ne) (fun h => h.ne)
theorem Trl.vlt (h : Trl N b v bs w) {g : Nat} (hg : v.ownBlock = some g) : g < w.heap.size := h.elim (fun h => (h.2.lt g hg).2) (fun h => (h.2.lt g hg).2)
/-- Where neither block has turned. -/
theorem TrlAt.keep (h : TrlAt N b p v bs w) (h1 : w'.heap[b]? = w.heap[b]?) (h2 : ∀ g, v.ownBlock = some g → w'.heap[g]? = w.heap[g]?) : TrlAt N b p v bs w' := by
  refine ⟨h1.trans h.1, h.2.1, ?_⟩
  rcases h.2.2 with h0 | ⟨g, cap, cur, fz, hv, hbg, hg, r⟩
  · exact .inl h0
  · exact .inr ⟨g, cap, cur, fz, hv, hbg, (h2 g (by rw [hv]; rfl)).trans hg, r⟩
theorem Trl.keep (h : Trl N b v bs w) (h1 : w'.heap[b]? = w.heap[b]?) (h2 : ∀ g, v.ownBlock = some g → w'.heap[g]? = w.heap[g]?) : Trl N b v bs w' := h.elim (fun h => .inl (h.keep h1 h2)) (fun h => .inr (h.keep h1 h2))
end
set_option maxHeartbeats 1000000 in
theorem trlCheck_used (b : Nat) (w : World) (h0 : w.cell? ⟨b, 1, none⟩ = some (.pointer (some ⟨b, 1, none⟩))) :
    Calls Tryz.prog 54 #[.pointer (some ⟨b, 1, none⟩)] w fun e w' => e = .returned (.tuple #[]) ∧ w' = w := by
  obtain ⟨j, hj, _⟩ := Option.map_eq_some_iff.1 Tryz.sizeBuilder
  go_enter Tryz.func54, Tryz.ntmps54
  go_wp2
  rw [Lib.run_neq_ptr_same w _ Tryz.underlying79 hj]
  go_wp2
  go_end0
  exact ⟨rfl, rfl⟩
set_option maxHeartbeats 1000000 in
theorem trlCheck_fresh (b : Nat) (w : World) (h0 : w.cell? ⟨b, 1, none⟩ = some (.pointer none)) (hsh : w.shape? b = some (193, 5)) (hfz : w.frozen? ⟨b, 1, none⟩ = false) :
    Calls Tryz.prog 54 #[.pointer (some ⟨b, 1, none⟩)] w fun e w' => e = .returned (.tuple #[]) ∧ w' = w.setCell ⟨b, 1, none⟩ (.pointer (some ⟨b, 1, none⟩)) := by
  obtain ⟨j, hj, hjs⟩ := Option.map_eq_some_iff.1 Tryz.sizeBuilder
  go_enter Tryz.func54, Tryz.ntmps54
  go_wp2
  rw [Lib.run_to_unsafe w ⟨b, 1, none⟩ Tryz.underlying79 Tryz.underlying129 hj (by rw [hjs]; decide) hsh (by show 1 < 5; decide)]
  simp only [Result.andThen]
  rw [Oper.upon_value]
  go_wp2
  rw [run_callFunc_extern Tryz.func77 (by kernel_rfl) (by kernel_rfl) (by kernel_rfl) (e := Extern.AbiNoEscape.same) (by kernel_rfl)]
  rw [Lib.run_noEscape]
  simp only [Result.andThen]
  rw [Oper.upon_value]
  go_wp2
  rw [Lib.run_from_unsafe w ⟨b, 1, none⟩ Tryz.underlying129 Tryz.underlying79 hj hsh Tryz.liesTrail]
  simp only [Result.andThen]
  rw [Oper.upon_value]
  go_wp2
  go_end0
  exact ⟨rfl, rfl⟩
theorem trlCheck_any {N : TF} {b : Nat} {v : Value} {bs : List Value} {w : World} (h : Trl N b v bs w) :
    Calls Tryz.prog 54 #[.pointer (some ⟨b, 1, none⟩)] w fun e w' => e = .returned (.tuple #[]) ∧ TrlAt N b (.pointer (some ⟨b, 1, none⟩)) v bs w' ∧ QKeeps (fun k => k = b) w w' := by
  rcases h with h | h
  · refine (trlCheck_fresh b w (h.box.cell rfl) h.shape (h.box.free 1)).mono ?_
    rintro e w' ⟨rfl, rfl⟩
    exact ⟨rfl, h.used _, (QKeeps.refl (fun k => k = b) w).setCell (p := ⟨b, 1, none⟩) rfl _⟩
  · refine (trlCheck_used b w (h.box.cell rfl)).mono ?_
    rintro e w' ⟨rfl, rfl⟩
    exact ⟨rfl, h, QKeeps.refl _ _⟩
set_option maxHeartbeats 2000000 in
theorem TrlString_any {N : TF} {b : Nat} {v : Value} {bs : List Value} (s : ByteArray) {w : World} (h : Trl N b v bs w) (hlen : bs.length + s.size ≤ 140737488355328) :
    Calls Tryz.prog 43 #[.pointer (some ⟨b, 1, none⟩), .string s] w fun e w' => e = .returned (.tuple #[.int .i64 s.size, .nilIface]) ∧ ∃ v', Trl N b v' (bs ++ Lib.strCells s) w' ∧ GoesOn w v v' ∧ QKeeps (fun k => k = b ∨ v.ownBlock = some k) w w' := by
  obtain ⟨i0, hi, hz0, hz1, hz2⟩ := info_parts Tryz.infoByte
  have Hcc := Lib.hid (trlCheck_any h)
  clear h
  go_enter Tryz.func43, Tryz.ntmps43
  go_wp2_with (go_at_call 54; refine Hcc.out.mono ?_)
  rintro e w1 ⟨rfl, h1, hk1⟩
  have hne := h1.ne
  obtain ⟨hbk, hown⟩ := h1
  have c0 : w1.cell? ⟨b, 1, none⟩ = some (.pointer (some ⟨b, 1, none⟩)) := by rw [Lib.cell_of_heap hbk]; rfl
  have c1 : w1.cell? ⟨b, 2, none⟩ = some v := by rw [Lib.cell_of_heap hbk]; rfl
  go_wp2_with (at_builtin; refine wpList_append_strX _ rfl _ _ 80 9 rfl 0 5 i0 Tryz.underlying80 Tryz.underlying9 hi hz0 hz1 hz2 _ _ _ rfl hown s rfl ?c3 ?c4 ?c5 ?_)
  case c3 => unfold maxLen; omega
  case c4 => omega
  case c5 => omega
  intro v' w2 hown' hgrow hgo
  have hlt : b < w1.heap.size := (Array.getElem?_eq_some_iff.1 hbk).1
  have hb2 : w2.heap[b]? = some (.cells #[N.m, .pointer (some ⟨b, 1, none⟩), v, N.k, N.c] 193 (0, 0)) := by
    rw [hgrow.block b hlt (fun e => hne e.symm)]
    exact hbk
  have d0 : w2.cell? ⟨b, 1, none⟩ = some (.pointer (some ⟨b, 1, none⟩)) := by rw [Lib.cell_of_heap hb2]; rfl
  have d1 : w2.cell? ⟨b, 2, none⟩ = some v := by rw [Lib.cell_of_heap hb2]; rfl
  have f1 : w2.frozen? ⟨b, 2, none⟩ = false := Lib.frozen_of_heap hb2 2
  have hgo' : GoesOn w v v' := hgo.imp id (fun ⟨m, hm, e⟩ => ⟨m, Nat.le_trans hk1.size hm, e⟩)
  obtain ⟨ao, n', cap, rfl⟩ : ∃ ao n' cap, v' = .slice ao n' cap := by
    rcases hown'.2 with ⟨hv, _⟩ | ⟨g, cap, cur, fz, hv, _⟩
    · exact ⟨_, _, _, hv⟩
    · exact ⟨_, _, _, hv⟩
  go_wp2
  go_ret2
  refine ⟨rfl, _, .inr (TrlAt.put hb2 (bs' := bs ++ Lib.strCells s) (by simpa [Lib.strCells_length] using hown')), hgo', ?_⟩
  have hk2 : QKeeps (fun k => k = b ∨ v.ownBlock = some k) w w1 := ⟨hk1.os, hk1.tape, hk1.output, hk1.size, fun j hj hn => hk1.block j hj (fun e => hn (.inl e))⟩
  exact (hk2.grown hgrow (fun g e => .inl (.inr e))).setCell (p := ⟨b, 2, none⟩) (.inl rfl) _
theorem noString (W : World) (q : Option Addr) : (Builtin.unsafeString_ #[110, 3] 9 #[.pointer q, .int .i64 0]).run Tryz.prog W = .ok (.string .empty) W := Lib.run_unsafeString_none W _ _ _ q
theorem cellsByte : Tryz.prog.cellsOf 5 = 1 := by kernel_rfl
theorem keeps_freeze {S : Nat → Prop} {w w' : World} (h : QKeeps S w w') {g : Nat} (hg : S g) (n : Nat) : QKeeps S w (w'.freeze ⟨g, 0, none⟩ n) := by
  unfold World.freeze
  split
  · exact h
  · refine ⟨h.os, h.tape, h.output, by simpa using h.size, fun j hj hn => ?_⟩
    simp only [Array.getElem?_modify]
    rw [if_neg (fun e => hn (by rw [← e]; exact hg))]
    exact h.block j hj hn
theorem TrlAt.froze {N : TF} {b g cap : Nat} {p : Value} {bs : List Value} {w : World} (h : TrlAt N b p (.slice (some ⟨g, 0, none⟩) bs.length cap) bs w) :
    TrlAt N b p (.slice (some ⟨g, 0, none⟩) bs.length cap) bs (w.freeze ⟨g, 0, none⟩ bs.length) := by
  have hne := h.ne
  obtain ⟨hb, hown⟩ := h
  have hgb : g ≠ b := fun e => hne (by simp [Value.ownBlock, e])
  unfold World.freeze
  split
  · exact ⟨hb, hown⟩
  · rename_i hn0
    refine ⟨?_, hown.1, ?_⟩
    · simp only [Array.getElem?_modify]
      rw [if_neg hgb]
      exact hb
    · rcases hown.2 with ⟨hv, _⟩ | ⟨g', cap', cur, fz, hv, hbg, hg, hfz, rest⟩
      · cases hv
      · injection hv with ha _ hcap
        injection ha with ha
        injection ha with hgg _ _
        subst hgg
        subst hcap
        obtain ⟨lo, hi⟩ := fz
        refine .inr ⟨g, _, cur, (if lo == hi then (0, 0 + bs.length) else (min lo 0, max hi (0 + bs.length))), rfl, hbg, ?_, ?_, rest⟩
        · simp [Array.getElem?_modify, hg]
        · simp only at hfz
          split <;> simp <;> omega
set_option maxHeartbeats 4000000 in
theorem TrlText_some {N : TF} {b : Nat} {v : Value} {l : List UInt8} {w : World} (h : Trl N b v (Lib.byteCells l) w) (h0 : l ≠ []) :
    Calls Tryz.prog 35 #[.pointer (some ⟨b, 1, none⟩)] w fun e w' => e = .returned (.string ⟨l.toArray⟩) ∧ Trl N b v (Lib.byteCells l) w' ∧ QKeeps (fun k => v.ownBlock = some k) w w' := by
  obtain ⟨p, hp, hAt⟩ : ∃ p, (p = .pointer none ∨ p = .pointer (some ⟨b, 1, none⟩)) ∧ TrlAt N b p v (Lib.byteCells l) w := h.elim (fun h => ⟨_, .inl rfl, h⟩) (fun h => ⟨_, .inr rfl, h⟩)
  have hFz := hAt
  obtain ⟨hbk, hown⟩ := hAt
  have hl0 : l.length ≠ 0 := by simpa using h0
  rw [Lib.byteCells_length] at hown
  obtain ⟨g, cap, cur, fz, rfl, hbg, hg, hfz, hnc, hcm, hcs, htake⟩ : ∃ g cap cur fz, v = .slice (some ⟨g, 0, none⟩) l.length cap ∧ 0 ≤ g ∧ w.heap[g]? = some (.cells cur 5 fz) ∧ fz.2 ≤ l.length * 1 ∧ l.length ≤ cap ∧ cap ≤ maxLen ∧ cur.size = cap * 1 ∧ cur.toList.take (l.length * 1) = Lib.byteCells l := by
    rcases hown.2 with ⟨_, hz⟩ | ⟨g, cap, cur, fz, hv, r⟩
    · exact absurd hz hl0
    · exact ⟨g, cap, cur, fz, hv, r⟩
  have hFz2 : TrlAt N b p (.slice (some ⟨g, 0, none⟩) (Lib.byteCells l).length cap) (Lib.byteCells l) w.drew := by rw [Lib.byteCells_length]; exact hFz
  have hFz3 := hFz2.froze
  rw [Lib.byteCells_length] at hFz3
  have c1 : w.drew.cell? ⟨b, 2, none⟩ = some (.slice (some ⟨g, 0, none⟩) l.length cap) := by
    have : w.drew.heap[b]? = some (.cells #[N.m, p, .slice (some ⟨g, 0, none⟩) l.length cap, N.k, N.c] 193 (0, 0)) := hbk
    rw [Lib.cell_of_heap this]; rfl
  have hSD : (Builtin.unsafeSliceData_ #[80] 110 #[.slice (some ⟨g, 0, none⟩) l.length cap]).run Tryz.prog w.drew = .ok (.pointer (some ⟨g, 0, none⟩)) w.drew :=
    Lib.run_unsafeSliceData_row _ _ _ _ _ _ (by omega)
  have hUS : (Builtin.unsafeString_ #[110, 3] 9 #[.pointer (some ⟨g, 0, none⟩), .int .i64 l.length]).run Tryz.prog w.drew = .ok (.string ⟨l.toArray⟩) (w.drew.freeze ⟨g, 0, none⟩ l.length) := by
    refine Lib.run_unsafeString_row w.drew 110 3 9 5 Tryz.underlying110 cellsByte g cur.size (by have hg' : w.drew.heap[g]? = some (.cells cur 5 fz) := hg; simp [World.shape?, hg']) l h0 (by omega) (by unfold maxLen at hcm; omega) ?_
    intro j x hx
    have := hown.cells (g := g) rfl j (.int .u8 x.toNat) (by simp [Lib.byteCells, hx])
    exact this
  have Hkp := Lib.hid (keeps_freeze (S := fun k => Value.ownBlock (.slice (some ⟨g, 0, none⟩) l.length cap) = some k) ((QKeeps.refl _ w).drewN 1) (g := g) rfl l.length)
  have Hbl := Lib.hid (show Trl N b (.slice (some ⟨g, 0, none⟩) l.length cap) (Lib.byteCells l) (w.drew.freeze ⟨g, 0, none⟩ l.length) from by
    rcases hp with rfl | rfl
    · exact .inl hFz3
    · exact .inr hFz3)
  have Hkp2 : Hid (QKeeps (fun k => Value.ownBlock (.slice (some ⟨g, 0, none⟩) l.length cap) = some k) w (w.drew.freeze ⟨g, 0, none⟩ l.length)) := Hkp
  clear Hkp hFz hFz2 hFz3 hown hfz hnc hcm hcs htake hg hbk h hbg h0
  generalize w.drew.freeze ⟨g, 0, none⟩ l.length = wf at *
  generalize Lib.byteCells l = bs at *
  generalize (⟨l.toArray⟩ : ByteArray) = st at *
  generalize l.length = m at *
  go_enter Tryz.func35, Tryz.ntmps35
  go_wp2
  go_region
  all_goals (go_wp2; go_ret; exact ⟨rfl, Hbl.out, Hkp2.out⟩)
set_option maxHeartbeats 4000000 in
/-- The builder holds no byte. -/
theorem TrlText_keep {N : TF} {b cap : Nat} {p : Value} {A q : Option Addr} {w : World} (hbk : w.heap[b]? = some (.cells #[N.m, p, .slice A 0 cap, N.k, N.c] 193 (0, 0)))
    (hSD : (Builtin.unsafeSliceData_ #[80] 110 #[.slice A 0 cap]).run Tryz.prog w.drew = .ok (.pointer q) w.drew) :
    Calls Tryz.prog 35 #[.pointer (some ⟨b, 1, none⟩)] w fun e w' => e = .returned (.string .empty) ∧ Below w.heap.size w w' := by
  have c1 : w.drew.cell? ⟨b, 2, none⟩ = some (.slice A 0 cap) := by
    have : w.drew.heap[b]? = some (.cells #[N.m, p, .slice A 0 cap, N.k, N.c] 193 (0, 0)) := hbk
    rw [Lib.cell_of_heap this]; rfl
  have hbl : Below w.heap.size w w.drew := Below.drew (Below.refl _ w)
  have hUS := noString w.drew q
  go_enter Tryz.func35, Tryz.ntmps35
  go_wp2
  go_region
  all_goals (go_wp2; go_ret; exact ⟨rfl, hbl⟩)
set_option maxHeartbeats 4000000 in
theorem TrlText_noroom {N : TF} {b g : Nat} {p : Value} {sh : TypeId × Nat} {w : World} (hbk : w.heap[b]? = some (.cells #[N.m, p, .slice (some ⟨g, 0, none⟩) 0 0, N.k, N.c] 193 (0, 0)))
    (hsh : w.shape? g = some sh) :
    Calls Tryz.prog 35 #[.pointer (some ⟨b, 1, none⟩)] w fun e w' => e = .returned (.string .empty) ∧ Below w.heap.size w w' := by
  have hx : BoxN w b 193 #[N.m, p, .slice (some ⟨g, 0, none⟩) 0 0, N.k, N.c] := hbk
  have c1 : w.drew.cell? ⟨b, 2, none⟩ = some (.slice (some ⟨g, 0, none⟩) 0 0) := hx.drew.cell (k := 2) rfl
  have c2 : (w.drew.alloc (.view ⟨g, 0, none⟩ 5)).cell? ⟨b, 2, none⟩ = some (.slice (some ⟨g, 0, none⟩) 0 0) := (hx.drew.alloc (.view ⟨g, 0, none⟩ 5)).cell (k := 2) rfl
  have c3 : ((w.drew.alloc (.view ⟨g, 0, none⟩ 5)).drew).cell? ⟨b, 2, none⟩ = some (.slice (some ⟨g, 0, none⟩) 0 0) := c2
  have c4 : ((w.alloc (.view ⟨g, 0, none⟩ 5)).drew).cell? ⟨b, 2, none⟩ = some (.slice (some ⟨g, 0, none⟩) 0 0) := c2
  have c5 : ((w.alloc (.view ⟨g, 0, none⟩ 5)).drew.drew).cell? ⟨b, 2, none⟩ = some (.slice (some ⟨g, 0, none⟩) 0 0) := c2
  have hSD : (Builtin.unsafeSliceData_ #[80] 110 #[.slice (some ⟨g, 0, none⟩) 0 0]).run Tryz.prog w.drew = .ok (.pointer (some ⟨w.heap.size, 0, none⟩)) (w.drew.alloc (.view ⟨g, 0, none⟩ 5)) :=
    Lib.run_unsafeSliceData_zero _ _ _ _ Tryz.underlying110 _ _ sh hsh
  have hbl : Below w.heap.size w (w.drew.alloc (.view ⟨g, 0, none⟩ 5)) := (Below.drew (Below.refl _ w)).alloc (Nat.le_refl _) _
  have hbl2 : Below w.heap.size w (w.drew.alloc (.view ⟨g, 0, none⟩ 5)).drew := Below.drew hbl
  have hUS := fun W => noString W (some ⟨w.heap.size, 0, none⟩)
  clear hbk hsh hx
  go_enter Tryz.func35, Tryz.ntmps35
  go_wp2
  go_region
  all_goals (go_wp2; go_ret; exact ⟨rfl, by first | exact hbl | exact hbl2 | exact Below.drew hbl2⟩)
theorem Trl.below {N : TF} {b : Nat} {v : Value} {bs : List Value} {w w' : World} (h : Trl N b v bs w) (hb : Below w.heap.size w w') : Trl N b v bs w' := h.keep (hb.block _ h.lt) (fun g hg => hb.block _ (h.vlt hg))
set_option maxHeartbeats 4000000 in
theorem TrlText_any {N : TF} {b : Nat} {v : Value} {l : List UInt8} {w : World} (h : Trl N b v (Lib.byteCells l) w) :
    Calls Tryz.prog 35 #[.pointer (some ⟨b, 1, none⟩)] w fun e w' => e = .returned (.string ⟨l.toArray⟩) ∧ Trl N b v (Lib.byteCells l) w' ∧ QKeeps (fun k => v.ownBlock = some k) w w' := by
  by_cases h0 : l = []
  · subst h0
    have hfin : ∀ {P : Ending → World → Prop}, Calls Tryz.prog 35 #[.pointer (some ⟨b, 1, none⟩)] w (fun e w' => e = .returned (.string .empty) ∧ Below w.heap.size w w') →
        Calls Tryz.prog 35 #[.pointer (some ⟨b, 1, none⟩)] w fun e w' => e = .returned (.string ⟨([] : List UInt8).toArray⟩) ∧ Trl N b v (Lib.byteCells []) w' ∧ QKeeps (fun k => v.ownBlock = some k) w w' := fun hc => hc.mono fun e w' ⟨he, hb⟩ => ⟨he, h.below hb, QKeeps.of_below hb⟩
    obtain ⟨p, hAt⟩ : ∃ p, TrlAt N b p v (Lib.byteCells []) w := h.elim (fun h => ⟨_, h⟩) (fun h => ⟨_, h⟩)
    obtain ⟨hbk, hown⟩ := hAt
    refine hfin (P := fun _ _ => True) ?_
    rcases hown.2 with ⟨hv, _⟩ | ⟨g, cap, cur, fz, hv, hbg, hg, hfz, hnc, hcm, hcs, htake⟩
    · have hv' : v = .slice none 0 0 := hv
      subst hv'
      exact TrlText_keep (q := none) hbk rfl
    · have hv' : v = .slice (some ⟨g, 0, none⟩) 0 cap := hv
      subst hv'
      by_cases hc : cap = 0
      · subst hc
        exact TrlText_noroom (sh := (5, cur.size)) hbk (by simp [World.shape?, hg])
      · exact TrlText_keep hbk (Lib.run_unsafeSliceData_row _ _ _ _ _ _ hc)
  · exact TrlText_some h h0
end Go.Proofs.YtanlmfnhlldkeaaGreatDoor
