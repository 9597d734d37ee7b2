/-
  Contracts: strings.Builder, with what it keeps.
  Contract: desk.Run.
  Contract: desk.Run.
-/
import Derived.Test.YtanlmfnhlldkeaaGreatDoorTrB
import Derived.Test.YtanlmfnhlldkeaaGreatDoorBuilder
import Derived.Test.YtanlmfnhlldkeaaGreatDoorDkH
import Derived.Test.YtanlmfnhlldkeaaGreatDoorTrO
namespace Go.Proofs.YtanlmfnhlldkeaaGreatDoor
open Go.RowKit
set_option maxRecDepth 100000
set_option linter.unusedVariables false

section
variable {P : Program} (w : World)
/-- 'append(b, ..)' at one byte: the row stays, or is a new one. -/
theorem run_append_byteX (base : Nat) (t ty e : TypeId) (i : TypeInfo) (z : Value) (ht : P.underlying t = some (.slice e)) (hi : P.info? e = some i) (hz : i.zero = some z) (hsize : i.size = 1) (hby : i.bytes = 1) (hzs : z.cells.size = 1)
    (v : Value) (n : Nat) (xs : List Value) (hown : w.ownsRowF base e 1 v n xs)
    (a : Addr) (m c : Nat) (news : List Value) (hl : news.length = m * 1) (hnews : ∀ j u, news[j]? = some u → w.cell? (a.add j) = some u) (h1 : ∀ u ∈ news, u.oneCell' = true)
    (h63 : n + m ≤ maxLen) (hbytes : (n + m) * 1 ≤ 140737488355328) (hbase : base ≤ w.heap.size) :
    ∃ v' w', (Builtin.append_ #[t, t] ty #[v, .slice (some a) m c]).run P w = .ok v' w' ∧ w'.ownsRowF base e 1 v' (n + m) (xs ++ news) ∧ w.grownBy w' v.ownBlock ∧
      (v'.ownBlock = v.ownBlock ∨ ∃ g, w.heap.size ≤ g ∧ v'.ownBlock = some g) := by
  rcases hown.2 with ⟨rfl, rfl⟩ | ⟨g, cap, cur, fz, rfl, hbg, hg, hfz, hnc, hcm, hcs, htake⟩
  · obtain ⟨v', w', r1, r2, r3, r4⟩ := run_append_ownF (P := P) w w.heap.size t ty e i z 1 1 ht hi hz hsize hby hzs (by decide) (.slice none 0 0) 0 xs ⟨hown.1, .inl ⟨rfl, rfl⟩⟩ a m c news hl hnews h1 h63 hbytes (Nat.le_refl _)
    refine ⟨v', w', r1, ⟨r2.1, ?_⟩, r3, ?_⟩
    · rcases r2.2 with h0 | ⟨g, cap, cur, fz, hv, hg, r⟩
      · exact .inl h0
      · exact .inr ⟨g, cap, cur, fz, hv, Nat.le_trans hbase hg, r⟩
    · rcases r2.2 with ⟨h0, _⟩ | ⟨g, cap, cur, fz, hv, hg, r⟩
      · exact .inl (by rw [h0])
      · exact .inr ⟨g, hg, by rw [hv]; rfl⟩
  · obtain ⟨v', w', r1, r2, r3, r4⟩ := run_append_ownF (P := P) w base t ty e i z 1 1 ht hi hz hsize hby hzs (by decide) _ n xs hown a m c news hl hnews h1 h63 hbytes hbase
    by_cases hroom : n + m ≤ cap
    · have hr := run_append_roomF (P := P) w t ty e i ht hi g n cap cur fz hg (by rw [hsize]; exact hfz) a m c news (by rw [hsize]; exact hl) hnews h1 hroom (by rw [hsize, hl, hcs, ← Nat.add_mul]; exact Nat.mul_le_mul_right _ hroom)
      rw [r1] at hr
      injection hr with e1 e2
      subst e1
      exact ⟨_, w', r1, r2, r3, .inl rfl⟩
    · have holds : ∀ j u, xs[j]? = some u → w.cell? ((⟨g, 0, none⟩ : Addr).add j) = some u := hown.cells (g := g) rfl
      have hr := run_append_grow (P := P) w t ty e i z ht hi hz ⟨g, 0, none⟩ n cap xs (by rw [hsize]; exact hown.1) holds a m c news (by rw [hsize]; exact hl) hnews (by omega) (by omega) (by rw [hby]; exact growslice_fits (by omega) hbytes)
      rw [r1] at hr
      injection hr with e1 e2
      subst e1
      exact ⟨_, w', r1, r2, r3, .inr ⟨w.heap.size, Nat.le_refl _, rfl⟩⟩
theorem wpList_append_byteX {ops : Array Oper} {rest : List Oper} {o : Oper} {a : Act} {Q : Exit → Act → World → Prop} (hgd : o.guard = none) (s x : Operand) (t : TypeId)
    (ho : o.op = .call { callee := .builtin .append, args := #[s, x], argTypes := #[t, t] })
    (base : Nat) (e : TypeId) (i : TypeInfo) (z : Value) (ht : P.underlying t = some (.slice e)) (hi : P.info? e = some i) (hz : i.zero = some z) (hsize : i.size = 1) (hby : i.bytes = 1) (hzs : z.cells.size = 1)
    (v : Value) (n : Nat) (xs : List Value) (hs : a.eval s = v) (hown : w.ownsRowF base e 1 v n xs)
    (ad : Addr) (m c : Nat) (news : List Value) (hx : a.eval x = .slice (some ad) m c) (hl : news.length = m * 1) (hnews : ∀ j u, news[j]? = some u → w.cell? (ad.add j) = some u) (h1 : ∀ u ∈ news, u.oneCell' = true)
    (h63 : n + m ≤ maxLen) (hbytes : (n + m) * 1 ≤ 140737488355328) (hbase : base ≤ w.heap.size)
    (h : ∀ v' w', w'.ownsRowF base e 1 v' (n + m) (xs ++ news) → w.grownBy w' v.ownBlock → (v'.ownBlock = v.ownBlock ∨ ∃ g, w.heap.size ≤ g ∧ v'.ownBlock = some g) → wpList P ops Q rest (a.put o.dst v') w') : wpList P ops Q (o :: rest) a w := by
  refine wpList_plain hgd fun K hK => ?_
  obtain ⟨v', w', hr, h2, h3, h4⟩ := run_append_byteX (P := P) w base t o.type e i z ht hi hz hsize hby hzs v n xs hown ad m c news hl hnews h1 h63 hbytes hbase
  unfold Oper.wp execOp
  simp only [ho, resolve, invoke, builtin, Sem.run_bind, Sem.run_pure, Result.andThen_ok, List.map_toArray, List.map_cons, List.map_nil, hs, hx, hr]
  exact hK _ _ (h v' w' h2 h3 h4)
end

/-- A trail in a block of its own, that holds these bytes. -/
def SbAt (b : Nat) (p v : Value) (bs : List Value) (w : World) : Prop :=
  w.heap[b]? = some (.cells #[p, v] 82 (0, 0)) ∧ w.ownsRowF 0 5 1 v bs.length bs
def Sb (b : Nat) (v : Value) (bs : List Value) (w : World) : Prop := SbAt b (.pointer none) v bs w ∨ SbAt b (.pointer (some ⟨b, 0, none⟩)) v bs w
section
variable {b : Nat} {p v v' : Value} {bs bs' : List Value} {w w' : World}
theorem SbAt.lt (h : SbAt b p v bs w) : b < w.heap.size := (Array.getElem?_eq_some_iff.1 h.1).1
theorem SbAt.box (h : SbAt b p v bs w) : BoxN w b 82 #[p, v] := h.1
theorem SbAt.ne (h : SbAt b p v bs w) : v.ownBlock ≠ some b := Lib.ownBlock_neF h.2 h.1 (by decide)
theorem SbAt.shape (h : SbAt b p v bs w) : w.shape? b = some (82, 2) := by simp [World.shape?, h.1]
theorem SbAt.used (h : SbAt b p v bs w) (q : Value) : SbAt b q v bs (w.setCell ⟨b, 0, none⟩ q) := by
  refine ⟨?_, h.2.kept (grown_setCell w b 0 q) (Or.inr h.ne)⟩
  have := h.box.set 0 q
  exact this
theorem SbAt.put (hb : w.heap[b]? = some (.cells #[p, v] 82 (0, 0))) (hown : w.ownsRowF 0 5 1 v' bs'.length bs') : SbAt b p v' bs' (w.setCell ⟨b, 1, none⟩ v') := by
  have hne := Lib.ownBlock_neF hown hb (by decide)
  refine ⟨?_, hown.kept (grown_setCell w b 1 v') (Or.inr hne)⟩
  have hx : BoxN w b 82 #[p, v] := hb
  exact hx.set 1 v'
theorem Sb.lt (h : Sb b v bs w) : b < w.heap.size := h.elim (fun h => h.lt) (fun h => h.lt)
theorem Sb.ne (h : Sb b v bs w) : v.ownBlock ≠ some b := h.elim (fun h => h.ne) (fun h => h.ne)
theorem Sb.vlt (h : Sb b v bs w) {g : Nat} (hg : v.ownBlock = some g) : g < w.heap.size := h.elim (fun h => (h.2.lt g hg).2) (fun h => (h.2.lt g hg).2)
/-- Where neither block has turned. -/
theorem SbAt.keep (h : SbAt b p v bs w) (h1 : w'.heap[b]? = w.heap[b]?) (h2 : ∀ g, v.ownBlock = some g → w'.heap[g]? = w.heap[g]?) : SbAt b p v bs w' := by
  refine ⟨h1.trans h.1, h.2.1, ?_⟩
  rcases h.2.2 with h0 | ⟨g, cap, cur, fz, hv, hbg, hg, r⟩
  · exact .inl h0
  · exact .inr ⟨g, cap, cur, fz, hv, hbg, (h2 g (by rw [hv]; rfl)).trans hg, r⟩
theorem Sb.keep (h : Sb b v bs w) (h1 : w'.heap[b]? = w.heap[b]?) (h2 : ∀ g, v.ownBlock = some g → w'.heap[g]? = w.heap[g]?) : Sb b v bs w' := h.elim (fun h => .inl (h.keep h1 h2)) (fun h => .inr (h.keep h1 h2))
end
set_option maxHeartbeats 1000000 in
theorem sbCheck_used (b : Nat) (w : World) (h0 : w.cell? ⟨b, 0, none⟩ = some (.pointer (some ⟨b, 0, none⟩))) :
    Calls Tryz.prog 54 #[.pointer (some ⟨b, 0, none⟩)] w fun e w' => e = .returned (.tuple #[]) ∧ w' = w := by
  obtain ⟨j, hj, _⟩ := Option.map_eq_some_iff.1 Tryz.sizeBuilder
  go_enter Tryz.func54, Tryz.ntmps54
  go_wp2
  rw [Lib.run_neq_ptr_same w _ Tryz.underlying79 hj]
  go_wp2
  go_end0
  exact ⟨rfl, rfl⟩
set_option maxHeartbeats 1000000 in
theorem sbCheck_fresh (b : Nat) (w : World) (h0 : w.cell? ⟨b, 0, none⟩ = some (.pointer none)) (hsh : w.shape? b = some (82, 2)) (hfz : w.frozen? ⟨b, 0, none⟩ = false) :
    Calls Tryz.prog 54 #[.pointer (some ⟨b, 0, none⟩)] w fun e w' => e = .returned (.tuple #[]) ∧ w' = w.setCell ⟨b, 0, none⟩ (.pointer (some ⟨b, 0, none⟩)) := by
  obtain ⟨j, hj, hjs⟩ := Option.map_eq_some_iff.1 Tryz.sizeBuilder
  go_enter Tryz.func54, Tryz.ntmps54
  go_wp2
  rw [Lib.run_to_unsafe w ⟨b, 0, none⟩ Tryz.underlying79 Tryz.underlying129 hj (by rw [hjs]; decide) hsh (by show 0 < 2; decide)]
  simp only [Result.andThen]
  rw [Oper.upon_value]
  go_wp2
  rw [run_callFunc_extern Tryz.func77 (by kernel_rfl) (by kernel_rfl) (by kernel_rfl) (e := Extern.AbiNoEscape.same) (by kernel_rfl)]
  rw [Lib.run_noEscape]
  simp only [Result.andThen]
  rw [Oper.upon_value]
  go_wp2
  rw [Lib.run_from_unsafe w ⟨b, 0, none⟩ Tryz.underlying129 Tryz.underlying79 hj hsh Tryz.liesBuilder]
  simp only [Result.andThen]
  rw [Oper.upon_value]
  go_wp2
  go_end0
  exact ⟨rfl, rfl⟩
theorem sbCheck_any {b : Nat} {v : Value} {bs : List Value} {w : World} (h : Sb b v bs w) :
    Calls Tryz.prog 54 #[.pointer (some ⟨b, 0, none⟩)] w fun e w' => e = .returned (.tuple #[]) ∧ SbAt b (.pointer (some ⟨b, 0, none⟩)) v bs w' ∧ QKeeps (fun k => k = b) w w' := by
  rcases h with h | h
  · refine (sbCheck_fresh b w (h.box.cell rfl) h.shape (h.box.free 0)).mono ?_
    rintro e w' ⟨rfl, rfl⟩
    exact ⟨rfl, h.used _, (QKeeps.refl (fun k => k = b) w).setCell (p := ⟨b, 0, none⟩) rfl _⟩
  · refine (sbCheck_used b w (h.box.cell rfl)).mono ?_
    rintro e w' ⟨rfl, rfl⟩
    exact ⟨rfl, h, QKeeps.refl _ _⟩
set_option maxHeartbeats 2000000 in
theorem SbString_any {b : Nat} {v : Value} {bs : List Value} (s : ByteArray) {w : World} (h : Sb b v bs w) (hlen : bs.length + s.size ≤ 140737488355328) :
    Calls Tryz.prog 43 #[.pointer (some ⟨b, 0, none⟩), .string s] w fun e w' => e = .returned (.tuple #[.int .i64 s.size, .nilIface]) ∧ ∃ v', Sb b v' (bs ++ Lib.strCells s) w' ∧ GoesOn w v v' ∧ QKeeps (fun k => k = b ∨ v.ownBlock = some k) w w' := by
  obtain ⟨i0, hi, hz0, hz1, hz2⟩ := info_parts Tryz.infoByte
  have Hcc := Lib.hid (sbCheck_any h)
  clear h
  go_enter Tryz.func43, Tryz.ntmps43
  go_wp2_with (go_at_call 54; refine Hcc.out.mono ?_)
  rintro e w1 ⟨rfl, h1, hk1⟩
  have hne := h1.ne
  obtain ⟨hbk, hown⟩ := h1
  have c0 : w1.cell? ⟨b, 0, none⟩ = some (.pointer (some ⟨b, 0, none⟩)) := by rw [Lib.cell_of_heap hbk]; rfl
  have c1 : w1.cell? ⟨b, 1, none⟩ = some v := by rw [Lib.cell_of_heap hbk]; rfl
  go_wp2_with (at_builtin; refine wpList_append_strX _ rfl _ _ 80 9 rfl 0 5 i0 Tryz.underlying80 Tryz.underlying9 hi hz0 hz1 hz2 _ _ _ rfl hown s rfl ?c3 ?c4 ?c5 ?_)
  case c3 => unfold maxLen; omega
  case c4 => omega
  case c5 => omega
  intro v' w2 hown' hgrow hgo
  have hlt : b < w1.heap.size := (Array.getElem?_eq_some_iff.1 hbk).1
  have hb2 : w2.heap[b]? = some (.cells #[.pointer (some ⟨b, 0, none⟩), v] 82 (0, 0)) := by
    rw [hgrow.block b hlt (fun e => hne e.symm)]
    exact hbk
  have d0 : w2.cell? ⟨b, 0, none⟩ = some (.pointer (some ⟨b, 0, none⟩)) := by rw [Lib.cell_of_heap hb2]; rfl
  have d1 : w2.cell? ⟨b, 1, none⟩ = some v := by rw [Lib.cell_of_heap hb2]; rfl
  have f1 : w2.frozen? ⟨b, 1, none⟩ = false := Lib.frozen_of_heap hb2 1
  have hgo' : GoesOn w v v' := hgo.imp id (fun ⟨m, hm, e⟩ => ⟨m, Nat.le_trans hk1.size hm, e⟩)
  obtain ⟨ao, n', cap, rfl⟩ : ∃ ao n' cap, v' = .slice ao n' cap := by
    rcases hown'.2 with ⟨hv, _⟩ | ⟨g, cap, cur, fz, hv, _⟩
    · exact ⟨_, _, _, hv⟩
    · exact ⟨_, _, _, hv⟩
  go_wp2
  go_ret2
  refine ⟨rfl, _, .inr (SbAt.put hb2 (bs' := bs ++ Lib.strCells s) (by simpa [Lib.strCells_length] using hown')), hgo', ?_⟩
  have hk2 : QKeeps (fun k => k = b ∨ v.ownBlock = some k) w w1 := ⟨hk1.os, hk1.tape, hk1.output, hk1.size, fun j hj hn => hk1.block j hj (fun e => hn (.inl e))⟩
  exact (hk2.grown hgrow (fun g e => .inl (.inr e))).setCell (p := ⟨b, 1, none⟩) (.inl rfl) _
theorem SbAt.froze {b g cap : Nat} {p : Value} {bs : List Value} {w : World} (h : SbAt b p (.slice (some ⟨g, 0, none⟩) bs.length cap) bs w) :
    SbAt b p (.slice (some ⟨g, 0, none⟩) bs.length cap) bs (w.freeze ⟨g, 0, none⟩ bs.length) := by
  have hne := h.ne
  obtain ⟨hb, hown⟩ := h
  have hgb : g ≠ b := fun e => hne (by simp [Value.ownBlock, e])
  unfold World.freeze
  split
  · exact ⟨hb, hown⟩
  · rename_i hn0
    refine ⟨?_, hown.1, ?_⟩
    · simp only [Array.getElem?_modify]
      rw [if_neg hgb]
      exact hb
    · rcases hown.2 with ⟨hv, _⟩ | ⟨g', cap', cur, fz, hv, hbg, hg, hfz, rest⟩
      · cases hv
      · injection hv with ha _ hcap
        injection ha with ha
        injection ha with hgg _ _
        subst hgg
        subst hcap
        obtain ⟨lo, hi⟩ := fz
        refine .inr ⟨g, _, cur, (if lo == hi then (0, 0 + bs.length) else (min lo 0, max hi (0 + bs.length))), rfl, hbg, ?_, ?_, rest⟩
        · simp [Array.getElem?_modify, hg]
        · simp only at hfz
          split <;> simp <;> omega
set_option maxHeartbeats 4000000 in
theorem SbText_some {b : Nat} {v : Value} {l : List UInt8} {w : World} (h : Sb b v (Lib.byteCells l) w) (h0 : l ≠ []) :
    Calls Tryz.prog 35 #[.pointer (some ⟨b, 0, none⟩)] w fun e w' => e = .returned (.string ⟨l.toArray⟩) ∧ Sb b v (Lib.byteCells l) w' ∧ QKeeps (fun k => v.ownBlock = some k) w w' := by
  obtain ⟨p, hp, hAt⟩ : ∃ p, (p = .pointer none ∨ p = .pointer (some ⟨b, 0, none⟩)) ∧ SbAt b p v (Lib.byteCells l) w := h.elim (fun h => ⟨_, .inl rfl, h⟩) (fun h => ⟨_, .inr rfl, h⟩)
  have hFz := hAt
  obtain ⟨hbk, hown⟩ := hAt
  have hl0 : l.length ≠ 0 := by simpa using h0
  rw [Lib.byteCells_length] at hown
  obtain ⟨g, cap, cur, fz, rfl, hbg, hg, hfz, hnc, hcm, hcs, htake⟩ : ∃ g cap cur fz, v = .slice (some ⟨g, 0, none⟩) l.length cap ∧ 0 ≤ g ∧ w.heap[g]? = some (.cells cur 5 fz) ∧ fz.2 ≤ l.length * 1 ∧ l.length ≤ cap ∧ cap ≤ maxLen ∧ cur.size = cap * 1 ∧ cur.toList.take (l.length * 1) = Lib.byteCells l := by
    rcases hown.2 with ⟨_, hz⟩ | ⟨g, cap, cur, fz, hv, r⟩
    · exact absurd hz hl0
    · exact ⟨g, cap, cur, fz, hv, r⟩
  have hFz2 : SbAt b p (.slice (some ⟨g, 0, none⟩) (Lib.byteCells l).length cap) (Lib.byteCells l) w.drew := by rw [Lib.byteCells_length]; exact hFz
  have hFz3 := hFz2.froze
  rw [Lib.byteCells_length] at hFz3
  have c1 : w.drew.cell? ⟨b, 1, none⟩ = some (.slice (some ⟨g, 0, none⟩) l.length cap) := by
    have : w.drew.heap[b]? = some (.cells #[p, .slice (some ⟨g, 0, none⟩) l.length cap] 82 (0, 0)) := hbk
    rw [Lib.cell_of_heap this]; rfl
  have hSD : (Builtin.unsafeSliceData_ #[80] 110 #[.slice (some ⟨g, 0, none⟩) l.length cap]).run Tryz.prog w.drew = .ok (.pointer (some ⟨g, 0, none⟩)) w.drew :=
    Lib.run_unsafeSliceData_row _ _ _ _ _ _ (by omega)
  have hUS : (Builtin.unsafeString_ #[110, 3] 9 #[.pointer (some ⟨g, 0, none⟩), .int .i64 l.length]).run Tryz.prog w.drew = .ok (.string ⟨l.toArray⟩) (w.drew.freeze ⟨g, 0, none⟩ l.length) := by
    refine Lib.run_unsafeString_row w.drew 110 3 9 5 Tryz.underlying110 cellsByte g cur.size (by have hg' : w.drew.heap[g]? = some (.cells cur 5 fz) := hg; simp [World.shape?, hg']) l h0 (by omega) (by unfold maxLen at hcm; omega) ?_
    intro j x hx
    have := hown.cells (g := g) rfl j (.int .u8 x.toNat) (by simp [Lib.byteCells, hx])
    exact this
  have Hkp := Lib.hid (keeps_freeze (S := fun k => Value.ownBlock (.slice (some ⟨g, 0, none⟩) l.length cap) = some k) ((QKeeps.refl _ w).drewN 1) (g := g) rfl l.length)
  have Hbl := Lib.hid (show Sb b (.slice (some ⟨g, 0, none⟩) l.length cap) (Lib.byteCells l) (w.drew.freeze ⟨g, 0, none⟩ l.length) from by
    rcases hp with rfl | rfl
    · exact .inl hFz3
    · exact .inr hFz3)
  have Hkp2 : Hid (QKeeps (fun k => Value.ownBlock (.slice (some ⟨g, 0, none⟩) l.length cap) = some k) w (w.drew.freeze ⟨g, 0, none⟩ l.length)) := Hkp
  clear Hkp hFz hFz2 hFz3 hown hfz hnc hcm hcs htake hg hbk h hbg h0
  generalize w.drew.freeze ⟨g, 0, none⟩ l.length = wf at *
  generalize Lib.byteCells l = bs at *
  generalize (⟨l.toArray⟩ : ByteArray) = st at *
  generalize l.length = m at *
  go_enter Tryz.func35, Tryz.ntmps35
  go_wp2
  go_region
  all_goals (go_wp2; go_ret; exact ⟨rfl, Hbl.out, Hkp2.out⟩)
set_option maxHeartbeats 4000000 in
/-- The builder holds no byte. -/
theorem SbText_keep {b cap : Nat} {p : Value} {A q : Option Addr} {w : World} (hbk : w.heap[b]? = some (.cells #[p, .slice A 0 cap] 82 (0, 0)))
    (hSD : (Builtin.unsafeSliceData_ #[80] 110 #[.slice A 0 cap]).run Tryz.prog w.drew = .ok (.pointer q) w.drew) :
    Calls Tryz.prog 35 #[.pointer (some ⟨b, 0, none⟩)] w fun e w' => e = .returned (.string .empty) ∧ Below w.heap.size w w' := by
  have c1 : w.drew.cell? ⟨b, 1, none⟩ = some (.slice A 0 cap) := by
    have : w.drew.heap[b]? = some (.cells #[p, .slice A 0 cap] 82 (0, 0)) := hbk
    rw [Lib.cell_of_heap this]; rfl
  have hbl : Below w.heap.size w w.drew := Below.drew (Below.refl _ w)
  have hUS := noString w.drew q
  go_enter Tryz.func35, Tryz.ntmps35
  go_wp2
  go_region
  all_goals (go_wp2; go_ret; exact ⟨rfl, hbl⟩)
set_option maxHeartbeats 4000000 in
theorem SbText_noroom {b g : Nat} {p : Value} {sh : TypeId × Nat} {w : World} (hbk : w.heap[b]? = some (.cells #[p, .slice (some ⟨g, 0, none⟩) 0 0] 82 (0, 0)))
    (hsh : w.shape? g = some sh) :
    Calls Tryz.prog 35 #[.pointer (some ⟨b, 0, none⟩)] w fun e w' => e = .returned (.string .empty) ∧ Below w.heap.size w w' := by
  have hx : BoxN w b 82 #[p, .slice (some ⟨g, 0, none⟩) 0 0] := hbk
  have c1 : w.drew.cell? ⟨b, 1, none⟩ = some (.slice (some ⟨g, 0, none⟩) 0 0) := hx.drew.cell (k := 1) rfl
  have c2 : (w.drew.alloc (.view ⟨g, 0, none⟩ 5)).cell? ⟨b, 1, none⟩ = some (.slice (some ⟨g, 0, none⟩) 0 0) := (hx.drew.alloc (.view ⟨g, 0, none⟩ 5)).cell (k := 1) rfl
  have c3 : ((w.drew.alloc (.view ⟨g, 0, none⟩ 5)).drew).cell? ⟨b, 1, none⟩ = some (.slice (some ⟨g, 0, none⟩) 0 0) := c2
  have c4 : ((w.alloc (.view ⟨g, 0, none⟩ 5)).drew).cell? ⟨b, 1, none⟩ = some (.slice (some ⟨g, 0, none⟩) 0 0) := c2
  have c5 : ((w.alloc (.view ⟨g, 0, none⟩ 5)).drew.drew).cell? ⟨b, 1, none⟩ = some (.slice (some ⟨g, 0, none⟩) 0 0) := c2
  have hSD : (Builtin.unsafeSliceData_ #[80] 110 #[.slice (some ⟨g, 0, none⟩) 0 0]).run Tryz.prog w.drew = .ok (.pointer (some ⟨w.heap.size, 0, none⟩)) (w.drew.alloc (.view ⟨g, 0, none⟩ 5)) :=
    Lib.run_unsafeSliceData_zero _ _ _ _ Tryz.underlying110 _ _ sh hsh
  have hbl : Below w.heap.size w (w.drew.alloc (.view ⟨g, 0, none⟩ 5)) := (Below.drew (Below.refl _ w)).alloc (Nat.le_refl _) _
  have hbl2 : Below w.heap.size w (w.drew.alloc (.view ⟨g, 0, none⟩ 5)).drew := Below.drew hbl
  have hUS := fun W => noString W (some ⟨w.heap.size, 0, none⟩)
  clear hbk hsh hx
  go_enter Tryz.func35, Tryz.ntmps35
  go_wp2
  go_region
  all_goals (go_wp2; go_ret; exact ⟨rfl, by first | exact hbl | exact hbl2 | exact Below.drew hbl2⟩)
theorem Sb.below {b : Nat} {v : Value} {bs : List Value} {w w' : World} (h : Sb b v bs w) (hb : Below w.heap.size w w') : Sb b v bs w' := h.keep (hb.block _ h.lt) (fun g hg => hb.block _ (h.vlt hg))
set_option maxHeartbeats 4000000 in
theorem SbText_any {b : Nat} {v : Value} {l : List UInt8} {w : World} (h : Sb b v (Lib.byteCells l) w) :
    Calls Tryz.prog 35 #[.pointer (some ⟨b, 0, none⟩)] w fun e w' => e = .returned (.string ⟨l.toArray⟩) ∧ Sb b v (Lib.byteCells l) w' ∧ QKeeps (fun k => v.ownBlock = some k) w w' := by
  by_cases h0 : l = []
  · subst h0
    have hfin : ∀ {P : Ending → World → Prop}, Calls Tryz.prog 35 #[.pointer (some ⟨b, 0, none⟩)] w (fun e w' => e = .returned (.string .empty) ∧ Below w.heap.size w w') →
        Calls Tryz.prog 35 #[.pointer (some ⟨b, 0, none⟩)] w fun e w' => e = .returned (.string ⟨([] : List UInt8).toArray⟩) ∧ Sb b v (Lib.byteCells []) w' ∧ QKeeps (fun k => v.ownBlock = some k) w w' := fun hc => hc.mono fun e w' ⟨he, hb⟩ => ⟨he, h.below hb, QKeeps.of_below hb⟩
    obtain ⟨p, hAt⟩ : ∃ p, SbAt b p v (Lib.byteCells []) w := h.elim (fun h => ⟨_, h⟩) (fun h => ⟨_, h⟩)
    obtain ⟨hbk, hown⟩ := hAt
    refine hfin (P := fun _ _ => True) ?_
    rcases hown.2 with ⟨hv, _⟩ | ⟨g, cap, cur, fz, hv, hbg, hg, hfz, hnc, hcm, hcs, htake⟩
    · have hv' : v = .slice none 0 0 := hv
      subst hv'
      exact SbText_keep (q := none) hbk rfl
    · have hv' : v = .slice (some ⟨g, 0, none⟩) 0 cap := hv
      subst hv'
      by_cases hc : cap = 0
      · subst hc
        exact SbText_noroom (sh := (5, cur.size)) hbk (by simp [World.shape?, hg])
      · exact SbText_keep hbk (Lib.run_unsafeSliceData_row _ _ _ _ _ _ hc)
  · exact SbText_some h h0
set_option maxHeartbeats 2000000 in
theorem SbByte_any {b : Nat} {v : Value} {bs : List Value} (c : Int) {w : World} (h : Sb b v bs w) (hlen : bs.length + 1 ≤ 140737488355328) :
    Calls Tryz.prog 34 #[.pointer (some ⟨b, 0, none⟩), .int .u8 c] w fun e w' => e = .returned .nilIface ∧ ∃ v', Sb b v' (bs ++ [.int .u8 c]) w' ∧ GoesOn w v v' ∧ QKeeps (fun k => k = b ∨ v.ownBlock = some k) w w' := by
  obtain ⟨i0, hi, hz0, hz1, hz2⟩ := info_parts Tryz.infoByte
  have Hcc := Lib.hid (sbCheck_any h)
  clear h
  go_enter Tryz.func34, Tryz.ntmps34
  go_wp2_with (go_at_call 54; refine Hcc.out.mono ?_)
  rintro e w1 ⟨rfl, h1, hk1⟩
  have hne := h1.ne
  obtain ⟨hbk, hown⟩ := h1
  have c0 : w1.cell? ⟨b, 0, none⟩ = some (.pointer (some ⟨b, 0, none⟩)) := by rw [Lib.cell_of_heap hbk]; rfl
  have c1 : w1.cell? ⟨b, 1, none⟩ = some v := by rw [Lib.cell_of_heap hbk]; rfl
  go_wp2_with (at_builtin; refine wpList_append_byteX _ rfl _ _ 80 rfl 0 5 i0 (.int .u8 0) Tryz.underlying80 hi hz0 hz1 hz2 rfl _ _ _ rfl (hown.alloc _) ⟨w1.heap.size, 0, none⟩ 1 1 [.int .u8 c] rfl rfl ?c1 ?c2 ?c3 ?c4 ?c5 ?_)
  case c1 =>
    intro j u hj
    match j, hj with
    | 0, hj => simp at hj; subst hj; simp [Addr.add]
  case c2 => intro u hu; simp at hu; subst hu; rfl
  case c3 => unfold maxLen; omega
  case c4 => omega
  case c5 => simp
  intro v' w2 hown' hgrow hgo
  have hlt : b < w1.heap.size := (Array.getElem?_eq_some_iff.1 hbk).1
  have hb2 : w2.heap[b]? = some (.cells #[.pointer (some ⟨b, 0, none⟩), v] 82 (0, 0)) := by
    rw [hgrow.block b (by simp; omega) (fun e => hne e.symm), Lib.alloc_old w1 _ b hlt]
    exact hbk
  have d0 : w2.cell? ⟨b, 0, none⟩ = some (.pointer (some ⟨b, 0, none⟩)) := by rw [Lib.cell_of_heap hb2]; rfl
  have d1 : w2.cell? ⟨b, 1, none⟩ = some v := by rw [Lib.cell_of_heap hb2]; rfl
  have f1 : w2.frozen? ⟨b, 1, none⟩ = false := Lib.frozen_of_heap hb2 1
  have hgo' : GoesOn w v v' := hgo.imp id (fun ⟨m, hm, e⟩ => ⟨m, Nat.le_trans hk1.size (Nat.le_trans (by simp) hm), e⟩)
  obtain ⟨g, cap, rfl⟩ : ∃ g cap, v' = .slice (some ⟨g, 0, none⟩) (bs.length + 1) cap := by
    rcases hown'.2 with ⟨_, h0⟩ | ⟨g, cap, cur, fz, hv, _⟩
    · omega
    · exact ⟨g, cap, hv⟩
  go_wp2
  go_ret
  refine ⟨rfl, _, .inr (SbAt.put hb2 (bs' := bs ++ [.int .u8 c]) (by simpa using hown')), hgo', ?_⟩
  have hk2 : QKeeps (fun k => k = b ∨ v.ownBlock = some k) w w1 := ⟨hk1.os, hk1.tape, hk1.output, hk1.size, fun j hj hn => hk1.block j hj (fun e => hn (.inl e))⟩
  exact ((hk2.alloc _).grown hgrow (fun g e => .inl (.inr e))).setCell (p := ⟨b, 1, none⟩) (.inl rfl) _
end Go.Proofs.YtanlmfnhlldkeaaGreatDoor

namespace Go.Proofs.YtanlmfnhlldkeaaGreatDoor
open Go.RowKit
attribute [local go_sem] Oper.semAt_some
attribute [local simp, local go_sem] wide_fn
set_option maxRecDepth 100000
set_option linter.unusedVariables false

theorem setV_len {v : List UInt8} (hv : v.length ≤ 6) (n : Nat) : (setV v n).length ≤ 2000 := by
  have h1 := setLen v (bitsOf n) (fun x hx => by unfold bitsOf at hx; exact List.mem_range.1 (List.mem_filter.1 hx).1)
  have h2 := length_bitsOf n
  unfold setV
  omega
theorem doesV_len6 {v : List UInt8} {j : Nat} (h : doesV v = some j) : v.length ≤ 6 := by
  unfold doesV at h
  split at h
  · rename_i e; subst e; decide
  · split at h
    · rename_i e; subst e; decide
    · split at h
      · rename_i e; subst e; decide
      · split at h
        · rename_i e; subst e; decide
        · cases h
theorem nameE_len (k : Nat) : (nameE k).length ≤ 2000 := by unfold nameE; split <;> decide
theorem toldE_len (k : Nat) : (toldE k).length ≤ 2000 := by
  unfold toldE
  split
  · decide
  · exact nameE_len k
theorem okL_len : okL.length ≤ 2000 := by decide
theorem badL_len : badL.length ≤ 2000 := by decide
theorem stateL_len : stateL.length ≤ 2000 := by decide
theorem fullL_len : fullL.length ≤ 2000 := by decide
theorem crash_len {D : DS} (h : DOk D) {T : TS} (hT : D.T = some T) (k : Nat) : (dCrash D T k).2.length ≤ 2000 := by
  obtain ⟨T', c, he, hr, _, hcl⟩ := (h.tr T hT).torn h.m8 h.n8 k
  have hlog : T.log.length ≤ 1500 := by
    obtain ⟨K, n, rfl⟩ := h.tr T hT
    have hi : TInv D.U D.F (tRun D.U D.F K (tStart D.m D.n) n) := (TInv.start h.m8 h.n8).run n
    have h1 := hi.log
    have h2 := hi.many
    omega
  unfold dCrash
  rw [he, if_pos rfl]
  have := itoa_len19 (n := c) (by omega)
  show (foundL ++ Lib.itoa (c : Int)).length ≤ 2000
  rw [List.length_append, show foundL.length = 6 from rfl]
  omega
theorem act_len {D : DS} (hD : DOk D) {v : List UInt8} {l : List Nat} {r : DS × List UInt8} (h : dAct D v l = some r) : r.2.length ≤ 2000 := by
  unfold dAct at h
  split at h
  · split at h
    · cases h
    · split at h
      · injection h with h; subst h; exact stateL_len
      · injection h with h; subst h; exact toldE_len _
  · split at h
    · cases h
    · split at h
      · cases h
      · rename_i j hj
        have hv := doesV_len6 hj
        split at h
        · injection h with h; subst h; exact stateL_len
        · rename_i hT
          injection h with h
          subst h
          unfold dDo
          split
          · exact setV_len hv _
          · exact setV_len hv _
          · exact setV_len hv _
          · exact crash_len hD hT _
theorem line_len {D : DS} (hD : DOk D) (s : List UInt8) : (dLine D s).2.length ≤ 2000 := by
  unfold dLine
  split
  · unfold dAddU
    split
    · exact nameE_len 2
    · split
      · exact stateL_len
      · split
        · exact fullL_len
        · exact okL_len
  · split
    · unfold dAddF
      split
      · exact nameE_len 2
      · split
        · exact stateL_len
        · split
          · exact fullL_len
          · exact okL_len
    · split
      · unfold dStart
        split
        · exact stateL_len
        · split
          · exact okL_len
          · exact nameE_len _
      · unfold dRest
        split
        · exact badL_len
        · split
          · exact badL_len
          · rename_i h; exact act_len hD h
theorem lines_len : ∀ (l : List (List UInt8)) {D : DS}, DOk D → (dLines D l).2.length ≤ l.length * 2001
  | [], D, _ => Nat.zero_le _
  | s :: r, D, h => by
    have h1 := line_len h s
    have h2 := lines_len r (h.line s)
    rw [dLines]
    dsimp only
    rw [List.length_append, List.length_cons, List.length_cons]
    omega
/-- A session that runs. -/
structure RunSt (w : World) (C bd bo : Nat) (D : DS) (l : List UInt8) (own : Nat → Prop) (vo : Value) (W : World) : Prop where
  dk : DkAt w.heap.size own W bd D
  ce : CellsIn own W
  sb : Sb bo vo (Lib.byteCells l) W
  nC : ¬ own C
  bC : bo ≠ C
  vC : vo.ownBlock ≠ some C
  nb : ¬ own bo
  nv : ∀ g, vo.ownBlock = some g → ¬ own g
  bl : w.heap.size ≤ bo
  vl : ∀ g, vo.ownBlock = some g → w.heap.size ≤ g
  bw : Below w.heap.size w W
  cl : C < W.heap.size
theorem Sb.but {b C B : Nat} {v : Value} {bs : List Value} {W W' : World} (h : Sb b v bs W) (hb : b ≠ C) (hv : v.ownBlock ≠ some C) {row : Option Nat} (hg : W.grownBy W' row) (hr : ∀ r, row = some r → r = C ∨ (B ≤ r ∧ ∃ o : Obj, W.heap[r]? = some o ∧ o.isCells = false)) : Sb b v bs W' := by
  have key : ∀ k, k < W.heap.size → k ≠ C → (∃ o : Obj, W.heap[k]? = some o ∧ o.isCells = true) → W'.heap[k]? = W.heap[k]? := fun k hk hne ho => hg.block k hk fun e => by
    rcases hr k e.symm with e | ⟨_, o, ho', hn⟩
    · exact hne e
    · obtain ⟨o2, ho2, hy⟩ := ho
      rw [ho'] at ho2
      injection ho2 with ho2
      subst ho2
      rw [hn] at hy
      cases hy
  refine h.keep (key b h.lt hb ?_) fun g hgv => key g (h.vlt hgv) (fun e => hv (e ▸ hgv)) ?_
  · rcases h with h | h
    · exact ⟨_, h.1, rfl⟩
    · exact ⟨_, h.1, rfl⟩
  · have hrow : W.ownsRowF 0 5 1 v bs.length bs := h.elim (fun h => h.2) (fun h => h.2)
    rcases hrow.2 with ⟨h0, _⟩ | ⟨g', cap, cur, fz, hv', _, hg', _⟩
    · rw [h0] at hgv; simp [Value.ownBlock] at hgv
    · rw [hv'] at hgv; simp [Value.ownBlock] at hgv; subst hgv; exact ⟨_, hg', rfl⟩
section
variable {w W W' : World} {C bd bo : Nat} {D : DS} {l : List UInt8} {own : Nat → Prop} {vo : Value}
theorem RunSt.but {B : Nat} (h : RunSt w C bd bo D l own vo W) (hB : w.heap.size ≤ B) (hC : w.heap.size ≤ C) {row : Option Nat} (hg : W.grownBy W' row) (hr : ∀ r, row = some r → r = C ∨ (B ≤ r ∧ ∃ o : Obj, W.heap[r]? = some o ∧ o.isCells = false)) : RunSt w C bd bo D l own vo W' :=
  ⟨(h.dk.own_but h.ce h.nC hg hr).1, (h.dk.own_but h.ce h.nC hg hr).2, h.sb.but h.bC h.vC hg hr, h.nC, h.bC, h.vC, h.nb, h.nv, h.bl, h.vl, below_but h.bw hC hB hg hr h.bw.size, Nat.lt_of_lt_of_le h.cl hg.size⟩
/-- Behind a line. -/
theorem RunSt.line (h : RunSt w C bd bo D l own vo W) {r : DS × List UInt8} {e : Ending} (hp : DkPost w.heap.size own W bd r e W') : ∃ own', RunSt w C bd bo r.1 l own' vo W' ∧ QKeeps own W W' := by
  obtain ⟨_, own1, h1, h2, h3⟩ := hp
  obtain ⟨own', t1, t2, t3⟩ := h1.tight
  have hout : ∀ k, own' k → own k ∨ W.heap.size ≤ k := fun k hk => h2 k (t3 k hk)
  have hlow : ∀ k, own k → w.heap.size ≤ k := fun k hk => h.dk.low hk
  refine ⟨own', ⟨t1, t2, h.sb.keep (h3.block bo h.sb.lt h.nb) (fun g hg => h3.block g (h.sb.vlt hg) (h.nv g hg)), ?_, h.bC, h.vC, ?_, ?_, h.bl, h.vl, h3.to_below hlow h.bw h.bw.size, Nat.lt_of_lt_of_le h.cl h3.size⟩, h3⟩
  · intro hh
    rcases hout _ hh with e | e
    · exact h.nC e
    · have := h.cl; omega
  · intro hh
    rcases hout _ hh with e | e
    · exact h.nb e
    · have := h.sb.lt; omega
  · intro g hg hh
    rcases hout _ hh with e | e
    · exact h.nv g hg e
    · have := h.sb.vlt hg; omega
/-- Behind a write. -/
theorem RunSt.wrote (h : RunSt w C bd bo D l own vo W) {l' : List UInt8} {vo' : Value} (hS : Sb bo vo' (Lib.byteCells l') W') (hg : GoesOn W vo vo') (hq : QKeeps (fun k => k = bo ∨ vo.ownBlock = some k) W W') : RunSt w C bd bo D l' own vo' W' := by
  have hin : ∀ k, own k → W'.heap[k]? = W.heap[k]? := fun k hk => hq.block k (h.dk.lt hk) (fun e => e.elim (fun e => h.nb (e ▸ hk)) (fun e => h.nv k e hk))
  refine ⟨h.dk.keep hin hq.size, fun k hk => by rw [hin k hk]; exact h.ce k hk, hS, h.nC, h.bC, ?_, h.nb, ?_, h.bl, ?_, hq.to_below (fun k hk => hk.elim (fun e => e ▸ h.bl) (fun e => h.vl k e)) h.bw h.bw.size, Nat.lt_of_lt_of_le h.cl hq.size⟩
  · intro e
    rcases hg with e1 | ⟨m, hm, e1⟩
    · exact h.vC (e1.symm.trans e)
    · have := h.cl; rw [e1] at e; injection e with e; omega
  · intro g hgv hh
    rcases hg with e1 | ⟨m, hm, e1⟩
    · exact h.nv g (e1.symm.trans hgv) hh
    · have := h.dk.lt hh; rw [e1] at hgv; injection hgv with hgv; omega
  · intro g hgv
    rcases hg with e1 | ⟨m, hm, e1⟩
    · exact h.vl g (e1.symm.trans hgv)
    · have := h.bw.size; rw [e1] at hgv; injection hgv with hgv; omega
theorem RunSt.keepC (h : RunSt w C bd bo D l own vo W) (hq : QKeeps (fun k => k = bo ∨ vo.ownBlock = some k) W W') : KeepC C W W' :=
  hq.block C h.cl (fun e => e.elim (fun e => h.bC e.symm) (fun e => h.vC e))
theorem Sb.cellsIn (h : Sb bo vo (Lib.byteCells l) W) : CellsIn (fun k => k = bo ∨ vo.ownBlock = some k) W := by
  rintro k (rfl | hk)
  · rcases h with h | h
    · exact ⟨_, h.1, rfl⟩
    · exact ⟨_, h.1, rfl⟩
  · have hrow : W.ownsRowF 0 5 1 vo (Lib.byteCells l).length (Lib.byteCells l) := h.elim (fun h => h.2) (fun h => h.2)
    rcases hrow.2 with ⟨h0, _⟩ | ⟨g', cap, cur, fz, hv', _, hg', _⟩
    · rw [h0] at hk; simp [Value.ownBlock] at hk
    · rw [hv'] at hk; simp [Value.ownBlock] at hk; subst hk; exact ⟨_, hg', rfl⟩
end
end Go.Proofs.YtanlmfnhlldkeaaGreatDoor

namespace Go.Proofs.YtanlmfnhlldkeaaGreatDoor
open Go.RowKit
attribute [local go_sem] Oper.semAt_some
attribute [local simp, local go_sem] wide_fn
set_option maxRecDepth 100000
set_option linter.unusedVariables false

theorem linesL_mem : ∀ {t x : List UInt8}, x ∈ linesL t → x.length ≤ t.length
  | [], x, h => by cases h
  | c :: t, x, h => by
    unfold linesL at h
    split at h
    · rcases List.mem_cons.1 h with rfl | h
      · simp
      · exact Nat.le_succ_of_le (linesL_mem h)
    · split at h
      · rcases List.mem_cons.1 h with rfl | h
        · simp
        · cases h
      · rename_i y r e
        rcases List.mem_cons.1 h with rfl | h
        · have := linesL_mem (t := t) (x := y) (by rw [e]; exact List.mem_cons_self ..)
          simp; omega
        · exact Nat.le_succ_of_le (linesL_mem (by rw [e]; exact List.mem_cons_of_mem _ h))
theorem linesL_few : ∀ t : List UInt8, (linesL t).length ≤ t.length
  | [] => Nat.le_refl _
  | c :: t => by
    have ih := linesL_few t
    unfold linesL
    split
    · simp; omega
    · split
      · simp
      · rename_i y r e
        rw [e] at ih
        simp at ih ⊢
        omega
theorem trim_len (l p : List UInt8) : (Lib.trimSuffix l p).length ≤ l.length := by
  unfold Lib.trimSuffix
  split
  · rw [List.length_take]; exact Nat.min_le_right ..
  · exact Nat.le_refl _
theorem strB (l m : List UInt8) : Lib.byteCells l ++ Lib.strCells ⟨m.toArray⟩ = Lib.byteCells (l ++ m) := by rw [Lib.byteCells_append]; rfl
def trimB (x : ByteArray) : List UInt8 := Lib.trimSuffix x.data.toList [10]
theorem trim_lines (s : ByteArray) : (linesB s).map trimB = lineL s.data.toList := by
  unfold linesB lineL
  rw [List.map_map]
  refine List.map_congr_left fun l _ => ?_
  show Lib.trimSuffix (⟨l.toArray⟩ : ByteArray).data.toList [10] = _
  rw [ba_of]
theorem dLines_snoc (a : List (List UInt8)) (y : List UInt8) (D : DS) : dLines D (a ++ [y]) = ((dLine (dLines D a).1 y).1, ((dLines D a).2 ++ (dLine (dLines D a).1 y).2) ++ [10]) := by
  rw [dLines_append, dLines, dLines]
  simp
set_option maxHeartbeats 16000000 in
theorem Run_any {w : World} (hG : Glob w) (s : ByteArray) : Calls Tryz.prog 21 #[.string s] w fun e w' => e = .returned (.string ⟨(dRun s.data.toList).toArray⟩) ∧ Below w.heap.size w w' := by
  unfold dRun
  rw [← ba_size]
  by_cases hs : 3000 < s.size
  · rw [if_pos hs]
    have g0 : decide ((s.size : Int) > 3000) = true := by simp; omega
    clear hs
    go_enter Tryz.func21, Tryz.ntmps21
    go_wp2_with fail
    go_ret
    exact ⟨rfl, Below.refl _ _⟩
  · rw [if_neg hs]
    refine (callsIn_wide (n := 8)).1 ?_
    have g0 : decide ((s.size : Int) > 3000) = false := by simp; omega
    have hs3 : s.size ≤ 3000 := by omega
    obtain ⟨W1, hW1⟩ : ∃ W1, ((w.alloc (.cells #[.slice none 0 0, .slice none 0 0, .pointer none] 94)).alloc (.cells #[.pointer none, .slice none 0 0] 82)) = W1 := ⟨_, rfl⟩
    have hr0 : BoxN W1 w.heap.size 94 #[.slice none 0 0, .slice none 0 0, .pointer none] := by rw [← hW1]; exact (BoxN.new w _ _).alloc _
    have hr1 : BoxN W1 (w.heap.size + 1) 82 #[.pointer none, .slice none 0 0] := by rw [← hW1]; exact BoxN.new' _ _ _ _ (by simp)
    have hb1 : Below w.heap.size w W1 := by rw [← hW1]; exact ((Below.refl _ _).alloc (Nat.le_refl _) _).alloc (by simp) _
    have Hs1 := Lib.hid (show W1.heap.size = w.heap.size + 2 by rw [← hW1]; simp)
    clear hs
    refine callsIn_of_wp_marks Tryz.func21 rfl trivial ?_ rfl
    simp only [Tryz.ntmps21, List.size_toArray, List.length_cons, List.length_nil, Nat.reduceAdd, Nat.reduceSub, Array.replicate_succ, Array.replicate_zero, List.push_toArray, List.append_toArray, List.nil_append, List.cons_append]
    gi_wp2_with fail
    try rw [hW1]
    clear hW1
    refine (callsIn_wide.2 (Lines_any s W1)).mono ?_
    rintro e w4 ⟨rfl, rfl⟩
    have hs1 := Hs1.out
    have hbX : Below W1.heap.size W1 (W1.alloc (.cells #[.string s] 9)) := (Below.refl _ _).alloc (Nat.le_refl _) _
    have hxd : BoxN (W1.alloc (.cells #[.string s] 9)) W1.heap.size 9 #[.string s] := BoxN.new _ _ _
    have hsX : (W1.alloc (.cells #[.string s] 9)).heap.size = W1.heap.size + 1 := by simp
    generalize W1.alloc (.cells #[.string s] 9) = X at *
    have hbwX := hb1.trans (hbX.mono hb1.size)
    have hRun0 : RunSt w W1.heap.size w.heap.size (w.heap.size + 1) dNew [] (fun k => k = w.heap.size) (.slice none 0 0) X := by
      refine ⟨⟨.slice none 0 0, .slice none 0 0, .pointer none, fun _ => False, hr0.all hbX, OwnL.nil _ _, OwnL.nil _ _, DOk.new, rfl, fun g hg => by simp [Value.ownBlock] at hg, fun g hg => by simp [Value.ownBlock] at hg, fun g hg => hg.elim, fun g hg => by omega, fun g hg => by omega, .inl ⟨rfl, rfl, fun g hg => hg⟩⟩, ?_, .inl ⟨hr1.all hbX, ⟨rfl, .inl ⟨rfl, rfl⟩⟩⟩, by omega, by omega, by simp [Value.ownBlock], by omega, fun g hg => by simp [Value.ownBlock] at hg, by omega, fun g hg => by simp [Value.ownBlock] at hg, hbwX, by omega⟩
      rintro k rfl
      exact ⟨_, hr0.all hbX, rfl⟩
    have hX0 : w.heap.size + 2 < X.heap.size := by omega
    have hC1 : w.heap.size ≤ W1.heap.size := hb1.size
    clear hr0 hr1 hbX hsX hb1 hbwX hs1 Hs1
    generalize W1.heap.size = C at *
    gi_wp2_with fail
    refine wp_lines1 (by decide) 5 (C := C) (s := s) rfl hxd (by omega)
      (fun pre Y => ∃ own vo, RunSt w C w.heap.size (w.heap.size + 1) (dLines dNew (pre.map trimB)).1 (dLines dNew (pre.map trimB)).2 own vo Y)
      (fun cd _ Y => False)
      ?hI ?hIx ?h0 ?assign ?body ?done ?stop
    case hI =>
      rintro pre Y Y' row ⟨own, vo, h⟩ hg hr
      exact ⟨own, vo, h.but (by omega) hC1 hg hr⟩
    case hIx => rintro cd pre Y Y' row h; exact h.elim
    case h0 => exact ⟨_, _, hRun0⟩
    case assign =>
      intro l x Y K hK
      gi_wp2
      exact hK
    case body =>
      rintro l pre x Y ⟨own, vo, h⟩ hok
      clear hRun0
      have hmem : x ∈ linesB s := hok.subset (by simp)
      have hlen : (pre ++ [x]).length ≤ 3000 := by
        have h1 := hok.length_le
        have h2 := linesL_few s.data.toList
        unfold linesB at h1
        rw [List.length_map] at h1
        rw [← ba_size] at h2
        omega
      rw [List.length_append, List.length_singleton] at hlen
      have hxs : x.size ≤ 3000 := by
        unfold linesB at hmem
        obtain ⟨y, hy, rfl⟩ := List.mem_map.1 hmem
        have := linesL_mem hy
        rw [← ba_size] at this
        rw [ba_size, ba_of]
        omega
      have hsn := dLines_snoc (pre.map trimB) (trimB x) dNew
      have hout := lines_len (pre.map trimB) DOk.new
      rw [List.length_map] at hout
      have HSn := Lib.hid (show dLines dNew ((pre ++ [x]).map trimB) = ((dLine (dLines dNew (pre.map trimB)).1 (trimB x)).1, ((dLines dNew (pre.map trimB)).2 ++ (dLine (dLines dNew (pre.map trimB)).1 (trimB x)).2) ++ [10]) by rw [List.map_append]; exact hsn)
      have CT := Lib.hid (show Calls Tryz.prog 45 #[.string x, .string ⟨#[10]⟩] Y fun e w' => e = .returned (.string ⟨(trimB x).toArray⟩) ∧ w' = Y from Tryz.strings_TrimSuffix x ⟨#[10]⟩ Y (by omega))
      have hts : (⟨(trimB x).toArray⟩ : ByteArray).size ≤ 3000 := by
        rw [ba_size, ba_of]
        have := trim_len x.data.toList [10]
        rw [← ba_size] at this
        unfold trimB
        omega
      have CL := Line_any hG h.bw h.dk ⟨(trimB x).toArray⟩ hts
      rw [ba_of] at CL
      have HL := Lib.hid CL
      have Hst := Lib.hid h
      have hout2 := line_len h.dk.ok (trimB x)
      clear CL h hsn hok hmem hts hxs
      generalize dLines dNew (pre.map trimB) = DL at *
      generalize trimB x = tx at *
      gi_wp2_with fail
      refine (callsIn_wide.2 CT.out).mono ?_
      rintro e w5 ⟨rfl, hw5⟩
      obtain rfl : Y = w5 := hw5.symm
      clear hw5
      gi_wp2_with fail
      refine (callsIn_wide.2 HL.out).mono ?_
      intro e w6 hp
      obtain ⟨own6, h6, hq6⟩ := Hst.out.line hp
      obtain rfl := hp.1
      have hKF := keepsFrom_of (B := X.heap.size) hq6 Hst.out.ce
      have hKC : KeepC C Y w6 := hq6.block C Hst.out.cl Hst.out.nC
      clear hp HL CT hq6
      have hsz6 : (⟨(dLine DL.1 tx).2.toArray⟩ : ByteArray).size = (dLine DL.1 tx).2.length := by rw [ba_size, ba_of]
      have CW := Lib.hid (SbString_any ⟨(dLine DL.1 tx).2.toArray⟩ h6.sb (by rw [Lib.byteCells_length, hsz6]; omega))
      have H6 := Lib.hid h6
      clear h6 Hst
      gi_wp2_with fail
      refine (callsIn_wide.2 CW.out).mono ?_
      rintro e w7 ⟨rfl, v7, hS7, hg7, hq7⟩
      rw [strB] at hS7
      have h7 := H6.out.wrote hS7 hg7 hq7
      have hKF7 := keepsFrom_of (B := X.heap.size) hq7 H6.out.sb.cellsIn
      have hKC7 := H6.out.keepC hq7
      have CB := Lib.hid (SbByte_any 10 h7.sb (by rw [Lib.byteCells_length, List.length_append]; omega))
      have H7 := Lib.hid h7
      clear h7 CW hS7 hg7 hq7
      gi_wp2_with fail
      refine (callsIn_wide.2 CB.out).mono ?_
      rintro e w8 ⟨rfl, v8, hS8, hg8, hq8⟩
      have hb10 : Lib.byteCells (DL.2 ++ (dLine DL.1 tx).2) ++ [.int .u8 10] = Lib.byteCells ((DL.2 ++ (dLine DL.1 tx).2) ++ [10]) := by rw [Lib.byteCells_append (DL.2 ++ (dLine DL.1 tx).2) [10]]; rfl
      rw [hb10] at hS8
      have h8 := H7.out.wrote hS8 hg8 hq8
      have hKF8 := keepsFrom_of (B := X.heap.size) hq8 H7.out.sb.cellsIn
      have hKC8 := H7.out.keepC hq8
      gi_wp2_with fail
      refine ⟨(hKF.trans hKF7).trans hKF8, (hKC8.trans hKC7).trans hKC, own6, v8, ?_⟩
      rw [HSn.out]
      exact h8
    case done =>
      rintro Dm Z hD ⟨own, vo, h⟩ hK
      rw [trim_lines] at h
      have CS := Lib.hid (SbText_any h.sb)
      have H := Lib.hid h
      clear h hRun0
      gi_wp2_with fail
      refine (callsIn_wide.2 CS.out).mono ?_
      rintro e w5 ⟨rfl, hS5, hq5⟩
      gi_wp2_with fail
      have hbZ := hq5.to_below (B := w.heap.size) (w0 := w) (fun k hk => H.out.vl k hk) H.out.bw H.out.bw.size
      have hK5 : w5.heap[Dm]? = some (.deferred (some [])) := by
        rw [hq5.block Dm (Array.getElem?_eq_some_iff.1 hK).1 (fun e => by
          obtain ⟨o, ho, hy⟩ := H.out.sb.cellsIn Dm (.inr e)
          rw [hK] at ho
          injection ho with ho
          subst ho
          cases hy)]
        exact hK
      refine leaves_marks (B := w.heap.size) [Dm] _ (MarksAt.nil.cons (by omega) (by simp) hK5) fun w' hsc hb' _ => ?_
      exact ⟨_, results_tmp rfl _ _ _, rfl, hbZ.trans hb'⟩
    case stop =>
      intros
      rename_i h _
      exact h.elim
end Go.Proofs.YtanlmfnhlldkeaaGreatDoor
