/-
  core.Queue at ints, its map's block told: for a range over a function, in whose body it grows.
-/
import Derived.Test.YtndeplakkhfmlaaDoorQueue
import Derived.Test.YtndeplakkhfmlaaDoorMarks
import Derived.RangeFuncWrites
import Derived.OwnWalkIn
namespace Go.Proofs.YtndeplakkhfmlaaDoor
open Go.RowKit Go.Maps
set_option maxRecDepth 100000
set_option linter.unusedVariables false

/-- The blocks of a queue. -/
def qS (p mb : Nat) (v : Value) (b : Nat) : Prop := b = p ∨ b = mb ∨ v.ownBlock = some b
/-- A queue that holds something, in block p, its map in block mb, its list v. -/
structure QM (B : Nat) (w : World) (p mb : Nat) (v : Value) (q : List Nat) : Prop where
  box : BoxN w p 79 #[.map (some mb), v]
  pB : B ≤ p
  mB : B ≤ mb
  own : OwnI w B v (castL q)
  ne : q ≠ []
  map : ∃ D : DataW Unit, w.ownsMap Tryd.prog 3 (plainElem Tryd.prog 3) mb q.length D ∧ IsMap D ∧ ∀ y : Nat, Maps.has D (qkey y) = decide (y ∈ q)
section
variable {B : Nat} {w w' : World} {p mb : Nat} {v : Value} {S : Nat → Prop} {q : List Nat}
theorem QM.at_ (h : QM B w p mb v q) : QAt B w p (qS p mb v) q := by
  obtain ⟨D, d1, d2, d3⟩ := h.map
  refine ⟨_, v, h.box, .inl rfl, ?_, h.own, fun g hg => .inr (.inr hg), .inr ⟨h.ne, mb, D, rfl, .inr (.inl rfl), d1, d2, d3⟩⟩
  rintro b (rfl | rfl | hb)
  · exact ⟨h.pB, h.box.lt⟩
  · exact ⟨h.mB, d1.lt⟩
  · exact own_lt h.own hb
theorem QAt.qm (h : QAt B w p S q) (hq : q ≠ []) : ∃ mb v, QM B w p mb v q ∧ ∀ b, qS p mb v b → S b := by
  obtain ⟨m, v, h1, h2, h3, h4, h5, h6⟩ := h
  obtain ⟨_, mb, D, rfl, k2, k3, k4, k5⟩ := h6.resolve_left (fun e => hq e.1)
  refine ⟨mb, v, ⟨h1, (h3 p h2).1, (h3 mb k2).1, h4, hq, D, k3, k4, k5⟩, ?_⟩
  rintro b (rfl | rfl | hb)
  · exact h2
  · exact k2
  · exact h5 b hb
theorem QM.mapBlock (h : QM B w p mb v q) : ∃ es clock, w.heap[mb]? = some (.map es clock) := by
  obtain ⟨D, ⟨es, clock, d1, _⟩, _⟩ := h.map
  exact ⟨es, clock, d1⟩
theorem QM.keep (h : QM B w p mb v q) (hb : ∀ b, qS p mb v b → w'.heap[b]? = w.heap[b]?) : QM B w' p mb v q := by
  obtain ⟨D, d1, d2, d3⟩ := h.map
  refine ⟨(hb p (.inl rfl)).trans h.box, h.pB, h.mB, ?_, h.ne, D, ownsMap_block d1 (hb mb (.inr (.inl rfl))), d2, d3⟩
  refine ⟨h.own.1, ?_⟩
  rcases h.own.2 with h0 | ⟨g, cap, cur, hv, hg, hc, r⟩
  · exact .inl h0
  · exact .inr ⟨g, cap, cur, hv, hg, (hb g (.inr (.inr (by rw [hv]; rfl)))).trans hc, r⟩
theorem QM.lt (h : QM B w p mb v q) {b : Nat} (hb : qS p mb v b) : B ≤ b ∧ b < w.heap.size := h.at_.in_ b hb
theorem QM.below (h : QM B w p mb v q) (hb : Below w.heap.size w w') : QM B w' p mb v q := h.keep fun b hb' => hb.block b (h.lt hb').2
/-- Its blocks but the map hold cells. -/
theorem QM.cells (h : QM B w p mb v q) {b : Nat} (hb : qS p mb v b) (hne : b ≠ mb) : ∃ c t f, w.heap[b]? = some (.cells c t f) := by
  rcases hb with rfl | rfl | hb
  · exact ⟨_, _, _, h.box⟩
  · exact absurd rfl hne
  · rcases h.own.2 with ⟨h0, _⟩ | ⟨g, cap, cur, hv, hg, hc, r⟩
    · rw [h0] at hb; cases hb
    · rw [hv] at hb
      have : g = b := by simpa [Value.ownBlock] using hb
      subst this
      exact ⟨_, _, _, hc⟩
/-- What a range's own book-keeping turns is none of its blocks. -/
theorem QM.turned {n : Nat} (h : QM B w p mb v q) (hmb : mb < n) {row : Option Nat} (hg : w.grownBy w' row) (hr : ∀ r, row = some r → n ≤ r ∧ ∃ o : Obj, w.heap[r]? = some o ∧ o.isCells = false) : QM B w' p mb v q :=
  h.keep fun b hb => hg.block b (h.lt hb).2 fun e => by
    obtain ⟨h1, o, h2, h3⟩ := hr b e.symm
    obtain ⟨c, t, f, h4⟩ := h.cells hb (by omega)
    rw [h2] at h4
    injection h4 with h4
    subst h4
    cases h3
/-- Where only its blocks turn, the blocks behind its map that hold no cells stay. -/
theorem QM.keepsFrom {n : Nat} (h : QM B w p mb v q) (hmb : mb < n) (hk : QKeeps (qS p mb v) w w') : KeepsFrom n w w' :=
  ⟨hk.size, fun k o hn hk' ho => (hk.block k (Array.getElem?_eq_some_iff.1 hk').1 (fun e => by
    obtain ⟨c, t, f, h4⟩ := h.cells e (by omega)
    rw [hk'] at h4
    injection h4 with h4
    subst h4
    cases ho)).trans hk'⟩
/-- What stands behind the append. -/
theorem qm_end {w1 w2 : World} {v2 : Value} {y : Nat} {D d : DataW Unit} {o : Obj} (h : QM B w p mb v q) (hx2 : BoxN w2 p 79 #[.map (some mb), v]) (hne : mb ≠ p)
    (hvm : v.ownBlock ≠ some mb) (hk1 : QKeeps (qS p mb v) w w1) (hg2 : (w1.alloc o).grownBy w2 v.ownBlock) (hv2 : v2.ownBlock = v.ownBlock ∨ v2.ownBlock = some (w1.alloc o).heap.size) (ho2 : OwnI w2 B v2 (castL q ++ [(y : Int)]))
    (hm : w1.ownsMap Tryd.prog 3 (plainElem Tryd.prog 3) mb (q.length + 1) (D.put (qkey y) d)) (hD : IsMap D) (hh : ∀ z : Nat, Maps.has D (qkey z) = decide (z ∈ q)) :
    ∃ v', QM B (w2.setCell ⟨p, 1, none⟩ v2) p mb v' (q ++ [y]) ∧ (v'.ownBlock = v.ownBlock ∨ ∃ g, v'.ownBlock = some g ∧ w.heap.size ≤ g) ∧ QKeeps (qS p mb v) w (w2.setCell ⟨p, 1, none⟩ v2) := by
  have hk2 : QKeeps (qS p mb v) w w2 := (hk1.alloc o).grown hg2 (fun g hg => .inl (.inr (.inr hg)))
  have hm2 := (hm.alloc o).kept hg2 (fun e => hvm e.symm)
  refine ⟨v2, ⟨hx2.set 1 v2, h.pB, h.mB, ?_, by simp, D.put (qkey y) d, ?_, hD.put _ _, fun z => qput_has hD hh z⟩, ?_, hk2.setCell (p := ⟨p, 1, none⟩) (.inl rfl) v2⟩
  · rw [castL_push q y]
    exact own_off ho2 hx2 int_ne_queue v2
  · rw [List.length_append]
    exact hm2.setCell (a := ⟨p, 1, none⟩) hne v2
  · rcases hv2 with h2 | h2
    · exact .inl h2
    · exact .inr ⟨_, h2, by have := hk1.size; simp; omega⟩

set_option maxHeartbeats 4000000 in
theorem QMAdd_more {mb : Nat} {v : Value} (h : QM B w p mb v q) (hB : B ≤ w.heap.size) (hl : q.length < 2 ^ 39) (y : Nat) (hy : y < 2 ^ 62) (hm : y ∉ q) :
    Calls Tryd.prog 50 #[.pointer (some ⟨p, 0, none⟩), .int .i64 y] w fun e w' => (∃ c : Int, e = .returned (.tuple #[.int .i64 c, .bool true])) ∧ ∃ v', QM B w' p mb v' (q ++ [y]) ∧ (v'.ownBlock = v.ownBlock ∨ ∃ g, v'.ownBlock = some g ∧ w.heap.size ≤ g) ∧ QKeeps (qS p mb v) w w' := by
  have hne : q ≠ [] := h.ne
  obtain ⟨m, v', h1, h2, h3, h4, h5, h6⟩ := h.at_
  obtain ⟨rfl, rfl⟩ : m = .map (some mb) ∧ v' = v := by
    have e1 : w.heap[p]? = _ := h1
    have e2 : w.heap[p]? = _ := h.box
    rw [e1] at e2
    injection e2 with e2
    injection e2 with e2
    injection e2 with e2
    simp at e2
    exact e2
  obtain ⟨D, k3, k4, k5⟩ := h.map
  have hkey : keyOf Tryd.prog 3 (.int .i64 y) = some (qkey y) := keyOf_int_mk Tryd.underlying3 (WalkArith.wf_i64 (by omega))
  have hhas := k5 y
  rw [decide_eq_false hm] at hhas
  have K5 := Lib.hid k5
  have hen := run_eql_map_nil (P := Tryd.prog) w _ _ _ (some mb) Tryd.underlying77
  have hlen : (castL q).length = q.length := length_castL q
  obtain ⟨A0, c0, rfl, hI⟩ := h4.form
  rw [hlen] at h1 h4 h5 h ⊢
  have HM := Lib.hid h
  have x0 := h1.cell (k := 0) rfl
  have x1 := h1.cell (k := 1) rfl
  have hpl := h1.lt
  have hmbl := k3.lt
  have hneb : mb ≠ p := by
    rintro rfl
    obtain ⟨es, clock, e1, _⟩ := k3
    have e2 : w.heap[mb]? = _ := h1
    rw [e1] at e2
    cases e2
  have hgp : ∀ g, Value.ownBlock (.slice A0 q.length c0) = some g → g ≠ p ∧ g ≠ mb ∧ g < w.heap.size := fun g hg => by
    obtain ⟨a, b2, c2⟩ := h4.2.resolve_left (fun e => by rw [e.1] at hg; cases hg)
    obtain ⟨cur, e0, e1, e2, _⟩ := c2
    have : g = a := by rw [e0] at hg; simp [Value.ownBlock] at hg; exact hg.symm
    subst this
    refine ⟨?_, ?_, (Array.getElem?_eq_some_iff.1 e2).1⟩
    · rintro rfl
      have e3 : w.heap[g]? = _ := h1
      rw [e2] at e3
      injection e3 with e3
      injection e3 with _ e3
      exact int_ne_queue e3
    · rintro rfl
      obtain ⟨es, clock, e3, _⟩ := k3
      rw [e2] at e3
      cases e3
  have hbox := Lib.hid (show ∀ w1 : World, (w.drewN 1).grownBy w1 (some mb) → BoxN w1 p 79 #[.map (some mb), .slice A0 q.length c0] from fun w1 hg => (hg.block p hpl (fun e => hneb (by injection e with e; exact e.symm))).trans h1)
  have hbox2 := Lib.hid (fun (w1 w2 : World) (hx : BoxN w1 p 79 #[.map (some mb), .slice A0 q.length c0]) (_ : w.heap.size ≤ w1.heap.size) {o : Obj} (hg : (w1.alloc o).grownBy w2 (Value.ownBlock (.slice A0 q.length c0))) => (qbox2 hx hg (fun e => (hgp p e).1 rfl)))
  have hrow := Lib.hid (show ∀ w1 : World, (w.drewN 1).grownBy w1 (some mb) → OwnI w1 B (.slice A0 q.length c0) (castL q) from fun w1 hg => World.ownsRow.kept h4 (⟨hg.os, hg.tape, hg.output, hg.size, hg.block⟩ : w.grownBy w1 (some mb)) (by
    cases hob : Value.ownBlock (.slice A0 q.length c0) with
    | none => exact .inl rfl
    | some g => exact .inr (fun e => (hgp g hob).2.1 (Option.some.inj e))))
  have HG := Lib.hid hgp
  have H3 := Lib.hid h3
  have H5 := Lib.hid h5
  have hpl2 : (castL q ++ [(y : Int)]).length = q.length + 1 := by simp [length_castL]
  clear h3 h5 h6 k5 hm hgp hI h4 h h2
  go_enter Tryd.func50, Tryd.ntmps50
  go_wp2_with (at_lookup; refine wpList_lookup_own_ok_int w rfl _ _ 77 rfl 3 3 .i64 qlaw Tryd.underlying77 Tryd.underlying3 (qzero _) mb _ D rfl k3 _ _ rfl hkey ?_; intro c hat hwc; rw [hhas])
  refine wp_still_tailD 10 (by kernel_rfl) (by kernel_rfl) ?_
  simp only [List.take_succ_cons, List.take_zero, List.drop_succ_cons, List.drop_zero]
  repeat still_step
  refine wpStill_nil ?_
  have k3d : (w.drewN 1).ownsMap Tryd.prog 3 (plainElem Tryd.prog 3) mb q.length D := k3
  go_wp2_with (first | (at_mapUpdate; refine wpList_mapUpdate_own _ rfl _ _ _ 77 rfl 3 3 qlaw Tryd.underlying77 _ mb _ _ rfl k3d (by unfold maxLen; omega) _ _ _ rfl rfl hkey _ [] (plainElem_int Tryd.underlying3 (WalkArith.wf_i64 (by omega))) ?_; intro w1 hown1 hgrow1; have hx1 := hbox.out w1 hgrow1; have z1 := hx1.cell (k := 1) rfl; have zf := hx1.free 1; have ho1 := hrow.out w1 hgrow1; have hsz1 := hgrow1.size) | (at_builtin; refine wpList_push_int rfl _ _ rfl (base := B) rfl (ho1.next ((Below.refl _ w1).alloc (Nat.le_refl _) _)) w1.heap.size (y : Int) rfl (cell_of_row _ _ 0 _ _ _ (heap_alloc_new w1 _)) (by rw [length_castL]; omega) (by simp at hsz1 ⊢; omega) ?_; intro v2 w2 ho2 hg2 hv2 _; obtain ⟨A2, c2, hv2e, _⟩ := ho2.form; rw [hpl2] at hv2e; subst hv2e; have hx2 := hbox2.out w1 w2 hx1 hgrow1.size hg2; have y1 := hx2.cell (k := 1) rfl; have yf := hx2.free 1))
  go_ret2
  exact ⟨⟨_, rfl⟩, qm_end HM.out hx2 hneb (fun e => (HG.out mb e).2.1 rfl) ((QKeeps.refl _ w).grown (⟨hgrow1.os, hgrow1.tape, hgrow1.output, hgrow1.size, hgrow1.block⟩ : w.grownBy w1 (some mb)) (fun g hg => .inl (.inr (.inl (by injection hg with hg; exact hg.symm))))) hg2 hv2 ho2 hown1 k4 K5.out⟩
theorem QMAdd_had (h : QM B w p mb v q) (y : Nat) (hy : y < 2 ^ 62) (hm : y ∈ q) :
    Calls Tryd.prog 50 #[.pointer (some ⟨p, 0, none⟩), .int .i64 y] w fun e w' => (∃ c : Int, e = .returned (.tuple #[.int .i64 c, .bool false])) ∧ w = w' := QAdd_had h.at_ y hy hm
/-- Marks of ranges stay where the queue alone turns. -/
theorem MarksAt.queue {B0 : Nat} {Ds : List Nat} (h : MarksAt B0 w Ds) (hq : QM B w p mb v q) (hk : QKeeps (qS p mb v) w w') : MarksAt B0 w' Ds :=
  ⟨h.1, fun D hD => ⟨(h.2 D hD).1, (hk.block D (h.lt hD) fun e => by
    have h1 := (h.2 D hD).2
    by_cases hm : D = mb
    · subst hm
      obtain ⟨es, clock, h2⟩ := hq.mapBlock
      rw [h1] at h2; cases h2
    · obtain ⟨c, t, f, h2⟩ := hq.cells e hm
      rw [h1] at h2; cases h2).trans (h.2 D hD).2⟩⟩
/-- A box that is none of the queue's stays where the queue alone turns. -/
theorem BoxN.queue {b : Nat} {t : TypeId} {vs : Array Value} (h : BoxN w b t vs) (hn : ¬ qS p mb v b) (hk : QKeeps (qS p mb v) w w') : BoxN w' b t vs := hk.box h hn
end
/-- 'append(l, k)' at a slice of ints of one's own, inside a fence. -/
theorem wpListIn_push_int {F : Fence} {nF : Nat} {w : World} {ops : Array Oper} {rest : List Oper} {o : Oper} {a : Act} {Q : Exit → Act → World → Prop} (hgd : o.guard = none) (s x : Operand)
    (ho : o.op = .call { callee := .builtin .append, args := #[s, x], argTypes := #[29, 29] })
    {base : Nat} {v : Value} {xs : List Int} (hs : a.eval s = v) (hown : OwnI w base v xs) (g : Nat) (k : Int) (hx : a.eval x = .slice (some ⟨g, 0, none⟩) 1 1) (hc : w.cell? ⟨g, 0, none⟩ = some (.int .i64 k))
    (hn : xs.length < 2 ^ 40) (hbase : base ≤ w.heap.size)
    (h : ∀ v' w', OwnI w' base v' (xs ++ [k]) → w.grownBy w' v.ownBlock → (v'.ownBlock = v.ownBlock ∨ v'.ownBlock = some w.heap.size) → (∀ w0, Below base w0 w → Below base w0 w') → wpListIn F nF Tryd.prog ops Q rest (a.put o.dst v') w') : wpListIn F nF Tryd.prog ops Q (o :: rest) a w := by
  have hown' : w.ownsRow base 3 1 v xs.length (xs.map (.int .i64)) := hown
  have hcells : CellsAt w (some ⟨g, 0, none⟩) [.int .i64 k] := fun _ => ⟨g, 0, rfl, fun j u hj => by
    match j, hj with
    | 0, hj => simp at hj; subst hj; simpa using hc
    | j + 1, hj => simp at hj⟩
  refine wpListIn_plain hgd fun K hK => ?_
  obtain ⟨v', w', hrun, hp⟩ := run_append_cells w o.type eInts hown' (some ⟨g, 0, none⟩) 1 1 [.int .i64 k] hcells rfl (fun u hu => by simp at hu; subst hu; rfl) (by omega) (by omega) hbase
  unfold Oper.wpIn
  refine ⟨by simp [Oper.about, ho, resolve, Target.leads, Sem.run_pure], ?_⟩
  rw [Oper.semAt_plain F _ _ (by rw [ho]; intro c hc'; cases hc')]
  simp [execOp, ho, resolve, invoke, builtin, hs, hx, hrun, Result.andThen]
  exact hK _ _ (h v' w' (OwnI.pushed hp) hp.grew hp.block fun w0 hb => hp.below hown' hb hbase)
end Go.Proofs.YtndeplakkhfmlaaDoor
