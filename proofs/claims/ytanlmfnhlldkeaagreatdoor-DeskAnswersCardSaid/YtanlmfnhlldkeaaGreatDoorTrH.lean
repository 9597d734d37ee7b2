/-
  A range over the lines of a text; strings.CutSuffix; a trail's own blocks hold cells.
-/
import Derived.Test.YtanlmfnhlldkeaaGreatDoorTrG
import Derived.Test.YtanlmfnhlldkeaaGreatDoorLinA
namespace Go.Proofs.YtanlmfnhlldkeaaGreatDoor
open Go.RowKit Go.Shelf
attribute [local go_sem] Oper.semAt_some
attribute [local simp, local go_sem] wide_fn
set_option maxRecDepth 100000
set_option linter.unusedVariables false

theorem lines_own (n : Nat) (hn : 1 ≤ n) (C : Nat) (s : ByteArray) (hs : s.size ≤ 9223372036854775806) (w : World) (hC : BoxN w C 9 #[.string s]) :
    SeqOwn Fence.wide n Tryz.prog 47 #[.pointer (some ⟨C, 0, none⟩)] (fun x : ByteArray => #[.string x]) (KeepC C) (fun pre x => pre ++ [x] <+: linesB s)
      (fun xs => xs = linesB s) (fun pre => pre <+: linesB s) C w := by
  intro l J Jx W hW hJ _ hY h0
  exact lines1_in n hn l C s J Jx hs W hJ (fun pre x W1 h1 h2 => hY pre x W1 h1 h2) ((hW.block C hC.lt).trans hC) h0
/-- A range over the lines of a text, the loop's variable in slot q. -/
theorem wp_lines1 {n : Nat} (hn : 3 ≤ n) (q : Nat) {g : Operand} {p : Tmp} {assign body : Code} {Q : Exit → Act → World → Prop} {tmps : Array Value} {ds : List Deferred} {w : World} {C : Nat} {s : ByteArray}
    (hg : (Act.mk tmps ds).eval g = .func (.func 47) #[] #[.pointer (some ⟨C, 0, none⟩)]) (hC : BoxN w C 9 #[.string s]) (hs : s.size ≤ 9223372036854775806)
    (I : List ByteArray → World → Prop) (Ix : Code → List ByteArray → World → Prop) (hI : OwnBut C w.heap.size I) (hIx : ∀ c, OwnBut C w.heap.size (Ix c)) (h0 : I [] w)
    (hassign : ∀ (l : Nat) (x : ByteArray) (W : World) (K : Act → World → Prop), K { tmps := (tmps.setIfInBounds p (.string x)).setIfInBounds q (.string x), defers := [] } W →
      assign.wpIn (Fence.wide.inRound l) (n - 1 - 1) Tryz.prog (Exit.then K (fun _ _ _ => False)) { tmps := tmps.setIfInBounds p (.string x), defers := [] } W)
    (hbody : ∀ (l : Nat) (pre : List ByteArray) (x : ByteArray) (W : World), I pre W → pre ++ [x] <+: linesB s →
      body.wpIn (Fence.wide.inRound l) (n - 1 - 1) Tryz.prog (ownPostG w.heap.size (KeepC C) I Ix (pre ++ [x]) W) { tmps := (tmps.setIfInBounds p (.string x)).setIfInBounds q (.string x), defers := [] } W)
    (hdone : ∀ (D : Nat) (W : World), w.heap.size ≤ D → I (linesB s) W → W.heap[D]? = some (.deferred (some [])) → Q .normal { tmps := tmps, defers := { target := .collected D, args := #[] } :: ds } W)
    (hstop : ∀ (D : Nat) (c : Code) (pre : List ByteArray) (W : World), w.heap.size ≤ D → pre <+: linesB s → Ix c pre W → W.heap[D]? = some (.deferred (some [])) → c.wpIn Fence.wide n Tryz.prog Q { tmps := tmps, defers := { target := .collected D, args := #[] } :: ds } W) :
    (Code.rangeFunc g #[p] assign body).wpIn Fence.wide n Tryz.prog Q { tmps := tmps, defers := ds } w := by
  refine wpIn_rangeFunc_own (α := ByteArray) (C := C) rfl (by omega) (gf := 47) (lb := #[.pointer (some ⟨C, 0, none⟩)]) hg trivial (enters_of Tryz.func47 (by kernel_rfl) rfl)
    (lines_own (n - 1) (by omega) C s hs w hC) hC.lt (fun h k => Eq.trans k h) (fun W l o o' hl _ _ _ => World.putObj_heap_other (by have := hC.lt; omega)) (Below.refl _ _) (fun _ => rfl)
    I Ix hI hIx h0 (fun x => { tmps := (tmps.setIfInBounds p (.string x)).setIfInBounds q (.string x), defers := [] })
    (fun l x W K hK => by
      have e : ((#[p] : Array Tmp).zip #[Value.string x]).foldl (fun t (p, v) => t.setIfInBounds p v) tmps = tmps.setIfInBounds p (.string x) := by simp
      rw [e]
      exact hassign l x W K hK) hbody (fun D xs W hD hS h hK => hdone D W hD (by rw [← hS]; exact h) hK) (fun D c pre W hD hS h hK => hstop D c pre W hD hS h hK)
/-- CutSuffix of an end of line. -/
theorem cutSuffix_in (s : ByteArray) (hs : s.size ≤ 9223372036854775807) {y : ByteArray} {b : Bool} (h : (b = true ∧ s.data.toList = y.data.toList ++ [10]) ∨ (b = false ∧ y = s ∧ 10 ∉ s.data.toList)) (w : World) :
    Calls Tryz.prog 49 #[.string s, .string ⟨#[10]⟩] w fun e w' => e = .returned (.tuple #[.string y, .bool b]) ∧ w = w' := by
  have HS := Tryz.stringslite_HasSuffix s ⟨#[10]⟩ w hs
  rcases h with ⟨rfl, h⟩ | ⟨rfl, rfl, h⟩
  · have hsuf : Lib.hasSuffix s.data.toList (⟨#[10]⟩ : ByteArray).data.toList = true := by
      unfold Lib.hasSuffix
      rw [List.isSuffixOf_iff_suffix]
      exact ⟨y.data.toList, h.symm⟩
    rw [hsuf] at HS
    have hsz : s.size = y.size + 1 := by rw [ba_size, h, List.length_append, ← ba_size]; rfl
    have hy : s.extract 0 (s.size - 1) = y := ba_ext (by
      have e1 : ∀ n, (s.extract 0 n).data.toList = s.data.toList.take n := fun n => by simp
      rw [e1, h, hsz, Nat.add_sub_cancel, ba_size y, List.take_left])
    have n0 : (0 : Int) ≤ (s.size : Int) - 1 := by omega
    have hw1 : IntKind.i64.wrap ((s.size : Int) - 1) = (s.size : Int) - 1 := (IntKind.wrap_i64 _).trans (by omega)
    have n1 : ((s.size : Int) - 1) ≤ (s.size : Int) := by omega
    have Hy := Lib.hid hy
    have CH := Lib.hid HS
    clear HS hsuf h hy hsz
    go_enter Tryz.func49, Tryz.ntmps49
    go_wp2_with (go_at_call 68; with_reducible refine CH.out.mono ?_; rintro e w' ⟨rfl, rfl⟩)
    go_ret2
    exact ⟨by rw [← Hy.out]; rfl, rfl⟩
  · have hsuf : Lib.hasSuffix y.data.toList (⟨#[10]⟩ : ByteArray).data.toList = false := by
      rw [Bool.eq_false_iff]
      intro hh
      unfold Lib.hasSuffix at hh
      rw [List.isSuffixOf_iff_suffix] at hh
      obtain ⟨t, ht⟩ := hh
      exact h (by rw [← ht]; simp)
    rw [hsuf] at HS
    have CH := Lib.hid HS
    clear HS hsuf h
    go_enter Tryz.func49, Tryz.ntmps49
    go_wp2_with (go_at_call 68; with_reducible refine CH.out.mono ?_; rintro e w' ⟨rfl, rfl⟩)
    go_ret2
    exact ⟨rfl, rfl⟩
theorem CutSuffix_any (s : ByteArray) (hs : s.size ≤ 9223372036854775807) {y : ByteArray} {b : Bool} (h : (b = true ∧ s.data.toList = y.data.toList ++ [10]) ∨ (b = false ∧ y = s ∧ 10 ∉ s.data.toList)) (w : World) :
    Calls Tryz.prog 29 #[.string s, .string ⟨#[10]⟩] w fun e w' => e = .returned (.tuple #[.string y, .bool b]) ∧ w = w' := by
  have C := Lib.hid (cutSuffix_in s hs h w)
  clear h
  go_enter Tryz.func29, Tryz.ntmps29
  go_wp2_with (go_at_call 49; with_reducible refine C.out.mono ?_; rintro e w' ⟨rfl, rfl⟩)
  go_ret2
  exact ⟨rfl, rfl⟩
/-- The blocks that a trail needs, and no others. -/
def tightT (b m : Nat) (v : Value) (A : LA) (U F : List Int) (k : Nat) : Prop := k = b ∨ k = m ∨ v.ownBlock = some k ∨ A.has U F k
def CellsIn (own : Nat → Prop) (w : World) : Prop := ∀ k, own k → ∃ o : Obj, w.heap[k]? = some o ∧ o.isCells = true
section
variable {lo b m : Nat} {own : Nat → Prop} {v : Value} {A : LA} {U F : List Int} {T : TS} {w w' : World}
theorem ints_cells {A : Option Addr} {l : List Int} (h : IntsAt w A l) (hl : l ≠ []) {k o : Nat} (e : A = some ⟨k, o, none⟩) : ∃ o : Obj, w.heap[k]? = some o ∧ o.isCells = true := by
  obtain ⟨b, off, e', hc⟩ := h hl
  rw [e] at e'
  injection e' with e'
  injection e' with e1 e2
  subst e1
  exact cells_of_cell (hc 0 _ (get_gI (List.length_pos_iff.2 hl)))
theorem BellAt.has_cells {base p : Nat} {S : LS} (h : BellAt w base p U F S A) {k : Nat} (hk : A.has U F k) : ∃ o : Obj, w.heap[k]? = some o ∧ o.isCells = true := by
  have hR : U ≠ [] → S.Re ≠ [] := fun hu e => hu (List.length_eq_zero_iff.1 (by rw [h.lu, e]; rfl))
  have hH : F ≠ [] → S.Ho ≠ [] := fun hu e => hu (List.length_eq_zero_iff.1 (by rw [h.lf, e]; rfl))
  have hW : U ≠ [] → S.Wr ≠ [] := fun hu e => hR hu (List.length_eq_zero_iff.1 (by rw [← h.lw, e]; rfl))
  rcases hk with ⟨hu, o, e⟩ | ⟨hu, o, e⟩ | ⟨hu, o, e⟩ | ⟨hu, o, e⟩ | ⟨hu, o, e⟩
  · exact ints_cells h.iu hu e
  · exact ints_cells h.if_ hu e
  · exact ints_cells h.ir (castL_ne' (hR hu)) e
  · exact ints_cells h.iw (castL_ne' (hW hu)) e
  · exact ints_cells h.ih (castL_ne' (hH hu)) e
theorem TrailAt.tight (h : TrailAt lo own w b m v A U F T) : TrailAt lo (tightT b m v A U F) w b m v A U F T ∧ CellsIn (tightT b m v A U F) w ∧ ∀ k, tightT b m v A U F k → own k := by
  have hin : ∀ k, tightT b m v A U F k → own k := by
    rintro k (rfl | rfl | hk | hk)
    · exact h.ob
    · exact h.om
    · exact h.ov k hk
    · exact h.oa k hk
  refine ⟨⟨h.trl, h.bell, .inl rfl, .inr (.inl rfl), fun g hg => .inr (.inr (.inl hg)), fun g hg => .inr (.inr (.inr hg)), h.nb, h.nv, fun k hk => h.lt k (hin k hk), fun k hk => h.low k (hin k hk)⟩, ?_, hin⟩
  obtain ⟨p, _, hb⟩ := h.boxes
  rintro k (rfl | rfl | hk | hk)
  · exact ⟨_, hb, rfl⟩
  · exact ⟨_, h.bell.box, rfl⟩
  · have hrow : w.ownsRowF 0 5 1 v (Lib.byteCells T.log).length (Lib.byteCells T.log) := h.trl.elim (fun h => h.2) (fun h => h.2)
    rcases hrow.2 with ⟨hv, _⟩ | ⟨g, cap, cur, fz, hv, _, hg, _⟩
    · rw [hv] at hk; simp [Value.ownBlock] at hk
    · rw [hv] at hk
      simp [Value.ownBlock] at hk
      subst hk
      exact ⟨_, hg, rfl⟩
  · exact h.bell.has_cells hk
/-- A trail stays, whatever lies in a block that is not its own, and turns of what holds no cells. -/
theorem TrailAt.own_but (h : TrailAt lo own w b m v A U F T) (hc : CellsIn own w) {C B : Nat} (hC : ¬ own C) {row : Option Nat} (hg : w.grownBy w' row) (hr : ∀ r, row = some r → r = C ∨ (B ≤ r ∧ ∃ o : Obj, w.heap[r]? = some o ∧ o.isCells = false)) :
    TrailAt lo own w' b m v A U F T ∧ CellsIn own w' := by
  have hk : ∀ k, own k → w'.heap[k]? = w.heap[k]? := fun k hk => hg.block k (h.lt k hk) (fun e => by
    rcases hr k e.symm with e | ⟨_, o, ho, hn⟩
    · subst e; exact hC hk
    · obtain ⟨o', ho', hy⟩ := hc k hk
      rw [ho] at ho'
      injection ho' with ho'
      subst ho'
      rw [hn] at hy
      cases hy)
  exact ⟨h.keep hk hg.size, fun k hk' => by rw [hk k hk']; exact hc k hk'⟩
/-- What turns cells alone keeps the rest. -/
theorem keepsFrom_of {B : Nat} (hq : QKeeps own w w') (hc : CellsIn own w) : KeepsFrom B w w' :=
  ⟨hq.size, fun k o _ hk ho => (hq.block k (Array.getElem?_eq_some_iff.1 hk).1 (fun hh => by
    obtain ⟨o', ho', hy⟩ := hc k hh
    rw [hk] at ho'
    injection ho' with ho'
    subst ho'
    rw [ho] at hy
    cases hy)).trans hk⟩
end
end Go.Proofs.YtanlmfnhlldkeaaGreatDoor
