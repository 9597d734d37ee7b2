/-
  A range over a function that keeps a variable of its own in a cell (block C): what it tells its body (Ok) and the law for its caller.
  Contracts: strings.Lines and what it ranges over.
  Contracts: strings.Split at one byte; strconv.Atoi of a word.
-/
import Derived.RangeFuncNested
import Derived.RangeFuncBound
import Derived.RangeFuncCalls
import Derived.RangeFuncLeaves
import Derived.Test.YtanlmfnhlldkeaaGreatDoorBaseA
import Derived.Test.YtanlmfnhlldkeaaGreatDoorLoopA
import Derived.Test.YtanlmfnhlldkeaaGreatDoorShelf
import Derived.Shelf.Abstract
import Derived.Shelf.RegionOpen
import Derived.OwnWalkIn
import Derived.TacticsInMore
import Derived.LoopNIn
import Derived.LoopIn
import Derived.Test.YtanlmfnhlldkeaaGreatDoorTrsA
import Derived.Shelf.Strings.SplitCore
namespace Go.Proofs.YtanlmfnhlldkeaaGreatDoor
open Go.RowKit
set_option maxRecDepth 100000

/-- I does not mind what lies in block C, nor turns of blocks from B on that hold no cells. -/
def OwnBut {β : Type} (C B : Nat) (I : β → World → Prop) : Prop :=
  ∀ s W W' row, I s W → W.grownBy W' row → (∀ r, row = some r → r = C ∨ (B ≤ r ∧ ∃ o : Obj, W.heap[r]? = some o ∧ o.isCells = false)) → I s W'
theorem OwnBut.putObj {β : Type} {C B : Nat} {I : β → World → Prop} (h : OwnBut C B I) {s : β} {W : World} {l : Nat} {o : Obj} (o' : Obj) (hs : I s W) (hB : B ≤ l) (hl : W.heap[l]? = some o) (ho : o.isCells = false) : I s (W.putObj l o') :=
  h s W _ (some l) hs (grownBy_putObj' W l o') (fun r e => by cases e; exact .inr ⟨hB, o, hl, ho⟩)
theorem OwnBut.alloc {β : Type} {C B : Nat} {I : β → World → Prop} (h : OwnBut C B I) {s : β} {W : World} (o : Obj) (hs : I s W) : I s (W.alloc o) :=
  h s W _ none hs (World.grownBy_alloc W o none) (fun r e => by cases e)
theorem OwnBut.and {β : Type} {C B : Nat} {I I' : β → World → Prop} (h : OwnBut C B I) (h' : OwnBut C B I') : OwnBut C B (fun s W => I s W ∧ I' s W) := fun s W W' row hs hg hr => ⟨h s W W' row hs.1 hg hr, h' s W W' row hs.2 hg hr⟩
/-- What an iterator promises that keeps a variable in block C: it hands out x behind pre only where Ok pre x. -/
def SeqOwn {α : Type} (F : Fence) (n : Nat) (P : Program) (g : Nat) (lb : Array Value) (encs : α → Array Value) (Kp : World → World → Prop) (Ok : List α → α → Prop) (S Sp : List α → Prop) (C : Nat) (w : World) : Prop :=
  ∀ (l : Nat) (J Jx : List α → World → Prop) (W : World), Below w.heap.size w W → OwnBut C W.heap.size J → OwnBut C W.heap.size Jx →
    (∀ pre x W1, J pre W1 → Ok pre x → YieldAt F (n - 1) P l (encs x) W1 fun e W' =>
      (e = .returned (.bool true) ∧ J (pre ++ [x]) W' ∧ Kp W1 W') ∨ (e = .returned (.bool false) ∧ Jx (pre ++ [x]) W')) →
    J [] W →
    CallsIn F n P g (#[.func (.yield l) #[] #[]] ++ lb) W fun e W' => (∃ v, e = .returned v) ∧ ((∃ xs, S xs ∧ J xs W') ∨ (∃ pre, Sp pre ∧ Jx pre W'))
theorem grown_keeps {C B : Nat} {W W' : World} {row : Option Nat} (hg : W.grownBy W' row) (hr : ∀ r, row = some r → r = C ∨ (B ≤ r ∧ ∃ o : Obj, W.heap[r]? = some o ∧ o.isCells = false)) {k : Nat} (hC : k ≠ C) (hB : k < B) (hk : k < W.heap.size) : W'.heap[k]? = W.heap[k]? :=
  hg.block k hk (fun e => by rcases hr k e.symm with h | ⟨h, _⟩ <;> omega)
variable {F : Fence} {n : Nat} {P : Program}

/-- The caller's law. -/
theorem wpIn_rangeFunc_own {α : Type} {g : Operand} {ps : Array Tmp} {assign body : Code} {Q : Exit → Act → World → Prop} {a : Act} {w : World} {C : Nat}
    (hro : F.round = none) (h1 : 1 ≤ n) {gf : Nat} {lb : Array Value} (hg : a.eval g = .func (.func gf) #[] lb) (hFg : F.fn gf) (eg : ∀ args w, (callFunc gf args).run P w = .ok (.enter gf args) w)
    {encs : α → Array Value} {Kp : World → World → Prop} {Ok : List α → α → Prop} {S Sp : List α → Prop} {w0 : World} (hseq : SeqOwn F (n - 1) P gf lb encs Kp Ok S Sp C w0) (hC : C < w.heap.size)
    (hKt : ∀ {A B C : World}, Kp A B → Kp B C → Kp A C) (hKb : ∀ (W : World) (l : Nat) (o o' : Obj), w.heap.size ≤ l → W.heap[l]? = some o → o.isCells = false → o.isWalk = false → Kp W (W.putObj l o')) (hb0 : Below w0.heap.size w0 w) (hps : ∀ x, (encs x).size = ps.size)
    (I : List α → World → Prop) (Ix : Code → List α → World → Prop) (hI : OwnBut C w.heap.size I) (hIx : ∀ c, OwnBut C w.heap.size (Ix c)) (h0 : I [] w) (a₁ : α → Act)
    (hassign : ∀ (l : Nat) (x : α) (W : World) (K : Act → World → Prop), K (a₁ x) W →
      assign.wpIn (F.inRound l) (n - 1 - 1) P (Exit.then K (fun _ _ _ => False)) { tmps := (ps.zip (encs x)).foldl (fun t (p, v) => t.setIfInBounds p v) a.tmps, defers := [] } W)
    (hbody : ∀ (l : Nat) (pre : List α) (x : α) (W : World), I pre W → Ok pre x → body.wpIn (F.inRound l) (n - 1 - 1) P (ownPostG w.heap.size Kp I Ix (pre ++ [x]) W) (a₁ x) W)
    (hdone : ∀ (D : Nat) (xs : List α) (W : World), w.heap.size ≤ D → S xs → I xs W → W.heap[D]? = some (.deferred (some [])) → Q .normal { a with defers := { target := .collected D, args := #[] } :: a.defers } W)
    (hstop : ∀ (D : Nat) (c : Code) (pre : List α) (W : World), w.heap.size ≤ D → Sp pre → Ix c pre W → W.heap[D]? = some (.deferred (some [])) → c.wpIn F n P Q { a with defers := { target := .collected D, args := #[] } :: a.defers } W) :
    (Code.rangeFunc g ps assign body).wpIn F n P Q a w := by
  refine wpIn_rangeFunc ?_
  intro fn hfn
  rw [hro]
  obtain ⟨rec, hrec⟩ : ∃ rec : LoopState → Option Code → Loop, rec = fun st pe => { state := st, pending := pe, fn, tmps := a.tmps, params := ps, assign, body, defers := w.heap.size } := ⟨_, rfl⟩
  obtain ⟨W1, hW1⟩ : ∃ W1, (w.alloc (.deferred (some []))).alloc (.loop (rec .ready none)) = W1 := ⟨_, rfl⟩
  have hs1 : W1.heap.size = w.heap.size + 2 := by rw [← hW1]; simp
  have hL1 : W1.heap[w.heap.size + 1]? = some (.loop (rec .ready none)) := by
    rw [← hW1]; have := World.alloc_heap_new (w.alloc (.deferred (some []))) (.loop (rec .ready none)); rwa [World.size_alloc] at this
  have hK1 : W1.heap[w.heap.size]? = some (.deferred (some [])) := by
    rw [← hW1]; exact (Below.heap_alloc _ _ _ (by simp)).trans (World.alloc_heap_new w _)
  have hI1 : I [] W1 := by rw [← hW1]; exact hI.alloc _ (hI.alloc _ h0)
  have hb1 : Below w0.heap.size w0 W1 := by
    rw [← hW1]; exact hb0.trans ((((Below.refl _ w).alloc (Nat.le_refl _) _).alloc (by simp) _).mono hb0.size)
  refine ⟨w.heap.size + 1, [{ target := .collected w.heap.size, args := #[] }], W1, { target := .fn (.func gf) lb, args := #[.func (.yield (w.heap.size + 1)) #[] #[]] }, W1, gf,
    #[.func (.yield (w.heap.size + 1)) #[] #[]] ++ lb, W1, ?_, ?_, ?_, ?_, fun _ => h1, ?_⟩
  · rw [← hW1, hrec]; exact run_enterLoop_outer _ _ _ _ _
  · simp only [resolve, hg]
    simp [go_sem]
  · intro f' hf'; simp [Target.leads] at hf'; subst hf'; exact hFg
  · simp [invoke, go_sem, eg]
  · have hr' : ∀ {A : World} {row : Option Nat}, (∀ r, row = some r → r = C ∨ (W1.heap.size ≤ r ∧ ∃ o : Obj, A.heap[r]? = some o ∧ o.isCells = false)) → (∀ r, row = some r → r = C ∨ (w.heap.size ≤ r ∧ ∃ o : Obj, A.heap[r]? = some o ∧ o.isCells = false)) :=
      fun hr r e => (hr r e).imp id (fun h => ⟨by omega, h.2⟩)
    have hbk : ∀ {A B : World} {row : Option Nat}, A.grownBy B row → (∀ r, row = some r → r = C ∨ (W1.heap.size ≤ r ∧ ∃ o : Obj, A.heap[r]? = some o ∧ o.isCells = false)) → ∀ {k : Nat} {o : Obj}, w.heap.size ≤ k → k < w.heap.size + 2 → A.heap[k]? = some o → B.heap[k]? = some o :=
      fun hg hr k o h1 h2 h3 => (grown_keeps hg hr (by omega) (by omega) (Array.getElem?_eq_some_iff.1 h3).1).trans h3
    refine (hseq (w.heap.size + 1)
      (fun pre W => I pre W ∧ W.heap[w.heap.size + 1]? = some (.loop (rec .ready none)) ∧ W.heap[w.heap.size]? = some (.deferred (some [])))
      (fun pre W => ∃ c, Ix c pre W ∧ W.heap[w.heap.size + 1]? = some (.loop (rec .done (some c))) ∧ W.heap[w.heap.size]? = some (.deferred (some [])))
      W1 hb1
      (fun s A B row hs hg' hr => ⟨hI s A B row hs.1 hg' (hr' hr), hbk hg' hr (by omega) (by omega) hs.2.1, hbk hg' hr (by omega) (by omega) hs.2.2⟩)
      (fun s A B row hs hg' hr => by
        obtain ⟨c, hc, hl, hk⟩ := hs
        exact ⟨c, hIx c s A B row hc hg' (hr' hr), hbk hg' hr (by omega) (by omega) hl, hbk hg' hr (by omega) (by omega) hk⟩)
      ?_ ⟨hI1, hL1, hK1⟩).mono ?_
    · rintro pre x W ⟨hi, hl, hk⟩ hok
      have hlt : w.heap.size + 1 < W.heap.size := (Array.getElem?_eq_some_iff.1 hl).1
      have hy := run_yield (P := P) (args := encs x) hl (by rw [hrec]; exact hps x)
      rw [hrec] at hy
      refine ⟨fn, _, assign, body, hy, roundIn_of_wpIn hfn (hassign _ x W _ ⟨_, run_beginRound hl (by rw [hrec]), ?_⟩)⟩
      have hl2 : (W.putObj (w.heap.size + 1) (.loop { rec .ready none with state := .busy })).heap[w.heap.size + 1]? = some (.loop { rec .ready none with state := .busy }) := World.putObj_heap_same hlt
      have hk2 : (W.putObj (w.heap.size + 1) (.loop { rec .ready none with state := .busy })).heap[w.heap.size]? = some (.deferred (some [])) := (World.putObj_heap_other (by omega)).trans hk
      have hw2 : Kp W (W.putObj (w.heap.size + 1) (.loop { rec .ready none with state := .busy })) := hKb _ _ _ _ (by omega) hl rfl rfl
      refine wpIn_mono (hbody _ pre x _ (hI.putObj _ hi (by omega) hl rfl) hok) ?_
      have fin : ∀ (jump : Option Code) (W3 : World), KeepsFrom w.heap.size (W.putObj (w.heap.size + 1) (.loop { rec .ready none with state := .busy })) W3 →
          (Instr.endRound (w.heap.size + 1) jump).run P W3 = .ok (.bool jump.isNone) (W3.putObj (w.heap.size + 1) (.loop (rec (if jump.isNone then .ready else .done) jump))) ∧
          W3.heap[w.heap.size + 1]? = some (.loop { rec .ready none with state := .busy }) ∧
          (W3.putObj (w.heap.size + 1) (.loop (rec (if jump.isNone then .ready else .done) jump))).heap[w.heap.size + 1]? = some (.loop (rec (if jump.isNone then .ready else .done) jump)) ∧
          (W3.putObj (w.heap.size + 1) (.loop (rec (if jump.isNone then .ready else .done) jump))).heap[w.heap.size]? = some (.deferred (some [])) := fun jump W3 hk3 => by
        have hl3 := hk3.same _ _ (by omega) hl2 rfl
        have := run_endRound (P := P) jump hl3
        rw [hrec] at this ⊢
        exact ⟨this, by rw [hrec] at hl3; exact hl3, World.putObj_heap_same (Array.getElem?_eq_some_iff.1 hl3).1, (World.putObj_heap_other (by omega)).trans (hk3.same _ _ (Nat.le_refl _) hk2 rfl)⟩
      rintro e a3 W3 hp
      cases e with
      | normal =>
        obtain ⟨hk3, hkp3, hi3⟩ := hp
        obtain ⟨hr, hl3, hl4, hk4⟩ := fin none W3 hk3
        exact ⟨_, _, hr, .inl ⟨rfl, ⟨hI.putObj _ hi3 (by omega) hl3 rfl, hl4, hk4⟩, hKt (hKt hw2 hkp3) (hKb _ _ _ _ (by omega) hl3 rfl rfl)⟩⟩
      | ret =>
        obtain ⟨hk3, hi3⟩ := hp
        obtain ⟨hr, hl3, hl4, hk4⟩ := fin (some .ret) W3 hk3
        exact ⟨_, _, hr, .inr ⟨rfl, .ret, (hIx _).putObj _ hi3 (by omega) hl3 rfl, hl4, hk4⟩⟩
      | exit id =>
        obtain ⟨hk3, hi3⟩ := hp
        obtain ⟨hr, hl3, hl4, hk4⟩ := fin (some (.exit id)) W3 hk3
        exact ⟨_, _, hr, .inr ⟨rfl, .exit id, (hIx _).putObj _ hi3 (by omega) hl3 rfl, hl4, hk4⟩⟩
      | goto t =>
        obtain ⟨hk3, hi3⟩ := hp
        obtain ⟨hr, hl3, hl4, hk4⟩ := fin (some (.goto t)) W3 hk3
        exact ⟨_, _, hr, .inr ⟨rfl, .goto t, (hIx _).putObj _ hi3 (by omega) hl3 rfl, hl4, hk4⟩⟩
      | panic ch => exact hp.elim
      | outgrown => exact hp.elim
    · rintro e W2 ⟨⟨v, rfl⟩, (⟨xs, hS, hi, hl, hk⟩ | ⟨pre, hSp, c, hi, hl, hk⟩)⟩
      · exact ⟨none, _, by have := run_endLoop (P := P) hl (by rw [hrec]; simp); rw [hrec] at this; exact this, hdone _ xs _ (Nat.le_refl _) hS (hI.putObj _ hi (by omega) hl rfl) ((World.putObj_heap_other (by omega)).trans hk)⟩
      · exact ⟨some c, _, by have := run_endLoop (P := P) hl (by rw [hrec]; simp); rw [hrec] at this; exact this, hstop _ c pre _ (Nat.le_refl _) hSp ((hIx c).putObj _ hi (by omega) hl rfl) ((World.putObj_heap_other (by omega)).trans hk)⟩
end Go.Proofs.YtanlmfnhlldkeaaGreatDoor

namespace Go.Proofs.YtanlmfnhlldkeaaGreatDoor
open Go.RowKit Go.Shelf
attribute [local go_sem] Oper.semAt_some
attribute [local simp, local go_sem] wide_fn
set_option maxRecDepth 100000
set_option linter.unusedVariables false

theorem Lines_any (s : ByteArray) (w : World) :
    Calls Tryz.prog 28 #[.string s] w fun e w' => e = .returned (.func (.func 47) #[] #[.pointer (some ⟨w.heap.size, 0, none⟩)]) ∧ w.alloc (.cells #[.string s] 9) = w' := by
  go_enter Tryz.func28, Tryz.ntmps28
  go_wp2
  go_ret
  exact ⟨rfl, rfl⟩
/-- The lines of a string, as strings. -/
def linesB (s : ByteArray) : List ByteArray := (linesL s.data.toList).map fun l => ⟨l.toArray⟩
theorem setCell_grown (w : World) (b : Nat) (v : Value) : w.grownBy (w.setCell ⟨b, 0, none⟩ v) (some b) :=
  ⟨rfl, rfl, rfl, by simp [World.setCell], fun j _ hj => Below.heap_setCell _ _ _ _ (fun e => hj (by simp [e]))⟩
theorem setCell_grownD (w : World) (b : Nat) (v : Value) : w.grownBy (w.setCell ⟨b, 0, none⟩ v).drew (some b) :=
  ⟨rfl, rfl, rfl, (setCell_grown w b v).size, fun j hj hn => (setCell_grown w b v).block j hj hn⟩
theorem ba_ext {a b : ByteArray} (h : a.data.toList = b.data.toList) : a = b := ByteArray.ext (Array.toList_inj.1 h)
theorem ba_of (l : List UInt8) : (⟨l.toArray⟩ : ByteArray).data.toList = l := List.toList_toArray
theorem ba_size (s : ByteArray) : s.size = s.data.toList.length := (Array.length_toList ..).symm
theorem linesB_nil {s : ByteArray} (h : s.size = 0) : linesB s = [] := by
  have : s.data.toList = [] := List.length_eq_zero_iff.1 (by rw [← ba_size]; exact h)
  unfold linesB; rw [this]; rfl
theorem linesB_hit {s : ByteArray} {i : Nat} (h : Lib.indexByte s.data.toList 10 = i) : i < s.size ∧ linesB s = s.extract 0 (i + 1) :: linesB (s.extract (i + 1) s.size) := by
  obtain ⟨h1, h2, h3⟩ := indexByte_some h
  refine ⟨by rw [ba_size]; exact h1, ?_⟩
  have e1 : (s.extract 0 (i + 1)).data.toList = s.data.toList.take i ++ [10] := by
    rw [Lib.extract_from_zero]
    conv => lhs; rw [h3]
    rw [List.take_append, List.take_of_length_le (by rw [List.length_take]; omega), List.length_take, Nat.min_eq_left (by omega), show i + 1 - i = 1 by omega]; rfl
  have e2 : (s.extract (i + 1) s.size).data.toList = s.data.toList.drop (i + 1) := by rw [Lib.extract_to_end]
  unfold linesB
  rw [e2]
  conv => lhs; rw [h3, linesL_at _ h2]
  rw [List.map_cons]
  congr 1
  exact ba_ext (by rw [e1, ba_of])
theorem linesB_miss {s : ByteArray} (h : Lib.indexByte s.data.toList 10 < 0) (h0 : s.size ≠ 0) : linesB s = [s] := by
  have hne : s.data.toList ≠ [] := fun e => h0 (by rw [ba_size, e]; rfl)
  unfold linesB
  rw [linesL_none hne (indexByte_none h)]
  exact congrArg (fun z => [z]) (ba_ext (ba_of _))
/-- How much is left in the cell. -/
def leftAt (C : Nat) (w : World) : Nat := match w.cell? ⟨C, 0, none⟩ with
  | some (.string b) => b.size
  | _ => 0
theorem leftAt_eq {C : Nat} {w : World} {b : ByteArray} (h : w.cell? ⟨C, 0, none⟩ = some (.string b)) : leftAt C w = b.size := by unfold leftAt; rw [h]
/-- What a round keeps of the iterator's variable. -/
def KeepC (C : Nat) (w w' : World) : Prop := w'.heap[C]? = w.heap[C]?
set_option maxHeartbeats 4000000 in
theorem lines1_in (n : Nat) (hn : 1 ≤ n) (l C : Nat) (s : ByteArray) (J Jx : List ByteArray → World → Prop) (hs : s.size ≤ 9223372036854775806) (W : World) (hJ : OwnBut C W.heap.size J)
    (hY : ∀ (pre : List ByteArray) (x : ByteArray) (W : World), J pre W → pre ++ [x] <+: linesB s → YieldAt Fence.wide (n - 1) Tryz.prog l #[.string x] W fun e W' =>
      (e = .returned (.bool true) ∧ J (pre ++ [x]) W' ∧ KeepC C W W') ∨ (e = .returned (.bool false) ∧ Jx (pre ++ [x]) W'))
    (hC : BoxN W C 9 #[.string s]) (h0 : J [] W) :
    CallsIn Fence.wide n Tryz.prog 47 #[.func (.yield l) #[] #[], .pointer (some ⟨C, 0, none⟩)] W fun e W' => (∃ v, e = .returned v) ∧
      ((∃ ys : List ByteArray, ys = linesB s ∧ J ys W') ∨ (∃ pre : List ByteArray, pre <+: linesB s ∧ Jx pre W')) := by
  refine callsIn_of_wp Tryz.func47 rfl trivial ?_ rfl
  simp only [Tryz.ntmps47, List.size_toArray, List.length_cons, List.length_nil, Nat.reduceAdd, Nat.reduceSub, Array.replicate_succ, Array.replicate_zero, List.push_toArray, List.append_toArray, List.nil_append, List.cons_append]
  gi_wp2
  gi_loopw [3] (fun p wr => ∃ (pre : List ByteArray) (rest : ByteArray) (q : Value), p = q ∧ rest.size ≤ 9223372036854775806 ∧ pre ++ linesB rest = linesB s ∧ BoxN wr C 9 #[.string rest] ∧ J pre wr)
    (fun p wr => leftAt C wr)
  case atStart => exact ⟨[], s, _, rfl, hs, rfl, hC, h0⟩
  case round =>
    clear hC hs
    obtain ⟨pre, rest, q, rfl, hr, hpre, hC, hJr⟩ := hrel
    have HY := Lib.hid hY
    have HJ := Lib.hid hJ
    have Hpre := Lib.hid hpre
    clear hY hJ hpre h0
    have c0 := hC.cell (k := 0) rfl
    by_cases hz : rest.size = 0
    · have d0 : decide ((rest.size : Int) > 0) = false := decide_eq_false (by omega)
      have d1 : decide (0 < rest.size) = false := decide_eq_false (by omega)
      gi_wp2
      go_end0
      refine ⟨⟨_, rfl⟩, .inl ⟨pre, ?_, hJr⟩⟩
      have := Hpre.out
      rwa [linesB_nil hz, List.append_nil] at this
    · have d0 : decide ((rest.size : Int) > 0) = true := decide_eq_true (by omega)
      have d1 : decide (0 < rest.size) = true := decide_eq_true (by omega)
      have Hix := Lib.hid (Tryz.strings_IndexByte rest 10 wr)
      obtain ⟨ix, hix⟩ : ∃ ix, Lib.indexByte rest.data.toList 10 = ix := ⟨_, rfl⟩
      rw [show ((10 : Int).toNat.toUInt8) = 10 from rfl, hix] at Hix
      rcases Int.lt_or_le ix 0 with hneg | hpos
      · have hlb : linesB rest = rest :: linesB (⟨#[]⟩ : ByteArray) := by rw [linesB_miss (by rw [hix]; exact hneg) hz]; rfl
        have dix : decide (ix ≥ 0) = false := decide_eq_false (by omega)
        clear hix
        have f0 := hC.free 0
        have HS1 := Lib.hid (show ((⟨#[]⟩ : ByteArray)).size ≤ 9223372036854775806 by decide)
        have HS3 := Lib.hid (show ((⟨#[]⟩ : ByteArray)).size < rest.size from Nat.pos_of_ne_zero hz)
        have HP := Lib.hid (show pre ++ [rest] <+: linesB s by rw [← Hpre.out, hlb]; exact ⟨linesB ((⟨#[]⟩ : ByteArray)), by simp⟩)
        have HS2 := Lib.hid (show (pre ++ [rest]) ++ linesB ((⟨#[]⟩ : ByteArray)) = linesB s by rw [← Hpre.out, hlb]; simp)
        have hJ1 := HJ.out pre wr _ (some C) hJr (setCell_grown wr C (.string ((⟨#[]⟩ : ByteArray)))) (fun r e => .inl (by injection e with e; exact e.symm))
        obtain ⟨fn, tmps, assign, body, hy, hR⟩ := HY.out pre (rest) _ hJ1 HP.out
        have HR := Lib.hid hR
        clear hR hlb hJ1 Hpre
        gi_wp2_with (gi_at_call 48; refine (callsIn_wide.2 Hix.out).mono ?_; rintro e w' ⟨rfl, hw⟩; rw [hw]; clear hw)
        refine HR.out.mono ?_
        rintro e W' (⟨rfl, hJ', hk'⟩ | ⟨rfl, hJx'⟩)
        · have hC' : BoxN W' C 9 #[.string ((⟨#[]⟩ : ByteArray))] := Eq.trans (show W'.heap[C]? = _ from hk') (hC.set 0 (.string ((⟨#[]⟩ : ByteArray))))
          gi_wp2
          refine ⟨⟨pre ++ [rest], (⟨#[]⟩ : ByteArray), _, rfl, ?_, ?_, hC', hJ'⟩, ?_⟩
          · exact HS1.out
          · exact HS2.out
          · rw [leftAt_eq (hC'.cell (k := 0) rfl), leftAt_eq (hC.cell (k := 0) rfl)]; exact HS3.out
        · gi_wp2
          refine bodyPost_ret (results_none rfl _ _ _) rfl ?_
          exact ⟨⟨_, rfl⟩, .inr ⟨pre ++ [rest], HP.out, hJx'⟩⟩
      · obtain ⟨i, rfl⟩ := Int.eq_ofNat_of_zero_le hpos
        obtain ⟨hi, hlb⟩ := linesB_hit hix
        have dix : decide ((i : Int) ≥ 0) = true := decide_eq_true (by omega)
        clear hix
        have f0 := hC.free 0
        have HS1 := Lib.hid (show (rest.extract (i + 1) rest.size).size ≤ 9223372036854775806 by rw [ByteArray.size_extract]; omega)
        have HS3 := Lib.hid (show (rest.extract (i + 1) rest.size).size < rest.size by rw [ByteArray.size_extract]; omega)
        have HP := Lib.hid (show pre ++ [rest.extract 0 (i + 1)] <+: linesB s by rw [← Hpre.out, hlb]; exact ⟨linesB (rest.extract (i + 1) rest.size), by simp⟩)
        have HS2 := Lib.hid (show (pre ++ [rest.extract 0 (i + 1)]) ++ linesB (rest.extract (i + 1) rest.size) = linesB s by rw [← Hpre.out, hlb]; simp)
        have hJ1 := HJ.out pre wr _ (some C) hJr (setCell_grownD wr C (.string (rest.extract (i + 1) rest.size))) (fun r e => .inl (by injection e with e; exact e.symm))
        obtain ⟨fn, tmps, assign, body, hy, hR⟩ := HY.out pre (rest.extract 0 (i + 1)) _ hJ1 HP.out
        have HR := Lib.hid hR
        clear hR hlb hJ1 Hpre
        gi_wp2_with (gi_at_call 48; refine (callsIn_wide.2 Hix.out).mono ?_; rintro e w' ⟨rfl, hw⟩; rw [hw]; clear hw)
        gi_region
        gi_wp2
        refine HR.out.mono ?_
        rintro e W' (⟨rfl, hJ', hk'⟩ | ⟨rfl, hJx'⟩)
        · have hC' : BoxN W' C 9 #[.string (rest.extract (i + 1) rest.size)] := Eq.trans (show W'.heap[C]? = _ from hk') (hC.set 0 (.string (rest.extract (i + 1) rest.size)))
          gi_wp2
          refine ⟨⟨pre ++ [rest.extract 0 (i + 1)], rest.extract (i + 1) rest.size, _, rfl, ?_, ?_, hC', hJ'⟩, ?_⟩
          · exact HS1.out
          · exact HS2.out
          · rw [leftAt_eq (hC'.cell (k := 0) rfl), leftAt_eq (hC.cell (k := 0) rfl)]; exact HS3.out
        · gi_wp2
          refine bodyPost_ret (results_none rfl _ _ _) rfl ?_
          exact ⟨⟨_, rfl⟩, .inr ⟨pre ++ [rest.extract 0 (i + 1)], HP.out, hJx'⟩⟩
end Go.Proofs.YtanlmfnhlldkeaaGreatDoor

namespace Go.Proofs.YtanlmfnhlldkeaaGreatDoor
open Go.RowKit
set_option maxRecDepth 100000
set_option linter.unusedVariables false

/-- The pieces of a text, cut at a byte. -/
def cutB (c : UInt8) (s : ByteArray) : List ByteArray := Lib.splitB ⟨#[c]⟩ 0 (Lib.countB s ⟨#[c]⟩) s
theorem cutB_map (c : UInt8) (s : ByteArray) : (cutB c s).map (·.data.toList) = cutL c s.data.toList := splitB_one c s
theorem cutB_length (c : UInt8) (s : ByteArray) : (cutB c s).length = Lib.countB s ⟨#[c]⟩ + 1 := Lib.splitB_all ⟨#[c]⟩ (Nat.le_refl 1) 0 _ s rfl
set_option maxHeartbeats 4000000 in
/-- Split, at one byte. -/
theorem Split_one (c : UInt8) (s : ByteArray) (hs : s.size < 4294967281) (w : World) :
    Calls Tryz.prog 50 #[.string s, .string ⟨#[c]⟩] w fun e w' =>
      e = .returned (.slice (some ⟨w.heap.size, 0, none⟩) (cutB c s).length (cutB c s).length) ∧ w' = w.alloc (.cells ((cutB c s).map Value.string).toArray 9) := by
  have hle := Lib.countB_le ⟨#[c]⟩ (Nat.le_refl 1) s.size s (Nat.le_refl _)
  have hlen := cutB_length c s
  have hC : Calls Tryz.prog 101 #[.string s, .string ⟨#[c]⟩] w fun e w' => e = .returned (.int .i64 (Lib.countB s ⟨#[c]⟩)) ∧ w' = w := (Tryz.strings_Count_one s c w).mono fun e w' ⟨he, hw⟩ => ⟨by
    rw [he]
    show _ = Ending.returned (Value.int .i64 ((Lib.count s.data.toList [c] : Nat) : Int))
    rw [Lib.count_one]
    rfl, hw⟩
  have hI : ∀ (x : ByteArray) (cc : Array Value), x.size ≤ s.size → Calls Tryz.prog 102 #[.string x, .string ⟨#[c]⟩] (w.alloc (.cells cc 9)) fun e w' => e = .returned (.int .i64 (Lib.indexB x ⟨#[c]⟩)) ∧ w' = w.alloc (.cells cc 9) := fun x cc _ => (Tryz.strings_Index_one x c _).mono fun e w' ⟨he, hw⟩ => ⟨by
    rw [he]
    show _ = Ending.returned (Value.int .i64 (Lib.index x.data.toList [c]))
    rw [index_one], hw⟩
  have C := Any.strings_genSplit_core Tryz.lays221 (by kernel_rfl) s ⟨#[c]⟩ 0 (-1) (Lib.countB s ⟨#[c]⟩ + 1) w hs (Nat.le_refl 1) (Nat.zero_le _) hI hC (by decide) (by decide) (by rw [if_pos (by decide)]; omega)
  rw [Nat.add_sub_cancel] at C
  have e2 : Lib.cellsOf (Lib.splitB ⟨#[c]⟩ 0 (Lib.countB s ⟨#[c]⟩) s) (Lib.countB s ⟨#[c]⟩ + 1) = ((cutB c s).map Value.string).toArray := by rw [← hlen]; exact Lib.cellsOf_full _
  rw [e2, show Lib.splitB ⟨#[c]⟩ 0 (Lib.countB s ⟨#[c]⟩) s = cutB c s from rfl, ← hlen] at C
  have CC := Lib.hid C
  clear C hI hC hle e2 hlen
  go_enter Tryz.func50, Tryz.ntmps50
  go_wp2_with (go_at_call 69; refine CC.out.mono ?_; rintro e w' ⟨rfl, rfl⟩)
  go_ret
  exact ⟨rfl, rfl⟩
/-- What Atoi and Itoa say of a word. -/
inductive WordIs (W0 : World) (x : ByteArray) (e : Ending) : Prop
  | num (n : Nat) (h : numV x.data.toList = some n) (he : e = .returned (.tuple #[.int .i64 n, .nilIface]))
  | neg (v : Int) (h : numV x.data.toList = none) (hv : v < 0) (he : e = .returned (.tuple #[.int .i64 v, .nilIface]))
  | odd (n : Nat) (h : numV x.data.toList = none) (hn : n < 9223372036854775808) (hx : Lib.itoa (n : Int) ≠ x.data.toList) (he : e = .returned (.tuple #[.int .i64 n, .nilIface]))
  | bad (h : numV x.data.toList = none) (v : Int) (t : TypeId) (p : Value) (he : e = .returned (.tuple #[.int .i64 v, .iface t p]))
theorem atoi_bounds {l : List UInt8} {v : Int} (h : Lib.atoiAll l = .ok v) : v < 9223372036854775808 := by
  unfold Lib.atoiAll at h
  split at h
  · cases h
  · dsimp only at h
    split at h
    · cases h
    · cases h
    · split at h
      · cases h
      · split at h
        · cases h
        · injection h with h
          split at h <;> omega
theorem Word_any {W0 : World} (hG : Glob W0) (x : ByteArray) (hx : x.size ≤ 281474976710656) {V : World} (hV : Below W0.heap.size W0 V) :
    Calls Tryz.prog 51 #[.string x] V fun e w' => WordIs W0 x e ∧ Below V.heap.size V w' := by
  have hbw : ∀ w', (w' = V ∨ ∃ t, w' = Lib.bytesWorld V 5 t) → Below V.heap.size V w' := by
    rintro w' (rfl | ⟨t, rfl⟩)
    · exact Below.refl _ _
    · exact below_bytesW _ _ _
  obtain ⟨⟨te, pe, h1⟩, ⟨te', pe', h2⟩⟩ := hG.num V hV
  cases hn : numV x.data.toList with
  | some n =>
    exact (Tryz.strconv_Atoi_ok x (by omega) n (atoi_num hn) V).mono fun e w' ⟨he, hw⟩ => ⟨.num n hn he, hbw w' hw⟩
  | none =>
    rcases ha : Lib.atoiAll x.data.toList with v | _ | _
    · skip
      refine (Tryz.strconv_Atoi_ok x (by omega) v ha V).mono fun e w' ⟨he, hw⟩ => ⟨?_, hbw w' hw⟩
      by_cases h0 : v < 0
      · exact .neg v hn h0 he
      · obtain ⟨n, rfl⟩ := Int.eq_ofNat_of_zero_le (by omega : 0 ≤ v)
        exact .odd n hn (by have := atoi_bounds ha; omega) (atoi_none hn ha (by omega)) he
    · exact (Tryz.strconv_Atoi_syntax x hx ha _ V h1 (.inr ⟨_, _, rfl⟩)).mono fun e w' ⟨N, he, _, _, hb⟩ => ⟨.bad hn _ _ _ he, hb⟩
    · exact (Tryz.strconv_Atoi_range x hx ha _ V h2 (.inr ⟨_, _, rfl⟩)).mono fun e w' ⟨N, he, _, _, hb⟩ => ⟨.bad hn _ _ _ he, hb⟩
end Go.Proofs.YtanlmfnhlldkeaaGreatDoor
