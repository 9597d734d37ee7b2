/-
  Contracts: math/bits.TrailingZeros, core.Bits and what it ranges over.
  Words for ranges over functions: the marks that they leave among the deferred calls; what lies behind a turn of blocks that hold no cells. No program is looked at.
  A loop whose rounds hold ranges over functions: each leaves a mark among the deferred calls. No program is looked at.
  A region that draws, in a round of a range over a function, of operations that only read and of quiet calls: one walk of the lexical order serves. No program is looked at.
  Regions that draw their order, inside a round of a range over a function or inside the wide fence: what holds of them outside holds there. No program is looked at.
  Regions that read and then do one thing: the world's words kept. No program is looked at.
-/
import Derived.Test.YtanlmfnhlldkeaaGreatDoorBaseA
import Derived.RangeFuncNested
import Derived.RangeFuncBound
import Derived.RangeFuncCalls
import Derived.RangeFuncLeaves
import Derived.Shelf.Abstract
import Derived.Shelf.RegionOpen
import Derived.OwnWalkIn
import Derived.TacticsInMore
import Derived.LoopNIn
import Derived.LoopIn
import Derived.Lib.OthersKept
import Derived.Test.YtanlmfnhlldkeaaGreatDoorRowsA
import Derived.Sort.QuietIn
import Derived.StillTailTactics
import Derived.Lib.QuietBelow
import Derived.BigQuiet
namespace Go.Proofs.YtanlmfnhlldkeaaGreatDoor
open Go.RowKit Go.Shelf
attribute [local go_sem] Oper.semAt_some
set_option maxRecDepth 100000

/-- The table of math/bits lies in its variable. -/
def Tab (w : World) : Prop := ∀ j, j < Lib.deBruijn64tab.length → w.cell? ⟨8, j, none⟩ = some (.int .u8 (Lib.deBruijn64tab.getD j 0))
theorem Tab.lt {w : World} (h : Tab w) : 8 < w.heap.size := block_lt (h 0 (by decide))
theorem Tab.below {w w' : World} {B : Nat} (h : Tab w) (hb : Below B w w') (hB : 8 < B) : Tab w' := fun j hj => by
  rw [hb.cell (p := ⟨8, j, none⟩) hB]; exact h j hj
theorem Tab.next {w w' : World} (h : Tab w) (hb : Below w.heap.size w w') : Tab w' := h.below hb h.lt
theorem tz64_core (x k idx : Nat) (w : World) (hx0 : ((x : Int) == 0) = false)
    (key : IntKind.u64.wrap (bits BinOp.and IntKind.u64 (x : Int) (IntKind.u64.wrap (-(x : Int))) * 285870213051353865) / 288230376151711744 = (idx : Int))
    (hi : idx < 64) (hk : k < 64) (hcell : w.cell? ⟨8, idx, none⟩ = some (.int .u8 k)) :
    Calls Tryz.prog 169 #[.int .u64 x] w fun e w' => e = .returned (.int .i64 k) ∧ w = w' := by
  go_enter Tryz.func169, Tryz.ntmps169
  go_wp2_with (simp only [key])
  go_ret
  exact ⟨rfl, rfl⟩
theorem tz64_any (x : Nat) (h0 : x ≠ 0) (hx : x < 2 ^ 64) (w : World) (hT : Tab w) :
    Calls Tryz.prog 169 #[.int .u64 x] w fun e w' => e = .returned (.int .i64 (Lib.ctz 64 x)) ∧ w = w' := by
  obtain ⟨hlow, hk⟩ := Lib.lowest_bit 64 x h0 hx
  obtain ⟨hi, htab⟩ := Lib.deBruijn64_at _ hk
  have hcell := hT _ hi
  rw [htab] at hcell
  exact tz64_core x _ _ w (by simp; omega) (tz_key x _ hx h0 hlow) hi hk hcell
theorem tz_any (x : Nat) (h0 : x ≠ 0) (hx : x < 2 ^ 64) (w : World) (hT : Tab w) :
    Calls Tryz.prog 144 #[.int .u64 x] w fun e w' => e = .returned (.int .i64 (Lib.ctz 64 x)) ∧ w = w' := by
  have Hc := Lib.hid (tz64_any x h0 hx w hT)
  have hw : IntKind.u64.wrap (x : Int) = (x : Int) := by rw [IntKind.wrap_u64]; omega
  generalize Lib.ctz 64 x = k at *
  clear h0 hx hT
  go_enter Tryz.func144, Tryz.ntmps144
  go_wp2_with (go_at_call 169; refine Hc.out.mono ?_; rintro e w' ⟨rfl, rfl⟩)
  go_ret
  exact ⟨rfl, rfl⟩
theorem Bits_any (s : Int) (w : World) :
    Calls Tryz.prog 113 #[.int .i64 s] w fun e w' => e = .returned (.func (.func 143) #[] #[.pointer (some ⟨w.heap.size, 0, none⟩)]) ∧ w.alloc (.cells #[.int .i64 s] 3) = w' := by
  go_enter Tryz.func113, Tryz.ntmps113
  go_wp2
  go_ret
  exact ⟨rfl, rfl⟩
/-- A thing of a set. -/
abbrev BitIn (s : Nat) := { x : Nat // s.testBit x = true }
theorem wrap_u64_pred (r : Nat) (h0 : r ≠ 0) (h : r < 2 ^ 64) : bits .and .u64 (r : Int) (IntKind.u64.wrap ((r : Int) - 1)) = ((r &&& (r - 1) : Nat) : Int) := by
  have e : IntKind.u64.wrap ((r : Int) - 1) = ((r - 1 : Nat) : Int) := by rw [IntKind.wrap_u64]; omega
  rw [e, bits_and_u64_nat r _ (by omega) (by omega)]
set_option maxHeartbeats 2000000 in
theorem bits1_in (n : Nat) (hn : 1 ≤ n) (l B n₀ : Nat) (s : Nat) (hs : s < 2 ^ 63) (J Jx : List (BitIn s) → World → Prop)
    (hY : ∀ (pre : List (BitIn s)) (x : BitIn s) (W : World), J pre W → pre.length < (bitsOf s).length → YieldAt Fence.wide (n - 1) Tryz.prog l #[.int .i64 x.1] W fun e W' =>
      (e = .returned (.bool true) ∧ J (pre ++ [x]) W' ∧ Below n₀ W W') ∨ (e = .returned (.bool false) ∧ Jx (pre ++ [x]) W'))
    (W : World) (hB : W.cell? ⟨B, 0, none⟩ = some (.int .i64 s)) (hT : Tab W) (hg : 8 < n₀) (h0 : J [] W) :
    CallsIn Fence.wide n Tryz.prog 143 #[.func (.yield l) #[] #[], .pointer (some ⟨B, 0, none⟩)] W fun e W' => (∃ v, e = .returned v) ∧
      ((∃ ys : List (BitIn s), ys.map (·.1) = bitsOf s ∧ J ys W') ∨ (∃ pre : List (BitIn s), pre.map (·.1) <+: bitsOf s ∧ Jx pre W')) := by
  refine callsIn_of_wp Tryz.func143 rfl trivial ?_ rfl
  simp only [Tryz.ntmps143, List.size_toArray, List.length_cons, List.length_nil, Nat.reduceAdd, Nat.reduceSub, Array.replicate_succ, Array.replicate_zero, List.push_toArray, List.append_toArray, List.nil_append, List.cons_append]
  have hw : IntKind.u64.wrap (s : Int) = (s : Int) := by rw [IntKind.wrap_u64]; omega
  gi_wp2
  gi_loopw [3] (fun p wr => ∃ (pre : List (BitIn s)) (r : Nat), p = .int .u64 r ∧ r < 2 ^ 64 ∧ (∀ j, r.testBit j = true → s.testBit j = true) ∧ pre.map (·.1) ++ bitsOf r = bitsOf s ∧ Tab wr ∧ J pre wr)
    (fun p wr => (intOf p).toNat)
  case atStart => exact ⟨[], s, rfl, by omega, fun _ h => h, rfl, hT, h0⟩
  case round =>
    clear hT hB hw
    obtain ⟨pre, r, rfl, hr, hsub, hpre, hT, hJ⟩ := hrel
    by_cases hz : r = 0
    · subst hz
      have Hpre := Lib.hid hpre
      clear hpre
      gi_wp2
      go_end0
      refine ⟨⟨_, rfl⟩, .inl ⟨pre, ?_, hJ⟩⟩
      have := Hpre.out
      rwa [bitsOf_zero, List.append_nil] at this
    · have hstep := bitsOf_step r hz hr
      obtain ⟨hk, hbit, _, hnext⟩ := low_bits r hz hr
      have Htz := Lib.hid (tz_any r hz hr wr hT)
      have hx : s.testBit (Lib.ctz 64 r) = true := hsub _ hbit
      obtain ⟨fn, tmps, assign, body, hy, hR⟩ := hY pre ⟨Lib.ctz 64 r, hx⟩ wr hJ (by rw [← hpre, hstep]; simp)
      have Hpre := Lib.hid hpre
      have Hp1 := Lib.hid (wrap_u64_pred r hz hr)
      have Hlt := Lib.hid (and_pred_lt r hz)
      have Hnext := Lib.hid hnext
      have Hstep := Lib.hid hstep
      have hne : ((r : Int) != 0) = true := by rw [bne_iff_ne]; omega
      have HR := Lib.hid hR
      clear hpre hstep hnext hR hJ hY h0 hbit
      generalize hke : Lib.ctz 64 r = k at *
      gi_wp2_with (refine ⟨trivial, ?_⟩; gi_at_call 144; refine (callsIn_wide.2 Htz.out).mono ?_; rintro e w' ⟨rfl, rfl⟩)
      refine HR.out.mono ?_
      rintro e W' (⟨rfl, hJ', hk'⟩ | ⟨rfl, hJx'⟩)
      · have hT' := hT.below hk' hg
        gi_wp2
        have hp := Hp1.out
        rw [show IntKind.u64.wrap ((r : Int) - 1) = (r : Int) - 1 from by rw [IntKind.wrap_u64]; omega] at hp
        rw [hp]
        have hlt := Hlt.out
        refine ⟨⟨pre ++ [⟨k, hx⟩], r &&& (r - 1), rfl, by omega, fun j hj => ?_, ?_, hT', hJ'⟩, by simp only [intOf, Int.toNat_natCast]; exact hlt⟩
        · rw [Hnext.out] at hj
          exact hsub j (by simp at hj; exact hj.1)
        · rw [← Hpre.out, Hstep.out]; simp
      · gi_wp2
        refine bodyPost_ret (results_none rfl _ _ _) rfl ?_
        refine ⟨⟨_, rfl⟩, .inr ⟨pre ++ [⟨k, hx⟩], ⟨bitsOf (r &&& (r - 1)), ?_⟩, hJx'⟩⟩
        rw [← Hpre.out, Hstep.out]; simp
theorem bits_stops (n : Nat) (hn : 1 ≤ n) (B s : Nat) (hs : s < 2 ^ 63) (w : World) (hB : w.cell? ⟨B, 0, none⟩ = some (.int .i64 s)) (hT : Tab w) :
    SeqStopsK Fence.wide n Tryz.prog 143 #[.pointer (some ⟨B, 0, none⟩)] (fun x : BitIn s => #[.int .i64 x.1]) (Below (8 + 1))
      (fun xs => xs.map (·.1) = bitsOf s) (fun pre => pre.map (·.1) <+: bitsOf s) (bitsOf s).length w := by
  intro l J Jx W hW _ _ hY h0
  exact bits1_in n hn l B (8 + 1) s hs J Jx hY W ((hW.cell (p := ⟨B, 0, none⟩) (block_lt hB)).trans hB) (hT.next hW) (Nat.lt_succ_self _) h0
/-- A range over the things of a set, with a body of one's own. -/
theorem wp_bits {n : Nat} (hn : 3 ≤ n) {g : Operand} {ps : Array Tmp} {assign body : Code} {Q : Exit → Act → World → Prop} {a : Act} {w : World} {B s : Nat}
    (hg : a.eval g = .func (.func 143) #[] #[.pointer (some ⟨B, 0, none⟩)]) (hB : w.cell? ⟨B, 0, none⟩ = some (.int .i64 s)) (hs : s < 2 ^ 63) (hT : Tab w) (hps : ps.size = 1)
    (I : List Nat → World → Prop) (Ix : Code → List Nat → World → Prop) (hI : OwnFrom w.heap.size I) (hIx : ∀ c, OwnFrom w.heap.size (Ix c)) (h0 : I [] w) (a₁ : Nat → Act)
    (hassign : ∀ (l x : Nat) (W : World) (K : Act → World → Prop), K (a₁ x) W →
      assign.wpIn (Fence.wide.inRound l) (n - 1 - 1) Tryz.prog (Exit.then K (fun _ _ _ => False)) { tmps := (ps.zip #[.int .i64 x]).foldl (fun t (p, v) => t.setIfInBounds p v) a.tmps, defers := [] } W)
    (hbody : ∀ (l : Nat) (pre : List Nat) (x : Nat) (W : World), s.testBit x = true → pre.length < 64 → I pre W →
      body.wpIn (Fence.wide.inRound l) (n - 1 - 1) Tryz.prog (ownPostG w.heap.size (Below (8 + 1)) I Ix (pre ++ [x]) W) (a₁ x) W)
    (hdone : ∀ (D : Nat) (W : World), w.heap.size ≤ D → I (bitsOf s) W → W.heap[D]? = some (.deferred (some [])) → Q .normal { a with defers := { target := .collected D, args := #[] } :: a.defers } W)
    (hstop : ∀ (D : Nat) (c : Code) (pre : List Nat) (W : World), w.heap.size ≤ D → pre <+: bitsOf s → Ix c pre W → W.heap[D]? = some (.deferred (some [])) → c.wpIn Fence.wide n Tryz.prog Q { a with defers := { target := .collected D, args := #[] } :: a.defers } W) :
    (Code.rangeFunc g ps assign body).wpIn Fence.wide n Tryz.prog Q a w := by
  refine wpIn_rangeFunc_ownG (α := BitIn s) rfl (by omega) (gf := 143) (lb := #[.pointer (some ⟨B, 0, none⟩)]) hg trivial (enters_of Tryz.func143 (by kernel_rfl) rfl)
    (bits_stops (n - 1) (by omega) B s hs w hB hT) belowK_t (belowK_b hT.lt) (Below.refl _ _) (fun _ => hps.symm)
    (fun xs W => I (xs.map (·.1)) W) (fun c xs W => Ix c (xs.map (·.1)) W) (fun t A C row h => hI (t.map (·.1)) A C row h) (fun c t A C row h => hIx c (t.map (·.1)) A C row h) h0 (fun x => a₁ x.1)
    (fun l x W K hK => hassign l x.1 W K hK) ?_ (fun D xs W hD hS h hK => hdone D W hD (by rw [← hS]; exact h) hK) (fun D c pre W hD hS h hK => hstop D c (pre.map (·.1)) W hD hS h hK)
  intro l pre x W h hlen
  have := hbody l (pre.map (·.1)) x.1 W x.2 (by rw [List.length_map]; have := length_bitsOf s; omega) h
  refine Code.wpIn_mono ?_ this
  intro e b W' hq
  cases e <;> first | exact hq.elim | (simp only [ownPostG, List.map_append, List.map_cons, List.map_nil] at hq ⊢; exact hq)
/-- The same, the loop's variable in slot q. -/
theorem wp_bits1 {n : Nat} (hn : 3 ≤ n) (q : Nat) {g : Operand} {p : Tmp} {assign body : Code} {Q : Exit → Act → World → Prop} {tmps : Array Value} {ds : List Deferred} {w : World} {B s : Nat}
    (hg : (Act.mk tmps ds).eval g = .func (.func 143) #[] #[.pointer (some ⟨B, 0, none⟩)]) (hB : w.cell? ⟨B, 0, none⟩ = some (.int .i64 s)) (hs : s < 2 ^ 63) (hT : Tab w)
    (I : List Nat → World → Prop) (Ix : Code → List Nat → World → Prop) (hI : OwnFrom w.heap.size I) (hIx : ∀ c, OwnFrom w.heap.size (Ix c)) (h0 : I [] w)
    (hassign : ∀ (l x : Nat) (W : World) (K : Act → World → Prop), K { tmps := (tmps.setIfInBounds p (.int .i64 x)).setIfInBounds q (.int .i64 x), defers := [] } W →
      assign.wpIn (Fence.wide.inRound l) (n - 1 - 1) Tryz.prog (Exit.then K (fun _ _ _ => False)) { tmps := tmps.setIfInBounds p (.int .i64 x), defers := [] } W)
    (hbody : ∀ (l : Nat) (pre : List Nat) (x : Nat) (W : World), s.testBit x = true → pre.length < 64 → I pre W →
      body.wpIn (Fence.wide.inRound l) (n - 1 - 1) Tryz.prog (ownPostG w.heap.size (Below (8 + 1)) I Ix (pre ++ [x]) W) { tmps := (tmps.setIfInBounds p (.int .i64 x)).setIfInBounds q (.int .i64 x), defers := [] } W)
    (hdone : ∀ (D : Nat) (W : World), w.heap.size ≤ D → I (bitsOf s) W → W.heap[D]? = some (.deferred (some [])) → Q .normal { tmps := tmps, defers := { target := .collected D, args := #[] } :: ds } W)
    (hstop : ∀ (D : Nat) (c : Code) (pre : List Nat) (W : World), w.heap.size ≤ D → pre <+: bitsOf s → Ix c pre W → W.heap[D]? = some (.deferred (some [])) → c.wpIn Fence.wide n Tryz.prog Q { tmps := tmps, defers := { target := .collected D, args := #[] } :: ds } W) :
    (Code.rangeFunc g #[p] assign body).wpIn Fence.wide n Tryz.prog Q { tmps := tmps, defers := ds } w :=
  wp_bits hn (a := { tmps := tmps, defers := ds }) hg hB hs hT rfl I Ix hI hIx h0 (fun x => { tmps := (tmps.setIfInBounds p (.int .i64 x)).setIfInBounds q (.int .i64 x), defers := [] })
    (fun l x W K hK => by
      have e : ((#[p] : Array Tmp).zip #[Value.int .i64 (x : Int)]).foldl (fun t (p, v) => t.setIfInBounds p v) tmps = tmps.setIfInBounds p (.int .i64 x) := by simp
      rw [e]
      exact hassign l x W K hK) hbody hdone hstop
end Go.Proofs.YtanlmfnhlldkeaaGreatDoor

namespace Go.Proofs.YtanlmfnhlldkeaaGreatDoor
open Go.RowKit

/-- All cells read as they did, no block of cells has gone. -/
structure SameCells (w w' : World) : Prop where
  cell : ∀ a, w'.cell? a = w.cell? a
  frozen : ∀ a, w'.frozen? a = w.frozen? a
/-- A turn of one block that holds no cells into another that holds none. -/
theorem sameCells_putObj {w : World} {D : Nat} {o o' : Obj} (h : w.heap[D]? = some o) (ho : o.isCells = false) (ho' : o'.isCells = false) : SameCells w (w.putObj D o') := by
  have hD : D < w.heap.size := (Array.getElem?_eq_some_iff.1 h).1
  have e : (w.putObj D o').heap[D]? = some o' := by simp [World.putObj, hD]
  constructor
  · intro a
    by_cases hb : a.block = D
    · unfold World.cell?
      rw [hb, e, h]
      cases o <;> cases o' <;> simp_all [Obj.isCells]
    · exact World.cell?_of_block (World.putObj_heap_other (fun e => hb e))
  · intro a
    by_cases hb : a.block = D
    · unfold World.frozen?
      rw [hb, e, h]
      cases o <;> cases o' <;> simp_all [Obj.isCells]
    · exact World.frozen?_of_block (World.putObj_heap_other (fun e => hb e))
theorem SameCells.refl (w : World) : SameCells w w := ⟨fun _ => rfl, fun _ => rfl⟩
theorem SameCells.trans {a b c : World} (h : SameCells a b) (k : SameCells b c) : SameCells a c := ⟨fun x => (k.cell x).trans (h.cell x), fun x => (k.frozen x).trans (h.frozen x)⟩
/-- The marks that ranges have left: distinct blocks from B on, each an open list of no deferred calls. -/
def mark (D : Nat) : Deferred := { target := .collected D, args := #[] }
def MarksAt (B : Nat) (w : World) (Ds : List Nat) : Prop := Ds.Nodup ∧ ∀ D ∈ Ds, B ≤ D ∧ w.heap[D]? = some (.deferred (some []))
theorem MarksAt.nil {B : Nat} {w : World} : MarksAt B w [] := ⟨List.nodup_nil, fun _ h => by cases h⟩
theorem MarksAt.cons {B D : Nat} {w : World} {Ds : List Nat} (h : MarksAt B w Ds) (hB : B ≤ D) (hn : D ∉ Ds) (hD : w.heap[D]? = some (.deferred (some []))) : MarksAt B w (D :: Ds) :=
  ⟨List.nodup_cons.2 ⟨hn, h.1⟩, fun x hx => (List.mem_cons.1 hx).elim (fun e => by rw [e]; exact ⟨hB, hD⟩) (fun hx => h.2 x hx)⟩
theorem MarksAt.keep {B : Nat} {w w' : World} {Ds : List Nat} (h : MarksAt B w Ds) (hk : KeepsOthers w w') : MarksAt B w' Ds :=
  ⟨h.1, fun D hD => ⟨(h.2 D hD).1, hk.same D _ (h.2 D hD).2 rfl⟩⟩
theorem MarksAt.lt {B : Nat} {w : World} {Ds : List Nat} (h : MarksAt B w Ds) {D : Nat} (hD : D ∈ Ds) : D < w.heap.size := (Array.getElem?_eq_some_iff.1 (h.2 D hD).2).1
theorem keepsOthers_below {w w' : World} (h : Below w.heap.size w w') : KeepsOthers w w' :=
  ⟨h.size, fun k _ hk _ => (h.block k (Array.getElem?_eq_some_iff.1 hk).1).trans hk⟩
theorem KeepsOthers.grownBy {w w' : World} {row : Option Nat} (hg : w.grownBy w' row) (hr : ∀ r, row = some r → ∃ c t f, w.heap[r]? = some (.cells c t f)) : KeepsOthers w w' :=
  ⟨hg.size, fun k o hk ho => (hg.block k (Array.getElem?_eq_some_iff.1 hk).1 (fun eq => by
    obtain ⟨c, t, f, hc⟩ := hr k eq.symm
    rw [hk] at hc
    injection hc with hc
    subst hc
    cases ho)).trans hk⟩
/-- Behind the marks: the frame leaves, in a world that reads as this one does. -/
theorem leaves_marks {F : Fence} {n : Nat} {P : Program} {fn : Func} {tmps : Array Value} {R : Ending → World → Prop} {B : Nat} : ∀ (Ds : List Nat) (w : World), MarksAt B w Ds →
    (∀ w', SameCells w w' → Below B w w' → KeepsFrom w.heap.size w w' → ∃ v, (results fn tmps).run P w' = .ok v w' ∧ R (.returned v) w') → LeavesInM F n P fn tmps R (Ds.map mark) .returning w
  | [], w, _, h => by
    obtain ⟨v, hv, hR⟩ := h w (SameCells.refl w) (Below.refl B w) (KeepsFrom.refl _ w)
    exact ⟨v, hv, hR⟩
  | D :: Ds, w, hM, h => by
    obtain ⟨hn, hall⟩ := hM
    have hD := hall D (List.mem_cons_self ..)
    have hlt : D < w.heap.size := (Array.getElem?_eq_some_iff.1 hD.2).1
    have hsz : (w.putObj D (.deferred none)).heap.size = w.heap.size := by simp [World.putObj]
    refine ⟨by simp, .inl ⟨D, _, rfl, run_takeDeferred hD.2, ?_⟩⟩
    refine leaves_marks Ds _ ⟨(List.nodup_cons.1 hn).2, fun x hx => ⟨(hall x (List.mem_cons_of_mem _ hx)).1, ?_⟩⟩ fun w' hw hb hk => ?_
    · rw [World.putObj_heap_other (fun e => (List.nodup_cons.1 hn).1 (by rw [← e]; exact hx))]
      exact (hall x (List.mem_cons_of_mem _ hx)).2
    · refine h w' ((sameCells_putObj hD.2 rfl rfl).trans hw) (Below.trans ((Below.refl B w).grown (grownBy_putObj' w D _) (by omega) (fun k e => by cases e; exact hD.1)) hb) ?_
      rw [hsz] at hk
      exact (KeepsFrom.of_grownBy (grownBy_putObj' w D _) (fun j e => by cases e; exact hlt)).trans hk
theorem below_own {n₀ B : Nat} {w₀ W W' : World} {row : Option Nat} (h : Below n₀ w₀ W) (hn : n₀ ≤ w₀.heap.size) (hB : n₀ ≤ B) (hg : W.grownBy W' row)
    (hr : ∀ r, row = some r → B ≤ r ∧ ∃ o : Obj, W.heap[r]? = some o ∧ o.isCells = false) : Below n₀ w₀ W' :=
  h.grown hg (Nat.le_trans hn h.size) (fun k e => Nat.le_trans hB (hr k e).1)
end Go.Proofs.YtanlmfnhlldkeaaGreatDoor

namespace Go.Proofs.YtanlmfnhlldkeaaGreatDoor
open Go.RowKit

theorem MarksAt.own {B0 B : Nat} {w w' : World} {Ds : List Nat} (h : MarksAt B0 w Ds) (hlt : ∀ D ∈ Ds, D < B) {row : Option Nat} (hg : w.grownBy w' row) (hr : ∀ r, row = some r → B ≤ r ∧ ∃ o : Obj, w.heap[r]? = some o ∧ o.isCells = false) : MarksAt B0 w' Ds :=
  ⟨h.1, fun D hD => ⟨(h.2 D hD).1, (hg.block D (h.lt hD) fun eq => by have := (hr D eq.symm).1; have := hlt D hD; omega).trans (h.2 D hD).2⟩⟩
theorem MarksAt.below {B0 : Nat} {w w' : World} {Ds : List Nat} (h : MarksAt B0 w Ds) (hb : Below w.heap.size w w') : MarksAt B0 w' Ds := h.keep (keepsOthers_below hb)
theorem MarksAt.setCell {B0 : Nat} {w : World} {Ds : List Nat} (h : MarksAt B0 w Ds) (a : Addr) (v : Value) : MarksAt B0 (w.setCell a v) Ds := h.keep (KeepsOthers.setCell w a v)
theorem bit_below {s n x : Nat} (hs : s < 2 ^ n) (hx : s.testBit x = true) : x < n := by
  rcases Nat.lt_or_ge x n with h | h
  · exact h
  · rw [Nat.testBit_lt_two_pow (Nat.lt_of_lt_of_le hs (Nat.pow_le_pow_right (by decide) h))] at hx; cases hx
theorem OwnAt.own {w w' : World} {g : Nat} {e : TypeId} {l : List Value} (h : OwnAt w g e l) {row : Option Nat} (hg : w.grownBy w' row) (hr : ∀ r, row = some r → ∃ o : Obj, w.heap[r]? = some o ∧ o.isCells = false) : OwnAt w' g e l :=
  h.block (hg.block g h.lt fun eq => by
    obtain ⟨o, ho, hc⟩ := hr g eq.symm
    obtain ⟨cur, h', _⟩ := h
    rw [h'] at ho
    injection ho with ho
    subst ho
    cases hc)
theorem OwnAt.alloc {w : World} {g : Nat} {e : TypeId} {l : List Value} (h : OwnAt w g e l) (o : Obj) : OwnAt (w.alloc o) g e l := h.below ((Below.refl _ w).alloc (Nat.le_refl _) o) h.lt
end Go.Proofs.YtanlmfnhlldkeaaGreatDoor

namespace Go.Proofs.YtanlmfnhlldkeaaGreatDoor
open Go.RowKit
section
variable {F : Fence} {n : Nat} {P : Program} {ops : Array Oper} {md : Region.Mode} {r : Nat}

theorem operIn_round {o : Oper} {a : Act} {w : World} {K : Act → World → Prop} {Q : Exit → Act → World → Prop} (hro : F.round = none) (hd : ∀ c, o.op ≠ .defer c) (h : o.wpIn F n P a w K Q) :
    o.wpIn (F.inRound r) n P a w K Q := by
  unfold Oper.wpIn at *
  refine ⟨h.1, ?_⟩
  have h2 := h.2
  rw [hro, Oper.semAt_none] at h2
  show o.uponIn (F.inRound r) n P a K Q ((o.semAt (some r) a.eval).run P w)
  rw [Oper.semAt_some _ _ _ hd]
  generalize (execOp a.eval o).run P w = x at *
  cases x with
  | ok x w' => cases x <;> exact h2
  | halt x w' => exact h2
theorem wide_fn (f : FuncId) : Fence.wide.fn f = True := by simp only [eq_iff_iff, iff_true]; trivial
def noDefer (ops : Array Oper) : Bool := ops.all fun o => match o.op with | .defer _ => false | _ => true
theorem noDefer_spec (h : noDefer ops = true) {i : Nat} {o : Oper} (hi : ops[i]? = some o) : ∀ c, o.op ≠ .defer c := fun c hc => by
  unfold noDefer at h
  rw [Array.all_eq_true] at h
  obtain ⟨hlt, he⟩ := Array.getElem?_eq_some_iff.1 hi
  have := h i hlt
  rw [he, hc] at this
  cases this
theorem anyIn_round {Q : Exit → Act → World → Prop} (hro : F.round = none) (hnd : noDefer ops = true) : ∀ (fuel : Nat) (listed : Array Bool) (a : Act) (w : World),
    wpAnyIn F n P md ops Q fuel listed a w → wpAnyIn (F.inRound r) n P md ops Q fuel listed a w
  | 0, _, _, _, h => h
  | fuel + 1, listed, a, w, h => ⟨h.1, fun i hi => by
      have hh := h.2 i hi
      unfold wpOpIn at *
      split
      · rename_i ho
        simp only [ho] at hh
        exact anyIn_round hro hnd fuel _ _ _ hh
      · rename_i o ho
        simp only [ho] at hh
        split
        · rename_i hw
          simp only [hw, if_true] at hh
          exact operIn_round hro (noDefer_spec hnd ho) (Oper.wpIn_mono (fun a' w' => anyIn_round hro hnd fuel _ a' w') hh)
        · rename_i hw
          simp only [hw] at hh
          exact ⟨hh.1, anyIn_round hro hnd fuel _ _ _ hh.2⟩⟩
end
end Go.Proofs.YtanlmfnhlldkeaaGreatDoor

namespace Go.Proofs.YtanlmfnhlldkeaaGreatDoor
open Go.RowKit Go.Sort
set_option linter.unusedVariables false

/-- A post, of the normal end alone. -/
def OnlyNormal (Q : Exit → Act → World → Prop) : Exit → Act → World → Prop
  | .normal, a, w => Q .normal a w
  | _, _, _ => False
theorem letsOut_only {Q : Exit → Act → World → Prop} : ¬ LetsOut (OnlyNormal Q) := fun ⟨_, _, h⟩ => h
section
variable {n : Nat} {P : Program} {ops : Array Oper} {md : Region.Mode} {r : Nat} {Q : Exit → Act → World → Prop}
theorem rowsIn_wide {row : String} {args : Array Value} {w : World} {R : Value → World → Prop} (h : Rows P row args w R) : RowsIn Fence.wide n P row args w R :=
  fun c cs _ => let ⟨v, w', hr, s⟩ := h c cs; ⟨v, w', hr, stepsIn_wide.2 s⟩
theorem operIn_wide {o : Oper} {a : Act} {w : World} {K : Act → World → Prop} (h : o.wp P a w K (OnlyNormal Q)) : o.wpIn Fence.wide n P a w K Q := by
  refine ⟨fun f _ => trivial, ?_⟩
  show o.uponIn Fence.wide n P a K Q ((o.semAt none a.eval).run P w)
  rw [Oper.semAt_none]
  unfold Oper.wp at h
  generalize (execOp a.eval o).run P w = x at *
  cases x with
  | ok y w' =>
    cases y with
    | value v => exact h
    | skip => exact h
    | defer d => exact h
    | enter f args =>
      refine ⟨(fun hd => by cases hd), callsIn_wide.2 (Calls.mono h fun e w'' he => ?_)⟩
      cases e with
      | returned v => exact he
      | panicked c => exact he.elim
      | outgrown => exact absurd he letsOut_only
    | row rw args => exact ⟨(fun hd => by cases hd), rowsIn_wide h⟩
    | _ => exact h.elim
  | halt y w' =>
    cases y <;> exact h.elim
theorem anyIn_wide : ∀ (fuel : Nat) (listed : Array Bool) (a : Act) (w : World), wpAny P md ops (OnlyNormal Q) fuel listed a w → wpAnyIn Fence.wide n P md ops Q fuel listed a w
  | 0, _, _, _, h => h
  | fuel + 1, listed, a, w, h => ⟨h.1, fun i hi => by
      have hh := h.2 i hi
      unfold wpOp at hh
      unfold wpOpIn
      split
      · rename_i ho
        simp only [ho] at hh
        exact anyIn_wide fuel _ _ _ hh
      · rename_i o ho
        simp only [ho] at hh
        split
        · rename_i hw
          simp only [hw, if_true] at hh
          rcases hh with hh | hh
          · exact Oper.wpIn_mono (fun a' w' => anyIn_wide fuel _ a' w') (operIn_wide hh)
          · exact absurd hh.2 letsOut_only
        · rename_i hw
          simp only [hw] at hh
          exact ⟨fun f _ => trivial, anyIn_wide fuel _ _ _ hh⟩⟩
theorem wpIn_round_of_any {id : Nat} {a : Act} {w : World} (hm : P.follows .mixedOrders = true) (hnd : noDefer ops = true)
    (h : wpAny P .any ops (OnlyNormal Q) ops.size (Array.replicate ops.size false) a { w with drawn := w.drawn + 1 }) : (Code.region id ops true).wpIn (Fence.wide.inRound r) n P Q a w :=
  wpIn_region_any hm (anyIn_round rfl hnd _ _ _ _ (anyIn_wide _ _ _ _ h))
/-- Reads, and then one after another what is left. -/
theorem wpAny_still_tail {a : Act} {w : World} {l : List Oper} (m : Nat) (hB : Region.lexTailB .any l.toArray m = true)
    (h : wpStill P l.toArray w (fun a' => wpList P l.toArray Q (l.drop m) a' w) (l.take m) a) : wpAny P .any l.toArray Q l.toArray.size (Array.replicate l.toArray.size false) a w := by
  simp only [Region.lexTailB, Bool.and_eq_true, decide_eq_true_eq] at hB
  obtain ⟨⟨⟨⟨hsel, hn⟩, hs⟩, hc⟩, hlex⟩ := hB
  have hn' : m < l.length := by simpa using hn
  have htl : (l.take m).length = m := by simp; omega
  have hdl : (l.drop m).length = l.toArray.size - m := by simp
  have inv0 : HeadInv .any l.toArray m (Array.replicate l.toArray.size false) :=
    ⟨by simp, fun j oj _ hl => (by rw [getD_replicate_false] at hl; cases hl), fun t _ ht => getD_in (by simpa using ht) (getD_replicate_false _ _)⟩
  have H := wpAnyL_lex (md := .any) (g := l.toArray.size - m) hsel hs hc hn (l.take m) 0 _ a (fun j hj => by
    have hj' : j < m := by rw [htl] at hj; exact hj
    simp [hj']) (by simpa using htl) inv0 (by rw [htl]; exact hlex) h
  have := wpAny_of_head (Q' := Q) (g := l.toArray.size - m) (fun listed a' hL => by
    have := wpAny_of_seq (md := .any) (Q' := Q) (l.drop m) m listed a' w (fun j => by simp [List.getElem?_drop]) (by rw [hdl]; exact hL.1) hL.2
    rwa [hdl] at this) _ _ _ H
  rw [htl, show m + (l.toArray.size - m) = l.toArray.size by omega] at this
  exact this
theorem wpIn_round_still_tail {id : Nat} {a : Act} {w : World} {l : List Oper} (m : Nat) (hm : P.follows .mixedOrders = true) (hnd : noDefer l.toArray = true) (hB : Region.lexTailB .any l.toArray m = true)
    (h : wpStill P l.toArray w.drew (fun a' => wpList P l.toArray (OnlyNormal Q) (l.drop m) a' w.drew) (l.take m) a) : (Code.region id l.toArray true).wpIn (Fence.wide.inRound r) n P Q a w :=
  wpIn_round_of_any hm hnd (wpAny_still_tail m hB h)
end
end Go.Proofs.YtanlmfnhlldkeaaGreatDoor

namespace Go.Proofs.YtanlmfnhlldkeaaGreatDoor
open Go.RowKit

section
/-- As wp_region_still_tail, with the world's words kept. -/
theorem wp_still_tailD {P : Program} {id : Nat} {Q : Exit → Act → World → Prop} {a : Act} {w : World} {l : List Oper} (n : Nat) (hm : P.follows .mixedOrders = true) (hB : Region.lexTailB .any l.toArray n = true)
    (h : wpStill P l.toArray (w.drewN 1) (fun a' => wpList P l.toArray Q (l.drop n) a' (w.drewN 1)) (l.take n) a) : (Code.region id l.toArray true).wp P Q a w := wp_region_still_tail n hm hB h
theorem wp_still_tailD2 {P : Program} {id : Nat} {Q : Exit → Act → World → Prop} {a : Act} {w : World} {q : Nat} {l : List Oper} (n : Nat) (hm : P.follows .mixedOrders = true) (hB : Region.lexTailB .any l.toArray n = true)
    (h : wpStill P l.toArray (w.drewN (q + 1)) (fun a' => wpList P l.toArray Q (l.drop n) a' (w.drewN (q + 1))) (l.take n) a) : (Code.region id l.toArray true).wp P Q a (w.drewN q) := wp_region_still_tail n hm hB h
end

end Go.Proofs.YtanlmfnhlldkeaaGreatDoor
