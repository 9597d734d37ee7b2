/-
  Plain law: the bits of a number, rising. No Go in sight.
  Contracts: math/bits.TrailingZeros, core.Bits and what it ranges over.
-/
import Derived.Test.YtdgncngkalgknaaDoorLeaf
import Derived.Lib.TrailingZeros
import Derived.RangeFuncNested
import Derived.RangeFuncBound
import Derived.RangeFuncCalls
import Derived.RangeFuncLeaves
import Derived.Shelf.Abstract
import Derived.Shelf.RegionOpen
import Derived.OwnWalkIn
import Derived.TacticsInMore
import Derived.LoopNIn
import Derived.LoopIn
namespace Go.Proofs.YtdgncngkalgknaaDoor

/-- The bits of a number, rising. -/
def bitsOf (r : Nat) : List Nat := (List.range 64).filter fun i => r.testBit i
theorem bitsOf_zero : bitsOf 0 = [] := by
  unfold bitsOf; rw [List.filter_eq_nil_iff]; intro i _; simp
theorem length_bitsOf (r : Nat) : (bitsOf r).length ≤ 64 := by
  unfold bitsOf
  have := List.length_filter_le (fun i => r.testBit i) (List.range 64)
  rwa [List.length_range] at this
theorem mem_bitsOf {r i : Nat} (hr : r < 2 ^ 64) : i ∈ bitsOf r ↔ r.testBit i = true := by
  unfold bitsOf
  rw [List.mem_filter, List.mem_range]
  refine ⟨fun h => h.2, fun h => ⟨?_, h⟩⟩
  rcases Nat.lt_or_ge i 64 with h1 | h1
  · exact h1
  · rw [Nat.testBit_lt_two_pow (Nat.lt_of_lt_of_le hr (Nat.pow_le_pow_right (by decide) h1))] at h; cases h

theorem low_bits (r : Nat) (h0 : r ≠ 0) (h : r < 2 ^ 64) :
    Lib.ctz 64 r < 64 ∧ r.testBit (Lib.ctz 64 r) = true ∧ (∀ j, j < Lib.ctz 64 r → r.testBit j = false) ∧
      ∀ j, (r &&& (r - 1)).testBit j = (r.testBit j && decide (j ≠ Lib.ctz 64 r)) := by
  obtain ⟨m, hm, hk⟩ := Lib.ctzFrom_spec 64 r (by omega) h
  have e : Lib.ctz 64 r = Lib.ctzFrom 64 r := by simp [Lib.ctz, h0]
  rw [e]
  generalize Lib.ctzFrom 64 r = k at *
  have hp := Nat.two_pow_pos k
  have t1 : ∀ j, r.testBit j = if j < k then false else (2 * m + 1).testBit (j - k) := fun j => by
    have := Nat.testBit_two_pow_mul_add (2 * m + 1) (b := 0) hp j
    rw [Nat.add_zero, ← hm] at this
    rw [this]; simp
  have e1 : r - 1 = 2 ^ k * (2 * m) + (2 ^ k - 1) := by rw [hm, Nat.mul_add]; omega
  have t2 : ∀ j, (r - 1).testBit j = if j < k then (2 ^ k - 1).testBit j else (2 * m).testBit (j - k) := fun j => by
    rw [e1]; exact Nat.testBit_two_pow_mul_add (2 * m) (by omega) j
  refine ⟨hk, ?_, fun j hj => by rw [t1, if_pos hj], fun j => ?_⟩
  · rw [t1, if_neg (by omega), Nat.sub_self, Nat.testBit_zero]; simp
  · rw [Nat.testBit_and, t1, t2]
    by_cases hj : j < k
    · rw [if_pos hj]; simp
    · rw [if_neg hj, if_neg hj]
      by_cases he : j = k
      · subst he
        rw [Nat.sub_self, Nat.testBit_zero, Nat.testBit_zero]; simp
      · obtain ⟨i, rfl⟩ : ∃ i, j = k + (i + 1) := ⟨j - k - 1, by omega⟩
        rw [show k + (i + 1) - k = i + 1 from by omega, Nat.testBit_succ, Nat.testBit_succ]
        rw [show (2 * m + 1) / 2 = m from by omega, show 2 * m / 2 = m from by omega]
        simp

theorem bitsOf_step (r : Nat) (h0 : r ≠ 0) (h : r < 2 ^ 64) : bitsOf r = Lib.ctz 64 r :: bitsOf (r &&& (r - 1)) := by
  obtain ⟨hk, h1, h2, h3⟩ := low_bits r h0 h
  generalize Lib.ctz 64 r = k at *
  have hr : List.range 64 = List.range k ++ (List.range (64 - k)).map (k + ·) := by
    rw [← List.range_add]; congr 1; omega
  have hr2 : List.range (64 - k) = 0 :: (List.range (63 - k)).map Nat.succ := by
    rw [show 64 - k = (63 - k) + 1 from by omega, List.range_succ_eq_map]
  unfold bitsOf
  rw [hr, hr2, List.filter_append, List.filter_append, List.map_cons, List.filter_cons, List.filter_cons]
  have f1 : (List.range k).filter (fun i => r.testBit i) = [] := by
    rw [List.filter_eq_nil_iff]; intro i hi; rw [h2 i (List.mem_range.1 hi)]; simp
  have f2 : (List.range k).filter (fun i => (r &&& (r - 1)).testBit i) = [] := by
    rw [List.filter_eq_nil_iff]; intro i hi; rw [h3, h2 i (List.mem_range.1 hi)]; simp
  rw [f1, f2, Nat.add_zero, if_pos h1, if_neg (by rw [h3]; simp)]
  simp only [List.nil_append]
  congr 1
  refine List.filter_congr fun i hi => ?_
  rw [h3]
  obtain ⟨j, hj, rfl⟩ := List.mem_map.1 hi
  obtain ⟨j', _, rfl⟩ := List.mem_map.1 hj
  simp
theorem and_pred_lt (r : Nat) (h0 : r ≠ 0) : r &&& (r - 1) < r := Nat.lt_of_le_of_lt Nat.and_le_right (by omega)

theorem tz_key (x a : Nat) (hx : x < 18446744073709551616) (hx0 : x ≠ 0) (hlow : x &&& (18446744073709551616 - x) = a) :
    IntKind.u64.wrap (bits BinOp.and IntKind.u64 (x : Int) (IntKind.u64.wrap (-(x : Int))) * 285870213051353865) / 288230376151711744 = ((a * 285870213051353865 % 18446744073709551616 / 288230376151711744 : Nat) : Int) := by
  have e1 : IntKind.u64.wrap (-(x : Int)) = ((18446744073709551616 - x : Nat) : Int) := by rw [IntKind.wrap_u64]; omega
  rw [e1, bits_and_u64_nat x _ hx (by omega), hlow, IntKind.wrap_u64]
  omega
end Go.Proofs.YtdgncngkalgknaaDoor

namespace Go.Proofs.YtdgncngkalgknaaDoor
open Go.RowKit Go.Shelf
attribute [local go_sem] Oper.semAt_some
set_option maxRecDepth 100000

/-- The table of math/bits lies in its variable. -/
def Tab (w : World) : Prop := ∀ j, j < Lib.deBruijn64tab.length → w.cell? ⟨2, j, none⟩ = some (.int .u8 (Lib.deBruijn64tab.getD j 0))
theorem Tab.lt {w : World} (h : Tab w) : 2 < w.heap.size := block_lt (h 0 (by decide))
theorem Tab.below {w w' : World} {B : Nat} (h : Tab w) (hb : Below B w w') (hB : 2 < B) : Tab w' := fun j hj => by
  rw [hb.cell (p := ⟨2, j, none⟩) hB]; exact h j hj
theorem Tab.next {w w' : World} (h : Tab w) (hb : Below w.heap.size w w') : Tab w' := h.below hb h.lt

theorem tz64_core (x k idx : Nat) (w : World) (hx0 : ((x : Int) == 0) = false)
    (key : IntKind.u64.wrap (bits BinOp.and IntKind.u64 (x : Int) (IntKind.u64.wrap (-(x : Int))) * 285870213051353865) / 288230376151711744 = (idx : Int))
    (hi : idx < 64) (hk : k < 64) (hcell : w.cell? ⟨2, idx, none⟩ = some (.int .u8 k)) :
    Calls Tryd.prog 108 #[.int .u64 x] w fun e w' => e = .returned (.int .i64 k) ∧ w = w' := by
  go_enter Tryd.func108, Tryd.ntmps108
  go_wp2_with (simp only [key])
  go_ret
  exact ⟨rfl, rfl⟩
theorem tz64_any (x : Nat) (h0 : x ≠ 0) (hx : x < 2 ^ 64) (w : World) (hT : Tab w) :
    Calls Tryd.prog 108 #[.int .u64 x] w fun e w' => e = .returned (.int .i64 (Lib.ctz 64 x)) ∧ w = w' := by
  obtain ⟨hlow, hk⟩ := Lib.lowest_bit 64 x h0 hx
  obtain ⟨hi, htab⟩ := Lib.deBruijn64_at _ hk
  have hcell := hT _ hi
  rw [htab] at hcell
  exact tz64_core x _ _ w (by simp; omega) (tz_key x _ hx h0 hlow) hi hk hcell
theorem tz_any (x : Nat) (h0 : x ≠ 0) (hx : x < 2 ^ 64) (w : World) (hT : Tab w) :
    Calls Tryd.prog 91 #[.int .u64 x] w fun e w' => e = .returned (.int .i64 (Lib.ctz 64 x)) ∧ w = w' := by
  have Hc := Lib.hid (tz64_any x h0 hx w hT)
  have hw : IntKind.u64.wrap (x : Int) = (x : Int) := by rw [IntKind.wrap_u64]; omega
  generalize Lib.ctz 64 x = k at *
  clear h0 hx hT
  go_enter Tryd.func91, Tryd.ntmps91
  go_wp2_with (go_at_call 108; refine Hc.out.mono ?_; rintro e w' ⟨rfl, rfl⟩)
  go_ret
  exact ⟨rfl, rfl⟩

theorem Bits_any (s : Int) (w : World) :
    Calls Tryd.prog 68 #[.int .i64 s] w fun e w' => e = .returned (.func (.func 90) #[] #[.pointer (some ⟨w.heap.size, 0, none⟩)]) ∧ w.alloc (.cells #[.int .i64 s] 3) = w' := by
  go_enter Tryd.func68, Tryd.ntmps68
  go_wp2
  go_ret
  exact ⟨rfl, rfl⟩

/-- A thing of a set. -/
abbrev BitIn (s : Nat) := { x : Nat // s.testBit x = true }

theorem wrap_u64_pred (r : Nat) (h0 : r ≠ 0) (h : r < 2 ^ 64) : bits .and .u64 (r : Int) (IntKind.u64.wrap ((r : Int) - 1)) = ((r &&& (r - 1) : Nat) : Int) := by
  have e : IntKind.u64.wrap ((r : Int) - 1) = ((r - 1 : Nat) : Int) := by rw [IntKind.wrap_u64]; omega
  rw [e, bits_and_u64_nat r _ (by omega) (by omega)]

set_option maxHeartbeats 2000000 in
theorem bits1_in (n : Nat) (hn : 1 ≤ n) (l B n₀ : Nat) (s : Nat) (hs : s < 2 ^ 63) (J Jx : List (BitIn s) → World → Prop)
    (hY : ∀ (pre : List (BitIn s)) (x : BitIn s) (W : World), J pre W → pre.length < (bitsOf s).length → YieldAt Fence.wide (n - 1) Tryd.prog l #[.int .i64 x.1] W fun e W' =>
      (e = .returned (.bool true) ∧ J (pre ++ [x]) W' ∧ Below n₀ W W') ∨ (e = .returned (.bool false) ∧ Jx (pre ++ [x]) W'))
    (W : World) (hB : W.cell? ⟨B, 0, none⟩ = some (.int .i64 s)) (hT : Tab W) (hg : 2 < n₀) (h0 : J [] W) :
    CallsIn Fence.wide n Tryd.prog 90 #[.func (.yield l) #[] #[], .pointer (some ⟨B, 0, none⟩)] W fun e W' => (∃ v, e = .returned v) ∧
      ((∃ ys : List (BitIn s), ys.map (·.1) = bitsOf s ∧ J ys W') ∨ (∃ pre : List (BitIn s), pre.map (·.1) <+: bitsOf s ∧ Jx pre W')) := by
  refine callsIn_of_wp Tryd.func90 rfl trivial ?_ rfl
  simp only [Tryd.ntmps90, List.size_toArray, List.length_cons, List.length_nil, Nat.reduceAdd, Nat.reduceSub, Array.replicate_succ, Array.replicate_zero, List.push_toArray, List.append_toArray, List.nil_append, List.cons_append]
  have hw : IntKind.u64.wrap (s : Int) = (s : Int) := by rw [IntKind.wrap_u64]; omega
  gi_wp2
  gi_loopw [3] (fun p wr => ∃ (pre : List (BitIn s)) (r : Nat), p = .int .u64 r ∧ r < 2 ^ 64 ∧ (∀ j, r.testBit j = true → s.testBit j = true) ∧ pre.map (·.1) ++ bitsOf r = bitsOf s ∧ Tab wr ∧ J pre wr)
    (fun p wr => (intOf p).toNat)
  case atStart => exact ⟨[], s, rfl, by omega, fun _ h => h, rfl, hT, h0⟩
  case round =>
    clear hT hB hw
    obtain ⟨pre, r, rfl, hr, hsub, hpre, hT, hJ⟩ := hrel
    by_cases hz : r = 0
    · subst hz
      have Hpre := Lib.hid hpre
      clear hpre
      gi_wp2
      go_end0
      refine ⟨⟨_, rfl⟩, .inl ⟨pre, ?_, hJ⟩⟩
      have := Hpre.out
      rwa [bitsOf_zero, List.append_nil] at this
    · have hstep := bitsOf_step r hz hr
      obtain ⟨hk, hbit, _, hnext⟩ := low_bits r hz hr
      have Htz := Lib.hid (tz_any r hz hr wr hT)
      have hx : s.testBit (Lib.ctz 64 r) = true := hsub _ hbit
      obtain ⟨fn, tmps, assign, body, hy, hR⟩ := hY pre ⟨Lib.ctz 64 r, hx⟩ wr hJ (by rw [← hpre, hstep]; simp)
      have Hpre := Lib.hid hpre
      have Hp1 := Lib.hid (wrap_u64_pred r hz hr)
      have Hlt := Lib.hid (and_pred_lt r hz)
      have Hnext := Lib.hid hnext
      have Hstep := Lib.hid hstep
      have hne : ((r : Int) != 0) = true := by rw [bne_iff_ne]; omega
      have HR := Lib.hid hR
      clear hpre hstep hnext hR hJ hY h0 hbit
      generalize hke : Lib.ctz 64 r = k at *
      gi_wp2_with (refine ⟨trivial, ?_⟩; gi_at_call 91; refine (callsIn_wide.2 Htz.out).mono ?_; rintro e w' ⟨rfl, rfl⟩)
      refine HR.out.mono ?_
      rintro e W' (⟨rfl, hJ', hk'⟩ | ⟨rfl, hJx'⟩)
      · have hT' := hT.below hk' hg
        gi_wp2
        have hp := Hp1.out
        rw [show IntKind.u64.wrap ((r : Int) - 1) = (r : Int) - 1 from by rw [IntKind.wrap_u64]; omega] at hp
        rw [hp]
        have hlt := Hlt.out
        refine ⟨⟨pre ++ [⟨k, hx⟩], r &&& (r - 1), rfl, by omega, fun j hj => ?_, ?_, hT', hJ'⟩, by simp only [intOf, Int.toNat_natCast]; exact hlt⟩
        · rw [Hnext.out] at hj
          exact hsub j (by simp at hj; exact hj.1)
        · rw [← Hpre.out, Hstep.out]; simp
      · gi_wp2
        refine bodyPost_ret (results_none rfl _ _ _) rfl ?_
        refine ⟨⟨_, rfl⟩, .inr ⟨pre ++ [⟨k, hx⟩], ⟨bitsOf (r &&& (r - 1)), ?_⟩, hJx'⟩⟩
        rw [← Hpre.out, Hstep.out]; simp

theorem bits_stops (n : Nat) (hn : 1 ≤ n) (B s : Nat) (hs : s < 2 ^ 63) (w : World) (hB : w.cell? ⟨B, 0, none⟩ = some (.int .i64 s)) (hT : Tab w) :
    SeqStopsK Fence.wide n Tryd.prog 90 #[.pointer (some ⟨B, 0, none⟩)] (fun x : BitIn s => #[.int .i64 x.1]) (Below (2 + 1))
      (fun xs => xs.map (·.1) = bitsOf s) (fun pre => pre.map (·.1) <+: bitsOf s) (bitsOf s).length w := by
  intro l J Jx W hW _ _ hY h0
  exact bits1_in n hn l B (2 + 1) s hs J Jx hY W ((hW.cell (p := ⟨B, 0, none⟩) (block_lt hB)).trans hB) (hT.next hW) (Nat.lt_succ_self _) h0

/-- A range over the things of a set, with a body of one's own. -/
theorem wp_bits {n : Nat} (hn : 3 ≤ n) {g : Operand} {ps : Array Tmp} {assign body : Code} {Q : Exit → Act → World → Prop} {a : Act} {w : World} {B s : Nat}
    (hg : a.eval g = .func (.func 90) #[] #[.pointer (some ⟨B, 0, none⟩)]) (hB : w.cell? ⟨B, 0, none⟩ = some (.int .i64 s)) (hs : s < 2 ^ 63) (hT : Tab w) (hps : ps.size = 1)
    (I : List Nat → World → Prop) (Ix : Code → List Nat → World → Prop) (hI : OwnFrom w.heap.size I) (hIx : ∀ c, OwnFrom w.heap.size (Ix c)) (h0 : I [] w) (a₁ : Nat → Act)
    (hassign : ∀ (l x : Nat) (W : World) (K : Act → World → Prop), K (a₁ x) W →
      assign.wpIn (Fence.wide.inRound l) (n - 1 - 1) Tryd.prog (Exit.then K (fun _ _ _ => False)) { tmps := (ps.zip #[.int .i64 x]).foldl (fun t (p, v) => t.setIfInBounds p v) a.tmps, defers := [] } W)
    (hbody : ∀ (l : Nat) (pre : List Nat) (x : Nat) (W : World), s.testBit x = true → pre.length < 64 → I pre W →
      body.wpIn (Fence.wide.inRound l) (n - 1 - 1) Tryd.prog (ownPostG w.heap.size (Below (2 + 1)) I Ix (pre ++ [x]) W) (a₁ x) W)
    (hdone : ∀ (D : Nat) (W : World), w.heap.size ≤ D → I (bitsOf s) W → W.heap[D]? = some (.deferred (some [])) → Q .normal { a with defers := { target := .collected D, args := #[] } :: a.defers } W)
    (hstop : ∀ (D : Nat) (c : Code) (pre : List Nat) (W : World), w.heap.size ≤ D → pre <+: bitsOf s → Ix c pre W → W.heap[D]? = some (.deferred (some [])) → c.wpIn Fence.wide n Tryd.prog Q { a with defers := { target := .collected D, args := #[] } :: a.defers } W) :
    (Code.rangeFunc g ps assign body).wpIn Fence.wide n Tryd.prog Q a w := by
  refine wpIn_rangeFunc_ownG (α := BitIn s) rfl (by omega) (gf := 90) (lb := #[.pointer (some ⟨B, 0, none⟩)]) hg trivial (enters_of Tryd.func90 (by kernel_rfl) rfl)
    (bits_stops (n - 1) (by omega) B s hs w hB hT) belowK_t (belowK_b hT.lt) (Below.refl _ _) (fun _ => hps.symm)
    (fun xs W => I (xs.map (·.1)) W) (fun c xs W => Ix c (xs.map (·.1)) W) (fun t A C row h => hI (t.map (·.1)) A C row h) (fun c t A C row h => hIx c (t.map (·.1)) A C row h) h0 (fun x => a₁ x.1)
    (fun l x W K hK => hassign l x.1 W K hK) ?_ (fun D xs W hD hS h hK => hdone D W hD (by rw [← hS]; exact h) hK) (fun D c pre W hD hS h hK => hstop D c (pre.map (·.1)) W hD hS h hK)
  intro l pre x W h hlen
  have := hbody l (pre.map (·.1)) x.1 W x.2 (by rw [List.length_map]; have := length_bitsOf s; omega) h
  refine Code.wpIn_mono ?_ this
  intro e b W' hq
  cases e <;> first | exact hq.elim | (simp only [ownPostG, List.map_append, List.map_cons, List.map_nil] at hq ⊢; exact hq)

/-- The same, the loop's variable in slot q. -/
theorem wp_bits1 {n : Nat} (hn : 3 ≤ n) (q : Nat) {g : Operand} {p : Tmp} {assign body : Code} {Q : Exit → Act → World → Prop} {tmps : Array Value} {ds : List Deferred} {w : World} {B s : Nat}
    (hg : (Act.mk tmps ds).eval g = .func (.func 90) #[] #[.pointer (some ⟨B, 0, none⟩)]) (hB : w.cell? ⟨B, 0, none⟩ = some (.int .i64 s)) (hs : s < 2 ^ 63) (hT : Tab w)
    (I : List Nat → World → Prop) (Ix : Code → List Nat → World → Prop) (hI : OwnFrom w.heap.size I) (hIx : ∀ c, OwnFrom w.heap.size (Ix c)) (h0 : I [] w)
    (hassign : ∀ (l x : Nat) (W : World) (K : Act → World → Prop), K { tmps := (tmps.setIfInBounds p (.int .i64 x)).setIfInBounds q (.int .i64 x), defers := [] } W →
      assign.wpIn (Fence.wide.inRound l) (n - 1 - 1) Tryd.prog (Exit.then K (fun _ _ _ => False)) { tmps := tmps.setIfInBounds p (.int .i64 x), defers := [] } W)
    (hbody : ∀ (l : Nat) (pre : List Nat) (x : Nat) (W : World), s.testBit x = true → pre.length < 64 → I pre W →
      body.wpIn (Fence.wide.inRound l) (n - 1 - 1) Tryd.prog (ownPostG w.heap.size (Below (2 + 1)) I Ix (pre ++ [x]) W) { tmps := (tmps.setIfInBounds p (.int .i64 x)).setIfInBounds q (.int .i64 x), defers := [] } W)
    (hdone : ∀ (D : Nat) (W : World), w.heap.size ≤ D → I (bitsOf s) W → W.heap[D]? = some (.deferred (some [])) → Q .normal { tmps := tmps, defers := { target := .collected D, args := #[] } :: ds } W)
    (hstop : ∀ (D : Nat) (c : Code) (pre : List Nat) (W : World), w.heap.size ≤ D → pre <+: bitsOf s → Ix c pre W → W.heap[D]? = some (.deferred (some [])) → c.wpIn Fence.wide n Tryd.prog Q { tmps := tmps, defers := { target := .collected D, args := #[] } :: ds } W) :
    (Code.rangeFunc g #[p] assign body).wpIn Fence.wide n Tryd.prog Q { tmps := tmps, defers := ds } w :=
  wp_bits hn (a := { tmps := tmps, defers := ds }) hg hB hs hT rfl I Ix hI hIx h0 (fun x => { tmps := (tmps.setIfInBounds p (.int .i64 x)).setIfInBounds q (.int .i64 x), defers := [] })
    (fun l x W K hK => by
      have e : ((#[p] : Array Tmp).zip #[Value.int .i64 (x : Int)]).foldl (fun t (p, v) => t.setIfInBounds p v) tmps = tmps.setIfInBounds p (.int .i64 x) := by simp
      rw [e]
      exact hassign l x W K hK) hbody hdone hstop

/-- Turns of blocks that hold no cells, from B on: what a range's own book-keeping does. -/
theorem ownFrom_mk {B : Nat} {I : List Nat → World → Prop} (h : ∀ s W W' row, I s W → W.grownBy W' row → (∀ r, row = some r → B ≤ r ∧ ∃ o : Obj, W.heap[r]? = some o ∧ o.isCells = false) → I s W') : OwnFrom B I := h
end Go.Proofs.YtdgncngkalgknaaDoor
