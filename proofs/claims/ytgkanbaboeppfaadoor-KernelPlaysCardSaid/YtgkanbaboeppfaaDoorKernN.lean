/-
  Contract: kernel.New.
-/
import Derived.Test.YtgkanbaboeppfaaDoorKernF
import Derived.Test.YtgkanbaboeppfaaDoorKernD
import Derived.Test.YtgkanbaboeppfaaDoorKernM
namespace Go.Proofs.YtgkanbaboeppfaaDoor
open Go.RowKit
set_option maxRecDepth 100000
set_option linter.unusedVariables false

theorem placeInfo : (Tryd.prog.info? 60).map (fun i => (i.zero, i.size, i.bytes)) = some (some (.agg #[.int .i64 0, .int .i64 0, .int .i64 0, .int .i64 0, .int .i64 0, .slice none 0 0]), 6, 64) := by kernel_rfl
theorem heldInfo : (Tryd.prog.info? 24).map (fun i => (i.zero, i.size, i.bytes)) = some (some (.slice none 0 0), 1, 24) := by kernel_rfl
def placeZ (j : Nat) : Value := if j % 6 = 5 then .slice none 0 0 else .int .i64 0
def zPlace : Array Value := #[.int .i64 0, .int .i64 0, .int .i64 0, .int .i64 0, .int .i64 0, .slice none 0 0]
theorem zPlace_at (j : Nat) : zPlace[j % 6]! = placeZ j := by
  have h : j % 6 < 6 := Nat.mod_lt _ (by decide)
  unfold placeZ
  have : ∀ k, k < 6 → zPlace[k]! = if k = 5 then .slice none 0 0 else .int .i64 0 := by
    intro k hk
    match k, hk with
    | 0, _ => rfl
    | 1, _ => rfl
    | 2, _ => rfl
    | 3, _ => rfl
    | 4, _ => rfl
    | 5, _ => rfl
  exact this _ h
theorem places_new (w : World) (n : Nat) : (w.alloc (.cells (madeCells zPlace (n * 6)) 60)).rowIs w.heap.size 60 (n * 6) placeZ := by
  have h := World.rowIs_alloc w (madeCells zPlace (n * 6)) 60 placeZ (fun i hi => by
    rw [size_madeCells] at hi
    rw [← zPlace_at]
    simp [madeCells, hi]
    rfl)
  rwa [size_madeCells] at h

/-- The roles in a kernel that is new. -/
def roleNew (p gp gh : Nat) : Nat → Nat := fun b => if b = p then 1 else if b = gp then 2 else if b = gh then 3 else 0

def NewPost (lo : Nat) (L : List (List Int)) (P : List Int) (q : Nat) (T : List Int) (p : Nat) (w' : World) : Prop :=
  ∃ (gp gh : Nat) (K : KF), KernAt (roleNew p gp gh) lo w'.heap.size w' p K L P q T kNew 0
theorem places_new' (w : World) (n g : Nat) (hg : g = w.heap.size) : (w.alloc (.cells (madeCells zPlace (n * 6)) 60)).rowIs g 60 (n * 6) placeZ := by subst hg; exact places_new w n
theorem helds_new' (w : World) (q g : Nat) (hg : g = w.heap.size) : (w.alloc (.cells (madeCells #[.slice none 0 0] q) 24)).rowIs g 24 q (fun _ => .slice none 0 0) := by subst hg; exact World.rowIs_made w _ q _
theorem rowIs_all {w w' : World} {b n : Nat} {t : TypeId} {f : Nat → Value} (h : w.rowIs b t n f) (hb : Below w.heap.size w w') : w'.rowIs b t n f := h.of_block (hb.block b h.lt)
theorem box_new' (w : World) (t : TypeId) (vs : Array Value) (p : Nat) (hp : p = w.heap.size) : BoxN (w.alloc (.cells vs t)) p t vs := by subst hp; exact BoxN.new w t vs
theorem newPost_of {lo lo' hi' : Nat} {L : List (List Int)} {P : List Int} {q : Nat} {T : List Int} {w1 wx : World} {p gp gh n m c1 c2 c3 : Nat} {A1 A2 A3 : Option Addr} (hn : L.length = n) (hm : T.length = m) (hl : P.length = q * 2)
    (h1 : wx.rowIs gp 60 (n * 6) placeZ) (h2 : wx.rowIs gh 24 q (fun _ => .slice none 0 0)) (h3 : BoxN wx p 53 #[.slice A1 n c1, .slice A2 q c2, .slice A3 m c3, .slice (some ⟨gp, 0, none⟩) n n, .slice (some ⟨gh, 0, none⟩) q q, .int .i64 0])
    (hw1 : w1.heap.size = hi') (hb : Below w1.heap.size w1 wx) (i1 : RowsIn (fromB lo') 3 w1 A1 L) (i2 : IntsIn (fromB lo') w1 A2 P) (i3 : IntsIn (fromB lo') w1 A3 T) (hlo : lo ≤ lo') (d1 : p ≠ gp) (d2 : p ≠ gh) (d3 : gp ≠ gh)
    (e1 : lo ≤ p ∧ (p < lo' ∨ hi' ≤ p)) (e2 : lo ≤ gp ∧ (gp < lo' ∨ hi' ≤ gp)) (e3 : lo ≤ gh ∧ (gh < lo' ∨ hi' ≤ gh)) : NewPost lo L P q T p wx := by
  have r1 := h1.lt
  have r2 := h2.lt
  have r3 := h3.lt
  have hs := hb.size
  have ro : ∀ b, b < w1.heap.size → fromB lo' b → readB (roleNew p gp gh) lo wx.heap.size b := fun b hb ho => by
    have ho : lo' ≤ b := ho
    refine ⟨by omega, by omega, ?_⟩
    unfold roleNew
    rw [if_neg (by omega), if_neg (by omega), if_neg (by omega)]
  refine ⟨gp, gh, ⟨A1, A2, A3, c1, c2, c3, gp, gh⟩, ?_, ?_, ?_, ?_, ?_, ?_, Nat.le_refl _, ⟨⟨e1.1, r3⟩, ⟨e2.1, r1⟩, e3.1, r2⟩, ?_, ?_, ?_, ?_, ?_, hl⟩
  · subst hn hm; exact h3
  · unfold roleNew; rw [if_pos rfl]
  · unfold roleNew; rw [if_neg (fun e => d1 e.symm), if_pos rfl]
  · unfold roleNew; rw [if_neg (fun e => d2 e.symm), if_neg (fun e => d3 e.symm), if_pos rfl]
  · intro b hb; unfold roleNew; rw [if_neg (by omega), if_neg (by omega), if_neg (by omega)]
  · intro b hb; unfold roleNew; rw [if_neg (by omega), if_neg (by omega), if_neg (by omega)]
  · refine ⟨placeZ, by rw [hn]; exact h1, fun i hi => ⟨?_, fun r hr => ?_, ?_⟩⟩
    · unfold placeZ; rw [if_neg (by omega)]; rfl
    · unfold placeZ; rw [if_neg (by omega)]; rfl
    · unfold placeZ; rw [if_pos (by omega)]; exact RowW.nil _ _ _
  · exact ⟨_, h2, fun j hj => RowW.nil _ _ _⟩
  · exact (i1.mono ro).keep fun b hb' _ => hb.block b hb'
  · exact (i2.mono ro).keep fun b hb' _ => hb.block b hb'
  · exact (i3.mono ro).keep fun b hb' _ => hb.block b hb'
set_option maxHeartbeats 4000000 in
theorem New_ok {w : World} {Ap Ao At : Option Addr} {L : List (List Int)} {P T : List Int} {q n m cp co ct : Nat} (hL : RowsIn anyB 3 w Ap L) (hP : IntsIn anyB w Ao P) (hl : P.length = q * 2) (hT : IntsIn anyB w At T)
    (hn : L.length = n) (hm : T.length = m) (nm : n ≤ maxLen) (qm : q ≤ maxLen) (tm : m ≤ maxLen) (h0 : sysCode L P q T = 0) :
    Calls Tryd.prog 6 #[.agg #[.slice Ap n cp, .slice Ao q co, .slice At m ct]] w
      fun e w' => (∃ p, e = .returned (.tuple #[.pointer (some ⟨p, 0, none⟩), .nilIface]) ∧ NewPost w.heap.size L P q T p w') ∧ Below w.heap.size w w' := by
  have hok := sysOk h0
  obtain ⟨hp1, hp2⟩ := hok.parts
  have hp3 := hok.few
  obtain ⟨hp4, hp5⟩ := hok.turns
  have hshort : ∀ l ∈ L, l.length ≤ 300 := fun l hl => by
    obtain ⟨i, hi, rfl⟩ := List.getElem_of_mem hl
    have := hok.short i hi
    rw [List.getD_eq_getElem?_getD, List.getElem?_eq_getElem hi] at this
    have e : (some L[i]).getD [] = L[i] := rfl
    rw [e] at this
    omega
  have CK := Lib.hid (fun V (hV : Below w.heap.size w V) => KCheck_any (cp := cp) (co := co) (ct := ct) (hL.below hV) (hP.below hV) hl (hT.below hV) hn hm nm qm tm)
  rw [h0, errVal_zero] at CK
  have CF := Lib.hid (fun V (hV : Below w.heap.size w V) => (fresh_any (cp := cp) (co := co) (ct := ct) (hL.below hV) (hP.below hV) hl (hT.below hV) hn hm (by omega) (by omega) (by omega) hshort).mono fun e w' ⟨he, hb⟩ => (⟨he, hb, hV.trans (hb.mono hV.size)⟩ : _ ∧ Below V.heap.size V w' ∧ Below w.heap.size w w'))
  have hmk1 : ∀ V : World, (Instr.makeSlice 51 (.int .i64 n) (.int .i64 n)).run Tryd.prog V = .ok (.slice (some ⟨V.heap.size, 0, none⟩) n n) (V.alloc (.cells (madeCells zPlace (n * 6)) 60)) := fun V => by
    obtain ⟨ti, hi, hz0, hz1, hz2⟩ := info_parts placeInfo
    have := run_make (P := Tryd.prog) (w := V) 51 60 ti _ Tryd.underlying51 hi hz0 .i64 .i64 n n (by omega) (Int.le_refl _) (by rw [hz2]; omega) (by omega)
    rw [hz1, Int.toNat_natCast] at this
    exact this
  have hmk2 : ∀ V : World, (Instr.makeSlice 34 (.int .i64 q) (.int .i64 q)).run Tryd.prog V = .ok (.slice (some ⟨V.heap.size, 0, none⟩) q q) (V.alloc (.cells (madeCells #[.slice none 0 0] q) 24)) := fun V => by
    obtain ⟨ti, hi, hz0, hz1, hz2⟩ := info_parts heldInfo
    have := run_make (P := Tryd.prog) (w := V) 34 24 ti _ Tryd.underlying34 hi hz0 .i64 .i64 q q (by omega) (Int.le_refl _) (by rw [hz2]; omega) (by omega)
    rw [hz1, Int.toNat_natCast, Nat.mul_one] at this
    exact this
  have hb0 := BoxN.new w 26 #[.slice Ap n cp, .slice Ao q co, .slice At m ct]
  have hbW := (Below.refl w.heap.size w).alloc (Nat.le_refl _) (.cells #[.slice Ap n cp, .slice Ao q co, .slice At m ct] 26)
  have x0 := hb0.cell (k := 0) rfl
  have x1 := hb0.cell (k := 1) rfl
  have x2 := hb0.cell (k := 2) rfl
  clear hok hp1 hp2 hp3 hp4 hp5
  go_enter Tryd.func6, Tryd.ntmps6
  go_wp2_with fail
  generalize w.alloc (.cells #[.slice Ap n cp, .slice Ao q co, .slice At m ct] 26) = W0 at *
  refine (CK.out _ hbW).mono ?_
  rintro e W1 ⟨rfl, hb1⟩
  have hbW1 := hbW.trans (hb1.mono hbW.size)
  have hb1' := hb0.all hb1
  clear x0 x1 x2 CK
  have x0 := hb1'.cell (k := 0) rfl
  have x1 := hb1'.cell (k := 1) rfl
  have x2 := hb1'.cell (k := 2) rfl
  have hKeep := Lib.hid (fun V (hV : Below W1.heap.size W1 V) => (⟨(hb1'.all hV).cell (k := 0) rfl, (hb1'.all hV).cell (k := 1) rfl, (hb1'.all hV).cell (k := 2) rfl⟩ : V.cell? ⟨w.heap.size, 0, none⟩ = some (.slice Ap n cp) ∧ V.cell? ⟨w.heap.size, 1, none⟩ = some (.slice Ao q co) ∧ V.cell? ⟨w.heap.size, 2, none⟩ = some (.slice At m ct)))
  have CF' := Lib.hid (fun V (hV : Below W1.heap.size W1 V) => (CF.out V (hbW1.trans (hV.mono hbW1.size))).mono fun e w' ⟨he, hb, _⟩ => (⟨he, hb, hV.trans (hb.mono hV.size)⟩ : _ ∧ Below V.heap.size V w' ∧ Below W1.heap.size W1 w'))
  clear CF hb0 hb1
  have HW1 := Lib.hid hbW1.size
  go_wp2_with fail
  go_cut [2, 3] from 10 to 22 (fun x2 x3 wx => ∃ p, x2 = .pointer (some ⟨p, 0, none⟩) ∧ x3 = .nilIface ∧ NewPost w.heap.size L P q T p wx ∧ Below W1.heap.size W1 wx)
  case first =>
    go_region_held3 (fun V => V.cell? ⟨w.heap.size, 0, none⟩ = some (.slice Ap n cp) ∧ V.cell? ⟨w.heap.size, 1, none⟩ = some (.slice Ao q co) ∧ V.cell? ⟨w.heap.size, 2, none⟩ = some (.slice At m ct))
      ((refine hKeep.out _ ?_; repeat (first | assumption | exact Below.refl _ _ | refine Below.alloc ?_ (by first | exact Nat.le_refl _ | assumption | (simp; done) | (simp; omega)) _ | refine Below.drew ?_)))
      ((go_at_call 19; with_reducible refine (CF'.out _ (by repeat (first | assumption | exact Below.refl _ _ | refine Below.alloc ?_ (by first | exact Nat.le_refl _ | assumption | (simp; done) | (simp; omega)) _ | refine Below.drew ?_))).mono ?_; rintro e w1 ⟨⟨A1, A2, A3, c1, c2, c3, rfl, i1, i2, i3⟩, hb1, hbw1⟩; have hs1 := hbw1.size))
    all_goals (go_wp2_with fail; go_meet)
    all_goals
      have hs2 := hb1.size
      try simp only [World.size_drew, World.size_alloc] at hs2
      refine ⟨_, rfl, rfl, newPost_of (w1 := w1) (hi' := w1.heap.size) hn hm hl ?_ ?_ (box_new' _ _ _ _ ?_) rfl ?_ i1 i2.intsIn i3.intsIn ?_ ?_ ?_ ?_ ⟨?_, ?_⟩ ⟨?_, ?_⟩ ⟨?_, ?_⟩, ?_⟩
      · repeat (first | exact places_new' _ _ _ (by first | rfl | (simp; done)) | refine World.rowIs.alloc ?_ _ | refine rowIs_all ?_ hb1 | refine World.rowIs.drew ?_)
      · repeat (first | exact helds_new' _ _ _ (by first | rfl | (simp; done)) | refine World.rowIs.alloc ?_ _ | refine rowIs_all ?_ hb1 | refine World.rowIs.drew ?_)
      · first | rfl | (simp; done)
      · repeat (first | exact Below.refl _ _ | refine Below.alloc ?_ (by first | exact Nat.le_refl _ | (simp; done) | (simp; omega)) _)
      all_goals first | (have := HW1.out; omega) | (have := HW1.out; simp; omega) | (have := HW1.out; simp; done) | skip
      repeat (first | exact hbw1 | refine Below.alloc ?_ (by first | exact hs1 | (simp; omega)) _)
  case rest =>
    obtain ⟨p, rfl, rfl, hpost, hbx⟩ := hcut
    go_wp2_with fail
    go_ret2
    exact ⟨⟨p, rfl, hpost⟩, hbW1.trans (hbx.mono HW1.out)⟩

set_option maxHeartbeats 1000000 in
theorem New_bad {w : World} {Ap Ao At : Option Addr} {L : List (List Int)} {P T : List Int} {q n m cp co ct : Nat} (hL : RowsIn anyB 3 w Ap L) (hP : IntsIn anyB w Ao P) (hl : P.length = q * 2) (hT : IntsIn anyB w At T)
    (hn : L.length = n) (hm : T.length = m) (nm : n ≤ maxLen) (qm : q ≤ maxLen) (tm : m ≤ maxLen) {k : Nat} (hk : sysCode L P q T = k) (h0 : k ≠ 0) :
    Calls Tryd.prog 6 #[.agg #[.slice Ap n cp, .slice Ao q co, .slice At m ct]] w
      fun e w' => e = .returned (.tuple #[.pointer none, .iface 55 (.int .i64 k)]) ∧ Below w.heap.size w w' := by
  have CK := Lib.hid (fun V (hV : Below w.heap.size w V) => KCheck_any (cp := cp) (co := co) (ct := ct) (hL.below hV) (hP.below hV) hl (hT.below hV) hn hm nm qm tm)
  rw [hk, errVal_pos h0] at CK
  have hb0 := BoxN.new w 26 #[.slice Ap n cp, .slice Ao q co, .slice At m ct]
  have hbW := (Below.refl w.heap.size w).alloc (Nat.le_refl _) (.cells #[.slice Ap n cp, .slice Ao q co, .slice At m ct] 26)
  have x0 := hb0.cell (k := 0) rfl
  have x1 := hb0.cell (k := 1) rfl
  have x2 := hb0.cell (k := 2) rfl
  clear hk h0
  go_enter Tryd.func6, Tryd.ntmps6
  go_wp2_with fail
  generalize w.alloc (.cells #[.slice Ap n cp, .slice Ao q co, .slice At m ct] 26) = W0 at *
  refine (CK.out _ hbW).mono ?_
  rintro e W1 ⟨rfl, hb1⟩
  go_wp2_with fail
  go_ret2
  exact ⟨rfl, hbW.trans (hb1.mono hbW.size)⟩
end Go.Proofs.YtgkanbaboeppfaaDoor
