/-
  Contract: lattice.least.
-/
import Derived.Test.YtndeplakkhfmlaaDoorLoopMarks
import Derived.Test.YtndeplakkhfmlaaDoorRound
import Derived.Test.YtndeplakkhfmlaaDoorBits
import Derived.Test.YtndeplakkhfmlaaDoorLabel
import Derived.Test.YtndeplakkhfmlaaDoorRelWords
namespace Go.Proofs.YtndeplakkhfmlaaDoor
open Go.RowKit
attribute [local go_sem] Oper.semAt_some
attribute [local simp, local go_sem] wide_fn
set_option maxRecDepth 100000

/-- The first of a set from which all of it are come to; -1: there is none. -/
def leastI (u : List Nat) (s : Nat) : Int := match (bitsOf s).find? (fun i => within s (row u i)) with | some i => (i : Int) | none => -1
theorem leastI_some {u : List Nat} {s x : Nat} {p : List Nat} (hp : p ++ [x] <+: bitsOf s) (hn : ∀ y ∈ p, within s (row u y) = false) (hx : within s (row u x) = true) : leastI u s = (x : Int) := by
  obtain ⟨t, ht⟩ := hp
  unfold leastI
  rw [← ht, List.find?_append, List.find?_append]
  have : p.find? (fun i => within s (row u i)) = none := by
    rw [List.find?_eq_none]; intro y hy; rw [hn y hy]; simp
  rw [this]
  simp [hx]
theorem leastI_none {u : List Nat} {s : Nat} (hn : ∀ y ∈ bitsOf s, within s (row u y) = false) : leastI u s = -1 := by
  unfold leastI
  have : (bitsOf s).find? (fun i => within s (row u i)) = none := by
    rw [List.find?_eq_none]; intro y hy; rw [hn y hy]; simp
  rw [this]

set_option maxHeartbeats 4000000 in
theorem least_any (u : List Nat) (n s : Nat) (hu : u.length = n) (hlen : n ≤ 12) (hb : Bd n u) (hs : s < 2 ^ n) (A : Option Addr) (c : Nat) (w : World) (h : IntsAt w A (castL u)) (hT : Tab w) :
    Calls Tryd.prog 60 #[.slice A n c, .int .i64 s] w fun e w' => e = .returned (.int .i64 (leastI u s)) ∧ Below w.heap.size w w' := by
  refine (callsIn_wide (n := 8)).1 ?_
  have hg := hT.lt
  have Hb := Lib.hid hb
  have Hu := Lib.hid hu
  have Hs := Lib.hid hs
  have hs12 : s < 2 ^ 12 := Nat.lt_of_lt_of_le hs (Nat.pow_le_pow_right (by decide) hlen)
  clear hb hs hu
  refine callsIn_of_wp_marks Tryd.func60 rfl trivial ?_ rfl
  simp only [Tryd.ntmps60, List.size_toArray, List.length_cons, List.length_nil, Nat.reduceAdd, Nat.reduceSub, Array.replicate_succ, Array.replicate_zero, List.push_toArray, List.append_toArray, List.nil_append, List.cons_append]
  gi_wp2_with fail
  refine (callsIn_wide.2 (Bits_any s _)).mono ?_
  rintro e w4 ⟨rfl, rfl⟩
  gi_wp2_with fail
  have hbl : Below w.heap.size w ((((w.alloc (.cells #[.slice A n c] 29)).alloc (.cells #[.int .i64 s] 3)).alloc (.cells #[.int .i64 0] 3)).alloc (.cells #[.int .i64 s] 3)) :=
    ((((Below.refl _ w).alloc (Nat.le_refl _) _).alloc (by simp) _).alloc (by simp; omega) _).alloc (by simp; omega) _
  have hb2 : BoxN ((((w.alloc (.cells #[.slice A n c] 29)).alloc (.cells #[.int .i64 s] 3)).alloc (.cells #[.int .i64 0] 3)).alloc (.cells #[.int .i64 s] 3)) w.heap.size 29 #[.slice A n c] := (((BoxN.new w _ _).alloc _).alloc _).alloc _
  have hb3 : BoxN ((((w.alloc (.cells #[.slice A n c] 29)).alloc (.cells #[.int .i64 s] 3)).alloc (.cells #[.int .i64 0] 3)).alloc (.cells #[.int .i64 s] 3)) (w.heap.size + 1) 3 #[.int .i64 s] := by
    have := BoxN.new (w.alloc (.cells #[.slice A n c] 29)) 3 #[.int .i64 s]
    exact ((by simpa using this : BoxN _ (w.heap.size + 1) _ _).alloc _).alloc _
  have hb4 : BoxN ((((w.alloc (.cells #[.slice A n c] 29)).alloc (.cells #[.int .i64 s] 3)).alloc (.cells #[.int .i64 0] 3)).alloc (.cells #[.int .i64 s] 3)) (w.heap.size + 1 + 1) 3 #[.int .i64 0] := by
    have := BoxN.new ((w.alloc (.cells #[.slice A n c] 29)).alloc (.cells #[.int .i64 s] 3)) 3 #[.int .i64 0]
    exact (by simpa using this : BoxN _ (w.heap.size + 1 + 1) _ _).alloc _
  have hb5 : BoxN ((((w.alloc (.cells #[.slice A n c] 29)).alloc (.cells #[.int .i64 s] 3)).alloc (.cells #[.int .i64 0] 3)).alloc (.cells #[.int .i64 s] 3)) (w.heap.size + 1 + 1 + 1) 3 #[.int .i64 s] := by
    have := BoxN.new (((w.alloc (.cells #[.slice A n c] 29)).alloc (.cells #[.int .i64 s] 3)).alloc (.cells #[.int .i64 0] 3)) 3 #[.int .i64 s]
    simpa using this
  have hiX := h.below hbl
  have hTX := Tab.next hT hbl
  have hXsz : ((((w.alloc (.cells #[.slice A n c] 29)).alloc (.cells #[.int .i64 s] 3)).alloc (.cells #[.int .i64 0] 3)).alloc (.cells #[.int .i64 s] 3)).heap.size = w.heap.size + 1 + 1 + 1 + 1 := by simp
  clear h hT
  generalize (((w.alloc (.cells #[.slice A n c] 29)).alloc (.cells #[.int .i64 s] 3)).alloc (.cells #[.int .i64 0] 3)).alloc (.cells #[.int .i64 s] 3) = X at *
  refine wp_bits1 (ds := []) (by decide) 5 (B := w.heap.size + 1 + 1 + 1) (s := s) rfl (hb5.cell rfl) (by omega) hTX
    (fun pre Y => Below X.heap.size X Y ∧ Hid (∀ y, y ∈ pre → within s (row u y) = false))
    (fun cd pre Y => cd = .ret ∧ (∃ p x, pre = p ++ [x] ∧ Hid (∀ y, y ∈ p → within s (row u y) = false) ∧ within s (row u x) = true ∧ BoxN Y (w.heap.size + 1 + 1) 3 #[.int .i64 (x : Int)]) ∧ Below w.heap.size w Y)
    (fun _ _ _ _ hs hg hr => ⟨below_own hs.1 (Nat.le_refl _) (Nat.le_refl _) hg hr, hs.2⟩)
    (fun _ _ _ _ _ hs hg hr => ⟨hs.1, by obtain ⟨p, x, h1, h2, h3, h4⟩ := hs.2.1; exact ⟨p, x, h1, h2, h3, h4.own hg (fun r e => (hr r e).2)⟩, below_own hs.2.2 (Nat.le_refl _) (by omega) hg hr⟩)
    ⟨Below.refl _ _, fun x hx => by cases hx⟩ ?assign ?body ?done ?stop
  case assign =>
    intro l x Y K hK
    gi_wp2
    exact hK
  case body =>
    rintro l pre x Y hx hlen' ⟨hY, hp⟩
    have hxn : x < n := bit_below Hs.out hx
    have hY2 := hb2.all hY
    have hY3 := hb3.all hY
    have hY4 := hb4.all hY
    obtain ⟨b, off, rfl, hcx⟩ := (hiX.below hY).row (k := x) (by rw [Hu.out]; exact hxn)
    have c2 : Y.cell? ⟨w.heap.size, 0, none⟩ = some (.slice (some ⟨b, off, none⟩) n c) := hY2.cell rfl
    have c3 : Y.cell? ⟨w.heap.size + 1, 0, none⟩ = some (.int .i64 s) := hY3.cell rfl
    have c4 : Y.cell? ⟨w.heap.size + 1 + 1, 0, none⟩ = some (.int .i64 0) := hY4.cell rfl
    have f4 := hY4.free 0
    have hrx : row u x < 2 ^ 12 := Nat.lt_of_lt_of_le (Hb.out x) (Nat.pow_le_pow_right (by decide) hlen)
    have hd := bits_andNot_nat s (row u x) (by omega) (by omega)
    have hz := diff_zero s (row u x)
    simp only [List.setIfInBounds_toArray, List.set_cons_succ, List.set_cons_zero]
    cases hw : within s (row u x) with
    | true =>
      rw [hw] at hz
      have hd0 : diff s (row u x) = 0 := by simpa using hz
      rw [hd0] at hd
      have Hw := Lib.hid hw
      clear hx hz hd0 hw
      generalize row u x = y at hd hcx hrx ⊢
      gi_wp2_with fail
      refine wpIn_region_quiet_round (F := Fence.wide) rfl (by kernel_rfl) (by kernel_rfl) (by kernel_rfl) ?_
      repeat (gi_big_quiet_step (fail))
      refine wpQuietIn_nil ?_
      rintro _ ⟨nq, rfl⟩
      gi_wp2_with fail
      exact ⟨((keepsOthers_below (below_drewN (Below.refl _ _) nq)).trans (KeepsOthers.setCell _ _ _)).from _, rfl, ⟨pre, x, rfl, hp, Hw.out, (hY4.drewN nq).set 0 (.int .i64 (x : Int))⟩, (below_drewN (hbl.trans (hY.mono hbl.size)) nq).setCell (p := ⟨w.heap.size + 1 + 1, 0, none⟩) (by simp; omega) _⟩
    | false =>
      rw [hw] at hz
      have hd0 : ((diff s (row u x) : Nat) : Int) ≠ 0 := by
        have : diff s (row u x) ≠ 0 := by simpa using hz
        omega
      have Hd0 := Lib.hid hd0
      have hp1 : ∀ y, y ∈ pre ++ [x] → within s (row u y) = false := fun y hy => by
        rcases List.mem_append.1 hy with hy | hy
        · exact hp.out y hy
        · obtain rfl := List.mem_singleton.1 hy; exact hw
      have Hp := Lib.hid hp1
      clear hx hz hd0 hw hp hp1
      generalize row u x = y at *
      generalize diff s y = d at *
      have hd1 : ((d : Int) == 0) = false := by simpa using Hd0.out
      clear Hd0
      gi_wp2_with fail
      refine wpIn_region_quiet_round (F := Fence.wide) rfl (by kernel_rfl) (by kernel_rfl) (by kernel_rfl) ?_
      repeat (gi_big_quiet_step (fail))
      refine wpQuietIn_nil ?_
      rintro _ ⟨nq, rfl⟩
      gi_wp2_with fail
      exact ⟨(keepsOthers_below (below_drewN (Below.refl _ _) nq)).from _, below_drewN (Below.refl _ _) nq, below_drewN hY nq, Hp⟩
  case done =>
    rintro D Z hD ⟨hZ, hp⟩ hK
    have Hl := Lib.hid (leastI_none hp.out)
    clear hp
    have hZ4 := hb4.all hZ
    have f4 := hZ4.free 0
    have c4 : Z.cell? ⟨w.heap.size + 1 + 1, 0, none⟩ = some (.int .i64 0) := hZ4.cell rfl
    gi_wp2_with fail
    refine leaves_marks (B := w.heap.size) [D] _ (MarksAt.cons MarksAt.nil (by omega) (by simp) ((Below.heap_setCell _ _ _ _ (by simp; omega)).trans hK)) fun w' hsc hb' _ => ?_
    have d4 : w'.cell? ⟨w.heap.size + 1 + 1, 0, none⟩ = some (.int .i64 (-1)) := (hsc.cell _).trans ((hZ4.set 0 (.int .i64 (-1))).cell rfl)
    exact ⟨.int .i64 (-1), by simp [results, Tryd.f60, go_sem, d4], ret_int Hl.out.symm, ((hbl.trans (hZ.mono hbl.size)).setCell (p := ⟨w.heap.size + 1 + 1, 0, none⟩) (by simp; omega) _).trans hb'⟩
  case stop =>
    rintro D cd pre Z hD hpre ⟨rfl, ⟨p, x, rfl, hp, hx, b4⟩, hbZ⟩ hK
    have Hl := Lib.hid (leastI_some hpre hp.out hx)
    clear hp hpre
    gi_wp2_with fail
    refine leaves_marks (B := w.heap.size) [D] Z (MarksAt.cons MarksAt.nil (by omega) (by simp) hK) fun w' hsc hb' _ => ?_
    have d4 : w'.cell? ⟨w.heap.size + 1 + 1, 0, none⟩ = some (.int .i64 (x : Int)) := (hsc.cell _).trans (b4.cell rfl)
    exact ⟨.int .i64 (x : Int), by simp [results, Tryd.f60, go_sem, d4], ret_int Hl.out.symm, hbZ.trans hb'⟩
end Go.Proofs.YtndeplakkhfmlaaDoor
