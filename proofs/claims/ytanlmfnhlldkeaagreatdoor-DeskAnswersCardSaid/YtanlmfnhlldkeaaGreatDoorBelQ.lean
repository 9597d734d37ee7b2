/-
  Contract: the reference's AskBell. (printed by askbellq.py)
  Contract: the reference's AskBell, whole. (printed by askbellq.py 2)
-/
import Derived.Test.YtanlmfnhlldkeaaGreatDoorRDsPA
import Derived.Test.YtanlmfnhlldkeaaGreatDoorBellR
import Derived.Lib.QuietBelow
import Derived.Test.YtanlmfnhlldkeaaGreatDoorLoopA
namespace Go.Proofs.YtanlmfnhlldkeaaGreatDoor
open Go.RowKit
set_option maxRecDepth 100000
set_option linter.unusedVariables false

theorem castL_set (l : List Nat) (i x : Nat) : castL (l.set i x) = (castL l).set i ((x : Nat) : Int) := by unfold castL; rw [List.map_set]; rfl
theorem RBit_b (s x : Nat) (bb : Bool) (W : World) (hs : s < 2 ^ 60) (hx : x < 60) (hh : s.testBit x = bb) : Calls Tryz.prog 128 #[.int .i64 s, .int .i64 x] W fun e w' => e = .returned (.bool bb) ∧ Below W.heap.size W w' :=
  (Bit_is s x bb W (by omega) (by omega) hh).mono fun e w' ⟨he, hw⟩ => ⟨he, hw ▸ Below.refl _ _⟩
theorem allIn_of {s n : Nat} {p : Nat → Bool} (hs : s < 2 ^ n) (hn : n ≤ 8) (h : ∀ x, x < n → s.testBit x = true → p x = true) : allIn s p = true := by
  rw [allIn_iff (Nat.lt_of_lt_of_le (lt256 hs hn) (by decide))]
  exact fun i hi => h i (bit_below hs hi) hi
theorem allIn_not {s n x : Nat} {p : Nat → Bool} (hs : s < 2 ^ n) (hn : n ≤ 8) (hx : s.testBit x = true) (hp : p x = false) : allIn s p = false := by
  cases h : allIn s p with
  | false => rfl
  | true =>
    rw [allIn_iff (Nat.lt_of_lt_of_le (lt256 hs hn) (by decide))] at h
    rw [h x hx] at hp; cases hp
theorem lAsk_k0 {U F : List Int} {S : LS} {u f : Nat} (t : Int) (hu : u < S.Re.length) (hf : f < S.Ho.length) : lAsk U F S 0 (u : Int) (f : Int) t = if belowL F f U u && allIn (row S.Wr u) (fun x => belowL F f F x) then ({ S with Re := S.Re.set u (row S.Re u ||| 2 ^ f) }, 0) else (S, 7) := by
  unfold lAsk
  rw [if_pos ⟨⟨by omega, by omega, by omega⟩, fun e => by omega⟩, if_pos rfl]
  simp only [Int.toNat_natCast]
theorem lAsk_k1 {U F : List Int} {S : LS} {u f : Nat} (t : Int) (hu : u < S.Re.length) (hf : f < S.Ho.length) : lAsk U F S 1 (u : Int) (f : Int) t = if allIn (row S.Re u) (fun x => belowL F x F f) then ({ S with Wr := S.Wr.set u (row S.Wr u ||| 2 ^ f) }, 0) else (S, 7) := by
  unfold lAsk
  rw [if_pos ⟨⟨by omega, by omega, by omega⟩, fun e => by omega⟩, if_neg (by decide), if_pos rfl]
  simp only [Int.toNat_natCast]
theorem lAsk_k2 {U F : List Int} {S : LS} {u f : Nat} (t : Int) (hu : u < S.Re.length) (hf : f < S.Ho.length) : lAsk U F S 2 (u : Int) (f : Int) t = ({ S with Re := S.Re.set u (diff (row S.Re u) (2 ^ f)), Wr := S.Wr.set u (diff (row S.Wr u) (2 ^ f)) }, 0) := by
  unfold lAsk
  rw [if_pos ⟨⟨by omega, by omega, by omega⟩, fun e => by omega⟩, if_neg (by decide), if_neg (by decide), if_pos rfl]
  simp only [Int.toNat_natCast]
theorem lAsk_k3 {U F : List Int} {S : LS} {u f t : Nat} (hu : u < S.Re.length) (hf : f < S.Ho.length) (ht : t < S.Ho.length) : lAsk U F S 3 (u : Int) (f : Int) (t : Int) = if (row S.Re u).testBit f && (row S.Wr u).testBit t then ({ S with Ho := S.Ho.set t (row S.Ho t ||| row S.Ho f) }, 0) else (S, 8) := by
  unfold lAsk
  rw [if_pos ⟨⟨by omega, by omega, by omega⟩, fun e => by omega⟩, if_neg (by decide), if_neg (by decide), if_neg (by decide)]
  simp only [Int.toNat_natCast]
section
variable {ok : Nat → Prop} {w : World} {U F : List Int} {S : LS} {a1 a2 a3 a4 a5 : Option Addr} {c1 c2 c3 c4 c5 : Nat}

set_option maxHeartbeats 1000000 in
theorem AskBell_range (hl : S.Re.length ≤ 100) (hl2 : S.Ho.length ≤ 100) (k u f t : Int) (hno : ¬ lOk S k u f t) :
    Calls Tryz.prog 129 #[.agg #[.slice a1 S.Re.length c1, .slice a2 S.Ho.length c2, .slice a3 S.Re.length c3, .slice a4 S.Re.length c4, .slice a5 S.Ho.length c5], .agg #[.int .i64 k, .int .i64 u, .int .i64 f, .int .i64 t]] w fun e w' => e = .returned (.tuple #[.agg #[.slice a1 S.Re.length c1, .slice a2 S.Ho.length c2, .slice a3 S.Re.length c3, .slice a4 S.Re.length c4, .slice a5 S.Ho.length c5], .int .i64 1]) ∧ Below w.heap.size w w' := by
  unfold lOk at hno
  by_cases h1 : 0 ≤ k ∧ k ≤ 3
  · have C1 := Lib.hid (fun V => Rin_is k 0 3 true V (by simp; omega))
    by_cases h2 : 0 ≤ u ∧ u < S.Re.length
    · have C2 := Lib.hid (fun V => Rin_is u 0 ((S.Re.length : Int) - 1) true V (by simp; omega))
      by_cases h3 : 0 ≤ f ∧ f < S.Ho.length
      · have C3 := Lib.hid (fun V => Rin_is f 0 ((S.Ho.length : Int) - 1) true V (by simp; omega))
        obtain rfl : k = 3 := by omega
        have C4 := Lib.hid (fun V => Rin_is t 0 ((S.Ho.length : Int) - 1) false V (by simp; omega))
        clear h1 h2 h3 hno
        go_enter Tryz.func129, Tryz.ntmps129
        go_wp2_with fail
        have hX := ((BoxN.new w 99 #[.slice a1 S.Re.length c1, .slice a2 S.Ho.length c2, .slice a3 S.Re.length c3, .slice a4 S.Re.length c4, .slice a5 S.Ho.length c5]).alloc (.cells #[.int .i64 3, .int .i64 u, .int .i64 f, .int .i64 t] 157)).alloc (.cells #[.slice none 0 0, .slice none 0 0, .slice none 0 0, .slice none 0 0, .slice none 0 0] 99)
        have hY := (BoxN.new (w.alloc (.cells #[.slice a1 S.Re.length c1, .slice a2 S.Ho.length c2, .slice a3 S.Re.length c3, .slice a4 S.Re.length c4, .slice a5 S.Ho.length c5] 99)) 157 #[.int .i64 3, .int .i64 u, .int .i64 f, .int .i64 t]).alloc (.cells #[.slice none 0 0, .slice none 0 0, .slice none 0 0, .slice none 0 0, .slice none 0 0] 99)
        have hZ := BoxN.new ((w.alloc (.cells #[.slice a1 S.Re.length c1, .slice a2 S.Ho.length c2, .slice a3 S.Re.length c3, .slice a4 S.Re.length c4, .slice a5 S.Ho.length c5] 99)).alloc (.cells #[.int .i64 3, .int .i64 u, .int .i64 f, .int .i64 t] 157)) 99 #[.slice none 0 0, .slice none 0 0, .slice none 0 0, .slice none 0 0, .slice none 0 0]
        have hb : Below w.heap.size w (((w.alloc (.cells #[.slice a1 S.Re.length c1, .slice a2 S.Ho.length c2, .slice a3 S.Re.length c3, .slice a4 S.Re.length c4, .slice a5 S.Ho.length c5] 99)).alloc (.cells #[.int .i64 3, .int .i64 u, .int .i64 f, .int .i64 t] 157)).alloc (.cells #[.slice none 0 0, .slice none 0 0, .slice none 0 0, .slice none 0 0, .slice none 0 0] 99)) := (((Below.refl _ _).alloc (Nat.le_refl _) _).alloc (by simp) _).alloc (by simp; omega) _
        simp only [World.size_alloc] at hY hZ
        generalize (((w.alloc (.cells #[.slice a1 S.Re.length c1, .slice a2 S.Ho.length c2, .slice a3 S.Re.length c3, .slice a4 S.Re.length c4, .slice a5 S.Ho.length c5] 99)).alloc (.cells #[.int .i64 3, .int .i64 u, .int .i64 f, .int .i64 t] 157)).alloc (.cells #[.slice none 0 0, .slice none 0 0, .slice none 0 0, .slice none 0 0, .slice none 0 0] 99)) = wa at *
        have x0 := hX.cell (k := 0) rfl
        have x1 := hX.cell (k := 1) rfl
        have x2 := hX.cell (k := 2) rfl
        have x3 := hX.cell (k := 3) rfl
        have x4 := hX.cell (k := 4) rfl
        have y0 := hY.cell (k := 0) rfl
        have y1 := hY.cell (k := 1) rfl
        have y2 := hY.cell (k := 2) rfl
        have y3 := hY.cell (k := 3) rfl
        have z0 := hZ.cell (k := 0) rfl
        have z1 := hZ.cell (k := 1) rfl
        have z2 := hZ.cell (k := 2) rfl
        have z3 := hZ.cell (k := 3) rfl
        have z4 := hZ.cell (k := 4) rfl
        have fx0 := hX.free 0
        have fx1 := hX.free 1
        have fx2 := hX.free 2
        have fx3 := hX.free 3
        have fx4 := hX.free 4
        have fz0 := hZ.free 0
        have fz1 := hZ.free 1
        have fz2 := hZ.free 2
        have fz3 := hZ.free 3
        have fz4 := hZ.free 4
        refine (C1.out _).mono ?_
        rintro e w' ⟨rfl, rfl⟩
        go_wp2_with (first | (go_at_call 153; with_reducible refine (C1.out _).mono ?_; rintro e w' ⟨rfl, rfl⟩) | (go_at_call 153; with_reducible refine (C2.out _).mono ?_; rintro e w' ⟨rfl, rfl⟩) | (go_at_call 153; with_reducible refine (C3.out _).mono ?_; rintro e w' ⟨rfl, rfl⟩) | (go_at_call 153; with_reducible refine (C4.out _).mono ?_; rintro e w' ⟨rfl, rfl⟩))
        have hR := (((((hZ.set 0 (.slice a1 S.Re.length c1)).set 1 (.slice a2 S.Ho.length c2)).set 2 (.slice a3 S.Re.length c3)).set 3 (.slice a4 S.Re.length c4)).set 4 (.slice a5 S.Ho.length c5))
        refine bodyPost_ret (results_row_tmp rfl _ _ (w.heap.size + 1 + 1) 99 #[.slice a1 S.Re.length c1, .slice a2 S.Ho.length c2, .slice a3 S.Re.length c3, .slice a4 S.Re.length c4, .slice a5 S.Ho.length c5] (0, 0) _ rfl hR Tryz.underlying99 rfl (by kernel_rfl)) rfl ?_
        exact ⟨rfl, (((((hb.setCell (p := ⟨w.heap.size + 1 + 1, 0, none⟩) (by simp; omega) (.slice a1 S.Re.length c1)).setCell (p := ⟨w.heap.size + 1 + 1, 1, none⟩) (by simp; omega) (.slice a2 S.Ho.length c2)).setCell (p := ⟨w.heap.size + 1 + 1, 2, none⟩) (by simp; omega) (.slice a3 S.Re.length c3)).setCell (p := ⟨w.heap.size + 1 + 1, 3, none⟩) (by simp; omega) (.slice a4 S.Re.length c4)).setCell (p := ⟨w.heap.size + 1 + 1, 4, none⟩) (by simp; omega) (.slice a5 S.Ho.length c5))⟩
      · have C3 := Lib.hid (fun V => Rin_is f 0 ((S.Ho.length : Int) - 1) false V (by simp; omega))
        clear h1 h2 h3 hno
        go_enter Tryz.func129, Tryz.ntmps129
        go_wp2_with fail
        have hX := ((BoxN.new w 99 #[.slice a1 S.Re.length c1, .slice a2 S.Ho.length c2, .slice a3 S.Re.length c3, .slice a4 S.Re.length c4, .slice a5 S.Ho.length c5]).alloc (.cells #[.int .i64 k, .int .i64 u, .int .i64 f, .int .i64 t] 157)).alloc (.cells #[.slice none 0 0, .slice none 0 0, .slice none 0 0, .slice none 0 0, .slice none 0 0] 99)
        have hY := (BoxN.new (w.alloc (.cells #[.slice a1 S.Re.length c1, .slice a2 S.Ho.length c2, .slice a3 S.Re.length c3, .slice a4 S.Re.length c4, .slice a5 S.Ho.length c5] 99)) 157 #[.int .i64 k, .int .i64 u, .int .i64 f, .int .i64 t]).alloc (.cells #[.slice none 0 0, .slice none 0 0, .slice none 0 0, .slice none 0 0, .slice none 0 0] 99)
        have hZ := BoxN.new ((w.alloc (.cells #[.slice a1 S.Re.length c1, .slice a2 S.Ho.length c2, .slice a3 S.Re.length c3, .slice a4 S.Re.length c4, .slice a5 S.Ho.length c5] 99)).alloc (.cells #[.int .i64 k, .int .i64 u, .int .i64 f, .int .i64 t] 157)) 99 #[.slice none 0 0, .slice none 0 0, .slice none 0 0, .slice none 0 0, .slice none 0 0]
        have hb : Below w.heap.size w (((w.alloc (.cells #[.slice a1 S.Re.length c1, .slice a2 S.Ho.length c2, .slice a3 S.Re.length c3, .slice a4 S.Re.length c4, .slice a5 S.Ho.length c5] 99)).alloc (.cells #[.int .i64 k, .int .i64 u, .int .i64 f, .int .i64 t] 157)).alloc (.cells #[.slice none 0 0, .slice none 0 0, .slice none 0 0, .slice none 0 0, .slice none 0 0] 99)) := (((Below.refl _ _).alloc (Nat.le_refl _) _).alloc (by simp) _).alloc (by simp; omega) _
        simp only [World.size_alloc] at hY hZ
        generalize (((w.alloc (.cells #[.slice a1 S.Re.length c1, .slice a2 S.Ho.length c2, .slice a3 S.Re.length c3, .slice a4 S.Re.length c4, .slice a5 S.Ho.length c5] 99)).alloc (.cells #[.int .i64 k, .int .i64 u, .int .i64 f, .int .i64 t] 157)).alloc (.cells #[.slice none 0 0, .slice none 0 0, .slice none 0 0, .slice none 0 0, .slice none 0 0] 99)) = wa at *
        have x0 := hX.cell (k := 0) rfl
        have x1 := hX.cell (k := 1) rfl
        have x2 := hX.cell (k := 2) rfl
        have x3 := hX.cell (k := 3) rfl
        have x4 := hX.cell (k := 4) rfl
        have y0 := hY.cell (k := 0) rfl
        have y1 := hY.cell (k := 1) rfl
        have y2 := hY.cell (k := 2) rfl
        have y3 := hY.cell (k := 3) rfl
        have z0 := hZ.cell (k := 0) rfl
        have z1 := hZ.cell (k := 1) rfl
        have z2 := hZ.cell (k := 2) rfl
        have z3 := hZ.cell (k := 3) rfl
        have z4 := hZ.cell (k := 4) rfl
        have fx0 := hX.free 0
        have fx1 := hX.free 1
        have fx2 := hX.free 2
        have fx3 := hX.free 3
        have fx4 := hX.free 4
        have fz0 := hZ.free 0
        have fz1 := hZ.free 1
        have fz2 := hZ.free 2
        have fz3 := hZ.free 3
        have fz4 := hZ.free 4
        refine (C1.out _).mono ?_
        rintro e w' ⟨rfl, rfl⟩
        go_wp2_with (first | (go_at_call 153; with_reducible refine (C1.out _).mono ?_; rintro e w' ⟨rfl, rfl⟩) | (go_at_call 153; with_reducible refine (C2.out _).mono ?_; rintro e w' ⟨rfl, rfl⟩) | (go_at_call 153; with_reducible refine (C3.out _).mono ?_; rintro e w' ⟨rfl, rfl⟩))
        have hR := (((((hZ.set 0 (.slice a1 S.Re.length c1)).set 1 (.slice a2 S.Ho.length c2)).set 2 (.slice a3 S.Re.length c3)).set 3 (.slice a4 S.Re.length c4)).set 4 (.slice a5 S.Ho.length c5))
        refine bodyPost_ret (results_row_tmp rfl _ _ (w.heap.size + 1 + 1) 99 #[.slice a1 S.Re.length c1, .slice a2 S.Ho.length c2, .slice a3 S.Re.length c3, .slice a4 S.Re.length c4, .slice a5 S.Ho.length c5] (0, 0) _ rfl hR Tryz.underlying99 rfl (by kernel_rfl)) rfl ?_
        exact ⟨rfl, (((((hb.setCell (p := ⟨w.heap.size + 1 + 1, 0, none⟩) (by simp; omega) (.slice a1 S.Re.length c1)).setCell (p := ⟨w.heap.size + 1 + 1, 1, none⟩) (by simp; omega) (.slice a2 S.Ho.length c2)).setCell (p := ⟨w.heap.size + 1 + 1, 2, none⟩) (by simp; omega) (.slice a3 S.Re.length c3)).setCell (p := ⟨w.heap.size + 1 + 1, 3, none⟩) (by simp; omega) (.slice a4 S.Re.length c4)).setCell (p := ⟨w.heap.size + 1 + 1, 4, none⟩) (by simp; omega) (.slice a5 S.Ho.length c5))⟩
    · have C2 := Lib.hid (fun V => Rin_is u 0 ((S.Re.length : Int) - 1) false V (by simp; omega))
      clear h1 h2 hno
      go_enter Tryz.func129, Tryz.ntmps129
      go_wp2_with fail
      have hX := ((BoxN.new w 99 #[.slice a1 S.Re.length c1, .slice a2 S.Ho.length c2, .slice a3 S.Re.length c3, .slice a4 S.Re.length c4, .slice a5 S.Ho.length c5]).alloc (.cells #[.int .i64 k, .int .i64 u, .int .i64 f, .int .i64 t] 157)).alloc (.cells #[.slice none 0 0, .slice none 0 0, .slice none 0 0, .slice none 0 0, .slice none 0 0] 99)
      have hY := (BoxN.new (w.alloc (.cells #[.slice a1 S.Re.length c1, .slice a2 S.Ho.length c2, .slice a3 S.Re.length c3, .slice a4 S.Re.length c4, .slice a5 S.Ho.length c5] 99)) 157 #[.int .i64 k, .int .i64 u, .int .i64 f, .int .i64 t]).alloc (.cells #[.slice none 0 0, .slice none 0 0, .slice none 0 0, .slice none 0 0, .slice none 0 0] 99)
      have hZ := BoxN.new ((w.alloc (.cells #[.slice a1 S.Re.length c1, .slice a2 S.Ho.length c2, .slice a3 S.Re.length c3, .slice a4 S.Re.length c4, .slice a5 S.Ho.length c5] 99)).alloc (.cells #[.int .i64 k, .int .i64 u, .int .i64 f, .int .i64 t] 157)) 99 #[.slice none 0 0, .slice none 0 0, .slice none 0 0, .slice none 0 0, .slice none 0 0]
      have hb : Below w.heap.size w (((w.alloc (.cells #[.slice a1 S.Re.length c1, .slice a2 S.Ho.length c2, .slice a3 S.Re.length c3, .slice a4 S.Re.length c4, .slice a5 S.Ho.length c5] 99)).alloc (.cells #[.int .i64 k, .int .i64 u, .int .i64 f, .int .i64 t] 157)).alloc (.cells #[.slice none 0 0, .slice none 0 0, .slice none 0 0, .slice none 0 0, .slice none 0 0] 99)) := (((Below.refl _ _).alloc (Nat.le_refl _) _).alloc (by simp) _).alloc (by simp; omega) _
      simp only [World.size_alloc] at hY hZ
      generalize (((w.alloc (.cells #[.slice a1 S.Re.length c1, .slice a2 S.Ho.length c2, .slice a3 S.Re.length c3, .slice a4 S.Re.length c4, .slice a5 S.Ho.length c5] 99)).alloc (.cells #[.int .i64 k, .int .i64 u, .int .i64 f, .int .i64 t] 157)).alloc (.cells #[.slice none 0 0, .slice none 0 0, .slice none 0 0, .slice none 0 0, .slice none 0 0] 99)) = wa at *
      have x0 := hX.cell (k := 0) rfl
      have x1 := hX.cell (k := 1) rfl
      have x2 := hX.cell (k := 2) rfl
      have x3 := hX.cell (k := 3) rfl
      have x4 := hX.cell (k := 4) rfl
      have y0 := hY.cell (k := 0) rfl
      have y1 := hY.cell (k := 1) rfl
      have y2 := hY.cell (k := 2) rfl
      have y3 := hY.cell (k := 3) rfl
      have z0 := hZ.cell (k := 0) rfl
      have z1 := hZ.cell (k := 1) rfl
      have z2 := hZ.cell (k := 2) rfl
      have z3 := hZ.cell (k := 3) rfl
      have z4 := hZ.cell (k := 4) rfl
      have fx0 := hX.free 0
      have fx1 := hX.free 1
      have fx2 := hX.free 2
      have fx3 := hX.free 3
      have fx4 := hX.free 4
      have fz0 := hZ.free 0
      have fz1 := hZ.free 1
      have fz2 := hZ.free 2
      have fz3 := hZ.free 3
      have fz4 := hZ.free 4
      refine (C1.out _).mono ?_
      rintro e w' ⟨rfl, rfl⟩
      go_wp2_with (first | (go_at_call 153; with_reducible refine (C1.out _).mono ?_; rintro e w' ⟨rfl, rfl⟩) | (go_at_call 153; with_reducible refine (C2.out _).mono ?_; rintro e w' ⟨rfl, rfl⟩))
      have hR := (((((hZ.set 0 (.slice a1 S.Re.length c1)).set 1 (.slice a2 S.Ho.length c2)).set 2 (.slice a3 S.Re.length c3)).set 3 (.slice a4 S.Re.length c4)).set 4 (.slice a5 S.Ho.length c5))
      refine bodyPost_ret (results_row_tmp rfl _ _ (w.heap.size + 1 + 1) 99 #[.slice a1 S.Re.length c1, .slice a2 S.Ho.length c2, .slice a3 S.Re.length c3, .slice a4 S.Re.length c4, .slice a5 S.Ho.length c5] (0, 0) _ rfl hR Tryz.underlying99 rfl (by kernel_rfl)) rfl ?_
      exact ⟨rfl, (((((hb.setCell (p := ⟨w.heap.size + 1 + 1, 0, none⟩) (by simp; omega) (.slice a1 S.Re.length c1)).setCell (p := ⟨w.heap.size + 1 + 1, 1, none⟩) (by simp; omega) (.slice a2 S.Ho.length c2)).setCell (p := ⟨w.heap.size + 1 + 1, 2, none⟩) (by simp; omega) (.slice a3 S.Re.length c3)).setCell (p := ⟨w.heap.size + 1 + 1, 3, none⟩) (by simp; omega) (.slice a4 S.Re.length c4)).setCell (p := ⟨w.heap.size + 1 + 1, 4, none⟩) (by simp; omega) (.slice a5 S.Ho.length c5))⟩
  · have C1 := Lib.hid (fun V => Rin_is k 0 3 false V (by simp; omega))
    clear h1 hno
    go_enter Tryz.func129, Tryz.ntmps129
    go_wp2_with fail
    have hX := ((BoxN.new w 99 #[.slice a1 S.Re.length c1, .slice a2 S.Ho.length c2, .slice a3 S.Re.length c3, .slice a4 S.Re.length c4, .slice a5 S.Ho.length c5]).alloc (.cells #[.int .i64 k, .int .i64 u, .int .i64 f, .int .i64 t] 157)).alloc (.cells #[.slice none 0 0, .slice none 0 0, .slice none 0 0, .slice none 0 0, .slice none 0 0] 99)
    have hY := (BoxN.new (w.alloc (.cells #[.slice a1 S.Re.length c1, .slice a2 S.Ho.length c2, .slice a3 S.Re.length c3, .slice a4 S.Re.length c4, .slice a5 S.Ho.length c5] 99)) 157 #[.int .i64 k, .int .i64 u, .int .i64 f, .int .i64 t]).alloc (.cells #[.slice none 0 0, .slice none 0 0, .slice none 0 0, .slice none 0 0, .slice none 0 0] 99)
    have hZ := BoxN.new ((w.alloc (.cells #[.slice a1 S.Re.length c1, .slice a2 S.Ho.length c2, .slice a3 S.Re.length c3, .slice a4 S.Re.length c4, .slice a5 S.Ho.length c5] 99)).alloc (.cells #[.int .i64 k, .int .i64 u, .int .i64 f, .int .i64 t] 157)) 99 #[.slice none 0 0, .slice none 0 0, .slice none 0 0, .slice none 0 0, .slice none 0 0]
    have hb : Below w.heap.size w (((w.alloc (.cells #[.slice a1 S.Re.length c1, .slice a2 S.Ho.length c2, .slice a3 S.Re.length c3, .slice a4 S.Re.length c4, .slice a5 S.Ho.length c5] 99)).alloc (.cells #[.int .i64 k, .int .i64 u, .int .i64 f, .int .i64 t] 157)).alloc (.cells #[.slice none 0 0, .slice none 0 0, .slice none 0 0, .slice none 0 0, .slice none 0 0] 99)) := (((Below.refl _ _).alloc (Nat.le_refl _) _).alloc (by simp) _).alloc (by simp; omega) _
    simp only [World.size_alloc] at hY hZ
    generalize (((w.alloc (.cells #[.slice a1 S.Re.length c1, .slice a2 S.Ho.length c2, .slice a3 S.Re.length c3, .slice a4 S.Re.length c4, .slice a5 S.Ho.length c5] 99)).alloc (.cells #[.int .i64 k, .int .i64 u, .int .i64 f, .int .i64 t] 157)).alloc (.cells #[.slice none 0 0, .slice none 0 0, .slice none 0 0, .slice none 0 0, .slice none 0 0] 99)) = wa at *
    have x0 := hX.cell (k := 0) rfl
    have x1 := hX.cell (k := 1) rfl
    have x2 := hX.cell (k := 2) rfl
    have x3 := hX.cell (k := 3) rfl
    have x4 := hX.cell (k := 4) rfl
    have y0 := hY.cell (k := 0) rfl
    have y1 := hY.cell (k := 1) rfl
    have y2 := hY.cell (k := 2) rfl
    have y3 := hY.cell (k := 3) rfl
    have z0 := hZ.cell (k := 0) rfl
    have z1 := hZ.cell (k := 1) rfl
    have z2 := hZ.cell (k := 2) rfl
    have z3 := hZ.cell (k := 3) rfl
    have z4 := hZ.cell (k := 4) rfl
    have fx0 := hX.free 0
    have fx1 := hX.free 1
    have fx2 := hX.free 2
    have fx3 := hX.free 3
    have fx4 := hX.free 4
    have fz0 := hZ.free 0
    have fz1 := hZ.free 1
    have fz2 := hZ.free 2
    have fz3 := hZ.free 3
    have fz4 := hZ.free 4
    refine (C1.out _).mono ?_
    rintro e w' ⟨rfl, rfl⟩
    go_wp2_with (first | (go_at_call 153; with_reducible refine (C1.out _).mono ?_; rintro e w' ⟨rfl, rfl⟩))
    have hR := (((((hZ.set 0 (.slice a1 S.Re.length c1)).set 1 (.slice a2 S.Ho.length c2)).set 2 (.slice a3 S.Re.length c3)).set 3 (.slice a4 S.Re.length c4)).set 4 (.slice a5 S.Ho.length c5))
    refine bodyPost_ret (results_row_tmp rfl _ _ (w.heap.size + 1 + 1) 99 #[.slice a1 S.Re.length c1, .slice a2 S.Ho.length c2, .slice a3 S.Re.length c3, .slice a4 S.Re.length c4, .slice a5 S.Ho.length c5] (0, 0) _ rfl hR Tryz.underlying99 rfl (by kernel_rfl)) rfl ?_
    exact ⟨rfl, (((((hb.setCell (p := ⟨w.heap.size + 1 + 1, 0, none⟩) (by simp; omega) (.slice a1 S.Re.length c1)).setCell (p := ⟨w.heap.size + 1 + 1, 1, none⟩) (by simp; omega) (.slice a2 S.Ho.length c2)).setCell (p := ⟨w.heap.size + 1 + 1, 2, none⟩) (by simp; omega) (.slice a3 S.Re.length c3)).setCell (p := ⟨w.heap.size + 1 + 1, 3, none⟩) (by simp; omega) (.slice a4 S.Re.length c4)).setCell (p := ⟨w.heap.size + 1 + 1, 4, none⟩) (by simp; omega) (.slice a5 S.Ho.length c5))⟩
set_option maxHeartbeats 4000000 in
theorem AskBell_0 (hI : LInv U F S) (hU : ∀ i, i < S.Re.length → labOk (gI U (i * 2)) (gI U (i * 2 + 1))) (hF : ∀ i, i < S.Ho.length → labOk (gI F (i * 2)) (gI F (i * 2 + 1))) (lU : U.length = S.Re.length * 2) (lF : F.length = S.Ho.length * 2)
    (i1 : IntsIn ok w a1 U) (i2 : IntsIn ok w a2 F) (i3 : IntsIn ok w a3 (castL S.Re)) (i4 : IntsIn ok w a4 (castL S.Wr)) (i5 : IntsIn ok w a5 (castL S.Ho)) (hok : ∀ b, w.heap.size ≤ b → ok b) (u f : Nat) (t : Int) (hu : u < S.Re.length) (hf : f < S.Ho.length) :
    Calls Tryz.prog 129 #[.agg #[.slice a1 S.Re.length c1, .slice a2 S.Ho.length c2, .slice a3 S.Re.length c3, .slice a4 S.Re.length c4, .slice a5 S.Ho.length c5], .agg #[.int .i64 0, .int .i64 u, .int .i64 f, .int .i64 t]] w fun e w' => (∃ v, e = .returned (.tuple #[v, .int .i64 (lAsk U F S 0 u f t).2]) ∧ RL ok w' v U F (lAsk U F S 0 u f t).1) ∧ Below w.heap.size w w' := by
  have hn8 := hI.ln
  have hm8 := hI.lm
  have hlw := hI.lw
  have Hr256 := hI.re_lt u
  have Hw256 := hI.wr_lt u
  have Hh256 := hI.ho_lt f
  have Hbr := Lib.hid (hI.br u)
  have Hbw := Lib.hid (hI.bw u)
  obtain ⟨b1, o1, rfl, j1⟩ := i1.1 (by intro e; simp [e] at lU; omega)
  obtain ⟨b2, o2, rfl, j2⟩ := i2.1 (by intro e; simp [e] at lF; omega)
  obtain ⟨b3, o3, rfl, q3⟩ := i3.1.row hu
  obtain ⟨b4, o4, rfl, q4⟩ := i4.1.row (k := u) (by rw [hlw]; exact hu)
  obtain ⟨b5, o5, rfl, q5⟩ := i5.1.row hf
  have pu0 := Lib.hid (j1 (u * 2) _ (get_gI (by omega)))
  have pv0 := Lib.hid (show w.cell? ⟨b1, o1 + u * 2 + 1, none⟩ = some (.int .i64 (gI U (u * 2 + 1))) from j1 (u * 2 + 1) _ (get_gI (by omega)))
  have pf0 := Lib.hid (j2 (f * 2) _ (get_gI (by omega)))
  have pg0 := Lib.hid (show w.cell? ⟨b2, o2 + f * 2 + 1, none⟩ = some (.int .i64 (gI F (f * 2 + 1))) from j2 (f * 2 + 1) _ (get_gI (by omega)))
  have J2 := Lib.hid (fun x (hx : x < S.Ho.length) => (⟨j2 (x * 2) _ (get_gI (by omega)), j2 (x * 2 + 1) _ (get_gI (by omega))⟩ : w.cell? ⟨b2, o2 + x * 2, none⟩ = some (.int .i64 (gI F (x * 2))) ∧ w.cell? ⟨b2, o2 + x * 2 + 1, none⟩ = some (.int .i64 (gI F (x * 2 + 1)))))
  have q30 := Lib.hid q3
  have q40 := Lib.hid q4
  have q50 := Lib.hid q5
  have r1 : b1 < w.heap.size := block_lt (j1 (u * 2) _ (get_gI (by omega)))
  have r2 : b2 < w.heap.size := block_lt (j2 (f * 2) _ (get_gI (by omega)))
  have r3 : b3 < w.heap.size := block_lt q3
  have r4 : b4 < w.heap.size := block_lt q4
  have r5 : b5 < w.heap.size := block_lt q5
  have lu := hU u hu
  have HlF := Lib.hid hF
  have lf := hF f hf
  have HA := Lib.hid (lAsk_k0 (U := U) (F := F) t hu hf)
  clear j1 j2 q3 q4 q5 hU hF hI
  have C1 := Lib.hid (fun V => Rin_is 0 0 3 true V (by decide))
  have C2 := Lib.hid (fun V => Rin_is (u : Int) 0 ((S.Re.length : Int) - 1) true V (by simp; omega))
  have C3 := Lib.hid (fun V => Rin_is (f : Int) 0 ((S.Ho.length : Int) - 1) true V (by simp; omega))
  go_enter Tryz.func129, Tryz.ntmps129
  go_wp2_with fail
  have hX := ((BoxN.new w 99 #[.slice (some ⟨b1, o1, none⟩) S.Re.length c1, .slice (some ⟨b2, o2, none⟩) S.Ho.length c2, .slice (some ⟨b3, o3, none⟩) S.Re.length c3, .slice (some ⟨b4, o4, none⟩) S.Re.length c4, .slice (some ⟨b5, o5, none⟩) S.Ho.length c5]).alloc (.cells #[.int .i64 0, .int .i64 u, .int .i64 f, .int .i64 t] 157)).alloc (.cells #[.slice none 0 0, .slice none 0 0, .slice none 0 0, .slice none 0 0, .slice none 0 0] 99)
  have hY := (BoxN.new (w.alloc (.cells #[.slice (some ⟨b1, o1, none⟩) S.Re.length c1, .slice (some ⟨b2, o2, none⟩) S.Ho.length c2, .slice (some ⟨b3, o3, none⟩) S.Re.length c3, .slice (some ⟨b4, o4, none⟩) S.Re.length c4, .slice (some ⟨b5, o5, none⟩) S.Ho.length c5] 99)) 157 #[.int .i64 0, .int .i64 u, .int .i64 f, .int .i64 t]).alloc (.cells #[.slice none 0 0, .slice none 0 0, .slice none 0 0, .slice none 0 0, .slice none 0 0] 99)
  have hZ := BoxN.new ((w.alloc (.cells #[.slice (some ⟨b1, o1, none⟩) S.Re.length c1, .slice (some ⟨b2, o2, none⟩) S.Ho.length c2, .slice (some ⟨b3, o3, none⟩) S.Re.length c3, .slice (some ⟨b4, o4, none⟩) S.Re.length c4, .slice (some ⟨b5, o5, none⟩) S.Ho.length c5] 99)).alloc (.cells #[.int .i64 0, .int .i64 u, .int .i64 f, .int .i64 t] 157)) 99 #[.slice none 0 0, .slice none 0 0, .slice none 0 0, .slice none 0 0, .slice none 0 0]
  have hb : Below w.heap.size w (((w.alloc (.cells #[.slice (some ⟨b1, o1, none⟩) S.Re.length c1, .slice (some ⟨b2, o2, none⟩) S.Ho.length c2, .slice (some ⟨b3, o3, none⟩) S.Re.length c3, .slice (some ⟨b4, o4, none⟩) S.Re.length c4, .slice (some ⟨b5, o5, none⟩) S.Ho.length c5] 99)).alloc (.cells #[.int .i64 0, .int .i64 u, .int .i64 f, .int .i64 t] 157)).alloc (.cells #[.slice none 0 0, .slice none 0 0, .slice none 0 0, .slice none 0 0, .slice none 0 0] 99)) := (((Below.refl _ _).alloc (Nat.le_refl _) _).alloc (by simp) _).alloc (by simp; omega) _
  simp only [World.size_alloc] at hY hZ
  generalize (((w.alloc (.cells #[.slice (some ⟨b1, o1, none⟩) S.Re.length c1, .slice (some ⟨b2, o2, none⟩) S.Ho.length c2, .slice (some ⟨b3, o3, none⟩) S.Re.length c3, .slice (some ⟨b4, o4, none⟩) S.Re.length c4, .slice (some ⟨b5, o5, none⟩) S.Ho.length c5] 99)).alloc (.cells #[.int .i64 0, .int .i64 u, .int .i64 f, .int .i64 t] 157)).alloc (.cells #[.slice none 0 0, .slice none 0 0, .slice none 0 0, .slice none 0 0, .slice none 0 0] 99)) = wa at *
  have x0 := hX.cell (k := 0) rfl
  have x1 := hX.cell (k := 1) rfl
  have x2 := hX.cell (k := 2) rfl
  have x3 := hX.cell (k := 3) rfl
  have x4 := hX.cell (k := 4) rfl
  have y0 := hY.cell (k := 0) rfl
  have y1 := hY.cell (k := 1) rfl
  have y2 := hY.cell (k := 2) rfl
  have y3 := hY.cell (k := 3) rfl
  have z0 := hZ.cell (k := 0) rfl
  have z1 := hZ.cell (k := 1) rfl
  have z2 := hZ.cell (k := 2) rfl
  have z3 := hZ.cell (k := 3) rfl
  have z4 := hZ.cell (k := 4) rfl
  have fx0 := hX.free 0
  have fx1 := hX.free 1
  have fx2 := hX.free 2
  have fx3 := hX.free 3
  have fx4 := hX.free 4
  have fz0 := hZ.free 0
  have fz1 := hZ.free 1
  have fz2 := hZ.free 2
  have fz3 := hZ.free 3
  have fz4 := hZ.free 4
  refine (C1.out _).mono ?_
  rintro e w' ⟨rfl, rfl⟩
  have hX0 := Lib.hid hX
  have hY0 := Lib.hid hY
  have hZ0 := Lib.hid hZ
  go_wp2_with (first | (go_at_call 153; with_reducible refine (C1.out _).mono ?_; rintro e w' ⟨rfl, rfl⟩) | (go_at_call 153; with_reducible refine (C2.out _).mono ?_; rintro e w' ⟨rfl, rfl⟩) | (go_at_call 153; with_reducible refine (C3.out _).mono ?_; rintro e w' ⟨rfl, rfl⟩))
  clear C1 C2 C3
  have g_x0 := cell_regrown x0
  have g_x1 := cell_regrown x1
  have g_y0 := cell_regrown y0
  have pu := ((hb).cell (p := ⟨b1, o1 + u * 2, none⟩) r1).trans pu0.out
  have pv := ((hb).cell (p := ⟨b1, o1 + u * 2 + 1, none⟩) r1).trans pv0.out
  have pf := ((hb).cell (p := ⟨b2, o2 + f * 2, none⟩) r2).trans pf0.out
  have pg := ((hb).cell (p := ⟨b2, o2 + f * 2 + 1, none⟩) r2).trans pg0.out
  have g_pu := cell_regrown pu
  have g_pv := cell_regrown pv
  have g_pf := cell_regrown pf
  have g_pg := cell_regrown pg
  obtain ⟨bb, hbb⟩ : ∃ bb, belowL F f U u = bb := ⟨_, rfl⟩
  have Q1 := Lib.hid (fun (d : Nat) (os : Array Obj) => Calls.regrown_of (RBelow_any (gI F (f * 2)) (gI U (u * 2)) (gI F (f * 2 + 1)) (gI U (u * 2 + 1)) lf.2.2 lu.2.2 (Sort.grow (redrawn wa d) os) (r := bb) hbb))
  have Hbb := Lib.hid hbb
  clear hbb
  generalize hxu0 : gI U (u * 2) = xu0 at *
  generalize hxu1 : gI U (u * 2 + 1) = xu1 at *
  clear hxu0 hxu1
  cases bb with
  | false =>
    have HL := Lib.hid (HA.out.trans (if_neg (by rw [Hbb.out]; simp)))
    go_wp2_with fail
    refine wp_region_quiet_below (by kernel_rfl) (by kernel_rfl) ?_
    repeat (go_big_quiet_step (with_reducible exact Q1.out _ _))
    refine wpQuiet_nil ?_
    rintro _ ⟨pq, rfl⟩
    have hbq := below_regrown wa pq.d pq.os
    generalize Sort.grow (redrawn wa pq.d) pq.os = wb at *
    clear x0 x1 x2 x3 x4 y0 y1 y2 y3 z0 z1 z2 z3 z4 fx0 fx1 fx2 fx3 fx4 fz0 fz1 fz2 fz3 fz4
    clear hX hY hZ
    have hX := hX0.out.all hbq
    have hY := hY0.out.all hbq
    have hZ := hZ0.out.all hbq
    have x0 := hX.cell (k := 0) rfl
    have x1 := hX.cell (k := 1) rfl
    have x2 := hX.cell (k := 2) rfl
    have x3 := hX.cell (k := 3) rfl
    have x4 := hX.cell (k := 4) rfl
    have y0 := hY.cell (k := 0) rfl
    have y1 := hY.cell (k := 1) rfl
    have y2 := hY.cell (k := 2) rfl
    have y3 := hY.cell (k := 3) rfl
    have z0 := hZ.cell (k := 0) rfl
    have z1 := hZ.cell (k := 1) rfl
    have z2 := hZ.cell (k := 2) rfl
    have z3 := hZ.cell (k := 3) rfl
    have z4 := hZ.cell (k := 4) rfl
    have fx0 := hX.free 0
    have fx1 := hX.free 1
    have fx2 := hX.free 2
    have fx3 := hX.free 3
    have fx4 := hX.free 4
    have fz0 := hZ.free 0
    have fz1 := hZ.free 1
    have fz2 := hZ.free 2
    have fz3 := hZ.free 3
    have fz4 := hZ.free 4
    have hbf := hb.trans (hbq.mono hb.size)
    go_wp2_with fail
    have hR := (((((hZ.set 0 (.slice (some ⟨b1, o1, none⟩) S.Re.length c1)).set 1 (.slice (some ⟨b2, o2, none⟩) S.Ho.length c2)).set 2 (.slice (some ⟨b3, o3, none⟩) S.Re.length c3)).set 3 (.slice (some ⟨b4, o4, none⟩) S.Re.length c4)).set 4 (.slice (some ⟨b5, o5, none⟩) S.Ho.length c5))
    refine bodyPost_ret (results_row_tmp rfl _ _ (w.heap.size + 1 + 1) 99 #[.slice (some ⟨b1, o1, none⟩) S.Re.length c1, .slice (some ⟨b2, o2, none⟩) S.Ho.length c2, .slice (some ⟨b3, o3, none⟩) S.Re.length c3, .slice (some ⟨b4, o4, none⟩) S.Re.length c4, .slice (some ⟨b5, o5, none⟩) S.Ho.length c5] (0, 0) _ rfl hR Tryz.underlying99 rfl (by kernel_rfl)) rfl ?_
    rw [HL.out]
    have hbe := (((((hbf.setCell (p := ⟨w.heap.size + 1 + 1, 0, none⟩) (by simp; omega) (.slice (some ⟨b1, o1, none⟩) S.Re.length c1)).setCell (p := ⟨w.heap.size + 1 + 1, 1, none⟩) (by simp; omega) (.slice (some ⟨b2, o2, none⟩) S.Ho.length c2)).setCell (p := ⟨w.heap.size + 1 + 1, 2, none⟩) (by simp; omega) (.slice (some ⟨b3, o3, none⟩) S.Re.length c3)).setCell (p := ⟨w.heap.size + 1 + 1, 3, none⟩) (by simp; omega) (.slice (some ⟨b4, o4, none⟩) S.Re.length c4)).setCell (p := ⟨w.heap.size + 1 + 1, 4, none⟩) (by simp; omega) (.slice (some ⟨b5, o5, none⟩) S.Ho.length c5))
    exact ⟨⟨_, rfl, ⟨_, _, _, _, _, _, _, _, _, _, rfl, i1.below hbe, i2.below hbe, i3.below hbe, i4.below hbe, i5.below hbe⟩⟩, hbe⟩
  | true =>
    go_wp2_with fail
    refine wp_region_quiet_below (by kernel_rfl) (by kernel_rfl) ?_
    repeat (go_big_quiet_step (with_reducible exact Q1.out _ _))
    refine wpQuiet_nil ?_
    rintro _ ⟨pq, rfl⟩
    have hbq := below_regrown wa pq.d pq.os
    generalize Sort.grow (redrawn wa pq.d) pq.os = wb at *
    clear Q1 pu pv pf pg g_pu g_pv g_pf g_pg g_x0 g_x1 g_y0 lu pu0 pv0
    clear x0 x1 x2 x3 x4 y0 y1 y2 y3 z0 z1 z2 z3 z4 fx0 fx1 fx2 fx3 fx4 fz0 fz1 fz2 fz3 fz4
    clear hX hY hZ
    go_wp2_with fail
    go_loopw [8] (fun i wr => ∃ (x : Nat), x ≤ S.Ho.length ∧ i = .int .i64 x ∧ Hid (∀ y, y < x → (row S.Wr u).testBit y = true → (fun x => belowL F f F x) y = true) ∧ Below wa.heap.size wa wr) (fun i _ => S.Ho.length - (intOf i).toNat)
    case atStart => exact ⟨0, Nat.zero_le _, rfl, Lib.hid (fun y hy => by omega), hbq⟩
    case round =>
      clear hbq
      obtain ⟨wx, rfl⟩ : ∃ wx : World, wx = wr := ⟨_, rfl⟩
      obtain ⟨x, hx, rfl, hall, hbr⟩ := hrel
      have hbw := hb.trans (hbr.mono hb.size)
      have hX := hX0.out.all hbr
      have hY := hY0.out.all hbr
      have hZ := hZ0.out.all hbr
      have x0 := hX.cell (k := 0) rfl
      have x1 := hX.cell (k := 1) rfl
      have x2 := hX.cell (k := 2) rfl
      have x3 := hX.cell (k := 3) rfl
      have x4 := hX.cell (k := 4) rfl
      have y0 := hY.cell (k := 0) rfl
      have y1 := hY.cell (k := 1) rfl
      have y2 := hY.cell (k := 2) rfl
      have y3 := hY.cell (k := 3) rfl
      have z0 := hZ.cell (k := 0) rfl
      have z1 := hZ.cell (k := 1) rfl
      have z2 := hZ.cell (k := 2) rfl
      have z3 := hZ.cell (k := 3) rfl
      have z4 := hZ.cell (k := 4) rfl
      have fx0 := hX.free 0
      have fx1 := hX.free 1
      have fx2 := hX.free 2
      have fx3 := hX.free 3
      have fx4 := hX.free 4
      have fz0 := hZ.free 0
      have fz1 := hZ.free 1
      have fz2 := hZ.free 2
      have fz3 := hZ.free 3
      have fz4 := hZ.free 4
      by_cases hxn : x < S.Ho.length
      · have hxN : ((x : Nat) : Int) < S.Ho.length := by omega
        have g_x1 := cell_regrown x1
        have g_x3 := cell_regrown x3
        have g_y0 := cell_regrown y0
        have pf := ((hbw).cell (p := ⟨b2, o2 + f * 2, none⟩) r2).trans pf0.out
        have pg := ((hbw).cell (p := ⟨b2, o2 + f * 2 + 1, none⟩) r2).trans pg0.out
        have q4 := ((hbw).cell (p := ⟨b4, o4 + u, none⟩) r4).trans q40.out
        have px := (hbw.cell (p := ⟨b2, o2 + x * 2, none⟩) r2).trans (J2.out x hxn).1
        have py := (hbw.cell (p := ⟨b2, o2 + x * 2 + 1, none⟩) r2).trans (J2.out x hxn).2
        have g_pf := cell_regrown pf
        have g_pg := cell_regrown pg
        have g_q4 := cell_regrown q4
        have g_px := cell_regrown px
        have g_py := cell_regrown py
        have lx := HlF.out x hxn
        obtain ⟨bt, hbt⟩ : ∃ bt, (row S.Wr u).testBit x = bt := ⟨_, rfl⟩
        obtain ⟨bb, hbb⟩ : ∃ bb, belowL F f F x = bb := ⟨_, rfl⟩
        have Q1 := Lib.hid (fun (d : Nat) (os : Array Obj) => Calls.regrown_of (RBit_b (row S.Wr u) x bt (Sort.grow (redrawn wx d) os) (by omega) (by omega) hbt))
        have Q2 := Lib.hid (fun (d : Nat) (os : Array Obj) => Calls.regrown_of (RBelow_any (gI F (f * 2)) (gI F (x * 2)) (gI F (f * 2 + 1)) (gI F (x * 2 + 1)) lf.2.2 lx.2.2 (Sort.grow (redrawn wx d) os) (r := bb) hbb))
        have Hbt := Lib.hid hbt
        have Hbb := Lib.hid hbb
        have Hnext := Lib.hid (fun (h : bt = true → bb = true) y (hy : y < x + 1) (ht : (row S.Wr u).testBit y = true) => show belowL F f F y = true from by
          rcases Nat.lt_or_ge y x with h1 | h1
          · exact hall.out y h1 ht
          · obtain rfl : y = x := by omega
            rw [Hbb.out]; exact h (by rw [← Hbt.out]; exact ht))
        clear hbt hbb lx
        cases bt with
        | false =>
          go_wp2_with fail
          refine wp_region_quiet_below (by kernel_rfl) (by kernel_rfl) ?_
          repeat (go_big_quiet_step (with_reducible exact Q1.out _ _))
          refine wpQuiet_nil ?_
          rintro _ ⟨pq, rfl⟩
          have hbq := below_regrown wx pq.d pq.os
          generalize Sort.grow (redrawn wx pq.d) pq.os = w4 at *
          clear Q1 Q2 g_x1 g_x3 g_y0 g_pf g_pg g_q4 g_px g_py pf pg q4 px py
          have hbr4 := hbr.trans (hbq.mono hbr.size)
          clear x0 x1 x2 x3 x4 y0 y1 y2 y3 z0 z1 z2 z3 z4 fx0 fx1 fx2 fx3 fx4 fz0 fz1 fz2 fz3 fz4
          clear hX hY hZ
          have hX := hX0.out.all hbr4
          have hY := hY0.out.all hbr4
          have hZ := hZ0.out.all hbr4
          have x0 := hX.cell (k := 0) rfl
          have x1 := hX.cell (k := 1) rfl
          have x2 := hX.cell (k := 2) rfl
          have x3 := hX.cell (k := 3) rfl
          have x4 := hX.cell (k := 4) rfl
          have y0 := hY.cell (k := 0) rfl
          have y1 := hY.cell (k := 1) rfl
          have y2 := hY.cell (k := 2) rfl
          have y3 := hY.cell (k := 3) rfl
          have z0 := hZ.cell (k := 0) rfl
          have z1 := hZ.cell (k := 1) rfl
          have z2 := hZ.cell (k := 2) rfl
          have z3 := hZ.cell (k := 3) rfl
          have z4 := hZ.cell (k := 4) rfl
          have fx0 := hX.free 0
          have fx1 := hX.free 1
          have fx2 := hX.free 2
          have fx3 := hX.free 3
          have fx4 := hX.free 4
          have fz0 := hZ.free 0
          have fz1 := hZ.free 1
          have fz2 := hZ.free 2
          have fz3 := hZ.free 3
          have fz4 := hZ.free 4
          clear hbq
          have g4_y0 := cell_regrown y0
          go_wp2_with fail
          refine wp_region_quiet_below (by kernel_rfl) (by kernel_rfl) ?_
          repeat (go_big_quiet_step (fail))
          refine wpQuiet_nil ?_
          rintro _ ⟨pq, rfl⟩
          have hbq := below_regrown w4 pq.d pq.os
          generalize Sort.grow (redrawn w4 pq.d) pq.os = w5 at *
          go_wp2_with fail
          exact ⟨⟨x + 1, by omega, by go_num, Lib.hid (Hnext.out (by simp)), hbr4.trans (hbq.mono hbr4.size)⟩, by simp [intOf]; omega⟩
        | true =>
          cases bb with
          | false =>
            have HL := Lib.hid (HA.out.trans (if_neg (by rw [allIn_not Hbw.out hn8 Hbt.out Hbb.out, Bool.and_false]; simp)))
            go_wp2_with fail
            refine wp_region_quiet_below (by kernel_rfl) (by kernel_rfl) ?_
            repeat (go_big_quiet_step (first | (with_reducible exact Q1.out _ _) | (with_reducible exact Q2.out _ _)))
            refine wpQuiet_nil ?_
            rintro _ ⟨pq, rfl⟩
            have hbq := below_regrown wx pq.d pq.os
            generalize Sort.grow (redrawn wx pq.d) pq.os = w4 at *
            clear Q1 Q2 g_x1 g_x3 g_y0 g_pf g_pg g_q4 g_px g_py pf pg q4 px py
            have hbr4 := hbr.trans (hbq.mono hbr.size)
            have hbf := hb.trans (hbr4.mono hb.size)
            clear x0 x1 x2 x3 x4 y0 y1 y2 y3 z0 z1 z2 z3 z4 fx0 fx1 fx2 fx3 fx4 fz0 fz1 fz2 fz3 fz4
            clear hX hY hZ
            have hX := hX0.out.all hbr4
            have hY := hY0.out.all hbr4
            have hZ := hZ0.out.all hbr4
            have x0 := hX.cell (k := 0) rfl
            have x1 := hX.cell (k := 1) rfl
            have x2 := hX.cell (k := 2) rfl
            have x3 := hX.cell (k := 3) rfl
            have x4 := hX.cell (k := 4) rfl
            have y0 := hY.cell (k := 0) rfl
            have y1 := hY.cell (k := 1) rfl
            have y2 := hY.cell (k := 2) rfl
            have y3 := hY.cell (k := 3) rfl
            have z0 := hZ.cell (k := 0) rfl
            have z1 := hZ.cell (k := 1) rfl
            have z2 := hZ.cell (k := 2) rfl
            have z3 := hZ.cell (k := 3) rfl
            have z4 := hZ.cell (k := 4) rfl
            have fx0 := hX.free 0
            have fx1 := hX.free 1
            have fx2 := hX.free 2
            have fx3 := hX.free 3
            have fx4 := hX.free 4
            have fz0 := hZ.free 0
            have fz1 := hZ.free 1
            have fz2 := hZ.free 2
            have fz3 := hZ.free 3
            have fz4 := hZ.free 4
            go_wp2_with fail
            have hR := (((((hZ.set 0 (.slice (some ⟨b1, o1, none⟩) S.Re.length c1)).set 1 (.slice (some ⟨b2, o2, none⟩) S.Ho.length c2)).set 2 (.slice (some ⟨b3, o3, none⟩) S.Re.length c3)).set 3 (.slice (some ⟨b4, o4, none⟩) S.Re.length c4)).set 4 (.slice (some ⟨b5, o5, none⟩) S.Ho.length c5))
            refine bodyPost_ret (results_row_tmp rfl _ _ (w.heap.size + 1 + 1) 99 #[.slice (some ⟨b1, o1, none⟩) S.Re.length c1, .slice (some ⟨b2, o2, none⟩) S.Ho.length c2, .slice (some ⟨b3, o3, none⟩) S.Re.length c3, .slice (some ⟨b4, o4, none⟩) S.Re.length c4, .slice (some ⟨b5, o5, none⟩) S.Ho.length c5] (0, 0) _ rfl hR Tryz.underlying99 rfl (by kernel_rfl)) rfl ?_
            rw [HL.out]
            have hbe := (((((hbf.setCell (p := ⟨w.heap.size + 1 + 1, 0, none⟩) (by simp; omega) (.slice (some ⟨b1, o1, none⟩) S.Re.length c1)).setCell (p := ⟨w.heap.size + 1 + 1, 1, none⟩) (by simp; omega) (.slice (some ⟨b2, o2, none⟩) S.Ho.length c2)).setCell (p := ⟨w.heap.size + 1 + 1, 2, none⟩) (by simp; omega) (.slice (some ⟨b3, o3, none⟩) S.Re.length c3)).setCell (p := ⟨w.heap.size + 1 + 1, 3, none⟩) (by simp; omega) (.slice (some ⟨b4, o4, none⟩) S.Re.length c4)).setCell (p := ⟨w.heap.size + 1 + 1, 4, none⟩) (by simp; omega) (.slice (some ⟨b5, o5, none⟩) S.Ho.length c5))
            exact ⟨⟨_, rfl, ⟨_, _, _, _, _, _, _, _, _, _, rfl, i1.below hbe, i2.below hbe, i3.below hbe, i4.below hbe, i5.below hbe⟩⟩, hbe⟩
          | true =>
            go_wp2_with fail
            refine wp_region_quiet_below (by kernel_rfl) (by kernel_rfl) ?_
            repeat (go_big_quiet_step (first | (with_reducible exact Q1.out _ _) | (with_reducible exact Q2.out _ _)))
            refine wpQuiet_nil ?_
            rintro _ ⟨pq, rfl⟩
            have hbq := below_regrown wx pq.d pq.os
            generalize Sort.grow (redrawn wx pq.d) pq.os = w4 at *
            clear Q1 Q2 g_x1 g_x3 g_y0 g_pf g_pg g_q4 g_px g_py pf pg q4 px py
            have hbr4 := hbr.trans (hbq.mono hbr.size)
            clear x0 x1 x2 x3 x4 y0 y1 y2 y3 z0 z1 z2 z3 z4 fx0 fx1 fx2 fx3 fx4 fz0 fz1 fz2 fz3 fz4
            clear hX hY hZ
            have hX := hX0.out.all hbr4
            have hY := hY0.out.all hbr4
            have hZ := hZ0.out.all hbr4
            have x0 := hX.cell (k := 0) rfl
            have x1 := hX.cell (k := 1) rfl
            have x2 := hX.cell (k := 2) rfl
            have x3 := hX.cell (k := 3) rfl
            have x4 := hX.cell (k := 4) rfl
            have y0 := hY.cell (k := 0) rfl
            have y1 := hY.cell (k := 1) rfl
            have y2 := hY.cell (k := 2) rfl
            have y3 := hY.cell (k := 3) rfl
            have z0 := hZ.cell (k := 0) rfl
            have z1 := hZ.cell (k := 1) rfl
            have z2 := hZ.cell (k := 2) rfl
            have z3 := hZ.cell (k := 3) rfl
            have z4 := hZ.cell (k := 4) rfl
            have fx0 := hX.free 0
            have fx1 := hX.free 1
            have fx2 := hX.free 2
            have fx3 := hX.free 3
            have fx4 := hX.free 4
            have fz0 := hZ.free 0
            have fz1 := hZ.free 1
            have fz2 := hZ.free 2
            have fz3 := hZ.free 3
            have fz4 := hZ.free 4
            clear hbq
            have g4_y0 := cell_regrown y0
            go_wp2_with fail
            refine wp_region_quiet_below (by kernel_rfl) (by kernel_rfl) ?_
            repeat (go_big_quiet_step (fail))
            refine wpQuiet_nil ?_
            rintro _ ⟨pq, rfl⟩
            have hbq := below_regrown w4 pq.d pq.os
            generalize Sort.grow (redrawn w4 pq.d) pq.os = w5 at *
            go_wp2_with fail
            exact ⟨⟨x + 1, by omega, by go_num, Lib.hid (Hnext.out (by simp)), hbr4.trans (hbq.mono hbr4.size)⟩, by simp [intOf]; omega⟩
      · have hxe : x = S.Ho.length := by omega
        subst hxe
        clear hx hxn
        have hxN : ¬ ((S.Ho.length : Nat) : Int) < S.Ho.length := by omega
        have HL := Lib.hid (HA.out.trans (if_pos (by rw [Hbb.out, allIn_of Hbw.out hn8 hall.out]; rfl)))
        clear hall
        have g_y0 := cell_regrown y0
        go_wp2_with fail
        refine wp_region_quiet_below (by kernel_rfl) (by kernel_rfl) ?_
        repeat (go_big_quiet_step (fail))
        refine wpQuiet_nil ?_
        rintro _ ⟨pq, rfl⟩
        have hbq := below_regrown wx pq.d pq.os
        generalize Sort.grow (redrawn wx pq.d) pq.os = w4 at *
        clear g_y0
        have hbr4 := hbr.trans (hbq.mono hbr.size)
        have hbw4 := hb.trans (hbr4.mono hb.size)
        clear hbq hbr hbw
        clear x0 x1 x2 x3 x4 y0 y1 y2 y3 z0 z1 z2 z3 z4 fx0 fx1 fx2 fx3 fx4 fz0 fz1 fz2 fz3 fz4
        clear hX hY hZ
        have hX := hX0.out.all hbr4
        have hY := hY0.out.all hbr4
        have hZ := hZ0.out.all hbr4
        have x0 := hX.cell (k := 0) rfl
        have x1 := hX.cell (k := 1) rfl
        have x2 := hX.cell (k := 2) rfl
        have x3 := hX.cell (k := 3) rfl
        have x4 := hX.cell (k := 4) rfl
        have y0 := hY.cell (k := 0) rfl
        have y1 := hY.cell (k := 1) rfl
        have y2 := hY.cell (k := 2) rfl
        have y3 := hY.cell (k := 3) rfl
        have z0 := hZ.cell (k := 0) rfl
        have z1 := hZ.cell (k := 1) rfl
        have z2 := hZ.cell (k := 2) rfl
        have z3 := hZ.cell (k := 3) rfl
        have z4 := hZ.cell (k := 4) rfl
        have fx0 := hX.free 0
        have fx1 := hX.free 1
        have fx2 := hX.free 2
        have fx3 := hX.free 3
        have fx4 := hX.free 4
        have fz0 := hZ.free 0
        have fz1 := hZ.free 1
        have fz2 := hZ.free 2
        have fz3 := hZ.free 3
        have fz4 := hZ.free 4
        have q3 := ((hbw4).cell (p := ⟨b3, o3 + u, none⟩) r3).trans q30.out
        have CW := Lib.hid (fun V => (With_any (row S.Re u) f V (by omega) (by omega)).mono fun e w' ⟨he, hw⟩ => (⟨he, hw.symm⟩ : e = _ ∧ w' = V))
        have CP := CW
        have CS := Lib.hid (fun x V (hV : Below w.heap.size w V) => by have := Rset_any (castL S.Re) u (x : Nat) (some ⟨b3, o3, none⟩) c3 V (i3.1.below hV) (by rw [length_castL]; omega); simp only [List.length_set, length_castL] at this; exact this)
        have hne : castL S.Re ≠ [] := by intro e; have := congrArg List.length e; rw [length_castL] at this; simp only [List.length_nil] at this; omega
        go_wp2_with fail
        refine wp_still_tailD 10 (by kernel_rfl) (by kernel_rfl) ?_
        simp only [List.take_succ_cons, List.take_zero, List.drop_succ_cons, List.drop_zero]
        repeat (first | still_step | still_call (CW.out _) | still_call (CP.out _))
        refine wpStill_nil ?_
        go_wp2_with fail
        refine (CS.out _ _ hbw4.drew).mono ?_
        rintro e w1 ⟨⟨A1, d1, rfl, -, hown⟩, hb1⟩
        obtain ⟨g, rfl, hg, ho⟩ := hown hne
        have hX1 := hX.drew.all hb1
        have hZ1 := hZ.drew.all hb1
        have hY1 := hY.drew.all hb1
        have hww : w.heap.size ≤ w4.drew.heap.size := hbw4.drew.size
        have hb01 := hbw4.drew.trans (hb1.mono hww)
        have ngX : g ≠ w.heap.size := ho.ne_box hX1 (by decide)
        have ngZ : g ≠ w.heap.size + 1 + 1 := ho.ne_box hZ1 (by decide)
        clear x0 x1 x2 x3 x4 y0 y1 y2 y3 z0 z1 z2 z3 z4 fx0 fx1 fx2 fx3 fx4 fz0 fz1 fz2 fz3 fz4
        clear hX hY hZ
        clear hown CS
        have x0 := hX1.cell (k := 0) rfl
        have x1 := hX1.cell (k := 1) rfl
        have x2 := hX1.cell (k := 2) rfl
        have x3 := hX1.cell (k := 3) rfl
        have x4 := hX1.cell (k := 4) rfl
        have y0 := hY1.cell (k := 0) rfl
        have y1 := hY1.cell (k := 1) rfl
        have y2 := hY1.cell (k := 2) rfl
        have y3 := hY1.cell (k := 3) rfl
        have z0 := hZ1.cell (k := 0) rfl
        have z1 := hZ1.cell (k := 1) rfl
        have z2 := hZ1.cell (k := 2) rfl
        have z3 := hZ1.cell (k := 3) rfl
        have z4 := hZ1.cell (k := 4) rfl
        have fx0 := hX1.free 0
        have fx1 := hX1.free 1
        have fx2 := hX1.free 2
        have fx3 := hX1.free 3
        have fx4 := hX1.free 4
        have fz0 := hZ1.free 0
        have fz1 := hZ1.free 1
        have fz2 := hZ1.free 2
        have fz3 := hZ1.free 3
        have fz4 := hZ1.free 4
        go_wp2_with fail
        have hR := ((((((hZ1.other (a := ⟨w.heap.size, 2, none⟩) (by simp; omega) (.slice (some ⟨g, 0, none⟩) S.Re.length d1)).set 0 (.slice (some ⟨b1, o1, none⟩) S.Re.length c1)).set 1 (.slice (some ⟨b2, o2, none⟩) S.Ho.length c2)).set 2 (.slice (some ⟨g, 0, none⟩) S.Re.length d1)).set 3 (.slice (some ⟨b4, o4, none⟩) S.Re.length c4)).set 4 (.slice (some ⟨b5, o5, none⟩) S.Ho.length c5))
        refine bodyPost_ret (results_row_tmp rfl _ _ (w.heap.size + 1 + 1) 99 #[.slice (some ⟨b1, o1, none⟩) S.Re.length c1, .slice (some ⟨b2, o2, none⟩) S.Ho.length c2, .slice (some ⟨g, 0, none⟩) S.Re.length d1, .slice (some ⟨b4, o4, none⟩) S.Re.length c4, .slice (some ⟨b5, o5, none⟩) S.Ho.length c5] (0, 0) _ rfl hR Tryz.underlying99 rfl (by kernel_rfl)) rfl ?_
        have hof := ((((((ho.far (a := ⟨w.heap.size, 2, none⟩) ngX (.slice (some ⟨g, 0, none⟩) S.Re.length d1)).far (a := ⟨w.heap.size + 1 + 1, 0, none⟩) ngZ (.slice (some ⟨b1, o1, none⟩) S.Re.length c1)).far (a := ⟨w.heap.size + 1 + 1, 1, none⟩) ngZ (.slice (some ⟨b2, o2, none⟩) S.Ho.length c2)).far (a := ⟨w.heap.size + 1 + 1, 2, none⟩) ngZ (.slice (some ⟨g, 0, none⟩) S.Re.length d1)).far (a := ⟨w.heap.size + 1 + 1, 3, none⟩) ngZ (.slice (some ⟨b4, o4, none⟩) S.Re.length c4)).far (a := ⟨w.heap.size + 1 + 1, 4, none⟩) ngZ (.slice (some ⟨b5, o5, none⟩) S.Ho.length c5))
        have hbf := ((((((hb01.setCell (p := ⟨w.heap.size, 2, none⟩) (by simp) (.slice (some ⟨g, 0, none⟩) S.Re.length d1)).setCell (p := ⟨w.heap.size + 1 + 1, 0, none⟩) (by simp; omega) (.slice (some ⟨b1, o1, none⟩) S.Re.length c1)).setCell (p := ⟨w.heap.size + 1 + 1, 1, none⟩) (by simp; omega) (.slice (some ⟨b2, o2, none⟩) S.Ho.length c2)).setCell (p := ⟨w.heap.size + 1 + 1, 2, none⟩) (by simp; omega) (.slice (some ⟨g, 0, none⟩) S.Re.length d1)).setCell (p := ⟨w.heap.size + 1 + 1, 3, none⟩) (by simp; omega) (.slice (some ⟨b4, o4, none⟩) S.Re.length c4)).setCell (p := ⟨w.heap.size + 1 + 1, 4, none⟩) (by simp; omega) (.slice (some ⟨b5, o5, none⟩) S.Ho.length c5))
        rw [HL.out]
        exact ⟨⟨_, rfl, ⟨some ⟨b1, o1, none⟩, some ⟨b2, o2, none⟩, some ⟨g, 0, none⟩, some ⟨b4, o4, none⟩, some ⟨b5, o5, none⟩, c1, c2, d1, c4, c5, by simp, i1.below hbf, i2.below hbf, ⟨by show IntsAt _ _ (castL (S.Re.set u _)); rw [castL_set]; exact hof.ints, fun b off e _ => by cases e; exact hok _ (Nat.le_trans hww hg)⟩, i4.below hbf, i5.below hbf⟩⟩, hbf⟩
set_option maxHeartbeats 4000000 in
theorem AskBell_1 (hI : LInv U F S) (hU : ∀ i, i < S.Re.length → labOk (gI U (i * 2)) (gI U (i * 2 + 1))) (hF : ∀ i, i < S.Ho.length → labOk (gI F (i * 2)) (gI F (i * 2 + 1))) (lU : U.length = S.Re.length * 2) (lF : F.length = S.Ho.length * 2)
    (i1 : IntsIn ok w a1 U) (i2 : IntsIn ok w a2 F) (i3 : IntsIn ok w a3 (castL S.Re)) (i4 : IntsIn ok w a4 (castL S.Wr)) (i5 : IntsIn ok w a5 (castL S.Ho)) (hok : ∀ b, w.heap.size ≤ b → ok b) (u f : Nat) (t : Int) (hu : u < S.Re.length) (hf : f < S.Ho.length) :
    Calls Tryz.prog 129 #[.agg #[.slice a1 S.Re.length c1, .slice a2 S.Ho.length c2, .slice a3 S.Re.length c3, .slice a4 S.Re.length c4, .slice a5 S.Ho.length c5], .agg #[.int .i64 1, .int .i64 u, .int .i64 f, .int .i64 t]] w fun e w' => (∃ v, e = .returned (.tuple #[v, .int .i64 (lAsk U F S 1 u f t).2]) ∧ RL ok w' v U F (lAsk U F S 1 u f t).1) ∧ Below w.heap.size w w' := by
  have hn8 := hI.ln
  have hm8 := hI.lm
  have hlw := hI.lw
  have Hr256 := hI.re_lt u
  have Hw256 := hI.wr_lt u
  have Hh256 := hI.ho_lt f
  have Hbr := Lib.hid (hI.br u)
  have Hbw := Lib.hid (hI.bw u)
  obtain ⟨b1, o1, rfl, j1⟩ := i1.1 (by intro e; simp [e] at lU; omega)
  obtain ⟨b2, o2, rfl, j2⟩ := i2.1 (by intro e; simp [e] at lF; omega)
  obtain ⟨b3, o3, rfl, q3⟩ := i3.1.row hu
  obtain ⟨b4, o4, rfl, q4⟩ := i4.1.row (k := u) (by rw [hlw]; exact hu)
  obtain ⟨b5, o5, rfl, q5⟩ := i5.1.row hf
  have pu0 := Lib.hid (j1 (u * 2) _ (get_gI (by omega)))
  have pv0 := Lib.hid (show w.cell? ⟨b1, o1 + u * 2 + 1, none⟩ = some (.int .i64 (gI U (u * 2 + 1))) from j1 (u * 2 + 1) _ (get_gI (by omega)))
  have pf0 := Lib.hid (j2 (f * 2) _ (get_gI (by omega)))
  have pg0 := Lib.hid (show w.cell? ⟨b2, o2 + f * 2 + 1, none⟩ = some (.int .i64 (gI F (f * 2 + 1))) from j2 (f * 2 + 1) _ (get_gI (by omega)))
  have J2 := Lib.hid (fun x (hx : x < S.Ho.length) => (⟨j2 (x * 2) _ (get_gI (by omega)), j2 (x * 2 + 1) _ (get_gI (by omega))⟩ : w.cell? ⟨b2, o2 + x * 2, none⟩ = some (.int .i64 (gI F (x * 2))) ∧ w.cell? ⟨b2, o2 + x * 2 + 1, none⟩ = some (.int .i64 (gI F (x * 2 + 1)))))
  have q30 := Lib.hid q3
  have q40 := Lib.hid q4
  have q50 := Lib.hid q5
  have r1 : b1 < w.heap.size := block_lt (j1 (u * 2) _ (get_gI (by omega)))
  have r2 : b2 < w.heap.size := block_lt (j2 (f * 2) _ (get_gI (by omega)))
  have r3 : b3 < w.heap.size := block_lt q3
  have r4 : b4 < w.heap.size := block_lt q4
  have r5 : b5 < w.heap.size := block_lt q5
  have lu := hU u hu
  have HlF := Lib.hid hF
  have lf := hF f hf
  have HA := Lib.hid (lAsk_k1 (U := U) (F := F) t hu hf)
  clear j1 j2 q3 q4 q5 hU hF hI
  have C1 := Lib.hid (fun V => Rin_is 1 0 3 true V (by decide))
  have C2 := Lib.hid (fun V => Rin_is (u : Int) 0 ((S.Re.length : Int) - 1) true V (by simp; omega))
  have C3 := Lib.hid (fun V => Rin_is (f : Int) 0 ((S.Ho.length : Int) - 1) true V (by simp; omega))
  go_enter Tryz.func129, Tryz.ntmps129
  go_wp2_with fail
  have hX := ((BoxN.new w 99 #[.slice (some ⟨b1, o1, none⟩) S.Re.length c1, .slice (some ⟨b2, o2, none⟩) S.Ho.length c2, .slice (some ⟨b3, o3, none⟩) S.Re.length c3, .slice (some ⟨b4, o4, none⟩) S.Re.length c4, .slice (some ⟨b5, o5, none⟩) S.Ho.length c5]).alloc (.cells #[.int .i64 1, .int .i64 u, .int .i64 f, .int .i64 t] 157)).alloc (.cells #[.slice none 0 0, .slice none 0 0, .slice none 0 0, .slice none 0 0, .slice none 0 0] 99)
  have hY := (BoxN.new (w.alloc (.cells #[.slice (some ⟨b1, o1, none⟩) S.Re.length c1, .slice (some ⟨b2, o2, none⟩) S.Ho.length c2, .slice (some ⟨b3, o3, none⟩) S.Re.length c3, .slice (some ⟨b4, o4, none⟩) S.Re.length c4, .slice (some ⟨b5, o5, none⟩) S.Ho.length c5] 99)) 157 #[.int .i64 1, .int .i64 u, .int .i64 f, .int .i64 t]).alloc (.cells #[.slice none 0 0, .slice none 0 0, .slice none 0 0, .slice none 0 0, .slice none 0 0] 99)
  have hZ := BoxN.new ((w.alloc (.cells #[.slice (some ⟨b1, o1, none⟩) S.Re.length c1, .slice (some ⟨b2, o2, none⟩) S.Ho.length c2, .slice (some ⟨b3, o3, none⟩) S.Re.length c3, .slice (some ⟨b4, o4, none⟩) S.Re.length c4, .slice (some ⟨b5, o5, none⟩) S.Ho.length c5] 99)).alloc (.cells #[.int .i64 1, .int .i64 u, .int .i64 f, .int .i64 t] 157)) 99 #[.slice none 0 0, .slice none 0 0, .slice none 0 0, .slice none 0 0, .slice none 0 0]
  have hb : Below w.heap.size w (((w.alloc (.cells #[.slice (some ⟨b1, o1, none⟩) S.Re.length c1, .slice (some ⟨b2, o2, none⟩) S.Ho.length c2, .slice (some ⟨b3, o3, none⟩) S.Re.length c3, .slice (some ⟨b4, o4, none⟩) S.Re.length c4, .slice (some ⟨b5, o5, none⟩) S.Ho.length c5] 99)).alloc (.cells #[.int .i64 1, .int .i64 u, .int .i64 f, .int .i64 t] 157)).alloc (.cells #[.slice none 0 0, .slice none 0 0, .slice none 0 0, .slice none 0 0, .slice none 0 0] 99)) := (((Below.refl _ _).alloc (Nat.le_refl _) _).alloc (by simp) _).alloc (by simp; omega) _
  simp only [World.size_alloc] at hY hZ
  generalize (((w.alloc (.cells #[.slice (some ⟨b1, o1, none⟩) S.Re.length c1, .slice (some ⟨b2, o2, none⟩) S.Ho.length c2, .slice (some ⟨b3, o3, none⟩) S.Re.length c3, .slice (some ⟨b4, o4, none⟩) S.Re.length c4, .slice (some ⟨b5, o5, none⟩) S.Ho.length c5] 99)).alloc (.cells #[.int .i64 1, .int .i64 u, .int .i64 f, .int .i64 t] 157)).alloc (.cells #[.slice none 0 0, .slice none 0 0, .slice none 0 0, .slice none 0 0, .slice none 0 0] 99)) = wa at *
  have x0 := hX.cell (k := 0) rfl
  have x1 := hX.cell (k := 1) rfl
  have x2 := hX.cell (k := 2) rfl
  have x3 := hX.cell (k := 3) rfl
  have x4 := hX.cell (k := 4) rfl
  have y0 := hY.cell (k := 0) rfl
  have y1 := hY.cell (k := 1) rfl
  have y2 := hY.cell (k := 2) rfl
  have y3 := hY.cell (k := 3) rfl
  have z0 := hZ.cell (k := 0) rfl
  have z1 := hZ.cell (k := 1) rfl
  have z2 := hZ.cell (k := 2) rfl
  have z3 := hZ.cell (k := 3) rfl
  have z4 := hZ.cell (k := 4) rfl
  have fx0 := hX.free 0
  have fx1 := hX.free 1
  have fx2 := hX.free 2
  have fx3 := hX.free 3
  have fx4 := hX.free 4
  have fz0 := hZ.free 0
  have fz1 := hZ.free 1
  have fz2 := hZ.free 2
  have fz3 := hZ.free 3
  have fz4 := hZ.free 4
  refine (C1.out _).mono ?_
  rintro e w' ⟨rfl, rfl⟩
  have hX0 := Lib.hid hX
  have hY0 := Lib.hid hY
  have hZ0 := Lib.hid hZ
  go_wp2_with (first | (go_at_call 153; with_reducible refine (C1.out _).mono ?_; rintro e w' ⟨rfl, rfl⟩) | (go_at_call 153; with_reducible refine (C2.out _).mono ?_; rintro e w' ⟨rfl, rfl⟩) | (go_at_call 153; with_reducible refine (C3.out _).mono ?_; rintro e w' ⟨rfl, rfl⟩))
  clear C1 C2 C3
  have g_x0 := cell_regrown x0
  have g_x1 := cell_regrown x1
  have g_y0 := cell_regrown y0
  go_wp2_with fail
  refine wp_region_quiet_below (by kernel_rfl) (by kernel_rfl) ?_
  repeat (go_big_quiet_step (fail))
  refine wpQuiet_nil ?_
  rintro _ ⟨pq, rfl⟩
  have hbq := below_regrown wa pq.d pq.os
  generalize Sort.grow (redrawn wa pq.d) pq.os = wb at *
  clear g_x0 g_x1 g_y0 lu pu0 pv0
  clear x0 x1 x2 x3 x4 y0 y1 y2 y3 z0 z1 z2 z3 z4 fx0 fx1 fx2 fx3 fx4 fz0 fz1 fz2 fz3 fz4
  clear hX hY hZ
  go_wp2_with fail
  go_loopw [8] (fun i wr => ∃ (x : Nat), x ≤ S.Ho.length ∧ i = .int .i64 x ∧ Hid (∀ y, y < x → (row S.Re u).testBit y = true → (fun x => belowL F x F f) y = true) ∧ Below wa.heap.size wa wr) (fun i _ => S.Ho.length - (intOf i).toNat)
  case atStart => exact ⟨0, Nat.zero_le _, rfl, Lib.hid (fun y hy => by omega), hbq⟩
  case round =>
    clear hbq
    obtain ⟨wx, rfl⟩ : ∃ wx : World, wx = wr := ⟨_, rfl⟩
    obtain ⟨x, hx, rfl, hall, hbr⟩ := hrel
    have hbw := hb.trans (hbr.mono hb.size)
    have hX := hX0.out.all hbr
    have hY := hY0.out.all hbr
    have hZ := hZ0.out.all hbr
    have x0 := hX.cell (k := 0) rfl
    have x1 := hX.cell (k := 1) rfl
    have x2 := hX.cell (k := 2) rfl
    have x3 := hX.cell (k := 3) rfl
    have x4 := hX.cell (k := 4) rfl
    have y0 := hY.cell (k := 0) rfl
    have y1 := hY.cell (k := 1) rfl
    have y2 := hY.cell (k := 2) rfl
    have y3 := hY.cell (k := 3) rfl
    have z0 := hZ.cell (k := 0) rfl
    have z1 := hZ.cell (k := 1) rfl
    have z2 := hZ.cell (k := 2) rfl
    have z3 := hZ.cell (k := 3) rfl
    have z4 := hZ.cell (k := 4) rfl
    have fx0 := hX.free 0
    have fx1 := hX.free 1
    have fx2 := hX.free 2
    have fx3 := hX.free 3
    have fx4 := hX.free 4
    have fz0 := hZ.free 0
    have fz1 := hZ.free 1
    have fz2 := hZ.free 2
    have fz3 := hZ.free 3
    have fz4 := hZ.free 4
    by_cases hxn : x < S.Ho.length
    · have hxN : ((x : Nat) : Int) < S.Ho.length := by omega
      have g_y0 := cell_regrown y0
      go_wp2_with fail
      refine wp_region_quiet_below (by kernel_rfl) (by kernel_rfl) ?_
      repeat (go_big_quiet_step (fail))
      refine wpQuiet_nil ?_
      rintro _ ⟨pq, rfl⟩
      have hbq := below_regrown wx pq.d pq.os
      generalize Sort.grow (redrawn wx pq.d) pq.os = w4 at *
      clear g_y0
      have hbr4 := hbr.trans (hbq.mono hbr.size)
      have hbw4 := hb.trans (hbr4.mono hb.size)
      clear hbq
      clear x0 x1 x2 x3 x4 y0 y1 y2 y3 z0 z1 z2 z3 z4 fx0 fx1 fx2 fx3 fx4 fz0 fz1 fz2 fz3 fz4
      clear hX hY hZ
      have hX := hX0.out.all hbr4
      have hY := hY0.out.all hbr4
      have hZ := hZ0.out.all hbr4
      have x0 := hX.cell (k := 0) rfl
      have x1 := hX.cell (k := 1) rfl
      have x2 := hX.cell (k := 2) rfl
      have x3 := hX.cell (k := 3) rfl
      have x4 := hX.cell (k := 4) rfl
      have y0 := hY.cell (k := 0) rfl
      have y1 := hY.cell (k := 1) rfl
      have y2 := hY.cell (k := 2) rfl
      have y3 := hY.cell (k := 3) rfl
      have z0 := hZ.cell (k := 0) rfl
      have z1 := hZ.cell (k := 1) rfl
      have z2 := hZ.cell (k := 2) rfl
      have z3 := hZ.cell (k := 3) rfl
      have z4 := hZ.cell (k := 4) rfl
      have fx0 := hX.free 0
      have fx1 := hX.free 1
      have fx2 := hX.free 2
      have fx3 := hX.free 3
      have fx4 := hX.free 4
      have fz0 := hZ.free 0
      have fz1 := hZ.free 1
      have fz2 := hZ.free 2
      have fz3 := hZ.free 3
      have fz4 := hZ.free 4
      go_wp2_with fail
      have g_x1 := cell_regrown x1
      have g_x2 := cell_regrown x2
      have g_y0 := cell_regrown y0
      have pf := ((hbw4).cell (p := ⟨b2, o2 + f * 2, none⟩) r2).trans pf0.out
      have pg := ((hbw4).cell (p := ⟨b2, o2 + f * 2 + 1, none⟩) r2).trans pg0.out
      have q3 := ((hbw4).cell (p := ⟨b3, o3 + u, none⟩) r3).trans q30.out
      have px := (hbw4.cell (p := ⟨b2, o2 + x * 2, none⟩) r2).trans (J2.out x hxn).1
      have py := (hbw4.cell (p := ⟨b2, o2 + x * 2 + 1, none⟩) r2).trans (J2.out x hxn).2
      have g_pf := cell_regrown pf
      have g_pg := cell_regrown pg
      have g_q3 := cell_regrown q3
      have g_px := cell_regrown px
      have g_py := cell_regrown py
      have lx := HlF.out x hxn
      obtain ⟨bt, hbt⟩ : ∃ bt, (row S.Re u).testBit x = bt := ⟨_, rfl⟩
      obtain ⟨bb, hbb⟩ : ∃ bb, belowL F x F f = bb := ⟨_, rfl⟩
      have Q1 := Lib.hid (fun (d : Nat) (os : Array Obj) => Calls.regrown_of (RBit_b (row S.Re u) x bt (Sort.grow (redrawn w4 d) os) (by omega) (by omega) hbt))
      have Q2 := Lib.hid (fun (d : Nat) (os : Array Obj) => Calls.regrown_of (RBelow_any (gI F (x * 2)) (gI F (f * 2)) (gI F (x * 2 + 1)) (gI F (f * 2 + 1)) lx.2.2 lf.2.2 (Sort.grow (redrawn w4 d) os) (r := bb) hbb))
      have Hbt := Lib.hid hbt
      have Hbb := Lib.hid hbb
      have Hnext := Lib.hid (fun (h : bt = true → bb = true) y (hy : y < x + 1) (ht : (row S.Re u).testBit y = true) => show belowL F y F f = true from by
        rcases Nat.lt_or_ge y x with h1 | h1
        · exact hall.out y h1 ht
        · obtain rfl : y = x := by omega
          rw [Hbb.out]; exact h (by rw [← Hbt.out]; exact ht))
      clear hbt hbb lx
      cases bt with
      | false =>
        go_wp2_with fail
        refine wp_region_quiet_below (by kernel_rfl) (by kernel_rfl) ?_
        repeat (go_big_quiet_step (with_reducible exact Q1.out _ _))
        refine wpQuiet_nil ?_
        rintro _ ⟨pq, rfl⟩
        have hbq := below_regrown w4 pq.d pq.os
        generalize Sort.grow (redrawn w4 pq.d) pq.os = w5 at *
        clear Q1 Q2 g_x1 g_x2 g_y0 g_pf g_pg g_q3 g_px g_py pf pg q3 px py
        go_wp2_with fail
        exact ⟨⟨x + 1, by omega, by go_num, Lib.hid (Hnext.out (by simp)), hbr4.trans (hbq.mono hbr4.size)⟩, by simp [intOf]; omega⟩
      | true =>
        cases bb with
        | false =>
          have HL := Lib.hid (HA.out.trans (if_neg (by rw [allIn_not Hbr.out hn8 Hbt.out Hbb.out]; simp)))
          go_wp2_with fail
          refine wp_region_quiet_below (by kernel_rfl) (by kernel_rfl) ?_
          repeat (go_big_quiet_step (first | (with_reducible exact Q1.out _ _) | (with_reducible exact Q2.out _ _)))
          refine wpQuiet_nil ?_
          rintro _ ⟨pq, rfl⟩
          have hbq := below_regrown w4 pq.d pq.os
          generalize Sort.grow (redrawn w4 pq.d) pq.os = w5 at *
          clear Q1 Q2 g_x1 g_x2 g_y0 g_pf g_pg g_q3 g_px g_py pf pg q3 px py
          have hbr5 := hbr4.trans (hbq.mono hbr4.size)
          have hbf := hb.trans (hbr5.mono hb.size)
          clear x0 x1 x2 x3 x4 y0 y1 y2 y3 z0 z1 z2 z3 z4 fx0 fx1 fx2 fx3 fx4 fz0 fz1 fz2 fz3 fz4
          clear hX hY hZ
          have hX := hX0.out.all hbr5
          have hY := hY0.out.all hbr5
          have hZ := hZ0.out.all hbr5
          have x0 := hX.cell (k := 0) rfl
          have x1 := hX.cell (k := 1) rfl
          have x2 := hX.cell (k := 2) rfl
          have x3 := hX.cell (k := 3) rfl
          have x4 := hX.cell (k := 4) rfl
          have y0 := hY.cell (k := 0) rfl
          have y1 := hY.cell (k := 1) rfl
          have y2 := hY.cell (k := 2) rfl
          have y3 := hY.cell (k := 3) rfl
          have z0 := hZ.cell (k := 0) rfl
          have z1 := hZ.cell (k := 1) rfl
          have z2 := hZ.cell (k := 2) rfl
          have z3 := hZ.cell (k := 3) rfl
          have z4 := hZ.cell (k := 4) rfl
          have fx0 := hX.free 0
          have fx1 := hX.free 1
          have fx2 := hX.free 2
          have fx3 := hX.free 3
          have fx4 := hX.free 4
          have fz0 := hZ.free 0
          have fz1 := hZ.free 1
          have fz2 := hZ.free 2
          have fz3 := hZ.free 3
          have fz4 := hZ.free 4
          go_wp2_with fail
          have hR := (((((hZ.set 0 (.slice (some ⟨b1, o1, none⟩) S.Re.length c1)).set 1 (.slice (some ⟨b2, o2, none⟩) S.Ho.length c2)).set 2 (.slice (some ⟨b3, o3, none⟩) S.Re.length c3)).set 3 (.slice (some ⟨b4, o4, none⟩) S.Re.length c4)).set 4 (.slice (some ⟨b5, o5, none⟩) S.Ho.length c5))
          refine bodyPost_ret (results_row_tmp rfl _ _ (w.heap.size + 1 + 1) 99 #[.slice (some ⟨b1, o1, none⟩) S.Re.length c1, .slice (some ⟨b2, o2, none⟩) S.Ho.length c2, .slice (some ⟨b3, o3, none⟩) S.Re.length c3, .slice (some ⟨b4, o4, none⟩) S.Re.length c4, .slice (some ⟨b5, o5, none⟩) S.Ho.length c5] (0, 0) _ rfl hR Tryz.underlying99 rfl (by kernel_rfl)) rfl ?_
          rw [HL.out]
          have hbe := (((((hbf.setCell (p := ⟨w.heap.size + 1 + 1, 0, none⟩) (by simp; omega) (.slice (some ⟨b1, o1, none⟩) S.Re.length c1)).setCell (p := ⟨w.heap.size + 1 + 1, 1, none⟩) (by simp; omega) (.slice (some ⟨b2, o2, none⟩) S.Ho.length c2)).setCell (p := ⟨w.heap.size + 1 + 1, 2, none⟩) (by simp; omega) (.slice (some ⟨b3, o3, none⟩) S.Re.length c3)).setCell (p := ⟨w.heap.size + 1 + 1, 3, none⟩) (by simp; omega) (.slice (some ⟨b4, o4, none⟩) S.Re.length c4)).setCell (p := ⟨w.heap.size + 1 + 1, 4, none⟩) (by simp; omega) (.slice (some ⟨b5, o5, none⟩) S.Ho.length c5))
          exact ⟨⟨_, rfl, ⟨_, _, _, _, _, _, _, _, _, _, rfl, i1.below hbe, i2.below hbe, i3.below hbe, i4.below hbe, i5.below hbe⟩⟩, hbe⟩
        | true =>
          go_wp2_with fail
          refine wp_region_quiet_below (by kernel_rfl) (by kernel_rfl) ?_
          repeat (go_big_quiet_step (first | (with_reducible exact Q1.out _ _) | (with_reducible exact Q2.out _ _)))
          refine wpQuiet_nil ?_
          rintro _ ⟨pq, rfl⟩
          have hbq := below_regrown w4 pq.d pq.os
          generalize Sort.grow (redrawn w4 pq.d) pq.os = w5 at *
          clear Q1 Q2 g_x1 g_x2 g_y0 g_pf g_pg g_q3 g_px g_py pf pg q3 px py
          go_wp2_with fail
          exact ⟨⟨x + 1, by omega, by go_num, Lib.hid (Hnext.out (by simp)), hbr4.trans (hbq.mono hbr4.size)⟩, by simp [intOf]; omega⟩
    · have hxe : x = S.Ho.length := by omega
      subst hxe
      clear hx hxn
      have hxN : ¬ ((S.Ho.length : Nat) : Int) < S.Ho.length := by omega
      have HL := Lib.hid (HA.out.trans (if_pos (allIn_of Hbr.out hn8 hall.out)))
      clear hall
      have g_y0 := cell_regrown y0
      go_wp2_with fail
      refine wp_region_quiet_below (by kernel_rfl) (by kernel_rfl) ?_
      repeat (go_big_quiet_step (fail))
      refine wpQuiet_nil ?_
      rintro _ ⟨pq, rfl⟩
      have hbq := below_regrown wx pq.d pq.os
      generalize Sort.grow (redrawn wx pq.d) pq.os = w4 at *
      clear g_y0
      have hbr4 := hbr.trans (hbq.mono hbr.size)
      have hbw4 := hb.trans (hbr4.mono hb.size)
      clear hbq hbr hbw
      clear x0 x1 x2 x3 x4 y0 y1 y2 y3 z0 z1 z2 z3 z4 fx0 fx1 fx2 fx3 fx4 fz0 fz1 fz2 fz3 fz4
      clear hX hY hZ
      have hX := hX0.out.all hbr4
      have hY := hY0.out.all hbr4
      have hZ := hZ0.out.all hbr4
      have x0 := hX.cell (k := 0) rfl
      have x1 := hX.cell (k := 1) rfl
      have x2 := hX.cell (k := 2) rfl
      have x3 := hX.cell (k := 3) rfl
      have x4 := hX.cell (k := 4) rfl
      have y0 := hY.cell (k := 0) rfl
      have y1 := hY.cell (k := 1) rfl
      have y2 := hY.cell (k := 2) rfl
      have y3 := hY.cell (k := 3) rfl
      have z0 := hZ.cell (k := 0) rfl
      have z1 := hZ.cell (k := 1) rfl
      have z2 := hZ.cell (k := 2) rfl
      have z3 := hZ.cell (k := 3) rfl
      have z4 := hZ.cell (k := 4) rfl
      have fx0 := hX.free 0
      have fx1 := hX.free 1
      have fx2 := hX.free 2
      have fx3 := hX.free 3
      have fx4 := hX.free 4
      have fz0 := hZ.free 0
      have fz1 := hZ.free 1
      have fz2 := hZ.free 2
      have fz3 := hZ.free 3
      have fz4 := hZ.free 4
      have q4 := ((hbw4).cell (p := ⟨b4, o4 + u, none⟩) r4).trans q40.out
      have CW := Lib.hid (fun V => (With_any (row S.Wr u) f V (by omega) (by omega)).mono fun e w' ⟨he, hw⟩ => (⟨he, hw.symm⟩ : e = _ ∧ w' = V))
      have CP := CW
      have CS := Lib.hid (fun x V (hV : Below w.heap.size w V) => by have := Rset_any (castL S.Wr) u (x : Nat) (some ⟨b4, o4, none⟩) c4 V (i4.1.below hV) (by rw [length_castL]; omega); simp only [List.length_set, length_castL, hlw] at this; exact this)
      have hne : castL S.Wr ≠ [] := by intro e; have := congrArg List.length e; rw [length_castL] at this; simp only [List.length_nil] at this; omega
      go_wp2_with fail
      refine wp_still_tailD 10 (by kernel_rfl) (by kernel_rfl) ?_
      simp only [List.take_succ_cons, List.take_zero, List.drop_succ_cons, List.drop_zero]
      repeat (first | still_step | still_call (CW.out _) | still_call (CP.out _))
      refine wpStill_nil ?_
      go_wp2_with fail
      refine (CS.out _ _ hbw4.drew).mono ?_
      rintro e w1 ⟨⟨A1, d1, rfl, -, hown⟩, hb1⟩
      obtain ⟨g, rfl, hg, ho⟩ := hown hne
      have hX1 := hX.drew.all hb1
      have hZ1 := hZ.drew.all hb1
      have hY1 := hY.drew.all hb1
      have hww : w.heap.size ≤ w4.drew.heap.size := hbw4.drew.size
      have hb01 := hbw4.drew.trans (hb1.mono hww)
      have ngX : g ≠ w.heap.size := ho.ne_box hX1 (by decide)
      have ngZ : g ≠ w.heap.size + 1 + 1 := ho.ne_box hZ1 (by decide)
      clear x0 x1 x2 x3 x4 y0 y1 y2 y3 z0 z1 z2 z3 z4 fx0 fx1 fx2 fx3 fx4 fz0 fz1 fz2 fz3 fz4
      clear hX hY hZ
      clear hown CS
      have x0 := hX1.cell (k := 0) rfl
      have x1 := hX1.cell (k := 1) rfl
      have x2 := hX1.cell (k := 2) rfl
      have x3 := hX1.cell (k := 3) rfl
      have x4 := hX1.cell (k := 4) rfl
      have y0 := hY1.cell (k := 0) rfl
      have y1 := hY1.cell (k := 1) rfl
      have y2 := hY1.cell (k := 2) rfl
      have y3 := hY1.cell (k := 3) rfl
      have z0 := hZ1.cell (k := 0) rfl
      have z1 := hZ1.cell (k := 1) rfl
      have z2 := hZ1.cell (k := 2) rfl
      have z3 := hZ1.cell (k := 3) rfl
      have z4 := hZ1.cell (k := 4) rfl
      have fx0 := hX1.free 0
      have fx1 := hX1.free 1
      have fx2 := hX1.free 2
      have fx3 := hX1.free 3
      have fx4 := hX1.free 4
      have fz0 := hZ1.free 0
      have fz1 := hZ1.free 1
      have fz2 := hZ1.free 2
      have fz3 := hZ1.free 3
      have fz4 := hZ1.free 4
      go_wp2_with fail
      have hR := ((((((hZ1.other (a := ⟨w.heap.size, 3, none⟩) (by simp; omega) (.slice (some ⟨g, 0, none⟩) S.Re.length d1)).set 0 (.slice (some ⟨b1, o1, none⟩) S.Re.length c1)).set 1 (.slice (some ⟨b2, o2, none⟩) S.Ho.length c2)).set 2 (.slice (some ⟨b3, o3, none⟩) S.Re.length c3)).set 3 (.slice (some ⟨g, 0, none⟩) S.Re.length d1)).set 4 (.slice (some ⟨b5, o5, none⟩) S.Ho.length c5))
      refine bodyPost_ret (results_row_tmp rfl _ _ (w.heap.size + 1 + 1) 99 #[.slice (some ⟨b1, o1, none⟩) S.Re.length c1, .slice (some ⟨b2, o2, none⟩) S.Ho.length c2, .slice (some ⟨b3, o3, none⟩) S.Re.length c3, .slice (some ⟨g, 0, none⟩) S.Re.length d1, .slice (some ⟨b5, o5, none⟩) S.Ho.length c5] (0, 0) _ rfl hR Tryz.underlying99 rfl (by kernel_rfl)) rfl ?_
      have hof := ((((((ho.far (a := ⟨w.heap.size, 3, none⟩) ngX (.slice (some ⟨g, 0, none⟩) S.Re.length d1)).far (a := ⟨w.heap.size + 1 + 1, 0, none⟩) ngZ (.slice (some ⟨b1, o1, none⟩) S.Re.length c1)).far (a := ⟨w.heap.size + 1 + 1, 1, none⟩) ngZ (.slice (some ⟨b2, o2, none⟩) S.Ho.length c2)).far (a := ⟨w.heap.size + 1 + 1, 2, none⟩) ngZ (.slice (some ⟨b3, o3, none⟩) S.Re.length c3)).far (a := ⟨w.heap.size + 1 + 1, 3, none⟩) ngZ (.slice (some ⟨g, 0, none⟩) S.Re.length d1)).far (a := ⟨w.heap.size + 1 + 1, 4, none⟩) ngZ (.slice (some ⟨b5, o5, none⟩) S.Ho.length c5))
      have hbf := ((((((hb01.setCell (p := ⟨w.heap.size, 3, none⟩) (by simp) (.slice (some ⟨g, 0, none⟩) S.Re.length d1)).setCell (p := ⟨w.heap.size + 1 + 1, 0, none⟩) (by simp; omega) (.slice (some ⟨b1, o1, none⟩) S.Re.length c1)).setCell (p := ⟨w.heap.size + 1 + 1, 1, none⟩) (by simp; omega) (.slice (some ⟨b2, o2, none⟩) S.Ho.length c2)).setCell (p := ⟨w.heap.size + 1 + 1, 2, none⟩) (by simp; omega) (.slice (some ⟨b3, o3, none⟩) S.Re.length c3)).setCell (p := ⟨w.heap.size + 1 + 1, 3, none⟩) (by simp; omega) (.slice (some ⟨g, 0, none⟩) S.Re.length d1)).setCell (p := ⟨w.heap.size + 1 + 1, 4, none⟩) (by simp; omega) (.slice (some ⟨b5, o5, none⟩) S.Ho.length c5))
      rw [HL.out]
      exact ⟨⟨_, rfl, ⟨some ⟨b1, o1, none⟩, some ⟨b2, o2, none⟩, some ⟨b3, o3, none⟩, some ⟨g, 0, none⟩, some ⟨b5, o5, none⟩, c1, c2, c3, d1, c5, by simp, i1.below hbf, i2.below hbf, i3.below hbf, ⟨by show IntsAt _ _ (castL (S.Wr.set u _)); rw [castL_set]; exact hof.ints, fun b off e _ => by cases e; exact hok _ (Nat.le_trans hww hg)⟩, i5.below hbf⟩⟩, hbf⟩
set_option maxHeartbeats 4000000 in
theorem AskBell_3 (hI : LInv U F S) (hU : ∀ i, i < S.Re.length → labOk (gI U (i * 2)) (gI U (i * 2 + 1))) (hF : ∀ i, i < S.Ho.length → labOk (gI F (i * 2)) (gI F (i * 2 + 1))) (lU : U.length = S.Re.length * 2) (lF : F.length = S.Ho.length * 2)
    (i1 : IntsIn ok w a1 U) (i2 : IntsIn ok w a2 F) (i3 : IntsIn ok w a3 (castL S.Re)) (i4 : IntsIn ok w a4 (castL S.Wr)) (i5 : IntsIn ok w a5 (castL S.Ho)) (hok : ∀ b, w.heap.size ≤ b → ok b) (u f : Nat) (t : Nat) (ht : t < S.Ho.length) (hu : u < S.Re.length) (hf : f < S.Ho.length) :
    Calls Tryz.prog 129 #[.agg #[.slice a1 S.Re.length c1, .slice a2 S.Ho.length c2, .slice a3 S.Re.length c3, .slice a4 S.Re.length c4, .slice a5 S.Ho.length c5], .agg #[.int .i64 3, .int .i64 u, .int .i64 f, .int .i64 t]] w fun e w' => (∃ v, e = .returned (.tuple #[v, .int .i64 (lAsk U F S 3 u f t).2]) ∧ RL ok w' v U F (lAsk U F S 3 u f t).1) ∧ Below w.heap.size w w' := by
  have hn8 := hI.ln
  have hm8 := hI.lm
  have hlw := hI.lw
  have Hr256 := hI.re_lt u
  have Hw256 := hI.wr_lt u
  have Hh256 := hI.ho_lt f
  have Hbr := Lib.hid (hI.br u)
  have Hbw := Lib.hid (hI.bw u)
  obtain ⟨b1, o1, rfl, j1⟩ := i1.1 (by intro e; simp [e] at lU; omega)
  obtain ⟨b2, o2, rfl, j2⟩ := i2.1 (by intro e; simp [e] at lF; omega)
  obtain ⟨b3, o3, rfl, q3⟩ := i3.1.row hu
  obtain ⟨b4, o4, rfl, q4⟩ := i4.1.row (k := u) (by rw [hlw]; exact hu)
  obtain ⟨b5, o5, rfl, q5⟩ := i5.1.row hf
  have pu0 := Lib.hid (j1 (u * 2) _ (get_gI (by omega)))
  have pv0 := Lib.hid (show w.cell? ⟨b1, o1 + u * 2 + 1, none⟩ = some (.int .i64 (gI U (u * 2 + 1))) from j1 (u * 2 + 1) _ (get_gI (by omega)))
  have pf0 := Lib.hid (j2 (f * 2) _ (get_gI (by omega)))
  have pg0 := Lib.hid (show w.cell? ⟨b2, o2 + f * 2 + 1, none⟩ = some (.int .i64 (gI F (f * 2 + 1))) from j2 (f * 2 + 1) _ (get_gI (by omega)))
  have J2 := Lib.hid (fun x (hx : x < S.Ho.length) => (⟨j2 (x * 2) _ (get_gI (by omega)), j2 (x * 2 + 1) _ (get_gI (by omega))⟩ : w.cell? ⟨b2, o2 + x * 2, none⟩ = some (.int .i64 (gI F (x * 2))) ∧ w.cell? ⟨b2, o2 + x * 2 + 1, none⟩ = some (.int .i64 (gI F (x * 2 + 1)))))
  have q30 := Lib.hid q3
  have q40 := Lib.hid q4
  have q50 := Lib.hid q5
  have r1 : b1 < w.heap.size := block_lt (j1 (u * 2) _ (get_gI (by omega)))
  have r2 : b2 < w.heap.size := block_lt (j2 (f * 2) _ (get_gI (by omega)))
  have r3 : b3 < w.heap.size := block_lt q3
  have r4 : b4 < w.heap.size := block_lt q4
  have r5 : b5 < w.heap.size := block_lt q5
  have lu := hU u hu
  have HlF := Lib.hid hF
  have lf := hF f hf
  have q60 := Lib.hid (by
    obtain ⟨b', o', e, p⟩ := i5.1.row ht
    cases e
    exact (p : w.cell? ⟨b5, o5 + t, none⟩ = some (.int .i64 (row S.Ho t : Nat))))
  have Ht256 := hI.ho_lt t
  have HA := Lib.hid (lAsk_k3 (U := U) (F := F) hu hf ht)
  clear j1 j2 q3 q4 q5 hU hF hI
  have C1 := Lib.hid (fun V => Rin_is 3 0 3 true V (by decide))
  have C2 := Lib.hid (fun V => Rin_is (u : Int) 0 ((S.Re.length : Int) - 1) true V (by simp; omega))
  have C3 := Lib.hid (fun V => Rin_is (f : Int) 0 ((S.Ho.length : Int) - 1) true V (by simp; omega))
  have C4 := Lib.hid (fun V => Rin_is (t : Int) 0 ((S.Ho.length : Int) - 1) true V (by simp; omega))
  go_enter Tryz.func129, Tryz.ntmps129
  go_wp2_with fail
  have hX := ((BoxN.new w 99 #[.slice (some ⟨b1, o1, none⟩) S.Re.length c1, .slice (some ⟨b2, o2, none⟩) S.Ho.length c2, .slice (some ⟨b3, o3, none⟩) S.Re.length c3, .slice (some ⟨b4, o4, none⟩) S.Re.length c4, .slice (some ⟨b5, o5, none⟩) S.Ho.length c5]).alloc (.cells #[.int .i64 3, .int .i64 u, .int .i64 f, .int .i64 t] 157)).alloc (.cells #[.slice none 0 0, .slice none 0 0, .slice none 0 0, .slice none 0 0, .slice none 0 0] 99)
  have hY := (BoxN.new (w.alloc (.cells #[.slice (some ⟨b1, o1, none⟩) S.Re.length c1, .slice (some ⟨b2, o2, none⟩) S.Ho.length c2, .slice (some ⟨b3, o3, none⟩) S.Re.length c3, .slice (some ⟨b4, o4, none⟩) S.Re.length c4, .slice (some ⟨b5, o5, none⟩) S.Ho.length c5] 99)) 157 #[.int .i64 3, .int .i64 u, .int .i64 f, .int .i64 t]).alloc (.cells #[.slice none 0 0, .slice none 0 0, .slice none 0 0, .slice none 0 0, .slice none 0 0] 99)
  have hZ := BoxN.new ((w.alloc (.cells #[.slice (some ⟨b1, o1, none⟩) S.Re.length c1, .slice (some ⟨b2, o2, none⟩) S.Ho.length c2, .slice (some ⟨b3, o3, none⟩) S.Re.length c3, .slice (some ⟨b4, o4, none⟩) S.Re.length c4, .slice (some ⟨b5, o5, none⟩) S.Ho.length c5] 99)).alloc (.cells #[.int .i64 3, .int .i64 u, .int .i64 f, .int .i64 t] 157)) 99 #[.slice none 0 0, .slice none 0 0, .slice none 0 0, .slice none 0 0, .slice none 0 0]
  have hb : Below w.heap.size w (((w.alloc (.cells #[.slice (some ⟨b1, o1, none⟩) S.Re.length c1, .slice (some ⟨b2, o2, none⟩) S.Ho.length c2, .slice (some ⟨b3, o3, none⟩) S.Re.length c3, .slice (some ⟨b4, o4, none⟩) S.Re.length c4, .slice (some ⟨b5, o5, none⟩) S.Ho.length c5] 99)).alloc (.cells #[.int .i64 3, .int .i64 u, .int .i64 f, .int .i64 t] 157)).alloc (.cells #[.slice none 0 0, .slice none 0 0, .slice none 0 0, .slice none 0 0, .slice none 0 0] 99)) := (((Below.refl _ _).alloc (Nat.le_refl _) _).alloc (by simp) _).alloc (by simp; omega) _
  simp only [World.size_alloc] at hY hZ
  generalize (((w.alloc (.cells #[.slice (some ⟨b1, o1, none⟩) S.Re.length c1, .slice (some ⟨b2, o2, none⟩) S.Ho.length c2, .slice (some ⟨b3, o3, none⟩) S.Re.length c3, .slice (some ⟨b4, o4, none⟩) S.Re.length c4, .slice (some ⟨b5, o5, none⟩) S.Ho.length c5] 99)).alloc (.cells #[.int .i64 3, .int .i64 u, .int .i64 f, .int .i64 t] 157)).alloc (.cells #[.slice none 0 0, .slice none 0 0, .slice none 0 0, .slice none 0 0, .slice none 0 0] 99)) = wa at *
  have x0 := hX.cell (k := 0) rfl
  have x1 := hX.cell (k := 1) rfl
  have x2 := hX.cell (k := 2) rfl
  have x3 := hX.cell (k := 3) rfl
  have x4 := hX.cell (k := 4) rfl
  have y0 := hY.cell (k := 0) rfl
  have y1 := hY.cell (k := 1) rfl
  have y2 := hY.cell (k := 2) rfl
  have y3 := hY.cell (k := 3) rfl
  have z0 := hZ.cell (k := 0) rfl
  have z1 := hZ.cell (k := 1) rfl
  have z2 := hZ.cell (k := 2) rfl
  have z3 := hZ.cell (k := 3) rfl
  have z4 := hZ.cell (k := 4) rfl
  have fx0 := hX.free 0
  have fx1 := hX.free 1
  have fx2 := hX.free 2
  have fx3 := hX.free 3
  have fx4 := hX.free 4
  have fz0 := hZ.free 0
  have fz1 := hZ.free 1
  have fz2 := hZ.free 2
  have fz3 := hZ.free 3
  have fz4 := hZ.free 4
  refine (C1.out _).mono ?_
  rintro e w' ⟨rfl, rfl⟩
  have hX0 := Lib.hid hX
  have hY0 := Lib.hid hY
  have hZ0 := Lib.hid hZ
  go_wp2_with (first | (go_at_call 153; with_reducible refine (C1.out _).mono ?_; rintro e w' ⟨rfl, rfl⟩) | (go_at_call 153; with_reducible refine (C2.out _).mono ?_; rintro e w' ⟨rfl, rfl⟩) | (go_at_call 153; with_reducible refine (C3.out _).mono ?_; rintro e w' ⟨rfl, rfl⟩) | (go_at_call 153; with_reducible refine (C4.out _).mono ?_; rintro e w' ⟨rfl, rfl⟩))
  clear C1 C2 C3 C4
  have g_x0 := cell_regrown x0
  have g_x1 := cell_regrown x1
  have g_y0 := cell_regrown y0
  go_wp2_with fail
  refine wp_region_quiet_below (by kernel_rfl) (by kernel_rfl) ?_
  repeat (go_big_quiet_step (fail))
  refine wpQuiet_nil ?_
  rintro _ ⟨pq, rfl⟩
  have hbq := below_regrown wa pq.d pq.os
  generalize Sort.grow (redrawn wa pq.d) pq.os = wb at *
  clear g_x0 g_x1 g_y0 lu pu0 pv0
  clear x0 x1 x2 x3 x4 y0 y1 y2 y3 z0 z1 z2 z3 z4 fx0 fx1 fx2 fx3 fx4 fz0 fz1 fz2 fz3 fz4
  clear hX hY hZ
  go_wp2_with fail
  go_loopw [8] (fun i wr => ∃ (x : Nat), x ≤ S.Ho.length ∧ i = .int .i64 x ∧ Below wa.heap.size wa wr) (fun i _ => S.Ho.length - (intOf i).toNat)
  case atStart => exact ⟨0, Nat.zero_le _, rfl, hbq⟩
  case round =>
    clear hbq
    obtain ⟨wx, rfl⟩ : ∃ wx : World, wx = wr := ⟨_, rfl⟩
    obtain ⟨x, hx, rfl, hbr⟩ := hrel
    have hbw := hb.trans (hbr.mono hb.size)
    have hX := hX0.out.all hbr
    have hY := hY0.out.all hbr
    have hZ := hZ0.out.all hbr
    have x0 := hX.cell (k := 0) rfl
    have x1 := hX.cell (k := 1) rfl
    have x2 := hX.cell (k := 2) rfl
    have x3 := hX.cell (k := 3) rfl
    have x4 := hX.cell (k := 4) rfl
    have y0 := hY.cell (k := 0) rfl
    have y1 := hY.cell (k := 1) rfl
    have y2 := hY.cell (k := 2) rfl
    have y3 := hY.cell (k := 3) rfl
    have z0 := hZ.cell (k := 0) rfl
    have z1 := hZ.cell (k := 1) rfl
    have z2 := hZ.cell (k := 2) rfl
    have z3 := hZ.cell (k := 3) rfl
    have z4 := hZ.cell (k := 4) rfl
    have fx0 := hX.free 0
    have fx1 := hX.free 1
    have fx2 := hX.free 2
    have fx3 := hX.free 3
    have fx4 := hX.free 4
    have fz0 := hZ.free 0
    have fz1 := hZ.free 1
    have fz2 := hZ.free 2
    have fz3 := hZ.free 3
    have fz4 := hZ.free 4
    by_cases hxn : x < S.Ho.length
    · have hxN : ((x : Nat) : Int) < S.Ho.length := by omega
      have g_y0 := cell_regrown y0
      go_wp2_with fail
      refine wp_region_quiet_below (by kernel_rfl) (by kernel_rfl) ?_
      repeat (go_big_quiet_step (fail))
      refine wpQuiet_nil ?_
      rintro _ ⟨pq, rfl⟩
      have hbq := below_regrown wx pq.d pq.os
      generalize Sort.grow (redrawn wx pq.d) pq.os = w4 at *
      clear g_y0
      have hbr4 := hbr.trans (hbq.mono hbr.size)
      clear x0 x1 x2 x3 x4 y0 y1 y2 y3 z0 z1 z2 z3 z4 fx0 fx1 fx2 fx3 fx4 fz0 fz1 fz2 fz3 fz4
      clear hX hY hZ
      have hX := hX0.out.all hbr4
      have hY := hY0.out.all hbr4
      have hZ := hZ0.out.all hbr4
      have x0 := hX.cell (k := 0) rfl
      have x1 := hX.cell (k := 1) rfl
      have x2 := hX.cell (k := 2) rfl
      have x3 := hX.cell (k := 3) rfl
      have x4 := hX.cell (k := 4) rfl
      have y0 := hY.cell (k := 0) rfl
      have y1 := hY.cell (k := 1) rfl
      have y2 := hY.cell (k := 2) rfl
      have y3 := hY.cell (k := 3) rfl
      have z0 := hZ.cell (k := 0) rfl
      have z1 := hZ.cell (k := 1) rfl
      have z2 := hZ.cell (k := 2) rfl
      have z3 := hZ.cell (k := 3) rfl
      have z4 := hZ.cell (k := 4) rfl
      have fx0 := hX.free 0
      have fx1 := hX.free 1
      have fx2 := hX.free 2
      have fx3 := hX.free 3
      have fx4 := hX.free 4
      have fz0 := hZ.free 0
      have fz1 := hZ.free 1
      have fz2 := hZ.free 2
      have fz3 := hZ.free 3
      have fz4 := hZ.free 4
      clear hbq
      have g4_y0 := cell_regrown y0
      go_wp2_with fail
      refine wp_region_quiet_below (by kernel_rfl) (by kernel_rfl) ?_
      repeat (go_big_quiet_step (fail))
      refine wpQuiet_nil ?_
      rintro _ ⟨pq, rfl⟩
      have hbq := below_regrown w4 pq.d pq.os
      generalize Sort.grow (redrawn w4 pq.d) pq.os = w5 at *
      go_wp2_with fail
      exact ⟨⟨x + 1, by omega, by go_num, hbr4.trans (hbq.mono hbr4.size)⟩, by simp [intOf]; omega⟩
    · have hxe : x = S.Ho.length := by omega
      subst hxe
      clear hx hxn
      have hxN : ¬ ((S.Ho.length : Nat) : Int) < S.Ho.length := by omega
      have g_y0 := cell_regrown y0
      have g_x2 := cell_regrown x2
      have g_x3 := cell_regrown x3
      have g_y3 := cell_regrown y3
      have q3 := ((hbw).cell (p := ⟨b3, o3 + u, none⟩) r3).trans q30.out
      have q4 := ((hbw).cell (p := ⟨b4, o4 + u, none⟩) r4).trans q40.out
      have g_q3 := cell_regrown q3
      have g_q4 := cell_regrown q4
      obtain ⟨bt, hbt⟩ : ∃ bt, (row S.Re u).testBit f = bt := ⟨_, rfl⟩
      obtain ⟨bb, hbb⟩ : ∃ bb, (row S.Wr u).testBit t = bb := ⟨_, rfl⟩
      have Q1 := Lib.hid (fun (d : Nat) (os : Array Obj) => Calls.regrown_of (RBit_b (row S.Re u) f bt (Sort.grow (redrawn wx d) os) (by omega) (by omega) hbt))
      have Q2 := Lib.hid (fun (d : Nat) (os : Array Obj) => Calls.regrown_of (RBit_b (row S.Wr u) t bb (Sort.grow (redrawn wx d) os) (by omega) (by omega) hbb))
      have Hbt := Lib.hid hbt
      have Hbb := Lib.hid hbb
      clear hbt hbb
      cases bt with
      | false =>
        have HL := Lib.hid (HA.out.trans (if_neg (by rw [Hbt.out]; simp)))
        go_wp2_with fail
        refine wp_region_quiet_below (by kernel_rfl) (by kernel_rfl) ?_
        repeat (go_big_quiet_step (with_reducible exact Q1.out _ _))
        refine wpQuiet_nil ?_
        rintro _ ⟨pq, rfl⟩
        have hbq := below_regrown wx pq.d pq.os
        generalize Sort.grow (redrawn wx pq.d) pq.os = w4 at *
        clear Q1 Q2 g_y0 g_x2 g_x3 g_y3 g_q3 g_q4 q3 q4
        have hbr4 := hbr.trans (hbq.mono hbr.size)
        have hbw4 := hb.trans (hbr4.mono hb.size)
        clear hbq hbr hbw
        clear x0 x1 x2 x3 x4 y0 y1 y2 y3 z0 z1 z2 z3 z4 fx0 fx1 fx2 fx3 fx4 fz0 fz1 fz2 fz3 fz4
        clear hX hY hZ
        have hX := hX0.out.all hbr4
        have hY := hY0.out.all hbr4
        have hZ := hZ0.out.all hbr4
        have x0 := hX.cell (k := 0) rfl
        have x1 := hX.cell (k := 1) rfl
        have x2 := hX.cell (k := 2) rfl
        have x3 := hX.cell (k := 3) rfl
        have x4 := hX.cell (k := 4) rfl
        have y0 := hY.cell (k := 0) rfl
        have y1 := hY.cell (k := 1) rfl
        have y2 := hY.cell (k := 2) rfl
        have y3 := hY.cell (k := 3) rfl
        have z0 := hZ.cell (k := 0) rfl
        have z1 := hZ.cell (k := 1) rfl
        have z2 := hZ.cell (k := 2) rfl
        have z3 := hZ.cell (k := 3) rfl
        have z4 := hZ.cell (k := 4) rfl
        have fx0 := hX.free 0
        have fx1 := hX.free 1
        have fx2 := hX.free 2
        have fx3 := hX.free 3
        have fx4 := hX.free 4
        have fz0 := hZ.free 0
        have fz1 := hZ.free 1
        have fz2 := hZ.free 2
        have fz3 := hZ.free 3
        have fz4 := hZ.free 4
        go_wp2_with fail
        have hR := (((((hZ.set 0 (.slice (some ⟨b1, o1, none⟩) S.Re.length c1)).set 1 (.slice (some ⟨b2, o2, none⟩) S.Ho.length c2)).set 2 (.slice (some ⟨b3, o3, none⟩) S.Re.length c3)).set 3 (.slice (some ⟨b4, o4, none⟩) S.Re.length c4)).set 4 (.slice (some ⟨b5, o5, none⟩) S.Ho.length c5))
        refine bodyPost_ret (results_row_tmp rfl _ _ (w.heap.size + 1 + 1) 99 #[.slice (some ⟨b1, o1, none⟩) S.Re.length c1, .slice (some ⟨b2, o2, none⟩) S.Ho.length c2, .slice (some ⟨b3, o3, none⟩) S.Re.length c3, .slice (some ⟨b4, o4, none⟩) S.Re.length c4, .slice (some ⟨b5, o5, none⟩) S.Ho.length c5] (0, 0) _ rfl hR Tryz.underlying99 rfl (by kernel_rfl)) rfl ?_
        rw [HL.out]
        have hbe := (((((hbw4.setCell (p := ⟨w.heap.size + 1 + 1, 0, none⟩) (by simp; omega) (.slice (some ⟨b1, o1, none⟩) S.Re.length c1)).setCell (p := ⟨w.heap.size + 1 + 1, 1, none⟩) (by simp; omega) (.slice (some ⟨b2, o2, none⟩) S.Ho.length c2)).setCell (p := ⟨w.heap.size + 1 + 1, 2, none⟩) (by simp; omega) (.slice (some ⟨b3, o3, none⟩) S.Re.length c3)).setCell (p := ⟨w.heap.size + 1 + 1, 3, none⟩) (by simp; omega) (.slice (some ⟨b4, o4, none⟩) S.Re.length c4)).setCell (p := ⟨w.heap.size + 1 + 1, 4, none⟩) (by simp; omega) (.slice (some ⟨b5, o5, none⟩) S.Ho.length c5))
        exact ⟨⟨_, rfl, ⟨_, _, _, _, _, _, _, _, _, _, rfl, i1.below hbe, i2.below hbe, i3.below hbe, i4.below hbe, i5.below hbe⟩⟩, hbe⟩
      | true =>
        cases bb with
        | false =>
          have HL := Lib.hid (HA.out.trans (if_neg (by rw [Hbt.out, Hbb.out]; simp)))
          go_wp2_with fail
          refine wp_region_quiet_below (by kernel_rfl) (by kernel_rfl) ?_
          repeat (go_big_quiet_step (first | (with_reducible exact Q1.out _ _) | (with_reducible exact Q2.out _ _)))
          refine wpQuiet_nil ?_
          rintro _ ⟨pq, rfl⟩
          have hbq := below_regrown wx pq.d pq.os
          generalize Sort.grow (redrawn wx pq.d) pq.os = w4 at *
          clear Q1 Q2 g_y0 g_x2 g_x3 g_y3 g_q3 g_q4 q3 q4
          have hbr4 := hbr.trans (hbq.mono hbr.size)
          have hbw4 := hb.trans (hbr4.mono hb.size)
          clear hbq hbr hbw
          clear x0 x1 x2 x3 x4 y0 y1 y2 y3 z0 z1 z2 z3 z4 fx0 fx1 fx2 fx3 fx4 fz0 fz1 fz2 fz3 fz4
          clear hX hY hZ
          have hX := hX0.out.all hbr4
          have hY := hY0.out.all hbr4
          have hZ := hZ0.out.all hbr4
          have x0 := hX.cell (k := 0) rfl
          have x1 := hX.cell (k := 1) rfl
          have x2 := hX.cell (k := 2) rfl
          have x3 := hX.cell (k := 3) rfl
          have x4 := hX.cell (k := 4) rfl
          have y0 := hY.cell (k := 0) rfl
          have y1 := hY.cell (k := 1) rfl
          have y2 := hY.cell (k := 2) rfl
          have y3 := hY.cell (k := 3) rfl
          have z0 := hZ.cell (k := 0) rfl
          have z1 := hZ.cell (k := 1) rfl
          have z2 := hZ.cell (k := 2) rfl
          have z3 := hZ.cell (k := 3) rfl
          have z4 := hZ.cell (k := 4) rfl
          have fx0 := hX.free 0
          have fx1 := hX.free 1
          have fx2 := hX.free 2
          have fx3 := hX.free 3
          have fx4 := hX.free 4
          have fz0 := hZ.free 0
          have fz1 := hZ.free 1
          have fz2 := hZ.free 2
          have fz3 := hZ.free 3
          have fz4 := hZ.free 4
          go_wp2_with fail
          have hR := (((((hZ.set 0 (.slice (some ⟨b1, o1, none⟩) S.Re.length c1)).set 1 (.slice (some ⟨b2, o2, none⟩) S.Ho.length c2)).set 2 (.slice (some ⟨b3, o3, none⟩) S.Re.length c3)).set 3 (.slice (some ⟨b4, o4, none⟩) S.Re.length c4)).set 4 (.slice (some ⟨b5, o5, none⟩) S.Ho.length c5))
          refine bodyPost_ret (results_row_tmp rfl _ _ (w.heap.size + 1 + 1) 99 #[.slice (some ⟨b1, o1, none⟩) S.Re.length c1, .slice (some ⟨b2, o2, none⟩) S.Ho.length c2, .slice (some ⟨b3, o3, none⟩) S.Re.length c3, .slice (some ⟨b4, o4, none⟩) S.Re.length c4, .slice (some ⟨b5, o5, none⟩) S.Ho.length c5] (0, 0) _ rfl hR Tryz.underlying99 rfl (by kernel_rfl)) rfl ?_
          rw [HL.out]
          have hbe := (((((hbw4.setCell (p := ⟨w.heap.size + 1 + 1, 0, none⟩) (by simp; omega) (.slice (some ⟨b1, o1, none⟩) S.Re.length c1)).setCell (p := ⟨w.heap.size + 1 + 1, 1, none⟩) (by simp; omega) (.slice (some ⟨b2, o2, none⟩) S.Ho.length c2)).setCell (p := ⟨w.heap.size + 1 + 1, 2, none⟩) (by simp; omega) (.slice (some ⟨b3, o3, none⟩) S.Re.length c3)).setCell (p := ⟨w.heap.size + 1 + 1, 3, none⟩) (by simp; omega) (.slice (some ⟨b4, o4, none⟩) S.Re.length c4)).setCell (p := ⟨w.heap.size + 1 + 1, 4, none⟩) (by simp; omega) (.slice (some ⟨b5, o5, none⟩) S.Ho.length c5))
          exact ⟨⟨_, rfl, ⟨_, _, _, _, _, _, _, _, _, _, rfl, i1.below hbe, i2.below hbe, i3.below hbe, i4.below hbe, i5.below hbe⟩⟩, hbe⟩
        | true =>
          have HL := Lib.hid (HA.out.trans (if_pos (by rw [Hbt.out, Hbb.out]; rfl)))
          go_wp2_with fail
          refine wp_region_quiet_below (by kernel_rfl) (by kernel_rfl) ?_
          repeat (go_big_quiet_step (first | (with_reducible exact Q1.out _ _) | (with_reducible exact Q2.out _ _)))
          refine wpQuiet_nil ?_
          rintro _ ⟨pq, rfl⟩
          have hbq := below_regrown wx pq.d pq.os
          generalize Sort.grow (redrawn wx pq.d) pq.os = w4 at *
          clear Q1 Q2 g_y0 g_x2 g_x3 g_y3 g_q3 g_q4 q3 q4
          have hbr4 := hbr.trans (hbq.mono hbr.size)
          have hbw4 := hb.trans (hbr4.mono hb.size)
          clear hbq hbr hbw
          clear x0 x1 x2 x3 x4 y0 y1 y2 y3 z0 z1 z2 z3 z4 fx0 fx1 fx2 fx3 fx4 fz0 fz1 fz2 fz3 fz4
          clear hX hY hZ
          have hX := hX0.out.all hbr4
          have hY := hY0.out.all hbr4
          have hZ := hZ0.out.all hbr4
          have x0 := hX.cell (k := 0) rfl
          have x1 := hX.cell (k := 1) rfl
          have x2 := hX.cell (k := 2) rfl
          have x3 := hX.cell (k := 3) rfl
          have x4 := hX.cell (k := 4) rfl
          have y0 := hY.cell (k := 0) rfl
          have y1 := hY.cell (k := 1) rfl
          have y2 := hY.cell (k := 2) rfl
          have y3 := hY.cell (k := 3) rfl
          have z0 := hZ.cell (k := 0) rfl
          have z1 := hZ.cell (k := 1) rfl
          have z2 := hZ.cell (k := 2) rfl
          have z3 := hZ.cell (k := 3) rfl
          have z4 := hZ.cell (k := 4) rfl
          have fx0 := hX.free 0
          have fx1 := hX.free 1
          have fx2 := hX.free 2
          have fx3 := hX.free 3
          have fx4 := hX.free 4
          have fz0 := hZ.free 0
          have fz1 := hZ.free 1
          have fz2 := hZ.free 2
          have fz3 := hZ.free 3
          have fz4 := hZ.free 4
          have q5 := ((hbw4).cell (p := ⟨b5, o5 + f, none⟩) r5).trans q50.out
          have q6 := ((hbw4).cell (p := ⟨b5, o5 + t, none⟩) r5).trans q60.out
          have CW := Lib.hid (fun V => (Either_any (row S.Ho t) (row S.Ho f) V (by omega) (by omega)).mono fun e w' ⟨he, hw⟩ => (⟨he, hw.symm⟩ : e = _ ∧ w' = V))
          have CP := CW
          have CS := Lib.hid (fun x V (hV : Below w.heap.size w V) => by have := Rset_any (castL S.Ho) t (x : Nat) (some ⟨b5, o5, none⟩) c5 V (i5.1.below hV) (by rw [length_castL]; omega); simp only [List.length_set, length_castL] at this; exact this)
          have hne : castL S.Ho ≠ [] := by intro e; have := congrArg List.length e; rw [length_castL] at this; simp only [List.length_nil] at this; omega
          go_wp2_with fail
          refine wp_still_tailD 16 (by kernel_rfl) (by kernel_rfl) ?_
          simp only [List.take_succ_cons, List.take_zero, List.drop_succ_cons, List.drop_zero]
          repeat (first | still_step | still_call (CW.out _) | still_call (CP.out _))
          refine wpStill_nil ?_
          go_wp2_with fail
          refine (CS.out _ _ hbw4.drew).mono ?_
          rintro e w1 ⟨⟨A1, d1, rfl, -, hown⟩, hb1⟩
          obtain ⟨g, rfl, hg, ho⟩ := hown hne
          have hX1 := hX.drew.all hb1
          have hZ1 := hZ.drew.all hb1
          have hY1 := hY.drew.all hb1
          have hww : w.heap.size ≤ w4.drew.heap.size := hbw4.drew.size
          have hb01 := hbw4.drew.trans (hb1.mono hww)
          have ngX : g ≠ w.heap.size := ho.ne_box hX1 (by decide)
          have ngZ : g ≠ w.heap.size + 1 + 1 := ho.ne_box hZ1 (by decide)
          clear x0 x1 x2 x3 x4 y0 y1 y2 y3 z0 z1 z2 z3 z4 fx0 fx1 fx2 fx3 fx4 fz0 fz1 fz2 fz3 fz4
          clear hX hY hZ
          clear hown CS
          have x0 := hX1.cell (k := 0) rfl
          have x1 := hX1.cell (k := 1) rfl
          have x2 := hX1.cell (k := 2) rfl
          have x3 := hX1.cell (k := 3) rfl
          have x4 := hX1.cell (k := 4) rfl
          have y0 := hY1.cell (k := 0) rfl
          have y1 := hY1.cell (k := 1) rfl
          have y2 := hY1.cell (k := 2) rfl
          have y3 := hY1.cell (k := 3) rfl
          have z0 := hZ1.cell (k := 0) rfl
          have z1 := hZ1.cell (k := 1) rfl
          have z2 := hZ1.cell (k := 2) rfl
          have z3 := hZ1.cell (k := 3) rfl
          have z4 := hZ1.cell (k := 4) rfl
          have fx0 := hX1.free 0
          have fx1 := hX1.free 1
          have fx2 := hX1.free 2
          have fx3 := hX1.free 3
          have fx4 := hX1.free 4
          have fz0 := hZ1.free 0
          have fz1 := hZ1.free 1
          have fz2 := hZ1.free 2
          have fz3 := hZ1.free 3
          have fz4 := hZ1.free 4
          go_wp2_with fail
          have hR := ((((((hZ1.other (a := ⟨w.heap.size, 4, none⟩) (by simp; omega) (.slice (some ⟨g, 0, none⟩) S.Ho.length d1)).set 0 (.slice (some ⟨b1, o1, none⟩) S.Re.length c1)).set 1 (.slice (some ⟨b2, o2, none⟩) S.Ho.length c2)).set 2 (.slice (some ⟨b3, o3, none⟩) S.Re.length c3)).set 3 (.slice (some ⟨b4, o4, none⟩) S.Re.length c4)).set 4 (.slice (some ⟨g, 0, none⟩) S.Ho.length d1))
          refine bodyPost_ret (results_row_tmp rfl _ _ (w.heap.size + 1 + 1) 99 #[.slice (some ⟨b1, o1, none⟩) S.Re.length c1, .slice (some ⟨b2, o2, none⟩) S.Ho.length c2, .slice (some ⟨b3, o3, none⟩) S.Re.length c3, .slice (some ⟨b4, o4, none⟩) S.Re.length c4, .slice (some ⟨g, 0, none⟩) S.Ho.length d1] (0, 0) _ rfl hR Tryz.underlying99 rfl (by kernel_rfl)) rfl ?_
          have hof := ((((((ho.far (a := ⟨w.heap.size, 4, none⟩) ngX (.slice (some ⟨g, 0, none⟩) S.Ho.length d1)).far (a := ⟨w.heap.size + 1 + 1, 0, none⟩) ngZ (.slice (some ⟨b1, o1, none⟩) S.Re.length c1)).far (a := ⟨w.heap.size + 1 + 1, 1, none⟩) ngZ (.slice (some ⟨b2, o2, none⟩) S.Ho.length c2)).far (a := ⟨w.heap.size + 1 + 1, 2, none⟩) ngZ (.slice (some ⟨b3, o3, none⟩) S.Re.length c3)).far (a := ⟨w.heap.size + 1 + 1, 3, none⟩) ngZ (.slice (some ⟨b4, o4, none⟩) S.Re.length c4)).far (a := ⟨w.heap.size + 1 + 1, 4, none⟩) ngZ (.slice (some ⟨g, 0, none⟩) S.Ho.length d1))
          have hbf := ((((((hb01.setCell (p := ⟨w.heap.size, 4, none⟩) (by simp) (.slice (some ⟨g, 0, none⟩) S.Ho.length d1)).setCell (p := ⟨w.heap.size + 1 + 1, 0, none⟩) (by simp; omega) (.slice (some ⟨b1, o1, none⟩) S.Re.length c1)).setCell (p := ⟨w.heap.size + 1 + 1, 1, none⟩) (by simp; omega) (.slice (some ⟨b2, o2, none⟩) S.Ho.length c2)).setCell (p := ⟨w.heap.size + 1 + 1, 2, none⟩) (by simp; omega) (.slice (some ⟨b3, o3, none⟩) S.Re.length c3)).setCell (p := ⟨w.heap.size + 1 + 1, 3, none⟩) (by simp; omega) (.slice (some ⟨b4, o4, none⟩) S.Re.length c4)).setCell (p := ⟨w.heap.size + 1 + 1, 4, none⟩) (by simp; omega) (.slice (some ⟨g, 0, none⟩) S.Ho.length d1))
          rw [HL.out]
          exact ⟨⟨_, rfl, ⟨some ⟨b1, o1, none⟩, some ⟨b2, o2, none⟩, some ⟨b3, o3, none⟩, some ⟨b4, o4, none⟩, some ⟨g, 0, none⟩, c1, c2, c3, c4, d1, by simp, i1.below hbf, i2.below hbf, i3.below hbf, i4.below hbf, ⟨by show IntsAt _ _ (castL (S.Ho.set t _)); rw [castL_set]; exact hof.ints, fun b off e _ => by cases e; exact hok _ (Nat.le_trans hww hg)⟩⟩⟩, hbf⟩
end
end Go.Proofs.YtanlmfnhlldkeaaGreatDoor

namespace Go.Proofs.YtanlmfnhlldkeaaGreatDoor
open Go.RowKit
set_option maxRecDepth 100000
set_option linter.unusedVariables false

theorem sub_pow_ {x j : Nat} (h : x.testBit j = true) : diff x (2 ^ j) + 2 ^ j = x := by
  have e : diff x (2 ^ j) ||| 2 ^ j = x := Nat.eq_of_testBit_eq fun k => by
    rw [tb_or, diff_bit, tb_pow]
    by_cases hk : j = k
    · subst hk; simp [h]
    · simp [hk]
  have hb : (diff x (2 ^ j)).testBit j = false := by rw [diff_bit, tb_pow]; simp
  have := add_pow_or (diff x (2 ^ j)) j hb
  omega
theorem sub_pow2 (s f : Nat) : ((s ||| 2 ^ f : Nat) : Int) - ((2 ^ f : Nat) : Int) = ((diff s (2 ^ f) : Nat) : Int) := by
  have h := sub_pow_ (x := s ||| 2 ^ f) (j := f) (by rw [tb_or, tb_pow]; simp)
  rw [diff_pow_or] at h
  omega
theorem sub_wrap (s f : Nat) (hs : s < 256) : wrap64 (((s ||| 2 ^ f : Nat) : Int) - (2 : Int) ^ f) = ((diff s (2 ^ f) : Nat) : Int) := by
  have h := sub_pow2 s f
  have hp : ((2 ^ f : Nat) : Int) = (2 : Int) ^ f := by simp
  rw [← hp, h]
  have hd := diff_le s (2 ^ f)
  unfold wrap64; omega
section
variable {ok : Nat → Prop} {w : World} {U F : List Int} {S : LS} {a1 a2 a3 a4 a5 : Option Addr} {c1 c2 c3 c4 c5 : Nat}

set_option maxHeartbeats 4000000 in
theorem AskBell_2 (hI : LInv U F S) (hU : ∀ i, i < S.Re.length → labOk (gI U (i * 2)) (gI U (i * 2 + 1))) (hF : ∀ i, i < S.Ho.length → labOk (gI F (i * 2)) (gI F (i * 2 + 1))) (lU : U.length = S.Re.length * 2) (lF : F.length = S.Ho.length * 2)
    (i1 : IntsIn ok w a1 U) (i2 : IntsIn ok w a2 F) (i3 : IntsIn ok w a3 (castL S.Re)) (i4 : IntsIn ok w a4 (castL S.Wr)) (i5 : IntsIn ok w a5 (castL S.Ho)) (hok : ∀ b, w.heap.size ≤ b → ok b) (u f : Nat) (t : Int) (hu : u < S.Re.length) (hf : f < S.Ho.length) :
    Calls Tryz.prog 129 #[.agg #[.slice a1 S.Re.length c1, .slice a2 S.Ho.length c2, .slice a3 S.Re.length c3, .slice a4 S.Re.length c4, .slice a5 S.Ho.length c5], .agg #[.int .i64 2, .int .i64 u, .int .i64 f, .int .i64 t]] w fun e w' => (∃ v, e = .returned (.tuple #[v, .int .i64 (lAsk U F S 2 u f t).2]) ∧ RL ok w' v U F (lAsk U F S 2 u f t).1) ∧ Below w.heap.size w w' := by
  have hn8 := hI.ln
  have hm8 := hI.lm
  have hlw := hI.lw
  have Hr256 := hI.re_lt u
  have Hw256 := hI.wr_lt u
  have Hh256 := hI.ho_lt f
  have Hbr := Lib.hid (hI.br u)
  have Hbw := Lib.hid (hI.bw u)
  obtain ⟨b1, o1, rfl, j1⟩ := i1.1 (by intro e; simp [e] at lU; omega)
  obtain ⟨b2, o2, rfl, j2⟩ := i2.1 (by intro e; simp [e] at lF; omega)
  obtain ⟨b3, o3, rfl, q3⟩ := i3.1.row hu
  obtain ⟨b4, o4, rfl, q4⟩ := i4.1.row (k := u) (by rw [hlw]; exact hu)
  obtain ⟨b5, o5, rfl, q5⟩ := i5.1.row hf
  have pu0 := Lib.hid (j1 (u * 2) _ (get_gI (by omega)))
  have pv0 := Lib.hid (show w.cell? ⟨b1, o1 + u * 2 + 1, none⟩ = some (.int .i64 (gI U (u * 2 + 1))) from j1 (u * 2 + 1) _ (get_gI (by omega)))
  have pf0 := Lib.hid (j2 (f * 2) _ (get_gI (by omega)))
  have pg0 := Lib.hid (show w.cell? ⟨b2, o2 + f * 2 + 1, none⟩ = some (.int .i64 (gI F (f * 2 + 1))) from j2 (f * 2 + 1) _ (get_gI (by omega)))
  have J2 := Lib.hid (fun x (hx : x < S.Ho.length) => (⟨j2 (x * 2) _ (get_gI (by omega)), j2 (x * 2 + 1) _ (get_gI (by omega))⟩ : w.cell? ⟨b2, o2 + x * 2, none⟩ = some (.int .i64 (gI F (x * 2))) ∧ w.cell? ⟨b2, o2 + x * 2 + 1, none⟩ = some (.int .i64 (gI F (x * 2 + 1)))))
  have q30 := Lib.hid q3
  have q40 := Lib.hid q4
  have q50 := Lib.hid q5
  have r1 : b1 < w.heap.size := block_lt (j1 (u * 2) _ (get_gI (by omega)))
  have r2 : b2 < w.heap.size := block_lt (j2 (f * 2) _ (get_gI (by omega)))
  have r3 : b3 < w.heap.size := block_lt q3
  have r4 : b4 < w.heap.size := block_lt q4
  have r5 : b5 < w.heap.size := block_lt q5
  have lu := hU u hu
  have HlF := Lib.hid hF
  have lf := hF f hf
  have HA := Lib.hid (lAsk_k2 (U := U) (F := F) t hu hf)
  clear j1 j2 q3 q4 q5 hU hF hI
  have C1 := Lib.hid (fun V => Rin_is 2 0 3 true V (by decide))
  have C2 := Lib.hid (fun V => Rin_is (u : Int) 0 ((S.Re.length : Int) - 1) true V (by simp; omega))
  have C3 := Lib.hid (fun V => Rin_is (f : Int) 0 ((S.Ho.length : Int) - 1) true V (by simp; omega))
  go_enter Tryz.func129, Tryz.ntmps129
  go_wp2_with fail
  have hX := ((BoxN.new w 99 #[.slice (some ⟨b1, o1, none⟩) S.Re.length c1, .slice (some ⟨b2, o2, none⟩) S.Ho.length c2, .slice (some ⟨b3, o3, none⟩) S.Re.length c3, .slice (some ⟨b4, o4, none⟩) S.Re.length c4, .slice (some ⟨b5, o5, none⟩) S.Ho.length c5]).alloc (.cells #[.int .i64 2, .int .i64 u, .int .i64 f, .int .i64 t] 157)).alloc (.cells #[.slice none 0 0, .slice none 0 0, .slice none 0 0, .slice none 0 0, .slice none 0 0] 99)
  have hY := (BoxN.new (w.alloc (.cells #[.slice (some ⟨b1, o1, none⟩) S.Re.length c1, .slice (some ⟨b2, o2, none⟩) S.Ho.length c2, .slice (some ⟨b3, o3, none⟩) S.Re.length c3, .slice (some ⟨b4, o4, none⟩) S.Re.length c4, .slice (some ⟨b5, o5, none⟩) S.Ho.length c5] 99)) 157 #[.int .i64 2, .int .i64 u, .int .i64 f, .int .i64 t]).alloc (.cells #[.slice none 0 0, .slice none 0 0, .slice none 0 0, .slice none 0 0, .slice none 0 0] 99)
  have hZ := BoxN.new ((w.alloc (.cells #[.slice (some ⟨b1, o1, none⟩) S.Re.length c1, .slice (some ⟨b2, o2, none⟩) S.Ho.length c2, .slice (some ⟨b3, o3, none⟩) S.Re.length c3, .slice (some ⟨b4, o4, none⟩) S.Re.length c4, .slice (some ⟨b5, o5, none⟩) S.Ho.length c5] 99)).alloc (.cells #[.int .i64 2, .int .i64 u, .int .i64 f, .int .i64 t] 157)) 99 #[.slice none 0 0, .slice none 0 0, .slice none 0 0, .slice none 0 0, .slice none 0 0]
  have hb : Below w.heap.size w (((w.alloc (.cells #[.slice (some ⟨b1, o1, none⟩) S.Re.length c1, .slice (some ⟨b2, o2, none⟩) S.Ho.length c2, .slice (some ⟨b3, o3, none⟩) S.Re.length c3, .slice (some ⟨b4, o4, none⟩) S.Re.length c4, .slice (some ⟨b5, o5, none⟩) S.Ho.length c5] 99)).alloc (.cells #[.int .i64 2, .int .i64 u, .int .i64 f, .int .i64 t] 157)).alloc (.cells #[.slice none 0 0, .slice none 0 0, .slice none 0 0, .slice none 0 0, .slice none 0 0] 99)) := (((Below.refl _ _).alloc (Nat.le_refl _) _).alloc (by simp) _).alloc (by simp; omega) _
  simp only [World.size_alloc] at hY hZ
  generalize (((w.alloc (.cells #[.slice (some ⟨b1, o1, none⟩) S.Re.length c1, .slice (some ⟨b2, o2, none⟩) S.Ho.length c2, .slice (some ⟨b3, o3, none⟩) S.Re.length c3, .slice (some ⟨b4, o4, none⟩) S.Re.length c4, .slice (some ⟨b5, o5, none⟩) S.Ho.length c5] 99)).alloc (.cells #[.int .i64 2, .int .i64 u, .int .i64 f, .int .i64 t] 157)).alloc (.cells #[.slice none 0 0, .slice none 0 0, .slice none 0 0, .slice none 0 0, .slice none 0 0] 99)) = wa at *
  have x0 := hX.cell (k := 0) rfl
  have x1 := hX.cell (k := 1) rfl
  have x2 := hX.cell (k := 2) rfl
  have x3 := hX.cell (k := 3) rfl
  have x4 := hX.cell (k := 4) rfl
  have y0 := hY.cell (k := 0) rfl
  have y1 := hY.cell (k := 1) rfl
  have y2 := hY.cell (k := 2) rfl
  have y3 := hY.cell (k := 3) rfl
  have z0 := hZ.cell (k := 0) rfl
  have z1 := hZ.cell (k := 1) rfl
  have z2 := hZ.cell (k := 2) rfl
  have z3 := hZ.cell (k := 3) rfl
  have z4 := hZ.cell (k := 4) rfl
  have fx0 := hX.free 0
  have fx1 := hX.free 1
  have fx2 := hX.free 2
  have fx3 := hX.free 3
  have fx4 := hX.free 4
  have fz0 := hZ.free 0
  have fz1 := hZ.free 1
  have fz2 := hZ.free 2
  have fz3 := hZ.free 3
  have fz4 := hZ.free 4
  refine (C1.out _).mono ?_
  rintro e w' ⟨rfl, rfl⟩
  have hX0 := Lib.hid hX
  have hY0 := Lib.hid hY
  have hZ0 := Lib.hid hZ
  go_wp2_with (first | (go_at_call 153; with_reducible refine (C1.out _).mono ?_; rintro e w' ⟨rfl, rfl⟩) | (go_at_call 153; with_reducible refine (C2.out _).mono ?_; rintro e w' ⟨rfl, rfl⟩) | (go_at_call 153; with_reducible refine (C3.out _).mono ?_; rintro e w' ⟨rfl, rfl⟩))
  clear C1 C2 C3
  have g_x0 := cell_regrown x0
  have g_x1 := cell_regrown x1
  have g_y0 := cell_regrown y0
  go_wp2_with fail
  refine wp_region_quiet_below (by kernel_rfl) (by kernel_rfl) ?_
  repeat (go_big_quiet_step (fail))
  refine wpQuiet_nil ?_
  rintro _ ⟨pq, rfl⟩
  have hbq := below_regrown wa pq.d pq.os
  generalize Sort.grow (redrawn wa pq.d) pq.os = wb at *
  clear g_x0 g_x1 g_y0 lu pu0 pv0
  clear x0 x1 x2 x3 x4 y0 y1 y2 y3 z0 z1 z2 z3 z4 fx0 fx1 fx2 fx3 fx4 fz0 fz1 fz2 fz3 fz4
  clear hX hY hZ
  go_wp2_with fail
  go_loopw [8] (fun i wr => ∃ (x : Nat), x ≤ S.Ho.length ∧ i = .int .i64 x ∧ Below wa.heap.size wa wr) (fun i _ => S.Ho.length - (intOf i).toNat)
  case atStart => exact ⟨0, Nat.zero_le _, rfl, hbq⟩
  case round =>
    clear hbq
    obtain ⟨wx, rfl⟩ : ∃ wx : World, wx = wr := ⟨_, rfl⟩
    obtain ⟨x, hx, rfl, hbr⟩ := hrel
    have hbw := hb.trans (hbr.mono hb.size)
    have hX := hX0.out.all hbr
    have hY := hY0.out.all hbr
    have hZ := hZ0.out.all hbr
    have x0 := hX.cell (k := 0) rfl
    have x1 := hX.cell (k := 1) rfl
    have x2 := hX.cell (k := 2) rfl
    have x3 := hX.cell (k := 3) rfl
    have x4 := hX.cell (k := 4) rfl
    have y0 := hY.cell (k := 0) rfl
    have y1 := hY.cell (k := 1) rfl
    have y2 := hY.cell (k := 2) rfl
    have y3 := hY.cell (k := 3) rfl
    have z0 := hZ.cell (k := 0) rfl
    have z1 := hZ.cell (k := 1) rfl
    have z2 := hZ.cell (k := 2) rfl
    have z3 := hZ.cell (k := 3) rfl
    have z4 := hZ.cell (k := 4) rfl
    have fx0 := hX.free 0
    have fx1 := hX.free 1
    have fx2 := hX.free 2
    have fx3 := hX.free 3
    have fx4 := hX.free 4
    have fz0 := hZ.free 0
    have fz1 := hZ.free 1
    have fz2 := hZ.free 2
    have fz3 := hZ.free 3
    have fz4 := hZ.free 4
    by_cases hxn : x < S.Ho.length
    · have hxN : ((x : Nat) : Int) < S.Ho.length := by omega
      have g_y0 := cell_regrown y0
      go_wp2_with fail
      refine wp_region_quiet_below (by kernel_rfl) (by kernel_rfl) ?_
      repeat (go_big_quiet_step (fail))
      refine wpQuiet_nil ?_
      rintro _ ⟨pq, rfl⟩
      have hbq := below_regrown wx pq.d pq.os
      generalize Sort.grow (redrawn wx pq.d) pq.os = w4 at *
      clear g_y0
      have hbr4 := hbr.trans (hbq.mono hbr.size)
      clear x0 x1 x2 x3 x4 y0 y1 y2 y3 z0 z1 z2 z3 z4 fx0 fx1 fx2 fx3 fx4 fz0 fz1 fz2 fz3 fz4
      clear hX hY hZ
      have hX := hX0.out.all hbr4
      have hY := hY0.out.all hbr4
      have hZ := hZ0.out.all hbr4
      have x0 := hX.cell (k := 0) rfl
      have x1 := hX.cell (k := 1) rfl
      have x2 := hX.cell (k := 2) rfl
      have x3 := hX.cell (k := 3) rfl
      have x4 := hX.cell (k := 4) rfl
      have y0 := hY.cell (k := 0) rfl
      have y1 := hY.cell (k := 1) rfl
      have y2 := hY.cell (k := 2) rfl
      have y3 := hY.cell (k := 3) rfl
      have z0 := hZ.cell (k := 0) rfl
      have z1 := hZ.cell (k := 1) rfl
      have z2 := hZ.cell (k := 2) rfl
      have z3 := hZ.cell (k := 3) rfl
      have z4 := hZ.cell (k := 4) rfl
      have fx0 := hX.free 0
      have fx1 := hX.free 1
      have fx2 := hX.free 2
      have fx3 := hX.free 3
      have fx4 := hX.free 4
      have fz0 := hZ.free 0
      have fz1 := hZ.free 1
      have fz2 := hZ.free 2
      have fz3 := hZ.free 3
      have fz4 := hZ.free 4
      clear hbq
      have g4_y0 := cell_regrown y0
      go_wp2_with fail
      refine wp_region_quiet_below (by kernel_rfl) (by kernel_rfl) ?_
      repeat (go_big_quiet_step (fail))
      refine wpQuiet_nil ?_
      rintro _ ⟨pq, rfl⟩
      have hbq := below_regrown w4 pq.d pq.os
      generalize Sort.grow (redrawn w4 pq.d) pq.os = w5 at *
      go_wp2_with fail
      exact ⟨⟨x + 1, by omega, by go_num, hbr4.trans (hbq.mono hbr4.size)⟩, by simp [intOf]; omega⟩
    · have hxe : x = S.Ho.length := by omega
      subst hxe
      clear hx hxn
      have hxN : ¬ ((S.Ho.length : Nat) : Int) < S.Ho.length := by omega
      have HL := HA
      have g_y0 := cell_regrown y0
      go_wp2_with fail
      refine wp_region_quiet_below (by kernel_rfl) (by kernel_rfl) ?_
      repeat (go_big_quiet_step (fail))
      refine wpQuiet_nil ?_
      rintro _ ⟨pq, rfl⟩
      have hbq := below_regrown wx pq.d pq.os
      generalize Sort.grow (redrawn wx pq.d) pq.os = w4 at *
      clear g_y0
      have hbr4 := hbr.trans (hbq.mono hbr.size)
      have hbw4 := hb.trans (hbr4.mono hb.size)
      clear hbq hbr hbw
      clear x0 x1 x2 x3 x4 y0 y1 y2 y3 z0 z1 z2 z3 z4 fx0 fx1 fx2 fx3 fx4 fz0 fz1 fz2 fz3 fz4
      clear hX hY hZ
      have hX := hX0.out.all hbr4
      have hY := hY0.out.all hbr4
      have hZ := hZ0.out.all hbr4
      have x0 := hX.cell (k := 0) rfl
      have x1 := hX.cell (k := 1) rfl
      have x2 := hX.cell (k := 2) rfl
      have x3 := hX.cell (k := 3) rfl
      have x4 := hX.cell (k := 4) rfl
      have y0 := hY.cell (k := 0) rfl
      have y1 := hY.cell (k := 1) rfl
      have y2 := hY.cell (k := 2) rfl
      have y3 := hY.cell (k := 3) rfl
      have z0 := hZ.cell (k := 0) rfl
      have z1 := hZ.cell (k := 1) rfl
      have z2 := hZ.cell (k := 2) rfl
      have z3 := hZ.cell (k := 3) rfl
      have z4 := hZ.cell (k := 4) rfl
      have fx0 := hX.free 0
      have fx1 := hX.free 1
      have fx2 := hX.free 2
      have fx3 := hX.free 3
      have fx4 := hX.free 4
      have fz0 := hZ.free 0
      have fz1 := hZ.free 1
      have fz2 := hZ.free 2
      have fz3 := hZ.free 3
      have fz4 := hZ.free 4
      have q3 := ((hbw4).cell (p := ⟨b3, o3 + u, none⟩) r3).trans q30.out
      have CW := Lib.hid (fun V => (With_any (row S.Re u) f V (by omega) (by omega)).mono fun e w' ⟨he, hw⟩ => (⟨he, hw.symm⟩ : e = _ ∧ w' = V))
      have CP := Lib.hid (fun V => (Pow2_any f V (by omega)).mono fun e w' ⟨he, hw⟩ => (⟨he, hw.symm⟩ : e = _ ∧ w' = V))
      have CS := Lib.hid (fun x V (hV : Below w.heap.size w V) => by have := Rset_any (castL S.Re) u (x : Nat) (some ⟨b3, o3, none⟩) c3 V (i3.1.below hV) (by rw [length_castL]; omega); simp only [List.length_set, length_castL] at this; exact this)
      have CT := Lib.hid (fun x V (hV : Below w.heap.size w V) => by have := Rset_any (castL S.Wr) u (x : Nat) (some ⟨b4, o4, none⟩) c4 V (i4.1.below hV) (by rw [length_castL]; omega); simp only [List.length_set, length_castL, hlw] at this; exact this)
      have hne : castL S.Re ≠ [] := by intro e; have := congrArg List.length e; rw [length_castL] at this; simp only [List.length_nil] at this; omega
      have hne2 : castL S.Wr ≠ [] := by intro e; have := congrArg List.length e; rw [length_castL] at this; simp only [List.length_nil] at this; omega
      have hsr := sub_pow2 (row S.Re u) f
      have hsw := sub_pow2 (row S.Wr u) f
      have hpf : 2 ^ f ≤ 128 := Nat.pow_le_pow_right (by decide) (show f ≤ 7 by omega)
      have hor : (row S.Re u ||| 2 ^ f) < 256 := Nat.or_lt_two_pow (n := 8) (by omega) (by omega)
      have how : (row S.Wr u ||| 2 ^ f) < 256 := Nat.or_lt_two_pow (n := 8) (by omega) (by omega)
      go_wp2_with fail
      refine wp_still_tailD 13 (by kernel_rfl) (by kernel_rfl) ?_
      simp only [List.take_succ_cons, List.take_zero, List.drop_succ_cons, List.drop_zero]
      repeat (first | still_step | still_call (CW.out _) | still_call (CP.out _))
      refine wpStill_nil ?_
      go_wp2_with fail
      rw [sub_wrap _ _ Hr256]
      refine (CS.out _ _ hbw4.drew).mono ?_
      rintro e w1 ⟨⟨A1, d1, rfl, -, hown⟩, hb1⟩
      obtain ⟨g, rfl, hg, ho⟩ := hown hne
      have hX1 := hX.drew.all hb1
      have hZ1 := hZ.drew.all hb1
      have hY1 := hY.drew.all hb1
      have hww : w.heap.size ≤ w4.drew.heap.size := hbw4.drew.size
      have hb01 := hbw4.drew.trans (hb1.mono hww)
      have ngX : g ≠ w.heap.size := ho.ne_box hX1 (by decide)
      have ngZ : g ≠ w.heap.size + 1 + 1 := ho.ne_box hZ1 (by decide)
      clear x0 x1 x2 x3 x4 y0 y1 y2 y3 z0 z1 z2 z3 z4 fx0 fx1 fx2 fx3 fx4 fz0 fz1 fz2 fz3 fz4
      clear hX hY hZ
      clear hown CS CW q3
      have x0 := hX1.cell (k := 0) rfl
      have x1 := hX1.cell (k := 1) rfl
      have x2 := hX1.cell (k := 2) rfl
      have x3 := hX1.cell (k := 3) rfl
      have x4 := hX1.cell (k := 4) rfl
      have y0 := hY1.cell (k := 0) rfl
      have y1 := hY1.cell (k := 1) rfl
      have y2 := hY1.cell (k := 2) rfl
      have y3 := hY1.cell (k := 3) rfl
      have z0 := hZ1.cell (k := 0) rfl
      have z1 := hZ1.cell (k := 1) rfl
      have z2 := hZ1.cell (k := 2) rfl
      have z3 := hZ1.cell (k := 3) rfl
      have z4 := hZ1.cell (k := 4) rfl
      have fx0 := hX1.free 0
      have fx1 := hX1.free 1
      have fx2 := hX1.free 2
      have fx3 := hX1.free 3
      have fx4 := hX1.free 4
      have fz0 := hZ1.free 0
      have fz1 := hZ1.free 1
      have fz2 := hZ1.free 2
      have fz3 := hZ1.free 3
      have fz4 := hZ1.free 4
      go_wp2_with fail
      have hX := hX1.set 2 (.slice (some ⟨g, 0, none⟩) S.Re.length d1)
      have hX : BoxN _ _ _ #[.slice (some ⟨b1, o1, none⟩) S.Re.length c1, .slice (some ⟨b2, o2, none⟩) S.Ho.length c2, .slice (some ⟨g, 0, none⟩) S.Re.length d1, .slice (some ⟨b4, o4, none⟩) S.Re.length c4, .slice (some ⟨b5, o5, none⟩) S.Ho.length c5] := hX
      have hY := hY1.other (a := ⟨w.heap.size, 2, none⟩) (by simp) (.slice (some ⟨g, 0, none⟩) S.Re.length d1)
      have hZ := hZ1.other (a := ⟨w.heap.size, 2, none⟩) (by simp; omega) (.slice (some ⟨g, 0, none⟩) S.Re.length d1)
      have ho := ho.far (a := ⟨w.heap.size, 2, none⟩) ngX (.slice (some ⟨g, 0, none⟩) S.Re.length d1)
      have hb02 := hb01.setCell (p := ⟨w.heap.size, 2, none⟩) (Nat.le_refl _) (.slice (some ⟨g, 0, none⟩) S.Re.length d1)
      generalize w1.setCell ⟨w.heap.size, 2, none⟩ (.slice (some ⟨g, 0, none⟩) S.Re.length d1) = w2 at *
      clear hX1 hY1 hZ1 hb01 hb1
      clear x0 x1 x2 x3 x4 y0 y1 y2 y3 z0 z1 z2 z3 z4 fx0 fx1 fx2 fx3 fx4 fz0 fz1 fz2 fz3 fz4
      have x0 := hX.cell (k := 0) rfl
      have x1 := hX.cell (k := 1) rfl
      have x2 := hX.cell (k := 2) rfl
      have x3 := hX.cell (k := 3) rfl
      have x4 := hX.cell (k := 4) rfl
      have y0 := hY.cell (k := 0) rfl
      have y1 := hY.cell (k := 1) rfl
      have y2 := hY.cell (k := 2) rfl
      have y3 := hY.cell (k := 3) rfl
      have z0 := hZ.cell (k := 0) rfl
      have z1 := hZ.cell (k := 1) rfl
      have z2 := hZ.cell (k := 2) rfl
      have z3 := hZ.cell (k := 3) rfl
      have z4 := hZ.cell (k := 4) rfl
      have fx0 := hX.free 0
      have fx1 := hX.free 1
      have fx2 := hX.free 2
      have fx3 := hX.free 3
      have fx4 := hX.free 4
      have fz0 := hZ.free 0
      have fz1 := hZ.free 1
      have fz2 := hZ.free 2
      have fz3 := hZ.free 3
      have fz4 := hZ.free 4
      have q4 := ((hb02).cell (p := ⟨b4, o4 + u, none⟩) r4).trans q40.out
      have CW := Lib.hid (fun V => (With_any (row S.Wr u) f V (by omega) (by omega)).mono fun e w' ⟨he, hw⟩ => (⟨he, hw.symm⟩ : e = _ ∧ w' = V))
      refine wp_still_tailD 13 (by kernel_rfl) (by kernel_rfl) ?_
      simp only [List.take_succ_cons, List.take_zero, List.drop_succ_cons, List.drop_zero]
      repeat (first | still_step | still_call (CW.out _) | still_call (CP.out _))
      refine wpStill_nil ?_
      go_wp2_with fail
      rw [sub_wrap _ _ Hw256]
      refine (CT.out _ _ hb02.drew).mono ?_
      rintro e w3 ⟨⟨A2, d2, rfl, -, hown⟩, hb3⟩
      obtain ⟨g2, rfl, hg2, ho2⟩ := hown hne2
      have hX1 := hX.drew.all hb3
      have hZ1 := hZ.drew.all hb3
      have hY1 := hY.drew.all hb3
      have ho := ho.drew.all hb3
      have hw2 : w.heap.size ≤ w2.drew.heap.size := hb02.drew.size
      have hb03 := hb02.drew.trans (hb3.mono hw2)
      have ng2X : g2 ≠ w.heap.size := ho2.ne_box hX1 (by decide)
      have ng2Z : g2 ≠ w.heap.size + 1 + 1 := ho2.ne_box hZ1 (by decide)
      clear x0 x1 x2 x3 x4 y0 y1 y2 y3 z0 z1 z2 z3 z4 fx0 fx1 fx2 fx3 fx4 fz0 fz1 fz2 fz3 fz4
      clear hX hY hZ
      clear hown CT CW q4
      have x0 := hX1.cell (k := 0) rfl
      have x1 := hX1.cell (k := 1) rfl
      have x2 := hX1.cell (k := 2) rfl
      have x3 := hX1.cell (k := 3) rfl
      have x4 := hX1.cell (k := 4) rfl
      have y0 := hY1.cell (k := 0) rfl
      have y1 := hY1.cell (k := 1) rfl
      have y2 := hY1.cell (k := 2) rfl
      have y3 := hY1.cell (k := 3) rfl
      have z0 := hZ1.cell (k := 0) rfl
      have z1 := hZ1.cell (k := 1) rfl
      have z2 := hZ1.cell (k := 2) rfl
      have z3 := hZ1.cell (k := 3) rfl
      have z4 := hZ1.cell (k := 4) rfl
      have fx0 := hX1.free 0
      have fx1 := hX1.free 1
      have fx2 := hX1.free 2
      have fx3 := hX1.free 3
      have fx4 := hX1.free 4
      have fz0 := hZ1.free 0
      have fz1 := hZ1.free 1
      have fz2 := hZ1.free 2
      have fz3 := hZ1.free 3
      have fz4 := hZ1.free 4
      go_wp2_with fail
      have hR := ((((((hZ1.other (a := ⟨w.heap.size, 3, none⟩) (by simp; omega) (.slice (some ⟨g2, 0, none⟩) S.Re.length d2)).set 0 (.slice (some ⟨b1, o1, none⟩) S.Re.length c1)).set 1 (.slice (some ⟨b2, o2, none⟩) S.Ho.length c2)).set 2 (.slice (some ⟨g, 0, none⟩) S.Re.length d1)).set 3 (.slice (some ⟨g2, 0, none⟩) S.Re.length d2)).set 4 (.slice (some ⟨b5, o5, none⟩) S.Ho.length c5))
      refine bodyPost_ret (results_row_tmp rfl _ _ (w.heap.size + 1 + 1) 99 #[.slice (some ⟨b1, o1, none⟩) S.Re.length c1, .slice (some ⟨b2, o2, none⟩) S.Ho.length c2, .slice (some ⟨g, 0, none⟩) S.Re.length d1, .slice (some ⟨g2, 0, none⟩) S.Re.length d2, .slice (some ⟨b5, o5, none⟩) S.Ho.length c5] (0, 0) _ rfl hR Tryz.underlying99 rfl (by kernel_rfl)) rfl ?_
      have hof := ((((((ho.far (a := ⟨w.heap.size, 3, none⟩) ngX (.slice (some ⟨g2, 0, none⟩) S.Re.length d2)).far (a := ⟨w.heap.size + 1 + 1, 0, none⟩) ngZ (.slice (some ⟨b1, o1, none⟩) S.Re.length c1)).far (a := ⟨w.heap.size + 1 + 1, 1, none⟩) ngZ (.slice (some ⟨b2, o2, none⟩) S.Ho.length c2)).far (a := ⟨w.heap.size + 1 + 1, 2, none⟩) ngZ (.slice (some ⟨g, 0, none⟩) S.Re.length d1)).far (a := ⟨w.heap.size + 1 + 1, 3, none⟩) ngZ (.slice (some ⟨g2, 0, none⟩) S.Re.length d2)).far (a := ⟨w.heap.size + 1 + 1, 4, none⟩) ngZ (.slice (some ⟨b5, o5, none⟩) S.Ho.length c5))
      have hof2 := ((((((ho2.far (a := ⟨w.heap.size, 3, none⟩) ng2X (.slice (some ⟨g2, 0, none⟩) S.Re.length d2)).far (a := ⟨w.heap.size + 1 + 1, 0, none⟩) ng2Z (.slice (some ⟨b1, o1, none⟩) S.Re.length c1)).far (a := ⟨w.heap.size + 1 + 1, 1, none⟩) ng2Z (.slice (some ⟨b2, o2, none⟩) S.Ho.length c2)).far (a := ⟨w.heap.size + 1 + 1, 2, none⟩) ng2Z (.slice (some ⟨g, 0, none⟩) S.Re.length d1)).far (a := ⟨w.heap.size + 1 + 1, 3, none⟩) ng2Z (.slice (some ⟨g2, 0, none⟩) S.Re.length d2)).far (a := ⟨w.heap.size + 1 + 1, 4, none⟩) ng2Z (.slice (some ⟨b5, o5, none⟩) S.Ho.length c5))
      have hbf := ((((((hb03.setCell (p := ⟨w.heap.size, 3, none⟩) (by simp) (.slice (some ⟨g2, 0, none⟩) S.Re.length d2)).setCell (p := ⟨w.heap.size + 1 + 1, 0, none⟩) (by simp; omega) (.slice (some ⟨b1, o1, none⟩) S.Re.length c1)).setCell (p := ⟨w.heap.size + 1 + 1, 1, none⟩) (by simp; omega) (.slice (some ⟨b2, o2, none⟩) S.Ho.length c2)).setCell (p := ⟨w.heap.size + 1 + 1, 2, none⟩) (by simp; omega) (.slice (some ⟨g, 0, none⟩) S.Re.length d1)).setCell (p := ⟨w.heap.size + 1 + 1, 3, none⟩) (by simp; omega) (.slice (some ⟨g2, 0, none⟩) S.Re.length d2)).setCell (p := ⟨w.heap.size + 1 + 1, 4, none⟩) (by simp; omega) (.slice (some ⟨b5, o5, none⟩) S.Ho.length c5))
      rw [HL.out]
      exact ⟨⟨_, rfl, ⟨some ⟨b1, o1, none⟩, some ⟨b2, o2, none⟩, some ⟨g, 0, none⟩, some ⟨g2, 0, none⟩, some ⟨b5, o5, none⟩, c1, c2, d1, d2, c5, by simp, i1.below hbf, i2.below hbf, ⟨by show IntsAt _ _ (castL (S.Re.set u _)); rw [castL_set]; exact hof.ints, fun b off e _ => by cases e; exact hok _ (Nat.le_trans hww hg)⟩, ⟨by show IntsAt _ _ (castL (S.Wr.set u _)); rw [castL_set]; exact hof2.ints, fun b off e _ => by cases e; exact hok _ (Nat.le_trans hw2 hg2)⟩, i5.below hbf⟩⟩, hbf⟩
theorem AskBell_any {v : Value} (h : RL ok w v U F S) (hI : LInv U F S) (hU : ∀ i, i < S.Re.length → labOk (gI U (i * 2)) (gI U (i * 2 + 1))) (hF : ∀ i, i < S.Ho.length → labOk (gI F (i * 2)) (gI F (i * 2 + 1))) (lU : U.length = S.Re.length * 2) (lF : F.length = S.Ho.length * 2) (hok : ∀ b, w.heap.size ≤ b → ok b) (k u f t : Int) :
    Calls Tryz.prog 129 #[v, .agg #[.int .i64 k, .int .i64 u, .int .i64 f, .int .i64 t]] w fun e w' => (∃ v', e = .returned (.tuple #[v', .int .i64 (lAsk U F S k u f t).2]) ∧ RL ok w' v' U F (lAsk U F S k u f t).1) ∧ Below w.heap.size w w' := by
  obtain ⟨a1, a2, a3, a4, a5, c1, c2, c3, c4, c5, rfl, i1, i2, i3, i4, i5⟩ := h.is
  have hn8 := hI.ln
  have hm8 := hI.lm
  by_cases hbok : lOk S k u f t
  · obtain ⟨⟨hk, ⟨hu0, hu1⟩, hf0, hf1⟩, ht⟩ := id hbok
    obtain ⟨un, rfl⟩ := Int.eq_ofNat_of_zero_le hu0
    obtain ⟨fn, rfl⟩ := Int.eq_ofNat_of_zero_le hf0
    by_cases hk0 : k = 0
    · subst hk0
      exact AskBell_0 hI hU hF lU lF i1 i2 i3 i4 i5 hok un fn t (by omega) (by omega)
    · by_cases hk1 : k = 1
      · subst hk1
        exact AskBell_1 hI hU hF lU lF i1 i2 i3 i4 i5 hok un fn t (by omega) (by omega)
      · by_cases hk2 : k = 2
        · subst hk2
          exact AskBell_2 hI hU hF lU lF i1 i2 i3 i4 i5 hok un fn t (by omega) (by omega)
        · obtain rfl : k = 3 := by omega
          obtain ⟨ht0, ht1⟩ := ht rfl
          obtain ⟨tn, rfl⟩ := Int.eq_ofNat_of_zero_le ht0
          exact AskBell_3 hI hU hF lU lF i1 i2 i3 i4 i5 hok un fn tn (by omega) (by omega) (by omega)
  · unfold lAsk
    rw [if_neg hbok]
    exact (AskBell_range (by omega) (by omega) k u f t hbok).mono fun e w' ⟨he, hb⟩ => ⟨⟨_, he, h.below hb⟩, hb⟩
end
end Go.Proofs.YtanlmfnhlldkeaaGreatDoor
