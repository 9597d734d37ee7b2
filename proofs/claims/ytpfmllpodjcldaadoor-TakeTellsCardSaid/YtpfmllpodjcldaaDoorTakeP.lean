/-
  Contract: take.act.
-/
import Derived.Test.YtpfmllpodjcldaaDoorTakeS
import Derived.Test.YtpfmllpodjcldaaDoorTakeF
namespace Go.Proofs.YtpfmllpodjcldaaDoor
open Go.RowKit
set_option maxRecDepth 100000
set_option linter.unusedVariables false

/-- A graph in memory of one's own, cell by cell. -/
theorem grid_all {B : Nat} {w : World} {A : Option Addr} {n c : Nat} {L : List (List Int)} (h : GridAt B w (.slice A n c) L) (hok : GOk L) (hn : L.length = n) (hp : 0 < n) :
    ∃ (bo : Nat) (gs cs : Nat → Nat), A = some ⟨bo, 0, none⟩ ∧ B ≤ bo ∧ ∀ i, i < n → w.cell? ⟨bo, i, none⟩ = some (.slice (some ⟨gs i, 0, none⟩) n (cs i)) ∧ B ≤ gs i ∧
      (∀ j, j < n → w.cell? ⟨gs i, j, none⟩ = some (.int .i64 (gN L i j : Nat)) ∧ w.frozen? ⟨gs i, j, none⟩ = false) ∧
      (∀ j y, GridAt B (w.setCell ⟨gs i, j, none⟩ (.int .i64 y)) (.slice A n c) (setG L i j y)) := by
  subst hn
  obtain ⟨bo, co, x0, hv, hbo, _⟩ := h.row (i := 0) hp
  injection hv with hv1 hv2 hv3
  subst hv1
  have key : ∀ i, i < L.length → ∃ g cc, w.cell? ⟨bo, i, none⟩ = some (.slice (some ⟨g, 0, none⟩) L.length cc) ∧ B ≤ g ∧
      (∀ j, j < L.length → w.cell? ⟨g, j, none⟩ = some (.int .i64 (gN L i j : Nat)) ∧ w.frozen? ⟨g, j, none⟩ = false) ∧
      (∀ j y, GridAt B (w.setCell ⟨g, j, none⟩ (.int .i64 y)) (.slice (some ⟨bo, 0, none⟩) L.length c) (setG L i j y)) := fun i hi => by
    obtain ⟨b2, c2, x, hv', _, _, cx, _, hox, _, hst, _⟩ := h.row hi
    injection hv' with hv1'
    injection hv1' with hv1'
    injection hv1' with hv1'
    subst hv1'
    have hrl := hok.row i hi
    obtain ⟨g, cc, hx, hg, _, _, _⟩ := hox.cellAt (j := 0) (by omega)
    subst hx
    refine ⟨g, cc, by rw [cx, hrl], hg, fun j hj => ?_, fun j y => hst g j cc y rfl⟩
    obtain ⟨g', c', hx', _, _, h1, h2⟩ := hox.cellAt (j := j) (by omega)
    injection hx' with hx'
    injection hx' with hx'
    injection hx' with hx'
    subst hx'
    refine ⟨?_, h2⟩
    rw [h1]
    congr 2
    exact hok.nat hi hj
  obtain ⟨G, hG⟩ := Classical.axiomOfChoice (r := fun (i : {i // i < L.length}) (p : Nat × Nat) => w.cell? ⟨bo, i.1, none⟩ = some (.slice (some ⟨p.1, 0, none⟩) L.length p.2) ∧ B ≤ p.1 ∧
      (∀ j, j < L.length → w.cell? ⟨p.1, j, none⟩ = some (.int .i64 (gN L i.1 j : Nat)) ∧ w.frozen? ⟨p.1, j, none⟩ = false) ∧
      (∀ j y, GridAt B (w.setCell ⟨p.1, j, none⟩ (.int .i64 y)) (.slice (some ⟨bo, 0, none⟩) L.length c) (setG L i.1 j y))) (fun i => by
    obtain ⟨g, cc, h1⟩ := key i.1 i.2
    exact ⟨(g, cc), h1⟩)
  refine ⟨bo, fun i => if h : i < L.length then (G ⟨i, h⟩).1 else 0, fun i => if h : i < L.length then (G ⟨i, h⟩).2 else 0, rfl, hbo, fun i hi => ?_⟩
  have := hG ⟨i, hi⟩
  simp only [dif_pos hi]
  exact this

def anN (a b : Nat) : Nat := a - (a &&& b)
theorem andNot_nat : ∀ a : Nat, a < 8 → ∀ b : Nat, b < 8 → bits .andNot .i64 (a : Int) (b : Int) = ((anN a b : Nat) : Int) := by decide +kernel
theorem anN_zero : ∀ a : Nat, a < 8 → ∀ b : Nat, b < 8 → (anN a b = 0 ↔ a &&& b = a) := by decide +kernel
abbrev stVal (s : GStep) : Value := .agg #[.int .i64 s.k, .int .i64 s.w, .int .i64 s.o, .int .i64 s.t, .int .i64 s.r]

section
variable {B : Nat} {w : World} {A : Option Addr} {n c : Nat} {L : List (List Int)} {s : GStep}
set_option maxHeartbeats 4000000 in
theorem Act_range (hn : L.length = n) (hn20 : n ≤ 20) (h : ¬ inR s.k 0 2 ∨ ¬ inR s.w 0 ((n : Int) - 1)) :
    Calls Tryd.prog 35 #[.slice A n c, stVal s] w fun e w' => e = .returned (.tuple #[.slice none 0 0, .iface 59 (.int .i64 1)]) ∧ Below w.heap.size w w' := by
  obtain ⟨k, who, o, t, r⟩ := s
  simp only at h
  unfold inR at h
  have hb0 := Lib.hid ((Below.refl w.heap.size w).alloc (Nat.le_refl _) (.cells #[.int .i64 k, .int .i64 who, .int .i64 o, .int .i64 t, .int .i64 r] 65))
  by_cases h1 : 0 ≤ k ∧ k ≤ 2
  · have W1 := Lib.hid (fun V => Within3_is k 0 2 true V (decide_eq_true h1))
    have W2 := Lib.hid (fun V => Within3_is who 0 ((n : Int) - 1) false V (decide_eq_false (by omega)))
    clear h
    go_enter Tryd.func35, Tryd.ntmps35
    go_wp2_with (first | (with_reducible refine (W1.out _).mono ?_; rintro e w' ⟨rfl, rfl⟩) | (with_reducible refine (W2.out _).mono ?_; rintro e w' ⟨rfl, rfl⟩))
    go_ret2
    exact ⟨rfl, hb0.out⟩
  · have W1 := Lib.hid (fun V => Within3_is k 0 2 false V (decide_eq_false h1))
    clear h h1
    go_enter Tryd.func35, Tryd.ntmps35
    go_wp2_with (with_reducible refine (W1.out _).mono ?_; rintro e w' ⟨rfl, rfl⟩)
    go_ret2
    exact ⟨rfl, hb0.out⟩
set_option maxHeartbeats 4000000 in
theorem Act_full (hn : L.length = n) (hk : s.k = 2) (hw : inR s.w 0 ((n : Int) - 1)) (h : n = 20) :
    Calls Tryd.prog 35 #[.slice A n c, stVal s] w fun e w' => e = .returned (.tuple #[.slice none 0 0, .iface 59 (.int .i64 4)]) ∧ Below w.heap.size w w' := by
  obtain ⟨k, who, o, t, r⟩ := s
  simp only at hk hw
  unfold inR at hw
  subst hk
  have hb0 := Lib.hid ((Below.refl w.heap.size w).alloc (Nat.le_refl _) (.cells #[.int .i64 2, .int .i64 who, .int .i64 o, .int .i64 t, .int .i64 r] 65))
  have W1 := Lib.hid (fun V => Within3_is 2 0 2 true V (by simp))
  subst h
  have W2 := Lib.hid (fun V => Within3_is who 0 19 true V (decide_eq_true (by omega)))
  go_enter Tryd.func35, Tryd.ntmps35
  go_wp2_with (first | (with_reducible refine (W1.out _).mono ?_; rintro e w' ⟨rfl, rfl⟩) | (with_reducible refine (W2.out _).mono ?_; rintro e w' ⟨rfl, rfl⟩))
  go_ret2
  exact ⟨rfl, hb0.out⟩
set_option maxHeartbeats 4000000 in
theorem Act_range2 (hn : L.length = n) (hn20 : n ≤ 20) (hk : inR s.k 0 2) (hk2 : s.k ≠ 2) (hw : inR s.w 0 ((n : Int) - 1)) (h : ¬ inR s.o 0 ((n : Int) - 1) ∨ ¬ inR s.t 0 ((n : Int) - 1) ∨ ¬ inR s.r 1 7) :
    Calls Tryd.prog 35 #[.slice A n c, stVal s] w fun e w' => e = .returned (.tuple #[.slice none 0 0, .iface 59 (.int .i64 1)]) ∧ Below w.heap.size w w' := by
  obtain ⟨k, who, o, t, r⟩ := s
  simp only at hk hw hk2 h
  unfold inR at hw hk h
  have hb0 := Lib.hid ((Below.refl w.heap.size w).alloc (Nat.le_refl _) (.cells #[.int .i64 k, .int .i64 who, .int .i64 o, .int .i64 t, .int .i64 r] 65))
  have W1 := Lib.hid (fun V => Within3_is k 0 2 true V (decide_eq_true hk))
  have W2 := Lib.hid (fun V => Within3_is who 0 ((n : Int) - 1) true V (decide_eq_true hw))
  have dk : (k == 2) = false := by simpa using hk2
  by_cases h1 : 0 ≤ o ∧ o ≤ (n : Int) - 1
  · have W3 := Lib.hid (fun V => Within3_is o 0 ((n : Int) - 1) true V (decide_eq_true h1))
    by_cases h2 : 0 ≤ t ∧ t ≤ (n : Int) - 1
    · have W4 := Lib.hid (fun V => Within3_is t 0 ((n : Int) - 1) true V (decide_eq_true h2))
      have W5 := Lib.hid (fun V => Within3_is r 1 7 false V (decide_eq_false (by omega)))
      clear h hk hw hk2 h1 h2
      go_enter Tryd.func35, Tryd.ntmps35
      go_wp2_with (first | (with_reducible refine (W1.out _).mono ?_; rintro e w' ⟨rfl, rfl⟩) | (with_reducible refine (W2.out _).mono ?_; rintro e w' ⟨rfl, rfl⟩) | (with_reducible refine (W3.out _).mono ?_; rintro e w' ⟨rfl, rfl⟩) | (with_reducible refine (W4.out _).mono ?_; rintro e w' ⟨rfl, rfl⟩) | (with_reducible refine (W5.out _).mono ?_; rintro e w' ⟨rfl, rfl⟩))
      go_ret2
      exact ⟨rfl, hb0.out⟩
    · have W4 := Lib.hid (fun V => Within3_is t 0 ((n : Int) - 1) false V (decide_eq_false h2))
      clear h hk hw hk2 h1 h2
      go_enter Tryd.func35, Tryd.ntmps35
      go_wp2_with (first | (with_reducible refine (W1.out _).mono ?_; rintro e w' ⟨rfl, rfl⟩) | (with_reducible refine (W2.out _).mono ?_; rintro e w' ⟨rfl, rfl⟩) | (with_reducible refine (W3.out _).mono ?_; rintro e w' ⟨rfl, rfl⟩) | (with_reducible refine (W4.out _).mono ?_; rintro e w' ⟨rfl, rfl⟩))
      go_ret2
      exact ⟨rfl, hb0.out⟩
  · have W3 := Lib.hid (fun V => Within3_is o 0 ((n : Int) - 1) false V (decide_eq_false h1))
    clear h hk hw hk2 h1
    go_enter Tryd.func35, Tryd.ntmps35
    go_wp2_with (first | (with_reducible refine (W1.out _).mono ?_; rintro e w' ⟨rfl, rfl⟩) | (with_reducible refine (W2.out _).mono ?_; rintro e w' ⟨rfl, rfl⟩) | (with_reducible refine (W3.out _).mono ?_; rintro e w' ⟨rfl, rfl⟩))
    go_ret2
    exact ⟨rfl, hb0.out⟩
end
end Go.Proofs.YtpfmllpodjcldaaDoor
