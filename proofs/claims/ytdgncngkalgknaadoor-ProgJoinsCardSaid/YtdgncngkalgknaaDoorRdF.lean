/-
  The reader where the text is wrong: its small methods; what is read grows shorter.
-/
import Derived.Test.YtdgncngkalgknaaDoorRdD
import Derived.WalkLawsBesides
namespace Go.Proofs.YtdgncngkalgknaaDoor
open Go.RowKit
set_option maxRecDepth 100000
set_option linter.unusedVariables false

/-- What is thrown. -/
def chainOf (k : Int) : List PanicEntry := [{ v := .iface 63 (.agg #[.int .i64 k]), recovered := false }]
def RdBad (r : Nat) (k : Nat) (w : World) (e : Ending) (w' : World) : Prop := e = .panicked (chainOf k) ∧ Below r w w'
theorem RdBad.trans {r k : Nat} {w w1 w2 : World} {e : Ending} (h : Below r w w1) (g : RdBad r k w1 e w2) : RdBad r k w e w2 := ⟨g.1, h.trans g.2⟩
theorem fail_any (r : Addr) (k : Int) (w : World) : Calls Tryd.prog 36 #[.pointer (some r), .int .i64 k] w fun e w' => e = .panicked (chainOf k) ∧ w = w' := by
  go_enter Tryd.func36, Tryd.ntmps36
  go_wp2
  exact ⟨rfl, rfl, rfl⟩
section
variable {w : World} {r : Nat} {s : ByteArray} {p n : Nat} {v : Value} {o : List Int}
theorem name_bad {x : Int} (hx : ¬ (97 ≤ x ∧ x ≤ 102)) (h0 : 0 ≤ x) (h1 : x ≤ 255) (r : Nat) (w : World) :
    Calls Tryd.prog 87 #[.pointer (some ⟨r, 0, none⟩), .int .u8 x] w (RdBad r 2 w) := by
  have C := Lib.hid (within_is x 97 102 false (decide_eq_false hx))
  clear hx
  go_enter Tryd.func87, Tryd.ntmps87
  go_wp2_with (go_at_call 57; with_reducible refine (C.out _).mono ?_; rintro e w' ⟨rfl, rfl⟩)
  refine (fail_any _ 2 _).mono ?_
  rintro e w' ⟨rfl, rfl⟩
  exact ⟨rfl, rfl, Below.refl _ _⟩
set_option maxHeartbeats 2000000 in
theorem want_bad {x : Int} (h : RdAt w r s p n v o) (hs : s.size ≤ 300) (hp : p ≤ 400) (hc : peekV s p ≠ x) :
    Calls Tryd.prog 88 #[.pointer (some ⟨r, 0, none⟩), .int .u8 x] w (RdBad r 2 w) := by
  have C := Lib.hid (next_any h hs hp)
  have dx : (peekV s p != x) = true := by simpa using hc
  clear h hc
  generalize peekV s p = y at *
  go_enter Tryd.func88, Tryd.ntmps88
  go_wp2_with (go_at_call 84; with_reducible refine C.out.mono ?_; rintro e w1 ⟨rfl, h1, hb1⟩)
  refine (fail_any _ 2 _).mono ?_
  rintro e w' ⟨rfl, rfl⟩
  exact ⟨rfl, rfl, hb1⟩
set_option maxHeartbeats 2000000 in
theorem node_bad (h : RdAt w r s p 80 v o) (k0 k1 k2 k3 k4 : Int) :
    Calls Tryd.prog 63 #[.pointer (some ⟨r, 0, none⟩), .agg #[.int .i64 k0, .int .i64 k1, .int .i64 k2, .int .i64 k3, .int .i64 k4]] w (RdBad r 4 w) := by
  obtain ⟨A, c, rfl⟩ := h.own.form
  have hr := h.lt
  have hb := (Below.refl w.heap.size w).alloc (Nat.le_refl _) (.cells #[.int .i64 k0, .int .i64 k1, .int .i64 k2, .int .i64 k3, .int .i64 k4] 51)
  have x2 : (w.alloc (.cells #[.int .i64 k0, .int .i64 k1, .int .i64 k2, .int .i64 k3, .int .i64 k4] 51)).cell? ⟨r, 2, none⟩ = some (.slice A 80 c) := (h.below hb).out
  have hb1 := Lib.hid (hb.mono (Nat.le_of_lt hr))
  clear h hb
  go_enter Tryd.func63, Tryd.ntmps63
  go_wp2_with fail
  refine (fail_any _ 4 _).mono ?_
  rintro e w' ⟨rfl, rfl⟩
  exact ⟨rfl, rfl, hb1.out⟩
end

theorem mk5_bad {l : List UInt8} {o : List Int} {k n a b c : Int} {e m : Nat} (h : mk5 l o k n a b c = .bad e) (hl : o.length = m * 5) : m = 80 ∧ e = 4 := by
  unfold mk5 at h
  split at h
  · injection h with h; exact ⟨by omega, h.symm⟩
  · cases h
theorem mk5_len {l l' : List UInt8} {o o' : List Int} {k n a b c : Int} {i : Nat} (h : mk5 l o k n a b c = .good i l' o') : l' = l := by
  unfold mk5 at h
  split at h
  · cases h
  · injection h with h1 h2 h3; exact h2.symm
theorem pValue_short : ∀ {f : Nat} {l : List UInt8} {o : List Int} {i : Nat} {l' : List UInt8} {o' : List Int}, pValue f l o = .good i l' o' → l'.length < l.length
  | 0, l, o, i, l', o', h => by cases h
  | f + 1, [], o, i, l', o', h => by cases h
  | f + 1, c :: r, o, i, l', o', h => by
    rw [pValue] at h
    split at h
    · obtain ⟨a, l1, o1, h1, h⟩ := andThen_good h
      obtain ⟨b, l2, o2, h2, h⟩ := andThen_good h
      have e1 := pValue_short h1
      have e2 := pValue_short h2
      rw [mk5_len h]
      simp only [List.length_cons]
      omega
    · split at h
      · split at h
        · rw [mk5_len h]
          have := (List.dropWhile_sublist (l := r) isDig).length_le
          simp only [List.length_cons]
          omega
        · cases h
      · split at h
        · rw [mk5_len h]; simp
        · cases h
theorem pBlock_short {L : List UInt8 → List Int → PR} (hL : ∀ {l : List UInt8} {o : List Int} {i : Nat} {l' : List UInt8} {o' : List Int}, L l o = .good i l' o' → l'.length ≤ l.length) {l : List UInt8} {o : List Int} {i : Nat} {l' : List UInt8} {o' : List Int} (h : pBlock L l o = .good i l' o') : l'.length < l.length := by
  obtain ⟨r, rfl, h⟩ := pWant_good h
  obtain ⟨i1, l1, o1, h1, h⟩ := andThen_good h
  obtain ⟨l2, rfl, h⟩ := pWant_good h
  injection h with e1 e2 e3
  subst e2
  have := hL h1
  simp only [List.length_cons] at *
  omega
theorem pOne_short {f : Nat} {L : List UInt8 → List Int → PR} (hL : ∀ {l : List UInt8} {o : List Int} {i : Nat} {l' : List UInt8} {o' : List Int}, L l o = .good i l' o' → l'.length ≤ l.length) {l : List UInt8} {o : List Int} {i : Nat} {l' : List UInt8} {o' : List Int} (h : pOne (pValue f) L l o = .good i l' o') : l'.length < l.length := by
  unfold pOne at h
  cases l with
  | nil => cases h
  | cons c r =>
    dsimp only at h
    simp only [List.length_cons]
    split at h
    · obtain ⟨a, l1, o1, h1, h⟩ := andThen_good h
      obtain ⟨b, l2, o2, h2, h⟩ := andThen_good h
      obtain ⟨d, l3, o3, h3, h⟩ := andThen_good h
      have e1 := pValue_short h1
      have e2 := pBlock_short hL h2
      have e3 := pBlock_short hL h3
      rw [mk5_len h]; omega
    · split at h
      · obtain ⟨a, l1, o1, h1, h⟩ := andThen_good h
        obtain ⟨b, l2, o2, h2, h⟩ := andThen_good h
        have e1 := pValue_short h1
        have e2 := pBlock_short hL h2
        rw [mk5_len h]; omega
      · split at h
        · obtain ⟨r1, rfl, h⟩ := pWant_good h
          obtain ⟨a, l1, o1, h1, h⟩ := andThen_good h
          obtain ⟨l2, rfl, h⟩ := pWant_good h
          have e1 := pValue_short h1
          rw [mk5_len h]
          simp only [List.length_cons] at *
          omega
        · cases h
theorem pList_short : ∀ {f : Nat} {l : List UInt8} {o : List Int} {i : Nat} {l' : List UInt8} {o' : List Int}, pList f l o = .good i l' o' → l'.length ≤ l.length
  | 0, l, o, i, l', o', h => by cases h
  | f + 1, l, o, i, l', o', h => by
    rw [pList] at h
    split at h
    · rw [mk5_len h]; exact Nat.le_refl _
    · obtain ⟨a, l1, o1, h1, h⟩ := andThen_good h
      have e1 := pOne_short (fun {l o i l' o'} h => pList_short h) h1
      split at h
      · injection h with x1 x2 x3; rw [← x2]; omega
      · obtain ⟨b, l2, o2, h2, h⟩ := andThen_good h
        have e2 := pList_short h2
        rw [mk5_len h]; omega
theorem drop_len {s : ByteArray} {p : Nat} {l : List UInt8} (h : s.data.toList.drop p = l) (hp : p ≤ s.size) : l.length = s.size - p := by
  rw [← h, List.length_drop]
  have : s.data.toList.length = s.size := by simp
  omega
end Go.Proofs.YtdgncngkalgknaaDoor
