/-
  Contract: quietwingref5.Save.
-/
import Derived.Test.YtgkanbaboeppfaaDoorKRD
import Derived.Test.YtgkanbaboeppfaaDoorKRow
namespace Go.Proofs.YtgkanbaboeppfaaDoor
open Go.RowKit
set_option maxRecDepth 100000
set_option linter.unusedVariables false

def partRows (s : KState) (n : Nat) : List (List Int) := (List.range n).map fun i => partNums (s.parts i)
def heldRows (s : KState) (q : Nat) : List (List Int) := (List.range q).map s.held
theorem partRows_len (s : KState) (n : Nat) : (partRows s n).length = n := by simp [partRows]
theorem heldRows_len (s : KState) (q : Nat) : (heldRows s q).length = q := by simp [heldRows]
theorem partRows_get (s : KState) {n i : Nat} (h : i < n) : (partRows s n).getD i [] = partNums (s.parts i) := by simp [partRows, List.getD_eq_getElem?_getD, h]
theorem heldRows_get (s : KState) {q i : Nat} (h : i < q) : (heldRows s q).getD i [] = s.held i := by simp [heldRows, List.getD_eq_getElem?_getD, h]
theorem KInv.numsPos {s : KState} {u : Nat} (h : KInv s u) (i : Nat) : ∀ x ∈ partNums (s.parts i), 0 ≤ x ∧ x ≤ 9223372036854775807 := fun x hx => by
  unfold partNums at hx
  simp only [List.mem_append, List.mem_cons, List.not_mem_nil, or_false] at hx
  have hp := h.pc i
  have hr := h.regs i
  rcases hx with (rfl | rfl | rfl | rfl | rfl) | hx
  · omega
  · have := hr 0; omega
  · have := hr 1; omega
  · have := hr 2; omega
  · have := hr 3; omega
  · have := (h.shown i).2 x hx; omega
theorem KInv.heldPos {s : KState} {u : Nat} (h : KInv s u) (j : Nat) : ∀ x ∈ s.held j, 0 ≤ x ∧ x ≤ 9223372036854775807 := fun x hx => by have := (h.held j).2 x hx; omega
/-- The reference's kernel as a value. -/
abbrev rkV (Ap Ao At : Option Addr) (cp co ct n q m t : Nat) (Pp Hp : Option Addr) (cP cH : Nat) : Array Value := #[.slice Ap n cp, .slice Ao q co, .slice At m ct, .int .i64 t, .slice Pp n cP, .slice Hp q cH]

set_option maxHeartbeats 8000000 in
theorem RSave_any {s : KState} {u n q m t cp co ct cP cH : Nat} {Ap Ao At Pp Hp : Option Addr} {w : World} (hP : RowsIn anyB 1 w Pp (partRows s n)) (hH : RowsIn anyB 1 w Hp (heldRows s q)) (hI : KInv s u) (hu : u ≤ 100000) (ht : t ≤ 300) (hn : n ≤ 5) (hq : q ≤ 6) :
    Calls Tryd.prog 17 #[.agg (rkV Ap Ao At cp co ct n q m t Pp Hp cP cH)] w fun e w' => e = .returned (.string ⟨(saveH s t n q).toArray⟩) ∧ Below w.heap.size w w' := by
  have hx := BoxN.new w 44 (rkV Ap Ao At cp co ct n q m t Pp Hp cP cH)
  have hb1 := (Below.refl w.heap.size w).alloc (Nat.le_refl _) (.cells (rkV Ap Ao At cp co ct n q m t Pp Hp cP cH) 44)
  have x3 := hx.cell (k := 3) rfl
  have x4 := hx.cell (k := 4) rfl
  have x5 := hx.cell (k := 5) rfl
  have HP := Lib.hid (hP.below hb1)
  have HH := Lib.hid (hH.below hb1)
  have HI := Lib.hid hI
  have Hl1 := Lib.hid (saveP_len hI hu ht)
  have Hl2 := Lib.hid (fun j => saveH_len (n := n) hI hu ht hn j)
  have D0 := Lib.hid (fun V => Digits_any V t (by omega))
  have hl0 := Lib.itoa_length_le (t : Int) (by omega) (by omega)
  have H0 := Lib.hid (show saveP s t 0 = Lib.itoa (t : Int) ++ [10] from by rw [saveP]; rfl)
  generalize Lib.itoa (t : Int) = it at *
  have hlen0 : ¬ 9223372036854775807 < it.length + 1 := by omega
  clear hP hH hI
  go_enter Tryd.func17, Tryd.ntmps17
  go_wp2_with fail
  refine (D0.out _).mono ?_
  rintro e w' ⟨rfl, rfl⟩
  generalize hw1 : w.alloc (.cells (rkV Ap Ao At cp co ct n q m t Pp Hp cP cH) 44) = w1 at *
  clear hw1 hx D0
  go_wp2_with fail
  go_loopw [3, 4] (fun tx i wr => ∃ k : Nat, k ≤ n ∧ i = .int .i64 k ∧ tx = .string ⟨(saveP s t k).toArray⟩ ∧ wr = w1) (fun _ i _ => n - (intOf i).toNat)
  case atStart => exact ⟨0, Nat.zero_le _, rfl, by rw [H0.out, ← bytes_add], rfl⟩
  case round =>
    obtain ⟨k, hk, rfl, rfl, hwr⟩ := hrel
    have hwr2 : w1 = wr := hwr.symm
    clear hwr
    subst hwr2
    by_cases hlt : k < n
    · obtain ⟨b, off, Ai, ni, ci, rfl, hc, hli, -, hin⟩ := HP.out.get (i := k) (by rw [partRows_len]; exact hlt)
      rw [partRows_get s hlt] at hli hin
      have hl := HI.out.numsPos k
      have C1 := Lib.hid (line_any (c := ci) hin.at_ (by rw [partNums_len]; have := (HI.out.shown k).1; omega) hl)
      have hli' : (partNums (s.parts k)).length = ni := by omega
      rw [hli'] at C1
      have Hst := Lib.hid (show saveP s t (k + 1) = saveP s t k ++ (wordsT (partNums (s.parts k)) ++ [10]) from by rw [← List.append_assoc]; rfl)
      have hlk := Hl1.out k
      have hlk1 := Hl1.out (k + 1)
      rw [Hst.out, List.length_append] at hlk1
      generalize wordsT (partNums (s.parts k)) ++ [10] = ln at *
      generalize hfk : saveP s t k = fk at *
      have Hfk := Lib.hid hfk
      clear hl hin hli hli' hfk
      have hlen : ¬ 9223372036854775807 < fk.length + ln.length := by omega
      go_wp2_with fail
      refine C1.out.mono ?_
      rintro e w' ⟨rfl, rfl⟩
      go_wp2_with fail
      refine ⟨⟨k + 1, ?pa, ?pb, ?pc, trivial⟩, ?pd⟩
      case pa => omega
      case pb => go_num
      case pc => rw [Hst.out, ← bytes_add]
      case pd => simp [intOf]; omega
    obtain rfl : n = k := by omega
    go_wp2_with fail
    clear x4
    go_loopw [3, 5] (fun tx i wr => ∃ k : Nat, k ≤ q ∧ i = .int .i64 k ∧ tx = .string ⟨(saveH s t n k).toArray⟩ ∧ wr = w1) (fun _ i _ => q - (intOf i).toNat)
    case atStart => exact ⟨0, Nat.zero_le _, rfl, rfl, rfl⟩
    case round =>
      obtain ⟨k, hk, rfl, rfl, hwr⟩ := hrel
      have hwr2 : w1 = wr := hwr.symm
      clear hwr
      subst hwr2
      by_cases hlt : k < q
      · obtain ⟨b, off, Ai, ni, ci, rfl, hc, hli, -, hin⟩ := HH.out.get (i := k) (by rw [heldRows_len]; exact hlt)
        rw [heldRows_get s hlt] at hli hin
        have hl := HI.out.heldPos k
        have C1 := Lib.hid (line_any (c := ci) hin.at_ (by have := (HI.out.held k).1; omega) hl)
        have hli' : (s.held k).length = ni := by omega
        rw [hli'] at C1
        have Hst := Lib.hid (show saveH s t n (k + 1) = saveH s t n k ++ (wordsT (s.held k) ++ [10]) from by rw [← List.append_assoc]; rfl)
        have hlk := Hl2.out k
        have hlk1 := Hl2.out (k + 1)
        rw [Hst.out, List.length_append] at hlk1
        generalize wordsT (s.held k) ++ [10] = ln at *
        generalize hfk : saveH s t n k = fk at *
        have Hfk := Lib.hid hfk
        clear hl hin hli hli' hfk
        have hlen : ¬ 9223372036854775807 < fk.length + ln.length := by omega
        go_wp2_with fail
        refine C1.out.mono ?_
        rintro e w' ⟨rfl, rfl⟩
        go_wp2_with fail
        refine ⟨⟨k + 1, ?az, ?bz, ?cz, trivial⟩, ?dz⟩
        case az => omega
        case bz => go_num
        case cz => rw [Hst.out, ← bytes_add]
        case dz => simp [intOf]; omega
      have hkn : k = q := by omega
      subst hkn
      go_wp2_with fail
      go_ret
      exact ⟨rfl, hb1⟩
end Go.Proofs.YtgkanbaboeppfaaDoor
