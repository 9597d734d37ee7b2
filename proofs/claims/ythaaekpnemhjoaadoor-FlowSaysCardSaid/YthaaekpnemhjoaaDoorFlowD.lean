/-
  Contract: flow.Least, with its closure.
-/
import Derived.Test.YthaaekpnemhjoaaDoorFlowC
import Derived.Test.YthaaekpnemhjoaaDoorClone
import Derived.Deep.LoopGhost
namespace Go.Proofs.YthaaekpnemhjoaaDoor
open Go.RowKit Go.Shelf
set_option maxRecDepth 100000
set_option linter.unusedVariables false

/-- One setting, in a pass. -/
def leastStep (M : List Int) (o : List Int × Bool) (p : Nat × Nat) : List Int × Bool :=
  if gI o.1 p.1 < hiI o.1 (bitsOf p.2) ∧ gI M p.1 < 0 then (o.1.set p.1 (hiI o.1 (bitsOf p.2)), true) else o
def leastPass (M : List Int) (l : List (Nat × Nat)) (o : List Int × Bool) : List Int × Bool := l.foldl (leastStep M) o
theorem leastPass_snoc (M : List Int) (l : List (Nat × Nat)) (o : List Int × Bool) (p : Nat × Nat) : leastPass M (l ++ [p]) o = leastStep M (leastPass M l o) p := by unfold leastPass; rw [List.foldl_append]; rfl
theorem leastStep_len (M : List Int) (o : List Int × Bool) (p : Nat × Nat) : (leastStep M o p).1.length = o.1.length := by
  unfold leastStep; split
  · rw [List.length_set]
  · rfl
theorem leastPass_len (M : List Int) (l : List (Nat × Nat)) (o : List Int × Bool) : (leastPass M l o).1.length = o.1.length := by
  induction l generalizing o with
  | nil => rfl
  | cons p l ih => show (leastPass M l (leastStep M o p)).1.length = _; rw [ih, leastStep_len]

section
variable {w0 V : World} {ob lb ab b off c co g x f : Nat} {M O : List Int} {ag : Bool}
set_option maxHeartbeats 2000000 in
theorem Least1_any (ho : BoxN V ob 23 #[.slice (some ⟨g, 0, none⟩) 6 co]) (hg : OwnAt V g 3 (O.map (Value.int .i64))) (hl : BoxN V lb 23 #[.slice (some ⟨b, off, none⟩) 6 c]) (ha : BoxN V ab 4 #[.bool ag]) (hne : b < w0.heap.size) (hgw : w0.heap.size ≤ g) (haw : w0.heap.size ≤ ab) (hlow : Below w0.heap.size w0 V)
    (hM : IntsAt w0 (some ⟨b, off, none⟩) M) (h6 : M.length = 6) (o6 : O.length = 6) (hT : Tab w0) (hx6 : x < 6) (hf : f < 64) {r : List Int × Bool} (hr : leastStep M (O, ag) (x, f) = r) :
    Calls Tryd.prog 41 #[.int .i64 (x : Nat), .int .i64 (f : Nat), .pointer (some ⟨ob, 0, none⟩), .pointer (some ⟨lb, 0, none⟩), .pointer (some ⟨ab, 0, none⟩)] V fun e w' => e = .returned (.tuple #[]) ∧ OwnAt w' g 3 (r.1.map (Value.int .i64)) ∧ BoxN w' ab 4 #[.bool r.2] ∧
      (∀ q t vs, BoxN V q t vs → q ≠ ab → t ≠ 3 → BoxN w' q t vs) ∧ Below w0.heap.size w0 w' ∧ V.heap.size ≤ w'.heap.size ∧ ∀ q, q ≠ g → q ≠ ab → q < V.heap.size → w'.heap[q]? = V.heap[q]? := by
  have HH := Lib.hid (highest_any (c := co) o6 hg.ints (hT.next hlow) hf)
  obtain ⟨b', off', hA, hcl⟩ := hM (by intro e; rw [e] at h6; cases h6)
  injection hA with hA
  injection hA with hA1 hA2
  subst hA1; subst hA2
  have c1 : w0.cell? ⟨b, off + x, none⟩ = some (.int .i64 (gI M x)) := hcl x _ (get_gI (by omega))
  have c2 := (hlow.cell (p := ⟨b, off + x, none⟩) hne).trans c1
  have q1 : V.cell? ⟨ob, 0, none⟩ = some (.slice (some ⟨g, 0, none⟩) 6 co) := ho.cell rfl
  have hxi : (x : Int) < 6 := by omega
  have hbV : b < V.heap.size := Nat.lt_of_lt_of_le hne hlow.size
  have hgab : g ≠ ab := hg.ne_box ha (by decide)
  have Hset : ∀ z : Int, (O.map (Value.int .i64)).set x (.int .i64 z) = (O.set x z).map (Value.int .i64) := fun z => by rw [List.map_set]
  have Hset := Lib.hid Hset
  have Hr := Lib.hid hr
  have Hrs := Lib.hid (show leastStep M (O, ag) (x, f) = if gI O x < hiI O (bitsOf f) ∧ gI M x < 0 then (O.set x (hiI O (bitsOf f)), true) else (O, ag) from rfl)
  have Hg := Lib.hid hg
  have Ha := Lib.hid ha
  have Ho := Lib.hid ho
  have Hl := Lib.hid hl
  have Hlow := Lib.hid hlow
  clear hcl c1 hr hM hT
  generalize hiI O (bitsOf f) = h at *
  go_enter Tryd.func41, Tryd.ntmps41
  go_wp2_with fail
  refine HH.out.mono ?_
  rintro e w1 ⟨rfl, hb1⟩
  have hbw := Hlow.out.trans (hb1.mono Hlow.out.size)
  have hg1 := Hg.out.all hb1
  have ha1 := Ha.out.all hb1
  have s1 : w1.cell? ⟨ob, 0, none⟩ = some (.slice (some ⟨g, 0, none⟩) 6 co) := (Ho.out.all hb1).cell rfl
  have s2 : w1.cell? ⟨lb, 0, none⟩ = some (.slice (some ⟨b, off, none⟩) 6 c) := (Hl.out.all hb1).cell rfl
  have s3 : w1.cell? ⟨b, off + x, none⟩ = some (.int .i64 (gI M x)) := (hb1.cell (p := ⟨b, off + x, none⟩) hbV).trans c2
  have s4 : w1.cell? ⟨g, x, none⟩ = some (.int .i64 (gI O x)) := hg1.cell (by rw [List.getElem?_map, get_gI (by omega)]; rfl)
  have s5 := hg1.free x
  have s6 : w1.cell? ⟨ab, 0, none⟩ = some (.bool ag) := ha1.cell rfl
  have s7 := ha1.free 0
  have Hg1 := Lib.hid hg1
  have Ha1 := Lib.hid ha1
  have hset2 : (w1.setCell ⟨g, x, none⟩ (.int .i64 h)).cell? ⟨ab, 0, none⟩ = some (.bool ag) := (ha1.other (a := ⟨g, x, none⟩) hgab.symm _).cell rfl
  have hfr2 := (ha1.other (a := ⟨g, x, none⟩) hgab.symm (.int .i64 h)).free 0
  clear HH c2 q1 hg ha ho hl hlow hg1 ha1
  generalize gI O x = ox at *
  generalize gI M x = mx at *
  have fin : ∀ (z : Int) (w2 : World), w2 = (w1.setCell ⟨g, x, none⟩ (.int .i64 h)).setCell ⟨ab, 0, none⟩ (.bool true) → r = (O.set x h, true) → 
      OwnAt w2 g 3 (r.1.map (Value.int .i64)) ∧ BoxN w2 ab 4 #[.bool r.2] ∧ (∀ q t vs, BoxN V q t vs → q ≠ ab → t ≠ 3 → BoxN w2 q t vs) ∧ Below w0.heap.size w0 w2 ∧ V.heap.size ≤ w2.heap.size ∧ ∀ q, q ≠ g → q ≠ ab → q < V.heap.size → w2.heap[q]? = V.heap[q]? := fun z w2 hw hr => by
    subst hw; subst hr
    refine ⟨?_, ?_, ?_, ?_, ?_, ?_⟩
    · refine OwnAt.far ?_ hgab _
      rw [← Hset.out]
      exact Hg1.out.set (by simp; omega) _
    · exact (Ha1.out.other (a := ⟨g, x, none⟩) hgab.symm _).set 0 (.bool true)
    · intro q t vs hq hqa ht
      have hqg : q ≠ g := (Hg.out.ne_box hq (fun e => ht e.symm)).symm
      exact ((hq.all hb1).other (a := ⟨g, x, none⟩) hqg _).other (a := ⟨ab, 0, none⟩) hqa _
    · exact (hbw.setCell (p := ⟨g, x, none⟩) hgw _).setCell (p := ⟨ab, 0, none⟩) haw _
    · simp; exact hb1.size
    · intro q h1 h2 h3
      rw [Below.heap_setCell _ ⟨ab, 0, none⟩ _ q h2, Below.heap_setCell _ ⟨g, x, none⟩ _ q h1]
      exact hb1.block q h3
  have fin0 : r = (O, ag) → OwnAt w1 g 3 (r.1.map (Value.int .i64)) ∧ BoxN w1 ab 4 #[.bool r.2] ∧ (∀ q t vs, BoxN V q t vs → q ≠ ab → t ≠ 3 → BoxN w1 q t vs) ∧ Below w0.heap.size w0 w1 ∧ V.heap.size ≤ w1.heap.size ∧ ∀ q, q ≠ g → q ≠ ab → q < V.heap.size → w1.heap[q]? = V.heap[q]? := fun hr => by
    subst hr
    exact ⟨Hg1.out, Ha1.out, fun q t vs hq _ _ => hq.all hb1, hbw, hb1.size, fun q _ _ h3 => hb1.block q h3⟩
  have Fin := Lib.hid fin
  have Fin0 := Lib.hid fin0
  clear fin fin0
  by_cases h1 : ox < h
  · have d1 : decide (h > ox) = true := decide_eq_true h1
    by_cases h2 : mx < 0
    · have d2 : decide (mx < 0) = true := decide_eq_true h2
      have Hrr := Lib.hid (show r = (O.set x h, true) by rw [← Hr.out, Hrs.out, if_pos ⟨h1, h2⟩])
      clear h1 h2
      go_wp2_with fail
      go_end0
      exact ⟨rfl, Fin.out 0 _ rfl Hrr.out⟩
    · have d2 : decide (mx < 0) = false := decide_eq_false h2
      have Hrr := Lib.hid (show r = (O, ag) by rw [← Hr.out, Hrs.out, if_neg (fun e => h2 e.2)])
      clear h1 h2
      go_wp2_with fail
      go_end0
      exact ⟨rfl, Fin0.out Hrr.out⟩
  · have d1 : decide (h > ox) = false := decide_eq_false h1
    have Hrr := Lib.hid (show r = (O, ag) by rw [← Hr.out, Hrs.out, if_neg (fun e => h1 e.1)])
    clear h1
    go_wp2_with fail
    go_end0
    exact ⟨rfl, Fin0.out Hrr.out⟩
end
end Go.Proofs.YthaaekpnemhjoaaDoor
