/-
  Contract: run.Run.
-/
import Derived.Test.YtdgncngkalgknaaDoorRunC
namespace Go.Proofs.YtdgncngkalgknaaDoor
open Go.RowKit
set_option maxRecDepth 100000
set_option linter.unusedVariables false

theorem Run_bad {P : List Int} {n : Nat} {A : Option Addr} {c : Nat} {w : World} {L : List Int} {Al : Option Addr} {cl : Nat} {fuel : Int} {k : Nat} (h : NodesAt w A P n) (hL : IntsAt w Al L) (hk : runCode P n L fuel = k) (hne : k ≠ 0) :
    Calls Tryd.prog 14 #[.slice A n c, .slice Al L.length cl, .int .i64 fuel] w fun e w' => e = .returned (.tuple #[.slice none 0 0, .int .i64 0, .iface 61 (.int .i64 k)]) ∧ Below w.heap.size w w' := by
  have HC := RunCheck_any (c := c) (cl := cl) fuel h hL
  rw [hk, errVal_pos hne] at HC
  have HC := Lib.hid HC
  clear hk hne hL h
  generalize L.length = m at *
  go_enter Tryd.func14, Tryd.ntmps14
  go_wp2_with (go_at_call 37; with_reducible refine HC.out.mono ?_; rintro e w1 ⟨rfl, hb1⟩)
  go_ret3
  exact ⟨rfl, hb1⟩
theorem RunAt.ints {w0 w : World} {p : Nat} {A : Option Addr} {P : List Int} {n c : Nat} {v : List Nat} {left : Int} (h : RunAt w0 w p A P n c v left) (h6 : v.length = 6) : IntsAt w (some ⟨p, 1, none⟩) (castL v) := fun _ => by
  refine ⟨p, 1, rfl, fun j x hx => ?_⟩
  have hj : j < 6 := by have := (List.getElem?_eq_some_iff.1 hx).1; rw [length_castL, h6] at this; exact this
  rw [get_castL hx]
  exact h.var hj
/-- What a run leaves behind it. -/
def RunPost (w : World) (l : Nat) (r : Option (List Nat × Nat)) (e : Ending) (w' : World) : Prop :=
  (match r with
    | none => e = .returned (.tuple #[.slice none 0 0, .int .i64 0, .iface 61 (.int .i64 4)])
    | some (v', l') => ∃ B c', e = .returned (.tuple #[.slice B 6 c', .int .i64 (l - l' : Nat), .nilIface]) ∧ IntsAt w' B (castL v')) ∧ Below w.heap.size w w'
set_option maxHeartbeats 1000000 in
theorem Run_ok {P : List Int} {n : Nat} {A : Option Addr} {c : Nat} {w : World} {v : List Nat} {Al : Option Addr} {cl : Nat} {l : Nat} {s : St} (h : NodesAt w A P n) (hL : IntsAt w Al (castL v)) (hk : runCode P n (castL v) l = 0) (hv : Vars v) (hs : IsSt P (n - 1) s) :
    Calls Tryd.prog 14 #[.slice A n c, .slice Al 6 cl, .int .i64 l] w (RunPost w l (s.run v l)) := by
  obtain ⟨hc, -, l', hl', hl5⟩ := runCode_ok hk
  obtain ⟨⟨hn1, hn80⟩, -, -⟩ := progCode_tree hc
  have hl5 : l ≤ 5000 := by omega
  have hlv : (castL v).length = 6 := by rw [length_castL, hv.1]
  have HC := RunCheck_any (c := c) (cl := cl) (l : Int) h hL
  rw [hk, errVal_zero, hlv] at HC
  have HC := Lib.hid HC
  obtain ⟨b, off, rfl, hcl⟩ := (show _ from hL) (by intro e; rw [e] at hlv; cases hlv)
  have Hcl := Lib.hid (show ∀ x, x < 6 → w.cell? ⟨b, off + x, none⟩ = some (.int .i64 (row v x : Nat)) from fun x hx => by
    have h1 : (castL v)[x]? = some ((row v x : Nat) : Int) := by unfold castL row; rw [List.getElem?_map, List.getElem?_eq_getElem (by rw [hv.1]; exact hx)]; rfl
    exact hcl x _ h1)
  have hbw := block_lt (Hcl.out 0 (by decide))
  have hsub : (n : Int) - 1 = ((n - 1 : Nat) : Int) := by omega
  have h1n : (1 : Int) ≤ n := by omega
  have harr : ∀ V : World, (Instr.arrayAt 69 (.slice (some ⟨b, off, none⟩) 6 cl)).run Tryd.prog V = .ok (.pointer (some ⟨b, off, none⟩)) V := fun V => by
    simp [Instr.arrayAt, go_sem]
  clear hcl hk hc hlv hl' hL
  go_enter Tryd.func14, Tryd.ntmps14
  go_wp2_with fail
  with_reducible refine HC.out.mono ?_
  rintro e w1 ⟨rfl, hb1⟩
  have g0 : w1.cell? ⟨b, off, none⟩ = some (.int .i64 (row v 0 : Nat)) := (hb1.cell (p := ⟨b, off, none⟩) hbw).trans (Hcl.out 0 (by decide))
  have g1 : w1.cell? ⟨b, off + 1, none⟩ = some (.int .i64 (row v 1 : Nat)) := (hb1.cell (p := ⟨b, off + 1, none⟩) hbw).trans (Hcl.out 1 (by decide))
  have g2 : w1.cell? ⟨b, off + 2, none⟩ = some (.int .i64 (row v 2 : Nat)) := (hb1.cell (p := ⟨b, off + 2, none⟩) hbw).trans (Hcl.out 2 (by decide))
  have g3 : w1.cell? ⟨b, off + 3, none⟩ = some (.int .i64 (row v 3 : Nat)) := (hb1.cell (p := ⟨b, off + 3, none⟩) hbw).trans (Hcl.out 3 (by decide))
  have g4 : w1.cell? ⟨b, off + 4, none⟩ = some (.int .i64 (row v 4 : Nat)) := (hb1.cell (p := ⟨b, off + 4, none⟩) hbw).trans (Hcl.out 4 (by decide))
  have g5 : w1.cell? ⟨b, off + 5, none⟩ = some (.int .i64 (row v 5 : Nat)) := (hb1.cell (p := ⟨b, off + 5, none⟩) hbw).trans (Hcl.out 5 (by decide))
  clear HC
  go_wp2_with fail
  have hs1 := hb1.size
  have hbW := hb1.alloc hs1 (.cells #[.slice A n c, .int .i64 (row v 0 : Nat), .int .i64 (row v 1 : Nat), .int .i64 (row v 2 : Nat), .int .i64 (row v 3 : Nat), .int .i64 (row v 4 : Nat), .int .i64 (row v 5 : Nat), .int .i64 (l : Nat)] 71)
  have hR : RunAt w (w1.alloc (.cells #[.slice A n c, .int .i64 (row v 0 : Nat), .int .i64 (row v 1 : Nat), .int .i64 (row v 2 : Nat), .int .i64 (row v 3 : Nat), .int .i64 (row v 4 : Nat), .int .i64 (row v 5 : Nat), .int .i64 (l : Nat)] 71)) w1.heap.size A P n c v l := ⟨h, hbW, hs1, BoxN.new w1 _ _⟩
  generalize (w1.alloc (.cells #[.slice A n c, .int .i64 (row v 0 : Nat), .int .i64 (row v 1 : Nat), .int .i64 (row v 2 : Nat), .int .i64 (row v 3 : Nat), .int .i64 (row v 4 : Nat), .int .i64 (row v 5 : Nat), .int .i64 (l : Nat)] 71)) = W at *
  have HD := do_any hs (show n - 1 < n by omega) v l W hv hl5 hR
  clear g0 g1 g2 g3 g4 g5 harr Hcl
  cases hr : s.run v l with
  | none =>
    rw [hr] at HD
    have Hr := Lib.hid hr
    clear hr
    refine HD.mono ?_
    rintro e w2 ⟨hT, he⟩
    have he : e = .returned (.bool false) := he
    subst he
    go_wp2_with fail
    go_ret3
    rw [Hr.out]
    exact ⟨rfl, hbW.trans (hT.low.mono hs1)⟩
  | some q =>
    obtain ⟨v', l'⟩ := q
    rw [hr] at HD
    have hv' := St.run_vars hs.ok hr hv
    have hle := St.left _ _ _ _ hr
    refine HD.mono ?_
    rintro e w2 ⟨hT, he⟩
    obtain ⟨he, h2⟩ : e = .returned (.bool true) ∧ RunAt w w2 w1.heap.size A P n c v' l' := he
    subst he
    have h6' : (castL v').length = 6 := by rw [length_castL, hv'.1]
    have HCl := fun V (hV : Below w2.heap.size w2 V) => Clone_some w1.heap.size 1 6 (castL v') V ((h2.all hV).ints hv'.1) (by intro e; rw [e] at h6'; cases h6') (by rw [h6']; decide)
    rw [h6'] at HCl
    have HCl := Lib.hid HCl
    have hbd := (Below.refl w2.heap.size w2).drew
    have e7 : w2.cell? ⟨w1.heap.size, 7, none⟩ = some (.int .i64 (l' : Nat)) := h2.box.cell rfl
    have hbl2 := h2.low
    have H2 := Lib.hid h2
    have Hr := Lib.hid hr
    have hwr : IntKind.i64.wrap ((l : Int) - l') = ((l - l' : Nat) : Int) := by rw [IntKind.wrap_i64]; omega
    have Hwr := Lib.hid hwr
    clear hwr
    clear HD hT hR h h2 hs hr h6'
    have hsl : ∀ V : World, (Instr.sliceAt 69 (.pointer (some ⟨w1.heap.size, 1, none⟩)) none none none).run Tryd.prog V = .ok (.slice (some ⟨w1.heap.size, 1, none⟩) 6 6) V := fun V => by
      simp [Instr.sliceAt, Instr.sliceBounds, go_sem]
    generalize w1.heap.size = p at *
    go_wp2_with fail
    go_region_with (go_at_call 39; with_reducible refine (HCl.out _ hbd).mono ?_; rintro e w3 ⟨g, c3, rfl, hg3, ho3, hb3⟩; have e7' := (H2.out.all (hbd.trans (hb3.mono hbd.size))).box.cell (k := 7) rfl)
    all_goals go_wp2_with fail
    all_goals go_ret3
    all_goals rw [Hr.out]
    all_goals (refine ⟨⟨some ⟨g, 0, none⟩, c3, ?_, ho3.ints⟩, hbl2.trans ((hbd.trans (hb3.mono hbd.size)).mono hbl2.size)⟩; show Ending.returned (.tuple #[.slice (some ⟨g, 0, none⟩) 6 c3, .int .i64 (IntKind.i64.wrap ((l : Int) - l')), .nilIface]) = _; rw [Hwr.out])
end Go.Proofs.YtdgncngkalgknaaDoor
