/-
  Contract: prog.Read, where the text is right.
-/
import Derived.Test.YtdgncngkalgknaaDoorRdD
import Derived.Defers
import Derived.Recover
namespace Go.Proofs.YtdgncngkalgknaaDoor
open Go.RowKit
set_option maxRecDepth 100000
set_option linter.unusedVariables false

theorem catch_idle (p q : Addr) (w : World) :
    CallsD Tryd.prog 34 #[.pointer (some p), .pointer (some q)] .returning w fun e u' w' => e = .returned (.tuple #[]) ∧ u' = .returning ∧ w' = w := by
  refine callsD_of_wpS Tryd.func34 rfl fun c₀ cs hu => ?_
  apply wpS_seq
  apply wpS_region
  simp [wpOpsS, go_sem, recoverD, hu, Tryd.ntmps34, Exit.thenS]
  refine wpS_of_wp ?_
  go_wp2
  cases c₀
  simp_all [bodyPostS, results, Tryd.results34]
/-- What Read gives of a text that is right. -/
def ReadGood (o : List Int) (w : World) (e : Ending) (w' : World) : Prop := (∃ A n c, e = .returned (.tuple #[.slice A n c, .nilIface]) ∧ o.length = n * 5 ∧ n ≤ c ∧ IntsAt w' A o) ∧ Below w.heap.size w w'
theorem ownsRow_cap' {w : World} {base size n c : Nat} {e : TypeId} {A : Option Addr} {xs : List Value} (h : w.ownsRow base e size (.slice A n c) n xs) : n ≤ c := by
  rcases h.2 with ⟨h0, h1⟩ | ⟨g, cap, cur, hv, hb, hg, hnc, _⟩
  · omega
  · injection hv with _ _ h3
    omega
set_option maxHeartbeats 8000000 in
theorem Read_good {s : ByteArray} (hs : s.size ≤ 300) {w : World} (hP : Pow10 w.heap.size w) {f i : Nat} {o : List Int} (h : pList f s.data.toList [] = .good i [] o) :
    Calls Tryd.prog 13 #[.string s] w (ReadGood o w) := by
  have hmf : ∀ (fn : Fn) (first cap : Array Value) (w : World), (Instr.makeFunc fn first cap).run Tryd.prog w = .ok (.func fn first cap) w := fun _ _ _ _ => rfl
  have hs2 : (s.size : Int) ≤ 300 := by omega
  have d300 : decide ((s.size : Int) > 300) = false := by simp; omega
  have d300' : decide (300 < s.size) = false := by simp; omega
  have hb1 := (Below.refl w.heap.size w).alloc (Nat.le_refl _) (.cells #[.slice none 0 0] 23)
  have hs1 : (w.alloc (.cells #[.slice none 0 0] 23)).heap.size = w.heap.size + 1 := by simp
  have hc1 := BoxN.new w 23 #[.slice none 0 0]
  have hb2 := hb1.alloc hb1.size (.cells #[.nilIface] 25)
  have hs2 : ((w.alloc (.cells #[.slice none 0 0] 23)).alloc (.cells #[.nilIface] 25)).heap.size = w.heap.size + 1 + 1 := by simp
  have hc2 : BoxN ((w.alloc (.cells #[.slice none 0 0] 23)).alloc (.cells #[.nilIface] 25)) (w.heap.size + 1) 25 #[.nilIface] := by
    have := BoxN.new (w.alloc (.cells #[.slice none 0 0] 23)) 25 #[.nilIface]
    rw [hs1] at this
    exact this
  have hc1' := hc1.alloc (.cells #[.nilIface] 25)
  have hc3 : BoxN (((w.alloc (.cells #[.slice none 0 0] 23)).alloc (.cells #[.nilIface] 25)).alloc (.cells #[.string s, .int .i64 0, .slice none 0 0] 65)) (w.heap.size + 1 + 1) 65 #[.string s, .int .i64 ((0 : Nat) : Int), .slice none 0 0] := by
    have := BoxN.new ((w.alloc (.cells #[.slice none 0 0] 23)).alloc (.cells #[.nilIface] 25)) 65 #[.string s, .int .i64 ((0 : Nat) : Int), .slice none 0 0]
    rw [hs2] at this
    exact this
  have hb3 := hb2.alloc hb2.size (.cells #[.string s, .int .i64 0, .slice none 0 0] 65)
  have hcA := hc1'.alloc (.cells #[.string s, .int .i64 0, .slice none 0 0] 65)
  have hcB := hc2.alloc (.cells #[.string s, .int .i64 0, .slice none 0 0] 65)
  have H := Lib.hid h
  have HP := Lib.hid hP
  clear hs1 hs2 hc1 hc2 hc1' hb1 hb2 h hP
  go_enter_defers Tryd.func13, Tryd.ntmps13
  go_wp2_with fail
  generalize ((w.alloc (.cells #[.slice none 0 0] 23)).alloc (.cells #[.nilIface] 25)).alloc (.cells #[.string s, .int .i64 0, .slice none 0 0] 65) = w3 at *
  have hR : RdAt w3 (w.heap.size + 1 + 1) s 0 0 (.slice none 0 0) [] := ⟨hc3, OwnN.nil _ _⟩
  have hlt := hR.lt
  have hP3 : Pow10 (w.heap.size + 1 + 1) w3 := HP.out.next hb3 (by omega) (Nat.le_refl _)
  refine (list_good (r := w.heap.size + 1 + 1) hs hP3 f w3 0 0 _ [] i [] o hR (Below.refl _ _) (Nat.zero_le _) (Nat.zero_le _) H.out).mono ?_
  rintro e w4 ⟨rfl, p4, hp4, hd4, ho4, ⟨n4, v4, h4⟩, hb4⟩
  obtain rfl : p4 = s.size := by
    have := congrArg List.length hd4
    rw [List.length_drop, List.length_nil] at this
    have h2 : s.data.toList.length = s.size := by simp
    omega
  obtain ⟨A4, c4, rfl⟩ := h4.own.form
  have x1 := h4.at_
  have x2 := h4.out
  have yA := (hcA.below hb4 (by omega)).cell (k := 0) rfl
  have fA := (hcA.below hb4 (by omega)).free 0
  have yB := (hcB.below hb4 (by omega)).cell (k := 0) rfl
  have fB := (hcB.below hb4 (by omega)).free 0
  have z0 := ((hcA.below hb4 (by omega)).set 0 (.slice A4 n4 c4)).cell (k := 0) rfl
  have z1 := (((hcB.below hb4 (by omega)).other (a := ⟨w.heap.size, 0, none⟩) (by show w.heap.size + 1 ≠ w.heap.size; omega) (.slice A4 n4 c4)).set 0 .nilIface).cell (k := 0) rfl
  have Z0 := Lib.hid z0
  have Z1 := Lib.hid z1
  clear z0 z1
  have hlen := h4.own.1
  have hown := h4.own.2
  have hbw := hb3.trans (hb4.mono (by omega))
  clear hc3 hcA hcB hd4 hb4 hb3 hP3 hR
  have Hlen := Lib.hid hlen
  have Hown := Lib.hid hown
  clear hlen hown h4
  go_wp2_with fail
  refine leaves_cons (f := 34) (args := #[.pointer (some ⟨w.heap.size, 0, none⟩), .pointer (some ⟨w.heap.size + 1, 0, none⟩)]) (by simp) (by simp [go_sem]) ?_
  refine (catch_idle _ _ _).mono ?_
  rintro e u' w'' ⟨rfl, rfl, rfl⟩
  have z0 : (w4.setCell ⟨w.heap.size, 0, none⟩ (.slice A4 n4 c4)).cell? ⟨w.heap.size, 0, none⟩ = some (.slice A4 n4 c4) := Z0.out
  have z1 : ((w4.setCell ⟨w.heap.size, 0, none⟩ (.slice A4 n4 c4)).setCell ⟨w.heap.size + 1, 0, none⟩ .nilIface).cell? ⟨w.heap.size + 1, 0, none⟩ = some .nilIface := Z1.out
  have hgood : ReadGood o w (.returned (.tuple #[.slice A4 n4 c4, .nilIface])) ((w4.setCell ⟨w.heap.size, 0, none⟩ (.slice A4 n4 c4)).setCell ⟨w.heap.size + 1, 0, none⟩ .nilIface) := by
    have hI := (CellsAt.own (ownsRow_far1 (t := 3) (vs := #[]) (b := w.heap.size + 1) (k := 0) (ownsRow_far1 (t := 3) (vs := #[]) (b := w.heap.size) (k := 0) Hown.out (by omega) (.slice A4 n4 c4)) (by omega) .nilIface)).ints
    exact ⟨⟨A4, n4, c4, rfl, Hlen.out, ownsRow_cap' Hown.out, hI⟩, (hbw.setCell (Nat.le_refl _) _).setCell (Nat.le_succ _) _⟩
  have HG := Lib.hid hgood
  clear hgood
  simp [Leaves, settle, results, Tryd.results13, go_sem, z0, z1]
  exact HG.out
end Go.Proofs.YtdgncngkalgknaaDoor
