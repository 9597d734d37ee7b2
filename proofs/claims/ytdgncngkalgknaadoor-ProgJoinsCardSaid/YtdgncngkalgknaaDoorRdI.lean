/-
  Contract: prog.Read, where the text is wrong.
-/
import Derived.Test.YtdgncngkalgknaaDoorRdE
import Derived.Test.YtdgncngkalgknaaDoorRdH
import Derived.RegionTactic
import Derived.ChangeAlike
namespace Go.Proofs.YtdgncngkalgknaaDoor
open Go.RowKit
set_option maxRecDepth 100000
set_option linter.unusedVariables false

set_option maxHeartbeats 4000000 in
theorem catch_wrong {p q : Nat} (hpq : p < q) {k : Int} {older : List PanicEntry} {w : World} {x y : Value} (hp : BoxN w p 23 #[x]) (hq : BoxN w q 25 #[y]) :
    CallsD Tryd.prog 34 #[.pointer (some ⟨p, 0, none⟩), .pointer (some ⟨q, 0, none⟩)] (.panicking ({ v := .iface 63 (.agg #[.int .i64 k]), recovered := false } :: older)) w fun e u' w' =>
      e = .returned (.tuple #[]) ∧ u' = .panicking ({ v := .iface 63 (.agg #[.int .i64 k]), recovered := true } :: older) ∧ BoxN w' p 23 #[.slice none 0 0] ∧ BoxN w' q 25 #[.iface 61 (.int .i64 k)] ∧ Below p w w' := by
  have hta : ∀ w : World, (Instr.typeAssert (.iface 63 (.agg #[.int .i64 k])) 20 63 true).run Tryd.prog w = .ok (.tuple #[.agg #[.int .i64 k], .bool true]) w := fun w => by kernel_rfl
  have hpl : p < w.heap.size := hp.lt
  have hql : q < w.heap.size := hq.lt
  have fp : w.frozen? ⟨p, 0, none⟩ = false := hp.free 0
  have fq : w.frozen? ⟨q, 0, none⟩ = false := hq.free 0
  have cp := hp.cell (k := 0) rfl
  have cq := hq.cell (k := 0) rfl
  have hne : p ≠ q := by omega
  have hne' : q ≠ p := by omega
  refine callsD_of_wpS Tryd.func34 rfl fun c₀ cs hu => ?_
  apply wpS_seq
  apply wpS_region
  simp [wpOpsS, go_sem, recoverD, hu, Tryd.ntmps34, Exit.thenS]
  refine wpS_of_wp ?_
  go_wp2
  go_region
  all_goals
    cases c₀
    simp +zetaDelta only [Exit.inBlock, bodyPostS, results, Tryd.results34]
    simp
    have h1 := (((hp.set 0 (.slice none 0 0)).other (a := ⟨q, 0, none⟩) hne (.iface 61 (.int .i64 k))).alloc (.cells #[.int .i64 k] 63)).drew
    have h2 := (((hq.other (a := ⟨p, 0, none⟩) hne' (.slice none 0 0)).set 0 (.iface 61 (.int .i64 k))).alloc (.cells #[.int .i64 k] 63)).drew
    have h3 := ((((Below.refl p w).setCell (p := ⟨p, 0, none⟩) (Nat.le_refl _) (.slice none 0 0)).setCell (p := ⟨q, 0, none⟩) (Nat.le_of_lt hpq) (.iface 61 (.int .i64 k))).alloc (by simp; omega) (.cells #[.int .i64 k] 63)).drew
    exact ⟨h1, h2, h3⟩
/-- What Read gives of a text that is wrong. -/
def ReadBad (k : Nat) (w : World) (e : Ending) (w' : World) : Prop := e = .returned (.tuple #[.slice none 0 0, .iface 61 (.int .i64 k)]) ∧ Below w.heap.size w w'
set_option maxHeartbeats 8000000 in
theorem Read_bad {s : ByteArray} (hs : s.size ≤ 300) {w : World} (hP : Pow10 w.heap.size w) (hN : ∀ V, Below w.heap.size w V → NumErrs V) {f k : Nat} (hf : s.size < f) (h : pList f s.data.toList [] = .bad k) :
    Calls Tryd.prog 13 #[.string s] w (ReadBad k w) := by
  have hmf : ∀ (fn : Fn) (first cap : Array Value) (w : World), (Instr.makeFunc fn first cap).run Tryd.prog w = .ok (.func fn first cap) w := fun _ _ _ _ => rfl
  have hs2 : (s.size : Int) ≤ 300 := by omega
  have d300 : decide ((s.size : Int) > 300) = false := by simp; omega
  have d300' : decide (300 < s.size) = false := by simp; omega
  have hb1 := (Below.refl w.heap.size w).alloc (Nat.le_refl _) (.cells #[.slice none 0 0] 23)
  have hs1 : (w.alloc (.cells #[.slice none 0 0] 23)).heap.size = w.heap.size + 1 := by simp
  have hc1 := BoxN.new w 23 #[.slice none 0 0]
  have hb2 := hb1.alloc hb1.size (.cells #[.nilIface] 25)
  have hs2 : ((w.alloc (.cells #[.slice none 0 0] 23)).alloc (.cells #[.nilIface] 25)).heap.size = w.heap.size + 1 + 1 := by simp
  have hc2 : BoxN ((w.alloc (.cells #[.slice none 0 0] 23)).alloc (.cells #[.nilIface] 25)) (w.heap.size + 1) 25 #[.nilIface] := by
    have := BoxN.new (w.alloc (.cells #[.slice none 0 0] 23)) 25 #[.nilIface]
    rw [hs1] at this
    exact this
  have hc1' := hc1.alloc (.cells #[.nilIface] 25)
  have hc3 : BoxN (((w.alloc (.cells #[.slice none 0 0] 23)).alloc (.cells #[.nilIface] 25)).alloc (.cells #[.string s, .int .i64 0, .slice none 0 0] 65)) (w.heap.size + 1 + 1) 65 #[.string s, .int .i64 ((0 : Nat) : Int), .slice none 0 0] := by
    have := BoxN.new ((w.alloc (.cells #[.slice none 0 0] 23)).alloc (.cells #[.nilIface] 25)) 65 #[.string s, .int .i64 ((0 : Nat) : Int), .slice none 0 0]
    rw [hs2] at this
    exact this
  have hb3 := hb2.alloc hb2.size (.cells #[.string s, .int .i64 0, .slice none 0 0] 65)
  have hcA := hc1'.alloc (.cells #[.string s, .int .i64 0, .slice none 0 0] 65)
  have hcB := hc2.alloc (.cells #[.string s, .int .i64 0, .slice none 0 0] 65)
  have H := Lib.hid h
  have HP := Lib.hid hP
  have HN := Lib.hid hN
  clear hs1 hs2 hc1 hc2 hc1' hb1 hb2 h hP hN
  go_enter_defers Tryd.func13, Tryd.ntmps13
  go_wp2_with fail
  generalize ((w.alloc (.cells #[.slice none 0 0] 23)).alloc (.cells #[.nilIface] 25)).alloc (.cells #[.string s, .int .i64 0, .slice none 0 0] 65) = w3 at *
  have hR : RdAt w3 (w.heap.size + 1 + 1) s 0 0 (.slice none 0 0) [] := ⟨hc3, OwnN.nil _ _⟩
  have hlt := hR.lt
  have hP3 : Pow10 (w.heap.size + 1 + 1) w3 := HP.out.next hb3 (by omega) (Nat.le_refl _)
  refine (list_bad (r := w.heap.size + 1 + 1) hs hP3 (fun V hV => HN.out V (hb3.trans (hV.mono (by omega)))) f w3 0 0 _ [] k hR (Below.refl _ _) (Nat.zero_le _) (Nat.zero_le _) (by omega) H.out).mono ?_
  rintro e w4 ⟨rfl, hb4⟩
  have yA := hcA.below hb4 (by omega)
  have yB := hcB.below hb4 (by omega)
  have hbw := hb3.trans (hb4.mono (by omega))
  clear hc3 hcA hcB hb4 hb3 hP3 hR
  trace_state
  refine leaves_cons (f := 34) (args := #[.pointer (some ⟨w.heap.size, 0, none⟩), .pointer (some ⟨w.heap.size + 1, 0, none⟩)]) (by simp) (by simp [go_sem]) ?_
  refine (catch_wrong (by omega) yA yB).mono ?_
  rintro e u' w'' ⟨rfl, rfl, h1, h2, h3⟩
  have z0 := h1.cell (k := 0) rfl
  have z1 := h2.cell (k := 0) rfl
  have HG := Lib.hid (hbw.trans h3)
  clear hbw h3 h1 h2
  simp [Leaves, settle, results, Tryd.results13, go_sem, z0, z1]
  exact ⟨rfl, HG.out⟩
end Go.Proofs.YtdgncngkalgknaaDoor
