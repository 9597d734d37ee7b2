/-
  Contract: prog.Read, whole.
-/
import Derived.Test.YtdgncngkalgknaaDoorRdE
import Derived.Test.YtdgncngkalgknaaDoorRdI
import Derived.RegionTactic
namespace Go.Proofs.YtdgncngkalgknaaDoor
open Go.RowKit
set_option maxRecDepth 100000
set_option linter.unusedVariables false

theorem Read_full {s : ByteArray} (hs : s.size > 300) {w : World} :
    Calls Tryd.prog 13 #[.string s] w (ReadBad 4 w) := by
  have hs2 : (s.size : Int) > 300 := by omega
  have d300 : decide ((s.size : Int) > 300) = true := by simp; omega
  have d300' : decide (300 < s.size) = true := by simp; omega
  have hb := ((Below.refl w.heap.size w).alloc (Nat.le_refl _) (.cells #[.slice none 0 0] 23))
  have hb2 := hb.alloc hb.size (.cells #[.nilIface] 25)
  go_enter Tryd.func13, Tryd.ntmps13
  go_wp2_with fail
  have hc1 : BoxN ((w.alloc (.cells #[.slice none 0 0] 23)).alloc (.cells #[.iface 61 (.int .i64 4)] 25)) w.heap.size 23 #[.slice none 0 0] := (BoxN.new w 23 #[.slice none 0 0]).alloc _
  have hc2 : BoxN ((w.alloc (.cells #[.slice none 0 0] 23)).alloc (.cells #[.iface 61 (.int .i64 4)] 25)) (w.heap.size + 1) 25 #[.iface 61 (.int .i64 4)] := by
    have := BoxN.new (w.alloc (.cells #[.slice none 0 0] 23)) 25 #[.iface 61 (.int .i64 4)]
    rw [show (w.alloc (.cells #[.slice none 0 0] 23)).heap.size = w.heap.size + 1 by simp] at this
    exact this
  have z0 := hc1.cell (k := 0) rfl
  have z1 := hc2.cell (k := 0) rfl
  have hb3 := hb.alloc hb.size (.cells #[.iface 61 (.int .i64 4)] 25)
  simp [bodyPost, results, Tryd.results13, go_sem, z0, z1]
  exact ⟨rfl, hb3⟩
set_option maxHeartbeats 8000000 in
theorem Read_rest {s : ByteArray} (hs : s.size ≤ 300) {w : World} (hP : Pow10 w.heap.size w) {f i : Nat} {rest : List UInt8} {o : List Int} (hr : rest ≠ []) (h : pList f s.data.toList [] = .good i rest o) :
    Calls Tryd.prog 13 #[.string s] w (ReadBad 2 w) := by
  have hmf : ∀ (fn : Fn) (first cap : Array Value) (w : World), (Instr.makeFunc fn first cap).run Tryd.prog w = .ok (.func fn first cap) w := fun _ _ _ _ => rfl
  have hs2 : (s.size : Int) ≤ 300 := by omega
  have d300 : decide ((s.size : Int) > 300) = false := by simp; omega
  have d300' : decide (300 < s.size) = false := by simp; omega
  have hb1 := (Below.refl w.heap.size w).alloc (Nat.le_refl _) (.cells #[.slice none 0 0] 23)
  have hs1 : (w.alloc (.cells #[.slice none 0 0] 23)).heap.size = w.heap.size + 1 := by simp
  have hc1 := BoxN.new w 23 #[.slice none 0 0]
  have hb2 := hb1.alloc hb1.size (.cells #[.nilIface] 25)
  have hs2 : ((w.alloc (.cells #[.slice none 0 0] 23)).alloc (.cells #[.nilIface] 25)).heap.size = w.heap.size + 1 + 1 := by simp
  have hc2 : BoxN ((w.alloc (.cells #[.slice none 0 0] 23)).alloc (.cells #[.nilIface] 25)) (w.heap.size + 1) 25 #[.nilIface] := by
    have := BoxN.new (w.alloc (.cells #[.slice none 0 0] 23)) 25 #[.nilIface]
    rw [hs1] at this
    exact this
  have hc1' := hc1.alloc (.cells #[.nilIface] 25)
  have hc3 : BoxN (((w.alloc (.cells #[.slice none 0 0] 23)).alloc (.cells #[.nilIface] 25)).alloc (.cells #[.string s, .int .i64 0, .slice none 0 0] 65)) (w.heap.size + 1 + 1) 65 #[.string s, .int .i64 ((0 : Nat) : Int), .slice none 0 0] := by
    have := BoxN.new ((w.alloc (.cells #[.slice none 0 0] 23)).alloc (.cells #[.nilIface] 25)) 65 #[.string s, .int .i64 ((0 : Nat) : Int), .slice none 0 0]
    rw [hs2] at this
    exact this
  have hb3 := hb2.alloc hb2.size (.cells #[.string s, .int .i64 0, .slice none 0 0] 65)
  have hcA := hc1'.alloc (.cells #[.string s, .int .i64 0, .slice none 0 0] 65)
  have hcB := hc2.alloc (.cells #[.string s, .int .i64 0, .slice none 0 0] 65)
  have H := Lib.hid h
  have HP := Lib.hid hP
  clear hs1 hs2 hc1 hc2 hc1' hb1 hb2 h hP
  go_enter_defers Tryd.func13, Tryd.ntmps13
  go_wp2_with fail
  generalize ((w.alloc (.cells #[.slice none 0 0] 23)).alloc (.cells #[.nilIface] 25)).alloc (.cells #[.string s, .int .i64 0, .slice none 0 0] 65) = w3 at *
  have hR : RdAt w3 (w.heap.size + 1 + 1) s 0 0 (.slice none 0 0) [] := ⟨hc3, OwnN.nil _ _⟩
  have hlt := hR.lt
  have hP3 : Pow10 (w.heap.size + 1 + 1) w3 := HP.out.next hb3 (by omega) (Nat.le_refl _)
  refine (list_good (r := w.heap.size + 1 + 1) hs hP3 f w3 0 0 _ [] i rest o hR (Below.refl _ _) (Nat.zero_le _) (Nat.zero_le _) H.out).mono ?_
  rintro e w4 ⟨rfl, p4, hp4, hd4, ho4, ⟨n4, v4, h4⟩, hb4⟩
  have hne : p4 ≠ s.size := by
    rintro rfl
    apply hr
    rw [← hd4]
    apply List.drop_eq_nil_of_le
    simp
  have dne : decide ((p4 : Int) ≠ s.size) = true := by simp; omega
  have x1 := h4.at_
  have yA := hcA.below hb4 (by omega)
  have yB := hcB.below hb4 (by omega)
  have hbw := hb3.trans (hb4.mono (by omega))
  clear hc3 hcA hcB hd4 hb4 hb3 hP3 hR h4
  go_wp2_with (go_at_call 36; with_reducible refine (fail_any _ _ _).mono ?_; rintro e w5 ⟨rfl, rfl⟩)
  refine leaves_cons (f := 34) (args := #[.pointer (some ⟨w.heap.size, 0, none⟩), .pointer (some ⟨w.heap.size + 1, 0, none⟩)]) (by simp) (by simp [go_sem]) ?_
  refine (catch_wrong (by omega) yA yB).mono ?_
  rintro e u' w'' ⟨rfl, rfl, h1, h2, h3⟩
  have z0 := h1.cell (k := 0) rfl
  have z1 := h2.cell (k := 0) rfl
  have HG := Lib.hid (hbw.trans h3)
  clear hbw h3 h1 h2
  simp [Leaves, settle, results, Tryd.results13, go_sem, z0, z1]
  exact ⟨rfl, HG.out⟩
/-- What a text says. -/
def readP (s : ByteArray) : PR := if s.size > 300 then .bad 4 else
  match pList (s.size + 1) s.data.toList [] with
  | .bad k => .bad k
  | .good i [] o => .good i [] o
  | .good _ (_ :: _) _ => .bad 2
def ReadSaid (s : ByteArray) (w : World) (e : Ending) (w' : World) : Prop := match readP s with
  | .bad k => ReadBad k w e w'
  | .good _ _ o => ReadGood o w e w'
theorem Read_any {s : ByteArray} {w : World} (hP : Pow10 w.heap.size w) (hN : ∀ V, Below w.heap.size w V → NumErrs V) :
    Calls Tryd.prog 13 #[.string s] w (ReadSaid s w) := by
  by_cases h0 : s.size > 300
  · refine (Read_full h0).mono fun e w' h => ?_
    unfold ReadSaid readP
    rw [if_pos h0]
    exact h
  cases h : pList (s.size + 1) s.data.toList [] with
  | bad k =>
    refine (Read_bad (by omega) hP hN (Nat.lt_succ_self _) h).mono fun e w' g => ?_
    unfold ReadSaid readP
    rw [if_neg h0, h]
    exact g
  | good i l o =>
    cases l with
    | nil =>
      refine (Read_good (by omega) hP h).mono fun e w' g => ?_
      unfold ReadSaid readP
      rw [if_neg h0, h]
      exact g
    | cons x l =>
      refine (Read_rest (by omega) hP (List.cons_ne_nil x l) h).mono fun e w' g => ?_
      unfold ReadSaid readP
      rw [if_neg h0, h]
      exact g
end Go.Proofs.YtdgncngkalgknaaDoor
