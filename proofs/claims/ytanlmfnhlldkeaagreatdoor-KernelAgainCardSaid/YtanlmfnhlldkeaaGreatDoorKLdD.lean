/-
  Contract: kernel.Load, any text.
-/
import Derived.Test.YtanlmfnhlldkeaaGreatDoorKLdC
namespace Go.Proofs.YtanlmfnhlldkeaaGreatDoor
open Go.RowKit
set_option maxRecDepth 100000
set_option linter.unusedVariables false

theorem Load_any {w : World} (hG : Glob w) {Ap Ao At : Option Addr} {L : List (List Int)} {P T : List Int} {q n m cp co ct : Nat} (hL : RowsIn anyB 3 w Ap L) (hP : IntsIn anyB w Ao P) (hl : P.length = q * 2) (hT : IntsIn anyB w At T)
    (hn : L.length = n) (hm : T.length = m) (h0 : sysCode L P q T = 0) (s : ByteArray) :
    Calls Tryz.prog 11 #[.agg #[.slice Ap n cp, .slice Ao q co, .slice At m ct], .string s] w fun e w' => LoadPost w.heap.size L P q T (loadK s.data.toList n q) e w' ∧ Below w.heap.size w w' := by
  by_cases h4 : 4000 < s.size
  · rw [show loadK s.data.toList n q = .error 4 by unfold loadK; rw [if_pos (by rw [← ba_size]; exact h4)]]
    exact Load_long hG hL hP hl hT hn hm h0 s h4
  · exact Load_short hG hL hP hl hT hn hm h0 s (by omega)
set_option maxHeartbeats 4000000 in
theorem Load_bad {w : World} {Ap Ao At : Option Addr} {L : List (List Int)} {P T : List Int} {q n m k cp co ct : Nat} (hL : RowsIn anyB 3 w Ap L) (hP : IntsIn anyB w Ao P) (hl : P.length = q * 2) (hT : IntsIn anyB w At T)
    (hn : L.length = n) (hm : T.length = m) (nm : n ≤ maxLen) (qm : q ≤ maxLen) (tm : m ≤ maxLen) (hk : sysCode L P q T = k) (h0 : k ≠ 0) (s : ByteArray) :
    Calls Tryz.prog 11 #[.agg #[.slice Ap n cp, .slice Ao q co, .slice At m ct], .string s] w fun e w' => e = .returned (.tuple #[.pointer none, .iface 63 (.int .i64 k)]) ∧ Below w.heap.size w w' := by
  have CN := Lib.hid (fun V (hV : Below w.heap.size w V) => New_bad (cp := cp) (co := co) (ct := ct) (hL.below hV) (hP.below hV) hl (hT.below hV) hn hm nm qm tm hk h0)
  obtain ⟨W1, hW1⟩ : ∃ W1, ((w.alloc (.cells #[.slice Ap n cp, .slice Ao q co, .slice At m ct] 26)).alloc (.cells #[.pointer none] 33)).alloc (.cells #[.nilIface] 35) = W1 := ⟨_, rfl⟩
  have hr0 : BoxN W1 w.heap.size 26 #[.slice Ap n cp, .slice Ao q co, .slice At m ct] := by rw [← hW1]; exact ((BoxN.new w _ _).alloc _).alloc _
  have hr1 : BoxN W1 (w.heap.size + 1) 33 #[.pointer none] := by rw [← hW1]; exact (BoxN.new' _ _ _ _ (by simp)).alloc _
  have hr2 : BoxN W1 (w.heap.size + 1 + 1) 35 #[.nilIface] := by rw [← hW1]; exact BoxN.new' _ _ _ _ (by simp)
  have hb1 : Below w.heap.size w W1 := by rw [← hW1]; exact (((Below.refl _ _).alloc (Nat.le_refl _) _).alloc (by simp) _).alloc (by simp; omega) _
  have x0 := hr0.cell (k := 0) rfl
  have x1 := hr0.cell (k := 1) rfl
  have x2 := hr0.cell (k := 2) rfl
  clear hL hP hT hk
  go_enter Tryz.func11, Tryz.ntmps11
  go_wp2_with fail
  try rw [hW1]
  clear hW1
  refine (CN.out W1 hb1).mono ?_
  rintro e w2 ⟨rfl, hb2⟩
  have Hb12 := Lib.hid (hb1.trans (hb2.mono hb1.size))
  have hr1' := hr1.all hb2
  have hr2' := hr2.all hb2
  have c1 := hr1'.cell (k := 0) rfl
  have c2 := hr2'.cell (k := 0) rfl
  have f1 := hr1'.free 0
  have f2 := hr2'.free 0
  have z1 := (((hr1'.set 0 (.pointer none)).other (a := ⟨w.heap.size + 1 + 1, 0, none⟩) (by simp) (.iface 63 (.int .i64 k)))).cell (k := 0) rfl
  have z2 := (((hr2'.other (a := ⟨w.heap.size + 1, 0, none⟩) (by simp) (.pointer none)).set 0 (.iface 63 (.int .i64 k)))).cell (k := 0) rfl
  have hbf : Below w.heap.size w ((w2.setCell ⟨w.heap.size + 1, 0, none⟩ (.pointer none)).setCell ⟨w.heap.size + 1 + 1, 0, none⟩ (.iface 63 (.int .i64 k))) := (Hb12.out.setCell (p := ⟨w.heap.size + 1, 0, none⟩) (by simp) _).setCell (p := ⟨w.heap.size + 1 + 1, 0, none⟩) (by show w.heap.size ≤ w.heap.size + 1 + 1; omega) _
  clear hr0 hr1 hr2 x0 x1 x2 CN hr1' hr2' hb1 hb2
  go_wp2_with fail
  generalize ((w2.setCell ⟨w.heap.size + 1, 0, none⟩ (.pointer none)).setCell ⟨w.heap.size + 1 + 1, 0, none⟩ (.iface 63 (.int .i64 k))) = w9 at *
  refine bodyPost_ret (v := .tuple #[.pointer none, .iface 63 (.int .i64 k)]) (by simp [results, Tryz.f11, go_sem, z1, z2]) rfl ?_
  exact ⟨rfl, hbf⟩
end Go.Proofs.YtanlmfnhlldkeaaGreatDoor
