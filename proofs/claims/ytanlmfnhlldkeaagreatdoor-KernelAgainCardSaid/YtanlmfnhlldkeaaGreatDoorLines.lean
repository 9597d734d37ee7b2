/-
  Contracts: strings.Lines and what it ranges over.
-/
import Derived.Test.YtanlmfnhlldkeaaGreatDoorSeqW
import Derived.Test.YtanlmfnhlldkeaaGreatDoorBaseA
import Derived.Test.YtanlmfnhlldkeaaGreatDoorLoopA
import Derived.Test.YtanlmfnhlldkeaaGreatDoorShelf
import Derived.Shelf.Abstract
import Derived.Shelf.RegionOpen
import Derived.OwnWalkIn
import Derived.TacticsInMore
import Derived.LoopNIn
import Derived.LoopIn
namespace Go.Proofs.YtanlmfnhlldkeaaGreatDoor
open Go.RowKit Go.Shelf
attribute [local go_sem] Oper.semAt_some
attribute [local simp, local go_sem] wide_fn
set_option maxRecDepth 100000
set_option linter.unusedVariables false

theorem Lines_any (s : ByteArray) (w : World) :
    Calls Tryz.prog 28 #[.string s] w fun e w' => e = .returned (.func (.func 47) #[] #[.pointer (some ⟨w.heap.size, 0, none⟩)]) ∧ w.alloc (.cells #[.string s] 9) = w' := by
  go_enter Tryz.func28, Tryz.ntmps28
  go_wp2
  go_ret
  exact ⟨rfl, rfl⟩
/-- The lines of a string, as strings. -/
def linesB (s : ByteArray) : List ByteArray := (linesL s.data.toList).map fun l => ⟨l.toArray⟩
theorem setCell_grown (w : World) (b : Nat) (v : Value) : w.grownBy (w.setCell ⟨b, 0, none⟩ v) (some b) :=
  ⟨rfl, rfl, rfl, by simp [World.setCell], fun j _ hj => Below.heap_setCell _ _ _ _ (fun e => hj (by simp [e]))⟩
theorem setCell_grownD (w : World) (b : Nat) (v : Value) : w.grownBy (w.setCell ⟨b, 0, none⟩ v).drew (some b) :=
  ⟨rfl, rfl, rfl, (setCell_grown w b v).size, fun j hj hn => (setCell_grown w b v).block j hj hn⟩
theorem ba_ext {a b : ByteArray} (h : a.data.toList = b.data.toList) : a = b := ByteArray.ext (Array.toList_inj.1 h)
theorem ba_of (l : List UInt8) : (⟨l.toArray⟩ : ByteArray).data.toList = l := List.toList_toArray
theorem ba_size (s : ByteArray) : s.size = s.data.toList.length := (Array.length_toList ..).symm
theorem linesB_nil {s : ByteArray} (h : s.size = 0) : linesB s = [] := by
  have : s.data.toList = [] := List.length_eq_zero_iff.1 (by rw [← ba_size]; exact h)
  unfold linesB; rw [this]; rfl
theorem linesB_hit {s : ByteArray} {i : Nat} (h : Lib.indexByte s.data.toList 10 = i) : i < s.size ∧ linesB s = s.extract 0 (i + 1) :: linesB (s.extract (i + 1) s.size) := by
  obtain ⟨h1, h2, h3⟩ := indexByte_some h
  refine ⟨by rw [ba_size]; exact h1, ?_⟩
  have e1 : (s.extract 0 (i + 1)).data.toList = s.data.toList.take i ++ [10] := by
    rw [Lib.extract_from_zero]
    conv => lhs; rw [h3]
    rw [List.take_append, List.take_of_length_le (by rw [List.length_take]; omega), List.length_take, Nat.min_eq_left (by omega), show i + 1 - i = 1 by omega]; rfl
  have e2 : (s.extract (i + 1) s.size).data.toList = s.data.toList.drop (i + 1) := by rw [Lib.extract_to_end]
  unfold linesB
  rw [e2]
  conv => lhs; rw [h3, linesL_at _ h2]
  rw [List.map_cons]
  congr 1
  exact ba_ext (by rw [e1, ba_of])
theorem linesB_miss {s : ByteArray} (h : Lib.indexByte s.data.toList 10 < 0) (h0 : s.size ≠ 0) : linesB s = [s] := by
  have hne : s.data.toList ≠ [] := fun e => h0 (by rw [ba_size, e]; rfl)
  unfold linesB
  rw [linesL_none hne (indexByte_none h)]
  exact congrArg (fun z => [z]) (ba_ext (ba_of _))
/-- How much is left in the cell. -/
def leftAt (C : Nat) (w : World) : Nat := match w.cell? ⟨C, 0, none⟩ with
  | some (.string b) => b.size
  | _ => 0
theorem leftAt_eq {C : Nat} {w : World} {b : ByteArray} (h : w.cell? ⟨C, 0, none⟩ = some (.string b)) : leftAt C w = b.size := by unfold leftAt; rw [h]
/-- What a round keeps of the iterator's variable. -/
def KeepC (C : Nat) (w w' : World) : Prop := w'.heap[C]? = w.heap[C]?

set_option maxHeartbeats 4000000 in
theorem lines1_in (n : Nat) (hn : 1 ≤ n) (l C : Nat) (s : ByteArray) (J Jx : List ByteArray → World → Prop) (hs : s.size ≤ 9223372036854775806) (W : World) (hJ : OwnBut C W.heap.size J)
    (hY : ∀ (pre : List ByteArray) (x : ByteArray) (W : World), J pre W → pre ++ [x] <+: linesB s → YieldAt Fence.wide (n - 1) Tryz.prog l #[.string x] W fun e W' =>
      (e = .returned (.bool true) ∧ J (pre ++ [x]) W' ∧ KeepC C W W') ∨ (e = .returned (.bool false) ∧ Jx (pre ++ [x]) W'))
    (hC : BoxN W C 9 #[.string s]) (h0 : J [] W) :
    CallsIn Fence.wide n Tryz.prog 47 #[.func (.yield l) #[] #[], .pointer (some ⟨C, 0, none⟩)] W fun e W' => (∃ v, e = .returned v) ∧
      ((∃ ys : List ByteArray, ys = linesB s ∧ J ys W') ∨ (∃ pre : List ByteArray, pre <+: linesB s ∧ Jx pre W')) := by
  refine callsIn_of_wp Tryz.func47 rfl trivial ?_ rfl
  simp only [Tryz.ntmps47, List.size_toArray, List.length_cons, List.length_nil, Nat.reduceAdd, Nat.reduceSub, Array.replicate_succ, Array.replicate_zero, List.push_toArray, List.append_toArray, List.nil_append, List.cons_append]
  gi_wp2
  gi_loopw [3] (fun p wr => ∃ (pre : List ByteArray) (rest : ByteArray) (q : Value), p = q ∧ rest.size ≤ 9223372036854775806 ∧ pre ++ linesB rest = linesB s ∧ BoxN wr C 9 #[.string rest] ∧ J pre wr)
    (fun p wr => leftAt C wr)
  case atStart => exact ⟨[], s, _, rfl, hs, rfl, hC, h0⟩
  case round =>
    clear hC hs
    obtain ⟨pre, rest, q, rfl, hr, hpre, hC, hJr⟩ := hrel
    have HY := Lib.hid hY
    have HJ := Lib.hid hJ
    have Hpre := Lib.hid hpre
    clear hY hJ hpre h0
    have c0 := hC.cell (k := 0) rfl
    by_cases hz : rest.size = 0
    · have d0 : decide ((rest.size : Int) > 0) = false := decide_eq_false (by omega)
      have d1 : decide (0 < rest.size) = false := decide_eq_false (by omega)
      gi_wp2
      go_end0
      refine ⟨⟨_, rfl⟩, .inl ⟨pre, ?_, hJr⟩⟩
      have := Hpre.out
      rwa [linesB_nil hz, List.append_nil] at this
    · have d0 : decide ((rest.size : Int) > 0) = true := decide_eq_true (by omega)
      have d1 : decide (0 < rest.size) = true := decide_eq_true (by omega)
      have Hix := Lib.hid (Tryz.strings_IndexByte rest 10 wr)
      obtain ⟨ix, hix⟩ : ∃ ix, Lib.indexByte rest.data.toList 10 = ix := ⟨_, rfl⟩
      rw [show ((10 : Int).toNat.toUInt8) = 10 from rfl, hix] at Hix
      rcases Int.lt_or_le ix 0 with hneg | hpos
      · have hlb : linesB rest = rest :: linesB (⟨#[]⟩ : ByteArray) := by rw [linesB_miss (by rw [hix]; exact hneg) hz]; rfl
        have dix : decide (ix ≥ 0) = false := decide_eq_false (by omega)
        clear hix
        have f0 := hC.free 0
        have HS1 := Lib.hid (show ((⟨#[]⟩ : ByteArray)).size ≤ 9223372036854775806 by decide)
        have HS3 := Lib.hid (show ((⟨#[]⟩ : ByteArray)).size < rest.size from Nat.pos_of_ne_zero hz)
        have HP := Lib.hid (show pre ++ [rest] <+: linesB s by rw [← Hpre.out, hlb]; exact ⟨linesB ((⟨#[]⟩ : ByteArray)), by simp⟩)
        have HS2 := Lib.hid (show (pre ++ [rest]) ++ linesB ((⟨#[]⟩ : ByteArray)) = linesB s by rw [← Hpre.out, hlb]; simp)
        have hJ1 := HJ.out pre wr _ (some C) hJr (setCell_grown wr C (.string ((⟨#[]⟩ : ByteArray)))) (fun r e => .inl (by injection e with e; exact e.symm))
        obtain ⟨fn, tmps, assign, body, hy, hR⟩ := HY.out pre (rest) _ hJ1 HP.out
        have HR := Lib.hid hR
        clear hR hlb hJ1 Hpre
        gi_wp2_with (gi_at_call 48; refine (callsIn_wide.2 Hix.out).mono ?_; rintro e w' ⟨rfl, hw⟩; rw [hw]; clear hw)
        refine HR.out.mono ?_
        rintro e W' (⟨rfl, hJ', hk'⟩ | ⟨rfl, hJx'⟩)
        · have hC' : BoxN W' C 9 #[.string ((⟨#[]⟩ : ByteArray))] := Eq.trans (show W'.heap[C]? = _ from hk') (hC.set 0 (.string ((⟨#[]⟩ : ByteArray))))
          gi_wp2
          refine ⟨⟨pre ++ [rest], (⟨#[]⟩ : ByteArray), _, rfl, ?_, ?_, hC', hJ'⟩, ?_⟩
          · exact HS1.out
          · exact HS2.out
          · rw [leftAt_eq (hC'.cell (k := 0) rfl), leftAt_eq (hC.cell (k := 0) rfl)]; exact HS3.out
        · gi_wp2
          refine bodyPost_ret (results_none rfl _ _ _) rfl ?_
          exact ⟨⟨_, rfl⟩, .inr ⟨pre ++ [rest], HP.out, hJx'⟩⟩
      · obtain ⟨i, rfl⟩ := Int.eq_ofNat_of_zero_le hpos
        obtain ⟨hi, hlb⟩ := linesB_hit hix
        have dix : decide ((i : Int) ≥ 0) = true := decide_eq_true (by omega)
        clear hix
        have f0 := hC.free 0
        have HS1 := Lib.hid (show (rest.extract (i + 1) rest.size).size ≤ 9223372036854775806 by rw [ByteArray.size_extract]; omega)
        have HS3 := Lib.hid (show (rest.extract (i + 1) rest.size).size < rest.size by rw [ByteArray.size_extract]; omega)
        have HP := Lib.hid (show pre ++ [rest.extract 0 (i + 1)] <+: linesB s by rw [← Hpre.out, hlb]; exact ⟨linesB (rest.extract (i + 1) rest.size), by simp⟩)
        have HS2 := Lib.hid (show (pre ++ [rest.extract 0 (i + 1)]) ++ linesB (rest.extract (i + 1) rest.size) = linesB s by rw [← Hpre.out, hlb]; simp)
        have hJ1 := HJ.out pre wr _ (some C) hJr (setCell_grownD wr C (.string (rest.extract (i + 1) rest.size))) (fun r e => .inl (by injection e with e; exact e.symm))
        obtain ⟨fn, tmps, assign, body, hy, hR⟩ := HY.out pre (rest.extract 0 (i + 1)) _ hJ1 HP.out
        have HR := Lib.hid hR
        clear hR hlb hJ1 Hpre
        gi_wp2_with (gi_at_call 48; refine (callsIn_wide.2 Hix.out).mono ?_; rintro e w' ⟨rfl, hw⟩; rw [hw]; clear hw)
        gi_region
        gi_wp2
        refine HR.out.mono ?_
        rintro e W' (⟨rfl, hJ', hk'⟩ | ⟨rfl, hJx'⟩)
        · have hC' : BoxN W' C 9 #[.string (rest.extract (i + 1) rest.size)] := Eq.trans (show W'.heap[C]? = _ from hk') (hC.set 0 (.string (rest.extract (i + 1) rest.size)))
          gi_wp2
          refine ⟨⟨pre ++ [rest.extract 0 (i + 1)], rest.extract (i + 1) rest.size, _, rfl, ?_, ?_, hC', hJ'⟩, ?_⟩
          · exact HS1.out
          · exact HS2.out
          · rw [leftAt_eq (hC'.cell (k := 0) rfl), leftAt_eq (hC.cell (k := 0) rfl)]; exact HS3.out
        · gi_wp2
          refine bodyPost_ret (results_none rfl _ _ _) rfl ?_
          exact ⟨⟨_, rfl⟩, .inr ⟨pre ++ [rest.extract 0 (i + 1)], HP.out, hJx'⟩⟩
end Go.Proofs.YtanlmfnhlldkeaaGreatDoor
