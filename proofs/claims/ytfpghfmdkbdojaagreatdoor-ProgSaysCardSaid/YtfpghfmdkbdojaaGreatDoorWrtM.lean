/-
  Contracts: the printer of programs: strings.Builder's copyCheck, WriteByte, WriteString at a builder that is the head of a struct.
  Contracts: the printer's node, where the node has a value.
  Contracts: the printer's node, where it is a variable.
  Contracts: the printer's node, where it is a sum or a test.
  Contracts: the printer's node, where the node is a deed.
  Contracts: the printer's node, at each kind of deed.
  Contracts: the printer's node, whole.
  Contracts: strings.Builder's String and Len at the printer (walks after the kit's shelf).
  Contracts: strings.Builder's String and Len at the printer, whole.
  Contract: prog.Write.
-/
import Derived.Test.YtfpghfmdkbdojaaGreatDoorShelf
import Derived.Test.YtfpghfmdkbdojaaGreatDoorBase
import Derived.Shelf.Strings.BuilderK
import Derived.Lib.ItoaLen
import Derived.Test.YtfpghfmdkbdojaaGreatDoorTxN
import Derived.Test.YtfpghfmdkbdojaaGreatDoorPgN
import Derived.Test.YtfpghfmdkbdojaaGreatDoorItoa
import Derived.Test.YtfpghfmdkbdojaaGreatDoorBox
import Derived.Test.YtfpghfmdkbdojaaGreatDoorStillD
import Derived.Lib.OthersKept
import Derived.RegionTactic
import Derived.ChangeAlike
import Derived.Lib.UnsafeStr
import Derived.Test.YtfpghfmdkbdojaaGreatDoorPgC
namespace Go.Proofs.YtfpghfmdkbdojaaGreatDoor
open Go.RowKit
set_option maxRecDepth 100000
set_option linter.unusedVariables false

theorem Tryz.sizeBuilder : (Tryz.prog.info? 50).map (·.size) = some 2 := by kernel_rfl
theorem Tryz.liesPrinter : liesAt Tryz.prog Tryz.prog.depth 52 (3 / Tryz.prog.cellsOf 52) 0 50 1 = true := by kernel_rfl
theorem Tryz.infoByte : (Tryz.prog.info? 5).map (fun i => (i.zero, i.size, i.bytes)) = some (some (.int .u8 0), 1, 1) := by kernel_rfl
/-- A printer in a block of its own, that holds these bytes and the nodes N. -/
def PrnAt (N : Value) (B b : Nat) (p : Value) (bs : List Value) (w : World) : Prop :=
  B ≤ b ∧ ∃ v, w.heap[b]? = some (.cells #[p, v, N] 52 (0, 0)) ∧ w.ownsRowF B 5 1 v bs.length bs ∧ v.ownBlock ≠ some b
def Prn (N : Value) (B b : Nat) (bs : List Value) (w : World) : Prop := PrnAt N B b (.pointer none) bs w ∨ PrnAt N B b (.pointer (some ⟨b, 0, none⟩)) bs w
section
variable {N : Value} {B b : Nat} {p v v' : Value} {bs bs' : List Value} {w : World}
theorem PrnAt.cell0 (h : PrnAt N B b p bs w) : w.cell? ⟨b, 0, none⟩ = some p := by
  obtain ⟨_, v, hb, _⟩ := h
  simp [World.cell?, hb]
theorem PrnAt.cell2 (h : PrnAt N B b p bs w) : w.cell? ⟨b, 2, none⟩ = some N := by
  obtain ⟨_, v, hb, _⟩ := h
  simp [World.cell?, hb]
theorem PrnAt.shape (h : PrnAt N B b p bs w) : w.shape? b = some (52, 3) := by
  obtain ⟨_, v, hb, _⟩ := h
  simp [World.shape?, hb]
theorem PrnAt.lt (h : PrnAt N B b p bs w) : b < w.heap.size := by
  obtain ⟨_, v, hb, _⟩ := h
  rcases Nat.lt_or_ge b w.heap.size with h' | h'
  · exact h'
  · simp [Array.getElem?_eq_none h'] at hb
theorem PrnAt.used (h : PrnAt N B b p bs w) (q : Value) : PrnAt N B b q bs (w.setCell ⟨b, 0, none⟩ q) := by
  obtain ⟨hB, v, hb, hown, hne⟩ := h
  refine ⟨hB, v, ?_, ?_, hne⟩
  · simp [World.setCell, Array.getElem?_modify, hb]
  · refine hown.kept (row := some b) ⟨rfl, rfl, rfl, by simp [World.setCell], fun k _ hk => Below.heap_setCell _ _ _ _ (fun e => hk (by simp [e]))⟩ ?_
    exact Or.inr hne
theorem PrnAt.frozen0 (h : PrnAt N B b p bs w) : w.frozen? ⟨b, 0, none⟩ = false := by
  obtain ⟨_, v, hb, _⟩ := h
  simp [World.frozen?, hb]
theorem PrnAt.put (hB : B ≤ b) (hb : w.heap[b]? = some (.cells #[p, v, N] 52 (0, 0))) (hown : w.ownsRowF B 5 1 v' bs'.length bs') : PrnAt N B b p bs' (w.setCell ⟨b, 1, none⟩ v') := by
  have hne := Lib.ownBlock_neF hown hb (by decide)
  refine ⟨hB, v', ?_, ?_, hne⟩
  · simp [World.setCell, Array.getElem?_modify, hb]
  · exact hown.kept (row := some b) ⟨rfl, rfl, rfl, by simp [World.setCell], fun k _ hk => Below.heap_setCell _ _ _ _ (fun e => hk (by simp [e]))⟩ (Or.inr hne)
theorem Prn.lt (h : Prn N B b bs w) : b < w.heap.size := h.elim (fun h => h.lt) (fun h => h.lt)
theorem Prn.low (h : Prn N B b bs w) : B ≤ b := h.elim (fun h => h.1) (fun h => h.1)
theorem Prn.cell2 (h : Prn N B b bs w) : w.cell? ⟨b, 2, none⟩ = some N := h.elim (fun h => h.cell2) (fun h => h.cell2)
end
set_option maxHeartbeats 1000000 in
theorem prnCheck_used (b : Nat) (w : World) (h0 : w.cell? ⟨b, 0, none⟩ = some (.pointer (some ⟨b, 0, none⟩))) :
    Calls Tryz.prog 44 #[.pointer (some ⟨b, 0, none⟩)] w fun e w' => e = .returned (.tuple #[]) ∧ w' = w := by
  obtain ⟨j, hj, _⟩ := Option.map_eq_some_iff.1 Tryz.sizeBuilder
  go_enter Tryz.func44, Tryz.ntmps44
  go_wp2
  rw [Lib.run_neq_ptr_same w _ Tryz.underlying47 hj]
  go_wp2
  go_end0
  exact ⟨rfl, rfl⟩
set_option maxHeartbeats 1000000 in
theorem prnCheck_fresh (b : Nat) (w : World) (h0 : w.cell? ⟨b, 0, none⟩ = some (.pointer none)) (hsh : w.shape? b = some (52, 3)) (hfz : w.frozen? ⟨b, 0, none⟩ = false) :
    Calls Tryz.prog 44 #[.pointer (some ⟨b, 0, none⟩)] w fun e w' => e = .returned (.tuple #[]) ∧ w' = w.setCell ⟨b, 0, none⟩ (.pointer (some ⟨b, 0, none⟩)) := by
  obtain ⟨j, hj, hjs⟩ := Option.map_eq_some_iff.1 Tryz.sizeBuilder
  go_enter Tryz.func44, Tryz.ntmps44
  go_wp2
  rw [Lib.run_to_unsafe w ⟨b, 0, none⟩ Tryz.underlying47 Tryz.underlying78 hj (by rw [hjs]; decide) hsh (Nat.zero_lt_succ 2)]
  simp only [Result.andThen]
  rw [Oper.upon_value]
  go_wp2
  rw [run_callFunc_extern Tryz.func59 (by kernel_rfl) (by kernel_rfl) (by kernel_rfl) (e := Extern.AbiNoEscape.same) (by kernel_rfl)]
  rw [Lib.run_noEscape]
  simp only [Result.andThen]
  rw [Oper.upon_value]
  go_wp2
  rw [Lib.run_from_unsafe w ⟨b, 0, none⟩ Tryz.underlying78 Tryz.underlying47 hj hsh Tryz.liesPrinter]
  simp only [Result.andThen]
  rw [Oper.upon_value]
  go_wp2
  go_end0
  exact ⟨rfl, rfl⟩
theorem prnCheck_any {N : Value} (B b : Nat) (bs : List Value) (w : World) (h : Prn N B b bs w) :
    Calls Tryz.prog 44 #[.pointer (some ⟨b, 0, none⟩)] w fun e w' => e = .returned (.tuple #[]) ∧ PrnAt N B b (.pointer (some ⟨b, 0, none⟩)) bs w' ∧ Below B w w' ∧ Lib.OthersKept 5 (some b) w w' := by
  rcases h with h | h
  · refine (prnCheck_fresh b w h.cell0 h.shape h.frozen0).mono ?_
    rintro e w' ⟨rfl, rfl⟩
    exact ⟨rfl, h.used _, (Below.refl B w).setCell (p := ⟨b, 0, none⟩) h.1 _, (Lib.OthersKept.refl _ _ w).setCell ⟨b, 0, none⟩ rfl _⟩
  · refine (prnCheck_used b w h.cell0).mono ?_
    rintro e w' ⟨rfl, rfl⟩
    exact ⟨rfl, h, Below.refl B _, Lib.OthersKept.refl _ _ _⟩

set_option maxHeartbeats 2000000 in
theorem PrnByte_any {N : Value} (B b : Nat) (bs : List Value) (c : Int) (w : World) (h : Prn N B b bs w) (hlen : bs.length + 1 ≤ 140737488355328) (hBw : B ≤ w.heap.size) :
    Calls Tryz.prog 32 #[.pointer (some ⟨b, 0, none⟩), .int .u8 c] w fun e w' => e = .returned .nilIface ∧ Prn N B b (bs ++ [.int .u8 c]) w' ∧ Below B w w' ∧ Lib.OthersKept 5 (some b) w w' := by
  obtain ⟨i0, hi, hz0, hz1, hz2⟩ := info_parts Tryz.infoByte
  have Hcc := Lib.hid (prnCheck_any B b bs w h)
  clear h
  go_enter Tryz.func32, Tryz.ntmps32
  go_wp2_with (go_at_call 44; refine Hcc.out.mono ?_)
  rintro e w1 ⟨rfl, h1, hb1, hk1⟩
  obtain ⟨hB, v, hbk, hown, hne⟩ := h1
  have c0 : w1.cell? ⟨b, 0, none⟩ = some (.pointer (some ⟨b, 0, none⟩)) := by rw [Lib.cell_of_heap hbk]; rfl
  have c1 : w1.cell? ⟨b, 1, none⟩ = some v := by rw [Lib.cell_of_heap hbk]; rfl
  go_wp2_with (at_builtin; refine wpList_append_ownF _ rfl _ _ 48 rfl B 5 i0 (.int .u8 0) 1 1 Tryz.underlying48 hi hz0 hz1 hz2 rfl (by decide) _ _ _ rfl (hown.alloc _) ⟨w1.heap.size, 0, none⟩ 1 1 [.int .u8 c] rfl rfl ?c1 ?c2 ?c3 ?c4 ?c5 ?_)
  case c1 =>
    intro j u hj
    match j, hj with
    | 0, hj => simp at hj; subst hj; simp [Addr.add]
  case c2 => intro u hu; simp at hu; subst hu; rfl
  case c3 => unfold maxLen; omega
  case c4 => omega
  case c5 => have := hb1.size; simp; omega
  intro v' w2 hown' hgrow _
  have hlt : b < w1.heap.size := (Array.getElem?_eq_some_iff.1 hbk).1
  have hb2 : w2.heap[b]? = some (.cells #[.pointer (some ⟨b, 0, none⟩), v, N] 52 (0, 0)) := by
    rw [hgrow.block b (by simp; omega) (fun e => hne e.symm), Lib.alloc_old w1 _ b hlt]
    exact hbk
  have d0 : w2.cell? ⟨b, 0, none⟩ = some (.pointer (some ⟨b, 0, none⟩)) := by rw [Lib.cell_of_heap hb2]; rfl
  have d1 : w2.cell? ⟨b, 1, none⟩ = some v := by rw [Lib.cell_of_heap hb2]; rfl
  have f1 : w2.frozen? ⟨b, 1, none⟩ = false := Lib.frozen_of_heap hb2 1
  obtain ⟨g, cap, rfl⟩ : ∃ g cap, v' = .slice (some ⟨g, 0, none⟩) (bs.length + 1) cap := by
    rcases hown'.2 with ⟨_, h0⟩ | ⟨g, cap, cur, fz, hv, _⟩
    · omega
    · exact ⟨g, cap, hv⟩
  go_wp2
  go_ret
  refine ⟨rfl, .inr ?_, ?_, ((hk1.alloc _).grown hgrow (Lib.ownsRowF_kind (hown.alloc _))).setCell ⟨b, 1, none⟩ rfl _⟩
  · exact PrnAt.put hB hb2 (bs' := bs ++ [.int .u8 c]) (by simpa using hown')
  · exact ((hb1.alloc (by have := hb1.size; omega) _).grown hgrow (by have := hb1.size; simp; omega) (fun k hk => (hown.lt k hk).1)).setCell (p := ⟨b, 1, none⟩) hB _
set_option maxHeartbeats 2000000 in
theorem PrnString_any {N : Value} (B b : Nat) (bs : List Value) (s : ByteArray) (w : World) (h : Prn N B b bs w) (hlen : bs.length + s.size ≤ 140737488355328) (hBw : B ≤ w.heap.size) :
    Calls Tryz.prog 30 #[.pointer (some ⟨b, 0, none⟩), .string s] w fun e w' => e = .returned (.tuple #[.int .i64 s.size, .nilIface]) ∧ Prn N B b (bs ++ Lib.strCells s) w' ∧ Below B w w' ∧ Lib.OthersKept 5 (some b) w w' := by
  obtain ⟨i0, hi, hz0, hz1, hz2⟩ := info_parts Tryz.infoByte
  have Hcc := Lib.hid (prnCheck_any B b bs w h)
  clear h
  go_enter Tryz.func30, Tryz.ntmps30
  go_wp2_with (go_at_call 44; refine Hcc.out.mono ?_)
  rintro e w1 ⟨rfl, h1, hb1, hk1⟩
  obtain ⟨hB, v, hbk, hown, hne⟩ := h1
  have c0 : w1.cell? ⟨b, 0, none⟩ = some (.pointer (some ⟨b, 0, none⟩)) := by rw [Lib.cell_of_heap hbk]; rfl
  have c1 : w1.cell? ⟨b, 1, none⟩ = some v := by rw [Lib.cell_of_heap hbk]; rfl
  go_wp2_with (at_builtin; refine Lib.wpList_append_own_stringF _ rfl _ _ 48 9 rfl B 5 i0 Tryz.underlying48 Tryz.underlying9 hi hz0 hz1 hz2 _ _ _ rfl hown s rfl ?c3 ?c4 ?c5 ?_)
  case c3 => unfold maxLen; omega
  case c4 => omega
  case c5 => have := hb1.size; omega
  intro v' w2 hown' hgrow _
  have hlt : b < w1.heap.size := (Array.getElem?_eq_some_iff.1 hbk).1
  have hb2 : w2.heap[b]? = some (.cells #[.pointer (some ⟨b, 0, none⟩), v, N] 52 (0, 0)) := by
    rw [hgrow.block b hlt (fun e => hne e.symm)]
    exact hbk
  have d0 : w2.cell? ⟨b, 0, none⟩ = some (.pointer (some ⟨b, 0, none⟩)) := by rw [Lib.cell_of_heap hb2]; rfl
  have d1 : w2.cell? ⟨b, 1, none⟩ = some v := by rw [Lib.cell_of_heap hb2]; rfl
  have f1 : w2.frozen? ⟨b, 1, none⟩ = false := Lib.frozen_of_heap hb2 1
  obtain ⟨ao, n', cap, rfl⟩ : ∃ ao n' cap, v' = .slice ao n' cap := by
    rcases hown'.2 with ⟨hv, _⟩ | ⟨g, cap, cur, fz, hv, _⟩
    · exact ⟨_, _, _, hv⟩
    · exact ⟨_, _, _, hv⟩
  go_wp2
  go_ret2
  refine ⟨rfl, .inr ?_, ?_, (hk1.grown hgrow (Lib.ownsRowF_kind hown)).setCell ⟨b, 1, none⟩ rfl _⟩
  · exact PrnAt.put hB hb2 (bs' := bs ++ Lib.strCells s) (by simpa [Lib.strCells_length] using hown')
  · exact (hb1.grown hgrow (by have := hb1.size; omega) (fun k hk => (hown.lt k hk).1)).setCell (p := ⟨b, 1, none⟩) hB _
end Go.Proofs.YtfpghfmdkbdojaaGreatDoor

namespace Go.Proofs.YtfpghfmdkbdojaaGreatDoor
open Go.RowKit
set_option maxRecDepth 100000
set_option linter.unusedVariables false

theorem prn_below {N : Value} {B b : Nat} {l : List Value} {w w' : World} (h : Prn N B b l w) (hb : Below w.heap.size w w') : Prn N B b l w' := by
  have key : ∀ p, PrnAt N B b p l w → PrnAt N B b p l w' := fun p h => by
    have hlt := h.lt
    obtain ⟨hB, v, hk, hown, hne⟩ := h
    exact ⟨hB, v, (hb.block b hlt).trans hk, hown.kept (row := none) ⟨hb.os, hb.tape, hb.output, hb.size, fun k hk _ => hb.block k hk⟩ (by cases hv : v.ownBlock <;> simp), hne⟩
  exact h.elim (fun h => .inl (key _ h)) (fun h => .inr (key _ h))
theorem others_below {b : Option Nat} {w w' : World} (h : Below w.heap.size w w') : Lib.OthersKept 5 b w w' := fun k o hk _ _ => (h.block k (Array.getElem?_eq_some_iff.1 hk).1).trans hk
theorem cells_append (a b : List UInt8) : Lib.byteCells (a ++ b) = Lib.byteCells a ++ Lib.byteCells b := by simp [Lib.byteCells]
theorem toArray_size (l : List UInt8) : (⟨l.toArray⟩ : ByteArray).size = l.length := by simp [ByteArray.size]
/-- A box that is no row of bytes outlives the printer's writing. -/
theorem box_kept {b k : Nat} {w w' : World} {t : TypeId} {vs : Array Value} (h : BoxN w k t vs) (hk : Lib.OthersKept 5 (some b) w w') (hb : k ≠ b) (ht : t ≠ 5) : BoxN w' k t vs :=
  hk k _ h (fun e => hb (by injection e)) (fun c fz e => by injection e with _ e; exact ht e)
/-- What the printer has done: these bytes more. -/
def PrnTo (N : Value) (B b : Nat) (bs : List Value) (w : World) (l : List UInt8) (e : Ending) (w' : World) : Prop := e = .returned (.tuple #[]) ∧ Prn N B b (bs ++ Lib.byteCells l) w' ∧ Below B w w' ∧ Lib.OthersKept 5 (some b) w w'
theorem itoa_cells (l : List UInt8) : Lib.strCells ((⟨#[35]⟩ : ByteArray) ++ ⟨l.toArray⟩) = Lib.byteCells (35 :: l) := by
  simp [Lib.strCells, Lib.byteCells]
theorem itoa_sum (l : List UInt8) : ((⟨#[35]⟩ : ByteArray) ++ ⟨l.toArray⟩).size = 1 + l.length := by simp [ByteArray.size]; omega
section
variable {P : List Int} {n c : Nat} {A : Option Addr} {w0 : World} {B b : Nat}
set_option maxHeartbeats 4000000 in
theorem prn_num (hN : NodesAt w0 A P n) (hB : B = w0.heap.size) (hP : Pow10 B w0) {i k : Nat} (hi : i < n) (h0 : nd P i 0 = 0) (h1 : nd P i 1 = k) (hk : k ≤ 999999) (w : World) (bs : List Value) (hp : Prn (.slice A n c) B b bs w) (hw : Below B w0 w) (hl : bs.length ≤ 100000) (hwB : B ≤ w.heap.size) :
    Calls Tryz.prog 21 #[.pointer (some ⟨b, 0, none⟩), .int .i64 i] w (PrnTo (.slice A n c) B b bs w (Ex.num k).text) := by
  obtain ⟨ba, offa, rfl, p0, p1, p2, p3, p4⟩ := (hN.below (B := 0) (hB ▸ hw)).cells hi
  rw [h0] at p0
  rw [h1] at p1
  have hin := hN.small
  have c2 := hp.cell2
  have hlt := hp.lt
  generalize nd P i 2 = x2 at *
  generalize nd P i 3 = x3 at *
  generalize nd P i 4 = x4 at *
  have hb1 := (Below.refl w.heap.size w).alloc (Nat.le_refl _) (.cells #[.int .i64 0, .int .i64 (k : Nat), .int .i64 x2, .int .i64 x3, .int .i64 x4] 39)
  have hbx := BoxN.new w 39 #[.int .i64 0, .int .i64 (k : Nat), .int .i64 x2, .int .i64 x3, .int .i64 x4]
  go_enter Tryz.func21, Tryz.ntmps21
  have hwb := hw.trans (hb1.mono hwB)
  have hpr := prn_below hp hb1
  have y1 := hbx.cell (k := 1) rfl
  have hsz : (w.alloc (.cells #[.int .i64 0, .int .i64 (k : Nat), .int .i64 x2, .int .i64 x3, .int .i64 x4] 39)).heap.size = w.heap.size + 1 := by simp
  have hbk : w.heap.size ≠ b := by omega
  have HK := Lib.hid (others_below (b := some b) hb1)
  have HB := Lib.hid (hb1.mono hwB)
  have HP0 := Lib.hid hpr
  have HW := Lib.hid hwb
  clear hpr hwb hp hw hN hb1
  go_wp2_with fail
  generalize w.alloc (.cells #[.int .i64 0, .int .i64 (k : Nat), .int .i64 x2, .int .i64 x3, .int .i64 x4] 39) = w1 at *
  have hlen := itoa_len k hk
  have CI := Lib.hid (fun (V : World) (hV : Below w1.heap.size w1 V) => (Itoa_any (k : Int) (by omega) V (hP V (HW.out.trans (hV.mono (by omega))))).mono fun e w' ⟨he, hb⟩ => (⟨he, hV.trans (hb.mono hV.size)⟩ : e = Ending.returned (.string ⟨(Lib.itoa (k : Int)).toArray⟩) ∧ Below w1.heap.size w1 w'))
  have CS := Lib.hid (fun (V : World) (hV : Below w1.heap.size w1 V) => PrnString_any (N := .slice (some ⟨ba, offa, none⟩) n c) B b bs (⟨#[35]⟩ ++ ⟨(Lib.itoa (k : Int)).toArray⟩) V (prn_below HP0.out hV) (by rw [itoa_sum]; omega) (by have := hV.size; omega))
  have CS := Lib.hid (fun (V : World) (hV : Below w1.heap.size w1 V) => show Calls Tryz.prog 30 #[.pointer (some ⟨b, 0, none⟩), .string (⟨#[35]⟩ ++ ⟨(Lib.itoa (k : Int)).toArray⟩)] V (fun e w' => e = .returned (.tuple #[.int .i64 ((⟨#[35]⟩ ++ ⟨(Lib.itoa (k : Int)).toArray⟩ : ByteArray).size : Int), .nilIface]) ∧ PrnTo (.slice (some ⟨ba, offa, none⟩) n c) B b bs V (Ex.num k).text (.returned (.tuple #[])) w') from (CS.out V hV).mono fun e w' ⟨h1, h2, h3, h4⟩ => ⟨h1, rfl, by rw [itoa_cells] at h2; exact h2, h3, h4⟩)
  have hsum := itoa_sum (Lib.itoa (k : Int))
  have hst : (⟨(Lib.itoa (k : Int)).toArray⟩ : ByteArray).size ≤ 21 := by rw [toArray_size]; exact hlen
  have hadd1 : ¬ (9223372036854775807 < (⟨#[35]⟩ : ByteArray).size + (⟨(Lib.itoa (k : Int)).toArray⟩ : ByteArray).size) := by simp [ByteArray.size]; omega
  have hadd2 : ¬ (9223372036854775807 < 1 + (⟨(Lib.itoa (k : Int)).toArray⟩ : ByteArray).size) := by omega
  have hadd3 : ¬ (9223372036854775806 < (⟨(Lib.itoa (k : Int)).toArray⟩ : ByteArray).size) := by omega
  generalize (⟨(Lib.itoa (k : Int)).toArray⟩ : ByteArray) = st at *
  clear hlen hsum
  go_region_law ((first | (go_simp; go_at_call 31; with_reducible refine (CI.out _ (by repeat (first | assumption | exact Below.refl _ _ | refine Below.drew ?_))).mono ?_; rintro e wa ⟨rfl, hba⟩) | (go_simp; go_at_call 30; with_reducible refine (CS.out _ (by assumption)).mono ?_; rintro e wb ⟨he, hz⟩; subst he)))
  all_goals
    obtain ⟨-, h2, h3, h4⟩ := hz
    go_wp2_with fail
    go_end0
    exact ⟨rfl, h2, (HB.out.trans (hba.mono (by omega))).trans h3, (HK.out.trans (others_below hba)).trans h4⟩
end
end Go.Proofs.YtfpghfmdkbdojaaGreatDoor

namespace Go.Proofs.YtfpghfmdkbdojaaGreatDoor
open Go.RowKit
set_option maxRecDepth 100000
set_option linter.unusedVariables false

theorem nmC_cells {k : Nat} (h : k < 6) : Lib.byteCells [nmC k] = [.int .u8 (97 + (k : Int))] := by
  rcases (by omega : k = 0 ∨ k = 1 ∨ k = 2 ∨ k = 3 ∨ k = 4 ∨ k = 5) with rfl | rfl | rfl | rfl | rfl | rfl <;> rfl
theorem wrap_nm {k : Nat} (h : k < 6) : IntKind.u8.wrap (97 + IntKind.u8.wrap (k : Int)) = 97 + (k : Int) := by
  rcases (by omega : k = 0 ∨ k = 1 ∨ k = 2 ∨ k = 3 ∨ k = 4 ∨ k = 5) with rfl | rfl | rfl | rfl | rfl | rfl <;> rfl
section
variable {P : List Int} {n c : Nat} {A : Option Addr} {w0 : World} {B b : Nat}
set_option maxHeartbeats 4000000 in
theorem prn_var (hN : NodesAt w0 A P n) (hB : B = w0.heap.size) (hP : Pow10 B w0) {i k : Nat} (hi : i < n) (h0 : nd P i 0 = 1) (h1 : nd P i 1 = k) (hk : k < 6) (w : World) (bs : List Value) (hp : Prn (.slice A n c) B b bs w) (hw : Below B w0 w) (hl : bs.length ≤ 100000) (hwB : B ≤ w.heap.size) :
    Calls Tryz.prog 21 #[.pointer (some ⟨b, 0, none⟩), .int .i64 i] w (PrnTo (.slice A n c) B b bs w (Ex.var k).text) := by
  obtain ⟨ba, offa, rfl, p0, p1, p2, p3, p4⟩ := (hN.below (B := 0) (hB ▸ hw)).cells hi
  rw [h0] at p0
  rw [h1] at p1
  have hin := hN.small
  have c2 := hp.cell2
  have hlt := hp.lt
  generalize nd P i 2 = x2 at *
  generalize nd P i 3 = x3 at *
  generalize nd P i 4 = x4 at *
  have hb1 := (Below.refl w.heap.size w).alloc (Nat.le_refl _) (.cells #[.int .i64 1, .int .i64 (k : Nat), .int .i64 x2, .int .i64 x3, .int .i64 x4] 39)
  have hbx := BoxN.new w 39 #[.int .i64 1, .int .i64 (k : Nat), .int .i64 x2, .int .i64 x3, .int .i64 x4]
  go_enter Tryz.func21, Tryz.ntmps21
  have hwb := hw.trans (hb1.mono hwB)
  have hpr := prn_below hp hb1
  have y1 := hbx.cell (k := 1) rfl
  have hsz : (w.alloc (.cells #[.int .i64 1, .int .i64 (k : Nat), .int .i64 x2, .int .i64 x3, .int .i64 x4] 39)).heap.size = w.heap.size + 1 := by simp
  have hbk : w.heap.size ≠ b := by omega
  have HK := Lib.hid (others_below (b := some b) hb1)
  have HB := Lib.hid (hb1.mono hwB)
  have HP0 := Lib.hid hpr
  have HW := Lib.hid hwb
  clear hpr hwb hp hw hN hb1
  go_wp2_with fail
  generalize w.alloc (.cells #[.int .i64 1, .int .i64 (k : Nat), .int .i64 x2, .int .i64 x3, .int .i64 x4] 39) = w1 at *
  have CS := Lib.hid (fun (V : World) (hV : Below w1.heap.size w1 V) => show Calls Tryz.prog 32 #[.pointer (some ⟨b, 0, none⟩), .int .u8 (IntKind.u8.wrap (97 + IntKind.u8.wrap (k : Int)))] V (fun e w' => e = .returned .nilIface ∧ PrnTo (.slice (some ⟨ba, offa, none⟩) n c) B b bs V (Ex.var k).text (.returned (.tuple #[])) w') from wrap_nm hk ▸ (PrnByte_any (N := .slice (some ⟨ba, offa, none⟩) n c) B b bs (97 + (k : Int)) V (prn_below HP0.out hV) (by omega) (by have := hV.size; omega)).mono fun e w' ⟨h1, h2, h3, h4⟩ => ⟨h1, rfl, by rw [Ex.text, nmC_cells hk]; exact h2, h3, h4⟩)
  go_region_law ((go_simp; go_at_call 32; with_reducible refine (CS.out _ (by repeat (first | assumption | exact Below.refl _ _ | refine Below.drew ?_))).mono ?_; rintro e wb ⟨he, hz⟩; subst he))
  all_goals
    obtain ⟨-, h2, h3, h4⟩ := hz
    go_wp2_with fail
    go_end0
    exact ⟨rfl, h2, HB.out.drew.trans h3, HK.out.drew.trans h4⟩
end
end Go.Proofs.YtfpghfmdkbdojaaGreatDoor

namespace Go.Proofs.YtfpghfmdkbdojaaGreatDoor
open Go.RowKit
set_option maxRecDepth 100000
set_option linter.unusedVariables false

/-- What the printer does at a node that is this value. -/
def PrnEx (N : Value) (B b : Nat) (w0 : World) (a : Nat) (x : Ex) : Prop := ∀ (w : World) (bs : List Value), Prn N B b bs w → Below B w0 w → bs.length + x.text.length ≤ 100000 → Calls Tryz.prog 21 #[.pointer (some ⟨b, 0, none⟩), .int .i64 a] w (PrnTo N B b bs w x.text)
section
variable {P : List Int} {n c : Nat} {A : Option Addr} {w0 : World} {B b : Nat}
set_option maxHeartbeats 8000000 in
theorem prn_op2 (hN : NodesAt w0 A P n) (hB : B = w0.heap.size) {i a a2 : Nat} {x y : Ex} (hi : i < n) (h0 : nd P i 0 = 2) (ha : nd P i 2 = a) (hb : nd P i 3 = a2) (ia : PrnEx (.slice A n c) B b w0 a x) (ib : PrnEx (.slice A n c) B b w0 a2 y) : PrnEx (.slice A n c) B b w0 i (.op 2 x y) := by
  intro w bs hp hw hl
  have hwB : B ≤ w.heap.size := by have := hp.low; have := hp.lt; omega
  rw [Ex.text, List.length_cons, List.length_append] at hl
  obtain ⟨ba, offa, rfl, p0, p1, p2, p3, p4⟩ := (hN.below (B := 0) (hB ▸ hw)).cells hi
  rw [h0] at p0
  rw [ha] at p2
  rw [hb] at p3
  have hin := hN.small
  have c2 := hp.cell2
  have hlt := hp.lt
  generalize nd P i 1 = x1 at *
  generalize nd P i 4 = x4 at *
  have hb1 := (Below.refl w.heap.size w).alloc (Nat.le_refl _) (.cells #[.int .i64 2, .int .i64 x1, .int .i64 (a : Nat), .int .i64 (a2 : Nat), .int .i64 x4] 39)
  have hbx := BoxN.new w 39 #[.int .i64 2, .int .i64 x1, .int .i64 (a : Nat), .int .i64 (a2 : Nat), .int .i64 x4]
  go_enter Tryz.func21, Tryz.ntmps21
  have hwb := hw.trans (hb1.mono hwB)
  have hpr := prn_below hp hb1
  have y0 := hbx.cell (k := 0) rfl
  have hsz : (w.alloc (.cells #[.int .i64 2, .int .i64 x1, .int .i64 (a : Nat), .int .i64 (a2 : Nat), .int .i64 x4] 39)).heap.size = w.heap.size + 1 := by simp
  have hbk : w.heap.size ≠ b := by omega
  have HK := Lib.hid (others_below (b := some b) hb1)
  have HB := Lib.hid (hb1.mono hwB)
  have HP0 := Lib.hid hpr
  have HW := Lib.hid hwb
  clear hpr hwb hp hw hN hb1
  go_wp2_with fail
  generalize w.alloc (.cells #[.int .i64 2, .int .i64 x1, .int .i64 (a : Nat), .int .i64 (a2 : Nat), .int .i64 x4] 39) = w1 at *
  have IA := Lib.hid ia
  have IB := Lib.hid ib
  have Hbx := Lib.hid hbx
  clear ia ib hbx
  have CS := Lib.hid (fun (V : World) (hV : Below w1.heap.size w1 V) (hq : 0 < (⟨#[43, 60, 61]⟩ : ByteArray).size) => show Calls Tryz.prog 32 #[.pointer (some ⟨b, 0, none⟩), .int .u8 (((⟨#[43, 60, 61]⟩ : ByteArray)[0]'hq).toNat : Int)] V (fun e w' => e = Ending.returned .nilIface ∧ Prn (.slice (some ⟨ba, offa, none⟩) n c) B b (bs ++ Lib.byteCells [opC 2]) w' ∧ Below B V w' ∧ Lib.OthersKept 5 (some b) V w') from
    PrnByte_any (N := .slice (some ⟨ba, offa, none⟩) n c) B b bs ((opC 2).toNat : Int) V (prn_below HP0.out hV) (by omega) (by have := hV.size; omega))
  have z0 : IntKind.i64.wrap 0 = 0 := rfl
  have z1 : IntKind.i64.wrap 1 = 1 := rfl
  have z2 : IntKind.i64.wrap 2 = 2 := rfl
  go_region_law ((go_simp; go_at_call 32; with_reducible refine (CS.out _ (by repeat (first | assumption | exact Below.refl _ _ | refine Below.drew ?_)) (by decide)).mono ?_; rintro e wb ⟨he, hz⟩; subst he))
  obtain ⟨h2, h3, h4⟩ := hz
  have hb2 := HB.out.drew.trans h3
  have hbx2 := box_kept Hbx.out.drew h4 hbk (by decide)
  have y2 := hbx2.cell (k := 2) rfl
  have C2 := Lib.hid (IA.out wb _ h2 (HW.out.drew.trans h3) (by rw [List.length_append]; simp [Lib.byteCells]; omega))
  have HK2 := Lib.hid (HK.out.drew.trans h4)
  have HB2 := Lib.hid hb2
  have HW2 := Lib.hid (HW.out.drew.trans h3)
  have Hbx2 := Lib.hid hbx2
  clear h2 h3 h4 hb2 hbx2 CS
  go_wp2_with fail
  refine C2.out.mono ?_
  rintro e w3 ⟨rfl, g2, g3, g4⟩
  have hbx3 := box_kept Hbx2.out g4 hbk (by decide)
  have y3 := hbx3.cell (k := 3) rfl
  have C3 := Lib.hid (IB.out w3 _ g2 (HW2.out.trans g3) (by rw [List.length_append, List.length_append]; simp [Lib.byteCells]; omega))
  have HK3 := Lib.hid (HK2.out.trans g4)
  have HB3 := Lib.hid (HB2.out.trans g3)
  clear g2 g3 g4 hbx3 C2
  go_wp2_with fail
  refine C3.out.mono ?_
  rintro e w4 ⟨rfl, k2, k3, k4⟩
  go_wp2_with fail
  go_end0
  refine ⟨rfl, ?_, HB3.out.trans k3, HK3.out.trans k4⟩
  rw [List.append_assoc, List.append_assoc, ← cells_append, ← cells_append] at k2
  exact k2
set_option maxHeartbeats 8000000 in
theorem prn_op3 (hN : NodesAt w0 A P n) (hB : B = w0.heap.size) {i a a2 : Nat} {x y : Ex} (hi : i < n) (h0 : nd P i 0 = 3) (ha : nd P i 2 = a) (hb : nd P i 3 = a2) (ia : PrnEx (.slice A n c) B b w0 a x) (ib : PrnEx (.slice A n c) B b w0 a2 y) : PrnEx (.slice A n c) B b w0 i (.op 3 x y) := by
  intro w bs hp hw hl
  have hwB : B ≤ w.heap.size := by have := hp.low; have := hp.lt; omega
  rw [Ex.text, List.length_cons, List.length_append] at hl
  obtain ⟨ba, offa, rfl, p0, p1, p2, p3, p4⟩ := (hN.below (B := 0) (hB ▸ hw)).cells hi
  rw [h0] at p0
  rw [ha] at p2
  rw [hb] at p3
  have hin := hN.small
  have c2 := hp.cell2
  have hlt := hp.lt
  generalize nd P i 1 = x1 at *
  generalize nd P i 4 = x4 at *
  have hb1 := (Below.refl w.heap.size w).alloc (Nat.le_refl _) (.cells #[.int .i64 3, .int .i64 x1, .int .i64 (a : Nat), .int .i64 (a2 : Nat), .int .i64 x4] 39)
  have hbx := BoxN.new w 39 #[.int .i64 3, .int .i64 x1, .int .i64 (a : Nat), .int .i64 (a2 : Nat), .int .i64 x4]
  go_enter Tryz.func21, Tryz.ntmps21
  have hwb := hw.trans (hb1.mono hwB)
  have hpr := prn_below hp hb1
  have y0 := hbx.cell (k := 0) rfl
  have hsz : (w.alloc (.cells #[.int .i64 3, .int .i64 x1, .int .i64 (a : Nat), .int .i64 (a2 : Nat), .int .i64 x4] 39)).heap.size = w.heap.size + 1 := by simp
  have hbk : w.heap.size ≠ b := by omega
  have HK := Lib.hid (others_below (b := some b) hb1)
  have HB := Lib.hid (hb1.mono hwB)
  have HP0 := Lib.hid hpr
  have HW := Lib.hid hwb
  clear hpr hwb hp hw hN hb1
  go_wp2_with fail
  generalize w.alloc (.cells #[.int .i64 3, .int .i64 x1, .int .i64 (a : Nat), .int .i64 (a2 : Nat), .int .i64 x4] 39) = w1 at *
  have IA := Lib.hid ia
  have IB := Lib.hid ib
  have Hbx := Lib.hid hbx
  clear ia ib hbx
  have CS := Lib.hid (fun (V : World) (hV : Below w1.heap.size w1 V) (hq : 1 < (⟨#[43, 60, 61]⟩ : ByteArray).size) => show Calls Tryz.prog 32 #[.pointer (some ⟨b, 0, none⟩), .int .u8 (((⟨#[43, 60, 61]⟩ : ByteArray)[1]'hq).toNat : Int)] V (fun e w' => e = Ending.returned .nilIface ∧ Prn (.slice (some ⟨ba, offa, none⟩) n c) B b (bs ++ Lib.byteCells [opC 3]) w' ∧ Below B V w' ∧ Lib.OthersKept 5 (some b) V w') from
    PrnByte_any (N := .slice (some ⟨ba, offa, none⟩) n c) B b bs ((opC 3).toNat : Int) V (prn_below HP0.out hV) (by omega) (by have := hV.size; omega))
  have z0 : IntKind.i64.wrap 0 = 0 := rfl
  have z1 : IntKind.i64.wrap 1 = 1 := rfl
  have z2 : IntKind.i64.wrap 2 = 2 := rfl
  go_region_law ((go_simp; go_at_call 32; with_reducible refine (CS.out _ (by repeat (first | assumption | exact Below.refl _ _ | refine Below.drew ?_)) (by decide)).mono ?_; rintro e wb ⟨he, hz⟩; subst he))
  obtain ⟨h2, h3, h4⟩ := hz
  have hb2 := HB.out.drew.trans h3
  have hbx2 := box_kept Hbx.out.drew h4 hbk (by decide)
  have y2 := hbx2.cell (k := 2) rfl
  have C2 := Lib.hid (IA.out wb _ h2 (HW.out.drew.trans h3) (by rw [List.length_append]; simp [Lib.byteCells]; omega))
  have HK2 := Lib.hid (HK.out.drew.trans h4)
  have HB2 := Lib.hid hb2
  have HW2 := Lib.hid (HW.out.drew.trans h3)
  have Hbx2 := Lib.hid hbx2
  clear h2 h3 h4 hb2 hbx2 CS
  go_wp2_with fail
  refine C2.out.mono ?_
  rintro e w3 ⟨rfl, g2, g3, g4⟩
  have hbx3 := box_kept Hbx2.out g4 hbk (by decide)
  have y3 := hbx3.cell (k := 3) rfl
  have C3 := Lib.hid (IB.out w3 _ g2 (HW2.out.trans g3) (by rw [List.length_append, List.length_append]; simp [Lib.byteCells]; omega))
  have HK3 := Lib.hid (HK2.out.trans g4)
  have HB3 := Lib.hid (HB2.out.trans g3)
  clear g2 g3 g4 hbx3 C2
  go_wp2_with fail
  refine C3.out.mono ?_
  rintro e w4 ⟨rfl, k2, k3, k4⟩
  go_wp2_with fail
  go_end0
  refine ⟨rfl, ?_, HB3.out.trans k3, HK3.out.trans k4⟩
  rw [List.append_assoc, List.append_assoc, ← cells_append, ← cells_append] at k2
  exact k2
set_option maxHeartbeats 8000000 in
theorem prn_op4 (hN : NodesAt w0 A P n) (hB : B = w0.heap.size) {i a a2 : Nat} {x y : Ex} (hi : i < n) (h0 : nd P i 0 = 4) (ha : nd P i 2 = a) (hb : nd P i 3 = a2) (ia : PrnEx (.slice A n c) B b w0 a x) (ib : PrnEx (.slice A n c) B b w0 a2 y) : PrnEx (.slice A n c) B b w0 i (.op 4 x y) := by
  intro w bs hp hw hl
  have hwB : B ≤ w.heap.size := by have := hp.low; have := hp.lt; omega
  rw [Ex.text, List.length_cons, List.length_append] at hl
  obtain ⟨ba, offa, rfl, p0, p1, p2, p3, p4⟩ := (hN.below (B := 0) (hB ▸ hw)).cells hi
  rw [h0] at p0
  rw [ha] at p2
  rw [hb] at p3
  have hin := hN.small
  have c2 := hp.cell2
  have hlt := hp.lt
  generalize nd P i 1 = x1 at *
  generalize nd P i 4 = x4 at *
  have hb1 := (Below.refl w.heap.size w).alloc (Nat.le_refl _) (.cells #[.int .i64 4, .int .i64 x1, .int .i64 (a : Nat), .int .i64 (a2 : Nat), .int .i64 x4] 39)
  have hbx := BoxN.new w 39 #[.int .i64 4, .int .i64 x1, .int .i64 (a : Nat), .int .i64 (a2 : Nat), .int .i64 x4]
  go_enter Tryz.func21, Tryz.ntmps21
  have hwb := hw.trans (hb1.mono hwB)
  have hpr := prn_below hp hb1
  have y0 := hbx.cell (k := 0) rfl
  have hsz : (w.alloc (.cells #[.int .i64 4, .int .i64 x1, .int .i64 (a : Nat), .int .i64 (a2 : Nat), .int .i64 x4] 39)).heap.size = w.heap.size + 1 := by simp
  have hbk : w.heap.size ≠ b := by omega
  have HK := Lib.hid (others_below (b := some b) hb1)
  have HB := Lib.hid (hb1.mono hwB)
  have HP0 := Lib.hid hpr
  have HW := Lib.hid hwb
  clear hpr hwb hp hw hN hb1
  go_wp2_with fail
  generalize w.alloc (.cells #[.int .i64 4, .int .i64 x1, .int .i64 (a : Nat), .int .i64 (a2 : Nat), .int .i64 x4] 39) = w1 at *
  have IA := Lib.hid ia
  have IB := Lib.hid ib
  have Hbx := Lib.hid hbx
  clear ia ib hbx
  have CS := Lib.hid (fun (V : World) (hV : Below w1.heap.size w1 V) (hq : 2 < (⟨#[43, 60, 61]⟩ : ByteArray).size) => show Calls Tryz.prog 32 #[.pointer (some ⟨b, 0, none⟩), .int .u8 (((⟨#[43, 60, 61]⟩ : ByteArray)[2]'hq).toNat : Int)] V (fun e w' => e = Ending.returned .nilIface ∧ Prn (.slice (some ⟨ba, offa, none⟩) n c) B b (bs ++ Lib.byteCells [opC 4]) w' ∧ Below B V w' ∧ Lib.OthersKept 5 (some b) V w') from
    PrnByte_any (N := .slice (some ⟨ba, offa, none⟩) n c) B b bs ((opC 4).toNat : Int) V (prn_below HP0.out hV) (by omega) (by have := hV.size; omega))
  have z0 : IntKind.i64.wrap 0 = 0 := rfl
  have z1 : IntKind.i64.wrap 1 = 1 := rfl
  have z2 : IntKind.i64.wrap 2 = 2 := rfl
  go_region_law ((go_simp; go_at_call 32; with_reducible refine (CS.out _ (by repeat (first | assumption | exact Below.refl _ _ | refine Below.drew ?_)) (by decide)).mono ?_; rintro e wb ⟨he, hz⟩; subst he))
  obtain ⟨h2, h3, h4⟩ := hz
  have hb2 := HB.out.drew.trans h3
  have hbx2 := box_kept Hbx.out.drew h4 hbk (by decide)
  have y2 := hbx2.cell (k := 2) rfl
  have C2 := Lib.hid (IA.out wb _ h2 (HW.out.drew.trans h3) (by rw [List.length_append]; simp [Lib.byteCells]; omega))
  have HK2 := Lib.hid (HK.out.drew.trans h4)
  have HB2 := Lib.hid hb2
  have HW2 := Lib.hid (HW.out.drew.trans h3)
  have Hbx2 := Lib.hid hbx2
  clear h2 h3 h4 hb2 hbx2 CS
  go_wp2_with fail
  refine C2.out.mono ?_
  rintro e w3 ⟨rfl, g2, g3, g4⟩
  have hbx3 := box_kept Hbx2.out g4 hbk (by decide)
  have y3 := hbx3.cell (k := 3) rfl
  have C3 := Lib.hid (IB.out w3 _ g2 (HW2.out.trans g3) (by rw [List.length_append, List.length_append]; simp [Lib.byteCells]; omega))
  have HK3 := Lib.hid (HK2.out.trans g4)
  have HB3 := Lib.hid (HB2.out.trans g3)
  clear g2 g3 g4 hbx3 C2
  go_wp2_with fail
  refine C3.out.mono ?_
  rintro e w4 ⟨rfl, k2, k3, k4⟩
  go_wp2_with fail
  go_end0
  refine ⟨rfl, ?_, HB3.out.trans k3, HK3.out.trans k4⟩
  rw [List.append_assoc, List.append_assoc, ← cells_append, ← cells_append] at k2
  exact k2
theorem prn_op (hN : NodesAt w0 A P n) (hB : B = w0.heap.size) {i k a a2 : Nat} {x y : Ex} (hi : i < n) (hk2 : 2 ≤ k) (hk4 : k ≤ 4) (h0 : nd P i 0 = k) (ha : nd P i 2 = a) (hb : nd P i 3 = a2) (ia : PrnEx (.slice A n c) B b w0 a x) (ib : PrnEx (.slice A n c) B b w0 a2 y) : PrnEx (.slice A n c) B b w0 i (.op k x y) := by
  rcases (by omega : k = 2 ∨ k = 3 ∨ k = 4) with rfl | rfl | rfl
  · exact prn_op2 hN hB hi h0 ha hb ia ib
  · exact prn_op3 hN hB hi h0 ha hb ia ib
  · exact prn_op4 hN hB hi h0 ha hb ia ib
theorem prn_ex (hN : NodesAt w0 A P n) (hB : B = w0.heap.size) (hP : Pow10 B w0) {i : Nat} {e : Ex} (h : IsEx P i e) : i < n → PrnEx (.slice A n c) B b w0 i e := by
  induction h with
  | num h0 h1 h2 => exact fun hi w bs hp hw hl => prn_num hN hB hP hi h0 h1 h2 w bs hp hw (by omega) (by have := hp.low; have := hp.lt; omega)
  | var h0 h1 h2 => exact fun hi w bs hp hw hl => prn_var hN hB hP hi h0 h1 h2 w bs hp hw (by omega) (by have := hp.low; have := hp.lt; omega)
  | op h1 h2 h0 ha hb la lb _ _ iha ihb => exact fun hi => prn_op hN hB hi h1 h2 h0 ha hb (iha (by omega)) (ihb (by omega))
end
end Go.Proofs.YtfpghfmdkbdojaaGreatDoor

namespace Go.Proofs.YtfpghfmdkbdojaaGreatDoor
open Go.RowKit
set_option maxRecDepth 100000
set_option linter.unusedVariables false

def PrnSt (N : Value) (B b : Nat) (w0 : World) (a : Nat) (x : St) : Prop := ∀ (w : World) (bs : List Value), Prn N B b bs w → Below B w0 w → bs.length + x.text.length ≤ 100000 → Calls Tryz.prog 21 #[.pointer (some ⟨b, 0, none⟩), .int .i64 a] w (PrnTo N B b bs w x.text)
def PrnBk (N : Value) (B b : Nat) (w0 : World) (a : Nat) (x : St) : Prop := ∀ (w : World) (bs : List Value), Prn N B b bs w → Below B w0 w → bs.length + (x.text.length + 2) ≤ 100000 → Calls Tryz.prog 33 #[.pointer (some ⟨b, 0, none⟩), .int .i64 a] w (PrnTo N B b bs w (123 :: (x.text ++ [125])))
theorem PrnByte_at {N : Value} {B b : Nat} {bs : List Value} {w : World} (c : UInt8) (h : Prn N B b bs w) (hl : bs.length + 1 ≤ 100001) : Calls Tryz.prog 32 #[.pointer (some ⟨b, 0, none⟩), .int .u8 (c.toNat : Int)] w fun e w' => e = .returned .nilIface ∧ Prn N B b (bs ++ Lib.byteCells [c]) w' ∧ Below B w w' ∧ Lib.OthersKept 5 (some b) w w' :=
  PrnByte_any B b bs (c.toNat : Int) w h (by omega) (by have := h.low; have := h.lt; omega)
section
variable {P : List Int} {n c : Nat} {A : Option Addr} {w0 : World} {B b : Nat}
set_option maxHeartbeats 4000000 in
theorem prn_block {N : Value} {i : Nat} {x : St} (ix : PrnSt N B b w0 i x) : PrnBk N B b w0 i x := by
  intro w bs hp hw hl
  have HW := Lib.hid hw
  have C1 := Lib.hid (PrnByte_at 123 hp (by omega))
  have hlt := hp.lt
  have hlow := hp.low
  clear hp hw
  go_enter Tryz.func33, Tryz.ntmps33
  go_wp2_with fail
  refine C1.out.mono ?_
  rintro e w1 ⟨rfl, h2, h3, h4⟩
  have C2 := Lib.hid (ix w1 _ h2 (HW.out.trans h3) (by rw [List.length_append]; simp [Lib.byteCells]; omega))
  go_wp2_with fail
  refine C2.out.mono ?_
  rintro e w2 ⟨rfl, g2, g3, g4⟩
  have C3 := Lib.hid (PrnByte_at 125 g2 (by rw [List.length_append, List.length_append]; simp [Lib.byteCells]; omega))
  go_wp2_with fail
  refine C3.out.mono ?_
  rintro e w3 ⟨rfl, k2, k3, k4⟩
  go_wp2_with fail
  go_end0
  refine ⟨rfl, ?_, (h3.trans g3).trans k3, (h4.trans g4).trans k4⟩
  rw [List.append_assoc, List.append_assoc, ← cells_append, ← cells_append] at k2
  exact k2
end
end Go.Proofs.YtfpghfmdkbdojaaGreatDoor

namespace Go.Proofs.YtfpghfmdkbdojaaGreatDoor
open Go.RowKit
set_option maxRecDepth 100000
set_option linter.unusedVariables false

section
variable {P : List Int} {n c : Nat} {A : Option Addr} {w0 : World} {B b : Nat}
set_option linter.unusedSimpArgs false in
set_option maxHeartbeats 8000000 in
theorem prn_both (hN : NodesAt w0 A P n) (hB : B = w0.heap.size) {i a a2 : Nat} {x y : St} (hi : i < n) (h0 : nd P i 0 = 7) (ha : nd P i 2 = a) (hb : nd P i 3 = a2) (ix : PrnSt (.slice A n c) B b w0 a x) (iy : PrnSt (.slice A n c) B b w0 a2 y) : PrnSt (.slice A n c) B b w0 i (.both x y) := by
  intro w bs hp hw hl
  have hwB : B ≤ w.heap.size := by have := hp.low; have := hp.lt; omega
  rw [St.text] at hl ⊢
  simp only [List.length_append, List.length_cons, List.length_nil] at hl
  obtain ⟨ba, offa, rfl, p0, p1, p2, p3, p4⟩ := (hN.below (B := 0) (hB ▸ hw)).cells hi
  rw [h0] at p0
  rw [ha] at p2
  rw [hb] at p3
  have hin := hN.small
  have c2 := hp.cell2
  have hlt := hp.lt
  generalize nd P i 1 = x1 at *
  generalize nd P i 4 = x4 at *
  have hb1 := (Below.refl w.heap.size w).alloc (Nat.le_refl _) (.cells #[.int .i64 7, .int .i64 x1, .int .i64 (a : Nat), .int .i64 (a2 : Nat), .int .i64 x4] 39)
  have hbx := BoxN.new w 39 #[.int .i64 7, .int .i64 x1, .int .i64 (a : Nat), .int .i64 (a2 : Nat), .int .i64 x4]
  go_enter Tryz.func21, Tryz.ntmps21
  have hwb := hw.trans (hb1.mono hwB)
  have hpr := prn_below hp hb1
  have hsz : (w.alloc (.cells #[.int .i64 7, .int .i64 x1, .int .i64 (a : Nat), .int .i64 (a2 : Nat), .int .i64 x4] 39)).heap.size = w.heap.size + 1 := by simp
  have hbk : w.heap.size ≠ b := by omega
  have HK := Lib.hid (others_below (b := some b) hb1)
  have HB := Lib.hid (hb1.mono hwB)
  have HP0 := Lib.hid hpr
  have HW := Lib.hid hwb
  have yq := hbx.cell (k := 2) rfl
  have Hbx := Lib.hid hbx
  have Iix := Lib.hid ix
  have Iiy := Lib.hid iy
  clear hpr hwb hp hw hN hb1 hbx ix iy
  go_wp2_with fail
  generalize w.alloc (.cells #[.int .i64 7, .int .i64 x1, .int .i64 (a : Nat), .int .i64 (a2 : Nat), .int .i64 x4] 39) = w1 at *
  have C0 := Lib.hid (Iix.out w1 _ HP0.out HW.out (by first | omega | (simp [Lib.byteCells]; omega)))
  refine C0.out.mono ?_
  rintro e u0 ⟨rfl, h2, h3, h4⟩
  have HP1 := Lib.hid h2
  have HB := Lib.hid (HB.out.trans h3)
  have HW := Lib.hid (HW.out.trans h3)
  have HK := Lib.hid (HK.out.trans h4)
  have Hbx := Lib.hid (box_kept Hbx.out h4 hbk (by decide))
  clear h2 h3 h4 C0
  have yq := Hbx.out.cell (k := 3) rfl
  have C1 := Lib.hid (Iiy.out u0 _ HP1.out HW.out (by first | omega | (simp [Lib.byteCells]; omega)))
  go_wp2_with fail
  refine C1.out.mono ?_
  rintro e u1 ⟨rfl, h2, h3, h4⟩
  have HP2 := Lib.hid h2
  have HB := Lib.hid (HB.out.trans h3)
  have HW := Lib.hid (HW.out.trans h3)
  have HK := Lib.hid (HK.out.trans h4)
  have Hbx := Lib.hid (box_kept Hbx.out h4 hbk (by decide))
  clear h2 h3 h4 C1
  go_wp2_with fail
  go_end0
  have k2 := HP2.out
  rw [List.append_assoc, ← cells_append] at k2
  refine ⟨rfl, ?_, HB.out, HK.out⟩
  have e : x.text ++ y.text = x.text ++ y.text := by first | rfl | simp
  rw [e]
  exact k2
set_option linter.unusedSimpArgs false in
set_option maxHeartbeats 8000000 in
theorem prn_ite (hN : NodesAt w0 A P n) (hB : B = w0.heap.size) {i a a2 a3 : Nat} {x : Ex} {y z : St} (hi : i < n) (h0 : nd P i 0 = 8) (ha : nd P i 2 = a) (hb : nd P i 3 = a2) (hc : nd P i 4 = a3) (ix : PrnEx (.slice A n c) B b w0 a x) (iy : PrnBk (.slice A n c) B b w0 a2 y) (iz : PrnBk (.slice A n c) B b w0 a3 z) : PrnSt (.slice A n c) B b w0 i (.ite x y z) := by
  intro w bs hp hw hl
  have hwB : B ≤ w.heap.size := by have := hp.low; have := hp.lt; omega
  rw [St.text] at hl ⊢
  simp only [List.length_append, List.length_cons, List.length_nil] at hl
  obtain ⟨ba, offa, rfl, p0, p1, p2, p3, p4⟩ := (hN.below (B := 0) (hB ▸ hw)).cells hi
  rw [h0] at p0
  rw [ha] at p2
  rw [hb] at p3
  rw [hc] at p4
  have hin := hN.small
  have c2 := hp.cell2
  have hlt := hp.lt
  generalize nd P i 1 = x1 at *
  have hb1 := (Below.refl w.heap.size w).alloc (Nat.le_refl _) (.cells #[.int .i64 8, .int .i64 x1, .int .i64 (a : Nat), .int .i64 (a2 : Nat), .int .i64 (a3 : Nat)] 39)
  have hbx := BoxN.new w 39 #[.int .i64 8, .int .i64 x1, .int .i64 (a : Nat), .int .i64 (a2 : Nat), .int .i64 (a3 : Nat)]
  go_enter Tryz.func21, Tryz.ntmps21
  have hwb := hw.trans (hb1.mono hwB)
  have hpr := prn_below hp hb1
  have hsz : (w.alloc (.cells #[.int .i64 8, .int .i64 x1, .int .i64 (a : Nat), .int .i64 (a2 : Nat), .int .i64 (a3 : Nat)] 39)).heap.size = w.heap.size + 1 := by simp
  have hbk : w.heap.size ≠ b := by omega
  have HK := Lib.hid (others_below (b := some b) hb1)
  have HB := Lib.hid (hb1.mono hwB)
  have HP0 := Lib.hid hpr
  have HW := Lib.hid hwb
  have Hbx := Lib.hid hbx
  have Iix := Lib.hid ix
  have Iiy := Lib.hid iy
  have Iiz := Lib.hid iz
  clear hpr hwb hp hw hN hb1 hbx ix iy iz
  go_wp2_with fail
  generalize w.alloc (.cells #[.int .i64 8, .int .i64 x1, .int .i64 (a : Nat), .int .i64 (a2 : Nat), .int .i64 (a3 : Nat)] 39) = w1 at *
  have C0 := Lib.hid (PrnByte_at 63 HP0.out (by first | omega | (simp [Lib.byteCells]; omega)))
  refine C0.out.mono ?_
  rintro e u0 ⟨rfl, h2, h3, h4⟩
  have HP1 := Lib.hid h2
  have HB := Lib.hid (HB.out.trans h3)
  have HW := Lib.hid (HW.out.trans h3)
  have HK := Lib.hid (HK.out.trans h4)
  have Hbx := Lib.hid (box_kept Hbx.out h4 hbk (by decide))
  clear h2 h3 h4 C0
  have yq := Hbx.out.cell (k := 2) rfl
  have C1 := Lib.hid (Iix.out u0 _ HP1.out HW.out (by first | omega | (simp [Lib.byteCells]; omega)))
  go_wp2_with fail
  refine C1.out.mono ?_
  rintro e u1 ⟨rfl, h2, h3, h4⟩
  have HP2 := Lib.hid h2
  have HB := Lib.hid (HB.out.trans h3)
  have HW := Lib.hid (HW.out.trans h3)
  have HK := Lib.hid (HK.out.trans h4)
  have Hbx := Lib.hid (box_kept Hbx.out h4 hbk (by decide))
  clear h2 h3 h4 C1
  have yq := Hbx.out.cell (k := 3) rfl
  have C2 := Lib.hid (Iiy.out u1 _ HP2.out HW.out (by first | omega | (simp [Lib.byteCells]; omega)))
  go_wp2_with fail
  refine C2.out.mono ?_
  rintro e u2 ⟨rfl, h2, h3, h4⟩
  have HP3 := Lib.hid h2
  have HB := Lib.hid (HB.out.trans h3)
  have HW := Lib.hid (HW.out.trans h3)
  have HK := Lib.hid (HK.out.trans h4)
  have Hbx := Lib.hid (box_kept Hbx.out h4 hbk (by decide))
  clear h2 h3 h4 C2
  have yq := Hbx.out.cell (k := 4) rfl
  have C3 := Lib.hid (Iiz.out u2 _ HP3.out HW.out (by first | omega | (simp [Lib.byteCells]; omega)))
  go_wp2_with fail
  refine C3.out.mono ?_
  rintro e u3 ⟨rfl, h2, h3, h4⟩
  have HP4 := Lib.hid h2
  have HB := Lib.hid (HB.out.trans h3)
  have HW := Lib.hid (HW.out.trans h3)
  have HK := Lib.hid (HK.out.trans h4)
  have Hbx := Lib.hid (box_kept Hbx.out h4 hbk (by decide))
  clear h2 h3 h4 C3
  go_wp2_with fail
  go_end0
  have k2 := HP4.out
  rw [List.append_assoc, List.append_assoc, List.append_assoc, ← cells_append, ← cells_append, ← cells_append] at k2
  refine ⟨rfl, ?_, HB.out, HK.out⟩
  have e : (63 :: (x.text ++ 123 :: (y.text ++ 125 :: 123 :: (z.text ++ [125]))) : List UInt8) = [63] ++ (x.text ++ ((123 :: (y.text ++ [125])) ++ (123 :: (z.text ++ [125])))) := by first | rfl | simp
  rw [e]
  exact k2
set_option linter.unusedSimpArgs false in
set_option maxHeartbeats 8000000 in
theorem prn_loop (hN : NodesAt w0 A P n) (hB : B = w0.heap.size) {i a a2 : Nat} {x : Ex} {y : St} (hi : i < n) (h0 : nd P i 0 = 9) (ha : nd P i 2 = a) (hb : nd P i 3 = a2) (ix : PrnEx (.slice A n c) B b w0 a x) (iy : PrnBk (.slice A n c) B b w0 a2 y) : PrnSt (.slice A n c) B b w0 i (.loop x y) := by
  intro w bs hp hw hl
  have hwB : B ≤ w.heap.size := by have := hp.low; have := hp.lt; omega
  rw [St.text] at hl ⊢
  simp only [List.length_append, List.length_cons, List.length_nil] at hl
  obtain ⟨ba, offa, rfl, p0, p1, p2, p3, p4⟩ := (hN.below (B := 0) (hB ▸ hw)).cells hi
  rw [h0] at p0
  rw [ha] at p2
  rw [hb] at p3
  have hin := hN.small
  have c2 := hp.cell2
  have hlt := hp.lt
  generalize nd P i 1 = x1 at *
  generalize nd P i 4 = x4 at *
  have hb1 := (Below.refl w.heap.size w).alloc (Nat.le_refl _) (.cells #[.int .i64 9, .int .i64 x1, .int .i64 (a : Nat), .int .i64 (a2 : Nat), .int .i64 x4] 39)
  have hbx := BoxN.new w 39 #[.int .i64 9, .int .i64 x1, .int .i64 (a : Nat), .int .i64 (a2 : Nat), .int .i64 x4]
  go_enter Tryz.func21, Tryz.ntmps21
  have hwb := hw.trans (hb1.mono hwB)
  have hpr := prn_below hp hb1
  have hsz : (w.alloc (.cells #[.int .i64 9, .int .i64 x1, .int .i64 (a : Nat), .int .i64 (a2 : Nat), .int .i64 x4] 39)).heap.size = w.heap.size + 1 := by simp
  have hbk : w.heap.size ≠ b := by omega
  have HK := Lib.hid (others_below (b := some b) hb1)
  have HB := Lib.hid (hb1.mono hwB)
  have HP0 := Lib.hid hpr
  have HW := Lib.hid hwb
  have Hbx := Lib.hid hbx
  have Iix := Lib.hid ix
  have Iiy := Lib.hid iy
  clear hpr hwb hp hw hN hb1 hbx ix iy
  go_wp2_with fail
  generalize w.alloc (.cells #[.int .i64 9, .int .i64 x1, .int .i64 (a : Nat), .int .i64 (a2 : Nat), .int .i64 x4] 39) = w1 at *
  have C0 := Lib.hid (PrnByte_at 64 HP0.out (by first | omega | (simp [Lib.byteCells]; omega)))
  refine C0.out.mono ?_
  rintro e u0 ⟨rfl, h2, h3, h4⟩
  have HP1 := Lib.hid h2
  have HB := Lib.hid (HB.out.trans h3)
  have HW := Lib.hid (HW.out.trans h3)
  have HK := Lib.hid (HK.out.trans h4)
  have Hbx := Lib.hid (box_kept Hbx.out h4 hbk (by decide))
  clear h2 h3 h4 C0
  have yq := Hbx.out.cell (k := 2) rfl
  have C1 := Lib.hid (Iix.out u0 _ HP1.out HW.out (by first | omega | (simp [Lib.byteCells]; omega)))
  go_wp2_with fail
  refine C1.out.mono ?_
  rintro e u1 ⟨rfl, h2, h3, h4⟩
  have HP2 := Lib.hid h2
  have HB := Lib.hid (HB.out.trans h3)
  have HW := Lib.hid (HW.out.trans h3)
  have HK := Lib.hid (HK.out.trans h4)
  have Hbx := Lib.hid (box_kept Hbx.out h4 hbk (by decide))
  clear h2 h3 h4 C1
  have yq := Hbx.out.cell (k := 3) rfl
  have C2 := Lib.hid (Iiy.out u1 _ HP2.out HW.out (by first | omega | (simp [Lib.byteCells]; omega)))
  go_wp2_with fail
  refine C2.out.mono ?_
  rintro e u2 ⟨rfl, h2, h3, h4⟩
  have HP3 := Lib.hid h2
  have HB := Lib.hid (HB.out.trans h3)
  have HW := Lib.hid (HW.out.trans h3)
  have HK := Lib.hid (HK.out.trans h4)
  have Hbx := Lib.hid (box_kept Hbx.out h4 hbk (by decide))
  clear h2 h3 h4 C2
  go_wp2_with fail
  go_end0
  have k2 := HP3.out
  rw [List.append_assoc, List.append_assoc, ← cells_append, ← cells_append] at k2
  refine ⟨rfl, ?_, HB.out, HK.out⟩
  have e : (64 :: (x.text ++ 123 :: (y.text ++ [125])) : List UInt8) = [64] ++ (x.text ++ (123 :: (y.text ++ [125]))) := by first | rfl | simp
  rw [e]
  exact k2
set_option linter.unusedSimpArgs false in
set_option maxHeartbeats 8000000 in
theorem prn_set (hN : NodesAt w0 A P n) (hB : B = w0.heap.size) {i k a : Nat} {x : Ex} (hi : i < n) (h0 : nd P i 0 = 6) (hk : k < 6) (h1 : nd P i 1 = k) (ha : nd P i 2 = a) (ix : PrnEx (.slice A n c) B b w0 a x) : PrnSt (.slice A n c) B b w0 i (.set k x) := by
  intro w bs hp hw hl
  have hwB : B ≤ w.heap.size := by have := hp.low; have := hp.lt; omega
  rw [St.text] at hl ⊢
  simp only [List.length_append, List.length_cons, List.length_nil] at hl
  obtain ⟨ba, offa, rfl, p0, p1, p2, p3, p4⟩ := (hN.below (B := 0) (hB ▸ hw)).cells hi
  rw [h0] at p0
  rw [h1] at p1
  rw [ha] at p2
  have hin := hN.small
  have c2 := hp.cell2
  have hlt := hp.lt
  generalize nd P i 3 = x3 at *
  generalize nd P i 4 = x4 at *
  have hb1 := (Below.refl w.heap.size w).alloc (Nat.le_refl _) (.cells #[.int .i64 6, .int .i64 (k : Nat), .int .i64 (a : Nat), .int .i64 x3, .int .i64 x4] 39)
  have hbx := BoxN.new w 39 #[.int .i64 6, .int .i64 (k : Nat), .int .i64 (a : Nat), .int .i64 x3, .int .i64 x4]
  go_enter Tryz.func21, Tryz.ntmps21
  have hwb := hw.trans (hb1.mono hwB)
  have hpr := prn_below hp hb1
  have hsz : (w.alloc (.cells #[.int .i64 6, .int .i64 (k : Nat), .int .i64 (a : Nat), .int .i64 x3, .int .i64 x4] 39)).heap.size = w.heap.size + 1 := by simp
  have hbk : w.heap.size ≠ b := by omega
  have HK := Lib.hid (others_below (b := some b) hb1)
  have HB := Lib.hid (hb1.mono hwB)
  have HP0 := Lib.hid hpr
  have HW := Lib.hid hwb
  have yq := hbx.cell (k := 1) rfl
  have Hbx := Lib.hid hbx
  have Iix := Lib.hid ix
  clear hpr hwb hp hw hN hb1 hbx ix
  go_wp2_with fail
  generalize w.alloc (.cells #[.int .i64 6, .int .i64 (k : Nat), .int .i64 (a : Nat), .int .i64 x3, .int .i64 x4] 39) = w1 at *
  have CS := Lib.hid (fun (V : World) (hV : Below w1.heap.size w1 V) => show Calls Tryz.prog 32 #[.pointer (some ⟨b, 0, none⟩), .int .u8 (IntKind.u8.wrap (97 + IntKind.u8.wrap (k : Int)))] V (fun e w' => e = Ending.returned .nilIface ∧ Prn (.slice (some ⟨ba, offa, none⟩) n c) B b (bs ++ Lib.byteCells [nmC k]) w' ∧ Below B V w' ∧ Lib.OthersKept 5 (some b) V w') from by
    rw [wrap_nm hk, nmC_cells hk]
    exact PrnByte_any (N := .slice (some ⟨ba, offa, none⟩) n c) B b bs (97 + (k : Int)) V (prn_below HP0.out hV) (by omega) (by have := hV.size; omega))
  go_region_law ((go_simp; go_at_call 32; with_reducible refine (CS.out _ (by repeat (first | assumption | exact Below.refl _ _ | refine Below.drew ?_))).mono ?_; rintro e wb ⟨he, hz⟩; subst he))
  obtain ⟨h2, h3, h4⟩ := hz
  have HPz := Lib.hid h2
  have HB := Lib.hid (HB.out.drew.trans h3)
  have HW := Lib.hid (HW.out.drew.trans h3)
  have HK := Lib.hid (HK.out.drew.trans h4)
  have Hbx := Lib.hid (box_kept Hbx.out.drew h4 hbk (by decide))
  clear h2 h3 h4 CS
  have C0 := Lib.hid (PrnByte_at 61 HPz.out (by first | omega | (simp [Lib.byteCells]; omega)))
  go_wp2_with fail
  refine C0.out.mono ?_
  rintro e u0 ⟨rfl, h2, h3, h4⟩
  have HP1 := Lib.hid h2
  have HB := Lib.hid (HB.out.trans h3)
  have HW := Lib.hid (HW.out.trans h3)
  have HK := Lib.hid (HK.out.trans h4)
  have Hbx := Lib.hid (box_kept Hbx.out h4 hbk (by decide))
  clear h2 h3 h4 C0
  have yq := Hbx.out.cell (k := 2) rfl
  have C1 := Lib.hid (Iix.out u0 _ HP1.out HW.out (by first | omega | (simp [Lib.byteCells]; omega)))
  go_wp2_with fail
  refine C1.out.mono ?_
  rintro e u1 ⟨rfl, h2, h3, h4⟩
  have HP2 := Lib.hid h2
  have HB := Lib.hid (HB.out.trans h3)
  have HW := Lib.hid (HW.out.trans h3)
  have HK := Lib.hid (HK.out.trans h4)
  have Hbx := Lib.hid (box_kept Hbx.out h4 hbk (by decide))
  clear h2 h3 h4 C1
  have C2 := Lib.hid (PrnByte_at 59 HP2.out (by first | omega | (simp [Lib.byteCells]; omega)))
  go_wp2_with fail
  refine C2.out.mono ?_
  rintro e u2 ⟨rfl, h2, h3, h4⟩
  have HP3 := Lib.hid h2
  have HB := Lib.hid (HB.out.trans h3)
  have HW := Lib.hid (HW.out.trans h3)
  have HK := Lib.hid (HK.out.trans h4)
  have Hbx := Lib.hid (box_kept Hbx.out h4 hbk (by decide))
  clear h2 h3 h4 C2
  go_wp2_with fail
  go_end0
  have k2 := HP3.out
  rw [List.append_assoc, List.append_assoc, List.append_assoc, ← cells_append, ← cells_append, ← cells_append] at k2
  refine ⟨rfl, ?_, HB.out, HK.out⟩
  have e : (nmC k :: 61 :: (x.text ++ [59]) : List UInt8) = [nmC k] ++ ([61] ++ (x.text ++ [59])) := by first | rfl | simp
  rw [e]
  exact k2
end
end Go.Proofs.YtfpghfmdkbdojaaGreatDoor

namespace Go.Proofs.YtfpghfmdkbdojaaGreatDoor
open Go.RowKit
set_option maxRecDepth 100000
set_option linter.unusedVariables false
section
variable {P : List Int} {n c : Nat} {A : Option Addr} {w0 : World} {B b : Nat}
set_option maxHeartbeats 4000000 in
theorem prn_skip (hN : NodesAt w0 A P n) (hB : B = w0.heap.size) {i : Nat} (hi : i < n) (h0 : nd P i 0 = 5) : PrnSt (.slice A n c) B b w0 i .skip := by
  intro w bs hp hw hl
  have hwB : B ≤ w.heap.size := by have := hp.low; have := hp.lt; omega
  obtain ⟨ba, offa, rfl, p0, p1, p2, p3, p4⟩ := (hN.below (B := 0) (hB ▸ hw)).cells hi
  rw [h0] at p0
  have hin := hN.small
  have c2 := hp.cell2
  have hlt := hp.lt
  generalize nd P i 1 = x1 at *
  generalize nd P i 2 = x2 at *
  generalize nd P i 3 = x3 at *
  generalize nd P i 4 = x4 at *
  have hb1 := (Below.refl w.heap.size w).alloc (Nat.le_refl _) (.cells #[.int .i64 5, .int .i64 x1, .int .i64 x2, .int .i64 x3, .int .i64 x4] 39)
  go_enter Tryz.func21, Tryz.ntmps21
  have hpr := prn_below hp hb1
  have HK := Lib.hid (others_below (b := some b) hb1)
  have HB := Lib.hid (hb1.mono hwB)
  have HP0 := Lib.hid hpr
  clear hpr hp hw hN hb1
  go_wp2_with fail
  go_end0
  exact ⟨rfl, by show Prn _ _ _ (bs ++ []) _; rw [List.append_nil]; exact HP0.out, HB.out, HK.out⟩
theorem prn_st (hN : NodesAt w0 A P n) (hB : B = w0.heap.size) (hP : Pow10 B w0) {i : Nat} {s : St} (h : IsSt P i s) : i < n → PrnSt (.slice A n c) B b w0 i s := by
  induction h with
  | skip h0 => exact fun hi => prn_skip hN hB hi h0
  | set h0 h1 hn h2 la he => exact fun hi => prn_set hN hB hi h0 hn h1 h2 (prn_ex hN hB hP he (by omega))
  | both h0 ha hb la lb _ _ iha ihb => exact fun hi => prn_both hN hB hi h0 ha hb (iha (by omega)) (ihb (by omega))
  | ite h0 ha hb hc la lb lc he _ _ ihb ihc => exact fun hi => prn_ite hN hB hi h0 ha hb hc (prn_ex hN hB hP he (by omega)) (prn_block (ihb (by omega))) (prn_block (ihc (by omega)))
  | loop h0 ha hb la lb he _ ihb => exact fun hi => prn_loop hN hB hi h0 ha hb (prn_ex hN hB hP he (by omega)) (prn_block (ihb (by omega)))
end
end Go.Proofs.YtfpghfmdkbdojaaGreatDoor

namespace Go.Proofs.YtfpghfmdkbdojaaGreatDoor
open Go.RowKit
set_option maxRecDepth 100000
set_option linter.unusedVariables false

theorem noString (W : World) (q : Option Addr) : (Builtin.unsafeString_ #[72, 3] 9 #[.pointer q, .int .i64 0]).run Tryz.prog W = .ok (.string .empty) W := Lib.run_unsafeString_none W _ _ _ q
theorem cellsByte : Tryz.prog.cellsOf 5 = 1 := by kernel_rfl
set_option maxHeartbeats 4000000 in
theorem PrnString_some {N : Value} {B b : Nat} {l : List UInt8} {w : World} (h : Prn N B b (Lib.byteCells l) w) (h0 : l ≠ []) :
    Calls Tryz.prog 23 #[.pointer (some ⟨b, 0, none⟩)] w fun e w' => e = .returned (.string ⟨l.toArray⟩) ∧ Below B w w' := by
  obtain ⟨p, hAt⟩ : ∃ p, PrnAt N B b p (Lib.byteCells l) w := h.elim (fun h => ⟨_, h⟩) (fun h => ⟨_, h⟩)
  obtain ⟨hB, v, hbk, hown, hne⟩ := hAt
  have hl0 : l.length ≠ 0 := by simpa using h0
  rw [Lib.byteCells_length] at hown
  obtain ⟨g, cap, cur, fz, rfl, hbg, hg, hfz, hnc, hcm, hcs, htake⟩ : ∃ g cap cur fz, v = .slice (some ⟨g, 0, none⟩) l.length cap ∧ B ≤ g ∧ w.heap[g]? = some (.cells cur 5 fz) ∧ fz.2 ≤ l.length * 1 ∧ l.length ≤ cap ∧ cap ≤ maxLen ∧ cur.size = cap * 1 ∧ cur.toList.take (l.length * 1) = Lib.byteCells l := by
    rcases hown.2 with ⟨_, hz⟩ | ⟨g, cap, cur, fz, hv, r⟩
    · exact absurd hz hl0
    · exact ⟨g, cap, cur, fz, hv, r⟩
  have c1 : w.drew.cell? ⟨b, 1, none⟩ = some (.slice (some ⟨g, 0, none⟩) l.length cap) := by
    have : w.drew.heap[b]? = some (.cells #[p, .slice (some ⟨g, 0, none⟩) l.length cap, N] 52 (0, 0)) := hbk
    rw [Lib.cell_of_heap this]; rfl
  have hSD : (Builtin.unsafeSliceData_ #[48] 72 #[.slice (some ⟨g, 0, none⟩) l.length cap]).run Tryz.prog w.drew = .ok (.pointer (some ⟨g, 0, none⟩)) w.drew :=
    Lib.run_unsafeSliceData_row _ _ _ _ _ _ (by omega)
  have hUS : (Builtin.unsafeString_ #[72, 3] 9 #[.pointer (some ⟨g, 0, none⟩), .int .i64 l.length]).run Tryz.prog w.drew = .ok (.string ⟨l.toArray⟩) (w.drew.freeze ⟨g, 0, none⟩ l.length) := by
    refine Lib.run_unsafeString_row w.drew 72 3 9 5 Tryz.underlying72 cellsByte g cur.size (by have hg' : w.drew.heap[g]? = some (.cells cur 5 fz) := hg; simp [World.shape?, hg']) l h0 (by omega) (by unfold maxLen at hcm; omega) ?_
    intro j x hx
    have := hown.cells (g := g) rfl j (.int .u8 x.toNat) (by simp [Lib.byteCells, hx])
    exact this
  have hbl : Below B w (w.drew.freeze ⟨g, 0, none⟩ l.length) := Lib.below_freeze (Below.drew (Below.refl B w)) (p := ⟨g, 0, none⟩) hbg _
  have Hbl := Lib.hid hbl
  clear hbl hown hfz hnc hcm hcs htake hg hbk hne h hB hbg h0
  generalize w.drew.freeze ⟨g, 0, none⟩ l.length = wf at *
  generalize (⟨l.toArray⟩ : ByteArray) = st at *
  generalize l.length = m at *
  go_enter Tryz.func23, Tryz.ntmps23
  go_wp2
  go_region
  all_goals (go_wp2; go_ret; exact ⟨rfl, Hbl.out⟩)
end Go.Proofs.YtfpghfmdkbdojaaGreatDoor

namespace Go.Proofs.YtfpghfmdkbdojaaGreatDoor
open Go.RowKit
set_option maxRecDepth 100000
set_option linter.unusedVariables false
set_option maxHeartbeats 4000000 in
/-- The builder holds no byte, and its slice is nil or has room. -/
theorem PrnString_keep {N p : Value} {B b cap : Nat} {A q : Option Addr} {w : World} (hbk : w.heap[b]? = some (.cells #[p, .slice A 0 cap, N] 52 (0, 0)))
    (hSD : (Builtin.unsafeSliceData_ #[48] 72 #[.slice A 0 cap]).run Tryz.prog w.drew = .ok (.pointer q) w.drew) :
    Calls Tryz.prog 23 #[.pointer (some ⟨b, 0, none⟩)] w fun e w' => e = .returned (.string .empty) ∧ Below B w w' := by
  have c1 : w.drew.cell? ⟨b, 1, none⟩ = some (.slice A 0 cap) := by
    have : w.drew.heap[b]? = some (.cells #[p, .slice A 0 cap, N] 52 (0, 0)) := hbk
    rw [Lib.cell_of_heap this]; rfl
  have hbl : Below B w w.drew := Below.drew (Below.refl B w)
  have hUS := noString w.drew q
  go_enter Tryz.func23, Tryz.ntmps23
  go_wp2
  go_region
  all_goals (go_wp2; go_ret; exact ⟨rfl, hbl⟩)
set_option maxHeartbeats 4000000 in
theorem PrnString_noroom {N p : Value} {B b g : Nat} {sh : TypeId × Nat} {w : World} (hbk : w.heap[b]? = some (.cells #[p, .slice (some ⟨g, 0, none⟩) 0 0, N] 52 (0, 0)))
    (hB : B ≤ b) (hsh : w.shape? g = some sh) :
    Calls Tryz.prog 23 #[.pointer (some ⟨b, 0, none⟩)] w fun e w' => e = .returned (.string .empty) ∧ Below B w w' := by
  have hlt : b < w.heap.size := by
    rcases Nat.lt_or_ge b w.heap.size with h' | h'
    · exact h'
    · simp [Array.getElem?_eq_none h'] at hbk
  have c1 : w.drew.cell? ⟨b, 1, none⟩ = some (.slice (some ⟨g, 0, none⟩) 0 0) := by
    have : w.drew.heap[b]? = some (.cells #[p, .slice (some ⟨g, 0, none⟩) 0 0, N] 52 (0, 0)) := hbk
    rw [Lib.cell_of_heap this]; rfl
  have c2 : (w.drew.alloc (.view ⟨g, 0, none⟩ 5)).cell? ⟨b, 1, none⟩ = some (.slice (some ⟨g, 0, none⟩) 0 0) := by
    exact (BoxN.alloc (w := w.drew) (t := 52) hbk (.view ⟨g, 0, none⟩ 5)).cell (k := 1) rfl
  have c3 : ((w.drew.alloc (.view ⟨g, 0, none⟩ 5)).drew).cell? ⟨b, 1, none⟩ = some (.slice (some ⟨g, 0, none⟩) 0 0) := c2
  have c4 : ((w.alloc (.view ⟨g, 0, none⟩ 5)).drew).cell? ⟨b, 1, none⟩ = some (.slice (some ⟨g, 0, none⟩) 0 0) := c2
  have c5 : ((w.alloc (.view ⟨g, 0, none⟩ 5)).drew.drew).cell? ⟨b, 1, none⟩ = some (.slice (some ⟨g, 0, none⟩) 0 0) := c2
  have hSD : (Builtin.unsafeSliceData_ #[48] 72 #[.slice (some ⟨g, 0, none⟩) 0 0]).run Tryz.prog w.drew = .ok (.pointer (some ⟨w.heap.size, 0, none⟩)) (w.drew.alloc (.view ⟨g, 0, none⟩ 5)) :=
    Lib.run_unsafeSliceData_zero _ _ _ _ Tryz.underlying72 _ _ sh hsh
  have hbl : Below B w (w.drew.alloc (.view ⟨g, 0, none⟩ 5)) := (Below.drew (Below.refl B w)).alloc (by show B ≤ w.heap.size; omega) _
  have hbl2 : Below B w (w.drew.alloc (.view ⟨g, 0, none⟩ 5)).drew := Below.drew hbl
  have hUS := fun W => noString W (some ⟨w.heap.size, 0, none⟩)
  clear hbk hsh
  go_enter Tryz.func23, Tryz.ntmps23
  go_wp2
  go_region
  all_goals (go_wp2; go_ret; exact ⟨rfl, by first | exact hbl | exact hbl2 | exact Below.drew hbl2⟩)
set_option maxHeartbeats 4000000 in
theorem PrnString_all {N : Value} {B b : Nat} {l : List UInt8} {w : World} (h : Prn N B b (Lib.byteCells l) w) :
    Calls Tryz.prog 23 #[.pointer (some ⟨b, 0, none⟩)] w fun e w' => e = .returned (.string ⟨l.toArray⟩) ∧ Below B w w' := by
  by_cases h0 : l = []
  · subst h0
    obtain ⟨p, hAt⟩ : ∃ p, PrnAt N B b p (Lib.byteCells []) w := h.elim (fun h => ⟨_, h⟩) (fun h => ⟨_, h⟩)
    obtain ⟨hB, v, hbk, hown, hne⟩ := hAt
    rcases hown.2 with ⟨hv, _⟩ | ⟨g, cap, cur, fz, hv, hbg, hg, hfz, hnc, hcm, hcs, htake⟩
    · have hv' : v = .slice none 0 0 := hv
      subst hv'
      exact (PrnString_keep (q := none) (B := B) hbk rfl).mono fun e w' he => he
    · have hv' : v = .slice (some ⟨g, 0, none⟩) 0 cap := hv
      subst hv'
      by_cases hc : cap = 0
      · subst hc
        exact PrnString_noroom (B := B) (sh := (5, cur.size)) hbk hB (by simp [World.shape?, hg])
      · exact PrnString_keep (B := B) hbk (Lib.run_unsafeSliceData_row _ _ _ _ _ _ hc)
  · exact PrnString_some h h0
set_option maxHeartbeats 4000000 in
theorem PrnLen {N : Value} {B b : Nat} {l : List UInt8} {w : World} (h : Prn N B b (Lib.byteCells l) w) :
    Calls Tryz.prog 22 #[.pointer (some ⟨b, 0, none⟩)] w fun e w' => e = .returned (.int .i64 l.length) ∧ w' = w := by
  obtain ⟨p, hAt⟩ : ∃ p, PrnAt N B b p (Lib.byteCells l) w := h.elim (fun h => ⟨_, h⟩) (fun h => ⟨_, h⟩)
  obtain ⟨hB, v, hbk, hown, hne⟩ := hAt
  rw [Lib.byteCells_length] at hown
  obtain ⟨A, cap, hv⟩ : ∃ A cap, v = .slice A l.length cap := by
    rcases hown.2 with ⟨hv, hz⟩ | ⟨g, cap, cur, fz, hv, _⟩
    · exact ⟨none, 0, by rw [hv, hz]⟩
    · exact ⟨_, _, hv⟩
  subst hv
  have c1 : w.cell? ⟨b, 1, none⟩ = some (.slice A l.length cap) := by
    rw [Lib.cell_of_heap hbk]; rfl
  clear hown hne hbk h
  generalize l.length = m at *
  go_enter Tryz.func22, Tryz.ntmps22
  go_wp2
  go_ret
  exact ⟨rfl, rfl⟩
end Go.Proofs.YtfpghfmdkbdojaaGreatDoor

namespace Go.Proofs.YtfpghfmdkbdojaaGreatDoor
open Go.RowKit
set_option maxRecDepth 100000
set_option linter.unusedVariables false
section
variable {P : List Int} {n c : Nat} {A : Option Addr} {w : World} {s : St}
set_option maxHeartbeats 4000000 in
theorem Write_bad {k : Nat} (h : NodesAt w A P n) (hk : progCode P n = k) (h0 : k ≠ 0) :
    Calls Tryz.prog 8 #[.slice A n c] w fun e w' => e = .returned (.tuple #[.string .empty, .iface 43 (.int .i64 k)]) ∧ Below w.heap.size w w' := by
  have HC := PCheck_any (c := c) h
  rw [hk, errVal_pos h0] at HC
  have HC := Lib.hid HC
  clear hk h0 h
  go_enter Tryz.func8, Tryz.ntmps8
  go_wp2_with (go_at_call 6; with_reducible refine HC.out.mono ?_; rintro e w1 ⟨rfl, hb1⟩)
  go_ret2
  exact ⟨rfl, hb1⟩
theorem prn_new (N : Value) (w : World) : Prn N w.heap.size w.heap.size (Lib.byteCells []) (w.alloc (.cells #[.pointer none, .slice none 0 0, N] 52)) :=
  .inl ⟨Nat.le_refl _, .slice none 0 0, heap_alloc_new w _, ⟨rfl, .inl ⟨rfl, rfl⟩⟩, by simp [Value.ownBlock]⟩
/-- What Write tells of a right program. -/
def wrT (t : List UInt8) : Value := if t.length ≤ 300 then .tuple #[.string ⟨t.toArray⟩, .nilIface] else .tuple #[.string .empty, .iface 43 (.int .i64 4)]
set_option maxHeartbeats 4000000 in
theorem Write_good (hP : Pow10 w.heap.size w) (h : NodesAt w A P (n + 1)) (hk : progCode P (n + 1) = 0) (hs : IsSt P n s) :
    Calls Tryz.prog 8 #[.slice A (n + 1) c] w fun e w' => e = .returned (wrT s.text) ∧ Below w.heap.size w w' := by
  have HC := PCheck_any (c := c) h
  rw [hk, errVal_zero] at HC
  have HC := Lib.hid HC
  have hlen : s.text.length ≤ 1760 := text_short hk hs
  have hn80 : n + 1 ≤ 80 := (progCode_tree hk).1.2
  have C1 := Lib.hid (fun (w1 : World) (hb1 : Below w.heap.size w w1) => (prn_st (c := c) (b := w1.heap.size) (h.below (B := 0) hb1) rfl (hP.next hb1 hb1.size (Nat.le_refl _)) hs (Nat.lt_succ_self n)) _ _ (prn_new (.slice A (n + 1) c) w1) ((Below.refl _ w1).alloc (Nat.le_refl _) _) (by simp [Lib.byteCells]; omega))
  have Hl := Lib.hid hlen
  clear hk h hs hP
  unfold wrT
  by_cases h300 : s.text.length ≤ 300
  · rw [if_pos h300]
    generalize s.text = T at *
    have hb : decide ((T.length : Int) > 300) = false := by simp; omega
    have hb' : ¬ (300 < T.length) := by omega
    clear hlen
    go_enter Tryz.func8, Tryz.ntmps8
    go_wp2_with (go_at_call 6; with_reducible refine HC.out.mono ?_; rintro e w1 ⟨rfl, hb1⟩; have C2 := Lib.hid (C1.out w1 hb1))
    refine C2.out.mono ?_
    rintro e w2 ⟨rfl, h2, h3, -⟩
    have hw2 := Lib.hid (hb1.trans (((Below.refl _ w1).alloc (Nat.le_refl _) (.cells #[.pointer none, .slice none 0 0, .slice A (n + 1) c] 52)).trans h3 |>.mono hb1.size))
    rw [show (Lib.byteCells [] : List Value) = [] from rfl, List.nil_append] at h2
    have C3 := Lib.hid (PrnLen h2)
    have C4 := Lib.hid (PrnString_all h2)
    generalize hgb : w1.heap.size = b at *
    have hgb := Lib.hid hgb
    clear h2 h3 C2 HC C1
    go_wp2_with fail
    refine C3.out.mono ?_
    rintro e w3 ⟨rfl, rfl⟩
    go_wp2_with fail
    refine C4.out.mono ?_
    rintro e w4 ⟨rfl, h4⟩
    have hw4 := Lib.hid (hw2.out.trans (h4.mono (by rw [← hgb.out]; exact hb1.size)))
    clear h4
    go_wp2_with fail
    go_ret2
    exact ⟨rfl, hw4.out⟩
  · rw [if_neg h300]
    generalize s.text = T at *
    have hb : decide ((T.length : Int) > 300) = true := by simp; omega
    have hb' : 300 < T.length := by omega
    clear hlen
    go_enter Tryz.func8, Tryz.ntmps8
    go_wp2_with (go_at_call 6; with_reducible refine HC.out.mono ?_; rintro e w1 ⟨rfl, hb1⟩; have C2 := Lib.hid (C1.out w1 hb1))
    refine C2.out.mono ?_
    rintro e w2 ⟨rfl, h2, h3, -⟩
    have hw2 := Lib.hid (hb1.trans (((Below.refl _ w1).alloc (Nat.le_refl _) (.cells #[.pointer none, .slice none 0 0, .slice A (n + 1) c] 52)).trans h3 |>.mono hb1.size))
    rw [show (Lib.byteCells [] : List Value) = [] from rfl, List.nil_append] at h2
    have C3 := Lib.hid (PrnLen h2)
    generalize hgb : w1.heap.size = b at *
    clear h2 h3 C2 HC C1 hgb
    go_wp2_with fail
    refine C3.out.mono ?_
    rintro e w3 ⟨rfl, rfl⟩
    go_wp2_with fail
    go_ret2
    exact ⟨rfl, hw2.out⟩
end
end Go.Proofs.YtfpghfmdkbdojaaGreatDoor
