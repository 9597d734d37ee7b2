/-
  From the reading of an argument to words of memory: slices of ints.
  From the reading of an argument to words of memory: slices of structs whose fields are all ints, as flat lists of ints. ('open_slice_fields' after the guide's extra-structs.)
  From a row's list of variables to words of memory, where the list holds errors.errorType: the handle of the type error.
  From the row's list of variables to words of memory: the tables of math/bits and the powers of ten of strconv.
  From the lists of variables of the laws that read texts to words of memory: the powers of ten, the handle of the type error. A start that meets them: the heap that the initialisers leave.
  From the row's list of variables to words of memory: the tables of math/bits.
-/
import Derived.Test.YtanlmfnhlldkeaaGreatDoorBaseA
import Derived.ProofKit
import Derived.OpenShut
import Derived.SizedLaws
import Derived.Deep.Slices
import Derived.Deep.Fields
import Derived.ChangeSame
import Derived.Test.YtanlmfnhlldkeaaGreatDoorAsA
import Derived.Test.YtanlmfnhlldkeaaGreatDoorCards
import Derived.Test.YtanlmfnhlldkeaaGreatDoorTie
import Derived.Deep.DeepHandedRow
import Derived.Deep.DeepWitnessRowRef
import Derived.Stop.LaidErr
import Derived.LaidHandle
import Derived.Test.YtanlmfnhlldkeaaGreatDoorItoa
import Derived.Lib.LaidTab
import Derived.Lib.SmallJoins
import Derived.Lib.TrailingZeros
import Derived.ChangeOld
import Derived.LaidMore
import Derived.Test.YtanlmfnhlldkeaaGreatDoorLoopA
namespace Go.Proofs.YtanlmfnhlldkeaaGreatDoor
open Go.ChangeShapes Go.WideShapes Go.ChangeAt Go.RowKit

/-- A number of 64 bits. -/
def I64 (n : Int) : Prop := -9223372036854775808 ≤ n ∧ n ≤ 9223372036854775807

section
variable {H : Type} {enc : TypeId × Value → H} {P : Program} {W : World}
theorem open_intsAt {t e : TypeId} {A : Option Addr} {n c : Nat} {d : DataW H} {p : List MemPlace} {ts : List TypeId} {ds : List (DataW H)} {j : Nat}
    (ht : P.underlying t = some (.slice e)) (he : P.underlying e = some (.int .i64)) (hc : P.cellsOf e = 1) (hb : P.bytesOf e = 8)
    (h : DataW.Trod enc P W 0 (fun _ => true) true t (.slice A n c) d p) (hsz : (DataW.weightsEach P ts ds).all (· ≤ reachBytes) = true) (hts : ts[j]? = some t) (hds : ds[j]? = some d) :
    ∃ l : List Int, l.length = n ∧ IntsAt W A l ∧ n < 2 ^ 47 ∧ ∀ x ∈ l, I64 x := by
  obtain ⟨fuel, hf⟩ := h
  rcases open_ints ht he hc hf with ⟨hcs, _⟩ | ⟨a, len, cap, zs, hcs, _, hl, hm, hz, hx, hcell, hwf⟩
  · simp [Value.cells] at hcs
    obtain ⟨rfl, rfl, rfl⟩ := hcs
    exact ⟨[], rfl, IntsAt.nil, by decide, fun x hx => by cases hx⟩
  · simp [Value.cells] at hcs
    obtain ⟨rfl, rfl, rfl⟩ := hcs
    simp only [Prod.mk.injEq] at hx
    obtain ⟨rfl, -⟩ := hx
    have hz' : zs.length = c := by simpa using hz
    refine ⟨zs.take n, by rw [List.length_take]; omega, fun hne => ?_, ?_, fun x hx => bounds_i64 (hwf x (List.mem_of_mem_take hx))⟩
    · have hpos : 0 < zs.length := by
        have := List.length_pos_iff.2 hne
        rw [List.length_take] at this
        omega
      obtain ⟨b, off, rfl, hc2⟩ := ints_at hcell hpos
      refine ⟨b, off, rfl, fun j x hj => ?_⟩
      rw [List.getElem?_take] at hj
      split at hj
      · have hjl := (List.getElem?_eq_some_iff.1 hj).1
        have := hc2 j hjl
        rw [List.getD, hj] at this
        exact this
      · cases hj
    · have := sized_slice hsz hts hds ht
      simp only [lits, List.length_map, hb] at this
      have h2 := reachBytes_lt
      rw [List.length_take, List.length_drop] at this
      omega
end
end Go.Proofs.YtanlmfnhlldkeaaGreatDoor

namespace Go.Proofs.YtanlmfnhlldkeaaGreatDoor
open Go.ChangeShapes Go.WideShapes Go.ChangeAt Go.RowKit Go.Deep

section
variable {H : Type} {enc : TypeId × Value → H} {P : Program} {w : World} {base : Nat} {spare : Nat → Bool} {held : Bool}
theorem open_slice_fields {t e : TypeId} {fs : Array Field} {fuel : Nat} {cs : List Value} {x : DataW H × List MemPlace} (ht : P.underlying t = some (.slice e)) (he : P.underlying e = some (.struct fs))
    (hone : oneCellFields P fs = true) (hC : P.cellsOf e = fs.size) (h : DataW.trod enc P w base spare held fuel t cs = some x) :
    (cs = [.slice none 0 0] ∧ x = (.nil, [])) ∨
    ∃ (a : Addr) (len cap m : Nat) (D : Nat → DataW H) (Pl : Nat → List MemPlace), cs = [.slice (some a) len cap] ∧ base ≤ a.block ∧ len ≤ cap ∧ cap ≤ maxLen ∧ m = (if spare a.block then cap else len) ∧
      x = (.slice ((List.range len).map D) ((List.range (m - len)).map fun j => D (len + j)), MemPlace.row a (m * fs.size) ++ (List.range m).flatMap Pl) ∧
      ∀ i, i < m → ∃ (ys : List (DataW H × List MemPlace)) (n : Nat), D i = .agg (ys.map (·.1)) ∧ Pl i = ys.flatMap (·.2) ∧ ys.length = fs.size ∧
        ∀ (j : Nat) (f : Field), fs[j]? = some f → ∃ (v : Value) (y : DataW H × List MemPlace), w.cell? (a.add (i * fs.size + j)) = some v ∧ ys[j]? = some y ∧ DataW.trod enc P w base spare held n f.type [v] = some y := by
  rcases open_slice ht h with h0 | ⟨a, len, cap, m, n, D, Pl, hcs, hb, hl, hm, hmm, hx, hi⟩
  · exact .inl h0
  · refine .inr ⟨a, len, cap, m, D, Pl, hcs, hb, hl, hm, hmm, by rw [hC] at hx; exact hx, fun i him => ?_⟩
    obtain ⟨cs', hc, ht'⟩ := hi i him
    rw [hC] at hc
    obtain ⟨ys, n', hn', hy, hlen, hyl, hf⟩ := DataW.trod_struct he ht'
    obtain ⟨_, hcl, hat⟩ := World.cells?_some hc
    simp only [Prod.mk.injEq] at hy
    refine ⟨ys, n', hy.1, hy.2, hyl, fun j f hj => ?_⟩
    obtain ⟨ho, hk⟩ := hone_of hone j f hj
    have hjl : j < fs.size := (Array.getElem?_eq_some_iff.1 hj).1
    have hcell := hat j hjl
    have hv : cs'[j]? = some (cs'[j]'(by omega)) := List.getElem?_eq_getElem (by omega)
    have h1 := hf j f hj
    rw [ho, hk] at h1
    have hone' : (cs'.drop j).take 1 = [cs'[j]'(by omega)] := by
      rw [List.drop_eq_getElem_cons (by omega)]
      rfl
    rw [hone'] at h1
    have hys : ys[j]? = some (ys[j]'(by omega)) := List.getElem?_eq_getElem (by omega)
    refine ⟨_, _, ?_, hys, h1.trans hys⟩
    rw [← Go.Deep.add_add, hcell, hv]

theorem ints_of_cells {a : Addr} : ∀ (N : Nat), (∀ q, q < N → ∃ z : Int, w.cell? (a.add q) = some (.int .i64 z) ∧ I64 z) →
    ∃ zs : List Int, zs.length = N ∧ (∀ q, q < zs.length → w.cell? (a.add q) = some (.int .i64 (zs.getD q 0))) ∧ ∀ x ∈ zs, I64 x
  | 0, _ => ⟨[], rfl, fun q hq => by simp at hq, fun x hx => by cases hx⟩
  | N + 1, h => by
    obtain ⟨zs, hl, hc, hI⟩ := ints_of_cells N fun q hq => h q (by omega)
    obtain ⟨z, hz, hzI⟩ := h N (by omega)
    refine ⟨zs ++ [z], by simp [hl], fun q hq => ?_, fun x hx => ?_⟩
    · rw [List.length_append, List.length_singleton] at hq
      rcases Nat.lt_or_ge q zs.length with h1 | h1
      · rw [hc q h1]; simp [List.getD, List.getElem?_append_left h1]
      · obtain rfl : q = N := by omega
        rw [hz]; simp [List.getD, ← hl]
    · rcases List.mem_append.1 hx with hx | hx
      · exact hI x hx
      · obtain rfl := List.mem_singleton.1 hx; exact hzI

/-- A slice of structs of k ints: a flat list of ints. -/
theorem open_structsAt {W : World} {t e ti : TypeId} {fs : Array Field} {k : Nat} {A : Option Addr} {n c : Nat} {d : DataW H} {p : List MemPlace} {ts : List TypeId} {ds : List (DataW H)} {j : Nat}
    (ht : P.underlying t = some (.slice e)) (he : P.underlying e = some (.struct fs)) (hti : P.underlying ti = some (.int .i64)) (hfs : (List.range fs.size).all (fun i => (fs[i]?.map (·.type)) == some ti) = true)
    (hk : fs.size = k) (hk0 : 0 < k) (hone : oneCellFields P fs = true) (hC : P.cellsOf e = fs.size) (hb : 8 * k ≤ P.bytesOf e)
    (h : DataW.Trod enc P W 0 (fun _ => true) true t (.slice A n c) d p) (hsz : (DataW.weightsEach P ts ds).all (· ≤ reachBytes) = true) (hts : ts[j]? = some t) (hds : ds[j]? = some d) :
    ∃ l : List Int, l.length = n * k ∧ IntsAt W A l ∧ n * k < 2 ^ 47 ∧ ∀ x ∈ l, I64 x := by
  subst hk
  obtain ⟨fuel, hf⟩ := h
  rcases open_slice_fields ht he hone hC hf with ⟨hcs, _⟩ | ⟨a, len, cap, m, D, Pl, hcs, _, hl, hm, hmm, hx, hi⟩
  · simp [Value.cells] at hcs
    obtain ⟨rfl, rfl, rfl⟩ := hcs
    exact ⟨[], by simp, IntsAt.nil, by simp, fun x hx => by cases hx⟩
  · simp [Value.cells] at hcs
    obtain ⟨rfl, rfl, rfl⟩ := hcs
    simp only [if_true] at hmm
    subst hmm
    simp only [Prod.mk.injEq] at hx
    obtain ⟨rfl, -⟩ := hx
    have hsize := sized_slice hsz hts hds ht
    simp only [List.length_map, List.length_range] at hsize
    have hcell : ∀ q, q < m * fs.size → ∃ z : Int, W.cell? (a.add q) = some (.int .i64 z) ∧ I64 z := fun q hq => by
      obtain ⟨ys, n', _, _, _, hfd⟩ := hi (q / fs.size) ((Nat.div_lt_iff_lt_mul hk0).2 hq)
      have hr : q % fs.size < fs.size := Nat.mod_lt _ hk0
      have hft := List.all_eq_true.1 hfs (q % fs.size) (List.mem_range.2 hr)
      obtain ⟨f, hf1⟩ : ∃ f, fs[q % fs.size]? = some f := ⟨fs[q % fs.size], Array.getElem?_eq_getElem hr⟩
      rw [hf1] at hft
      have hft : f.type = ti := by simpa using hft
      obtain ⟨v, y, hv, _, hy⟩ := hfd (q % fs.size) f hf1
      rw [hft] at hy
      obtain ⟨z, hz, _, wz⟩ := DataW.trod_int hti hy
      injection hz with hz
      subst hz
      rw [show q / fs.size * fs.size + q % fs.size = q by rw [Nat.mul_comm]; exact Nat.div_add_mod q fs.size] at hv
      exact ⟨z, hv, bounds_i64 wz⟩
    obtain ⟨zs, hzl, hzc, hzI⟩ := ints_of_cells (m * fs.size) hcell
    have hlm : n * fs.size ≤ m * fs.size := Nat.mul_le_mul_right _ hl
    have hb2 : m * (8 * fs.size) ≤ m * P.bytesOf e := Nat.mul_le_mul_left _ hb
    have h47 := reachBytes_lt
    have hcm : n + (m - n) = m := by omega
    rw [hcm] at hsize
    have h8 : m * (8 * fs.size) = 8 * (m * fs.size) := by rw [Nat.mul_left_comm]
    refine ⟨zs.take (n * fs.size), by rw [List.length_take, hzl]; omega, fun hne => ?_, by omega, fun x hx => hzI x (List.mem_of_mem_take hx)⟩
    have hpos : 0 < zs.length := by
      have := List.length_pos_iff.2 hne
      rw [List.length_take] at this
      omega
    obtain ⟨b, off, rfl, hc2⟩ := ints_at hzc hpos
    refine ⟨b, off, rfl, fun j x hj => ?_⟩
    rw [List.getElem?_take] at hj
    split at hj
    · have hjl := (List.getElem?_eq_some_iff.1 hj).1
      have := hc2 j hjl
      rw [List.getD, hj] at this
      exact this
    · cases hj
end
end Go.Proofs.YtanlmfnhlldkeaaGreatDoor

namespace Go.Proofs.YtanlmfnhlldkeaaGreatDoor
open Go.ChangeShapes Go.WideShapes Go.ChangeAt Go.RowKit
set_option maxRecDepth 100000

theorem errG : Tryz.prog.globalNamed "errors.errorType" = some 0 := by kernel_rfl
theorem errRt : (Tryz.prog.cutTypes.find? (·.1 == "internal/reflectlite.rtype")).map (·.2) = some 176 := by kernel_rfl
theorem errOneRow : ((List.range 285).filter fun t => Tryz.prog.rowNamed t [101, 114, 114, 111, 114]) = [35] := by kernel_rfl
theorem errSize : Tryz.prog.types.size = 285 := by kernel_rfl
theorem errHandle {W : World} {L : List (String × DataW Unit)} (hm : ("errors.errorType", Rows.laid_errors_errorType) ∈ L) (h : handlesMet Tryz.prog L W) : ErrT W := by
  obtain ⟨name, u, ty, e1, e2, e3, e4, e5⟩ := h _ hm
  have en : name = [101, 114, 114, 111, 114] := (Option.some.inj e1).symm
  subst en
  obtain rfl := Option.some.inj (errRt.symm.trans e2)
  have hm : ty ∈ (List.range 285).filter fun t => Tryz.prog.rowNamed t [101, 114, 114, 111, 114] := List.mem_filter.2 ⟨List.mem_range.2 (by rw [← errSize]; exact e3), e4⟩
  rw [errOneRow] at hm
  obtain rfl := List.mem_singleton.1 hm
  have hh : typeHandle Tryz.prog 35 = .pointer (some ⟨9, 35, none⟩) := by kernel_rfl
  rw [hh] at e5
  have := World.var?_cell errG e5 0
  unfold ErrT
  simpa using this
theorem errAlone {W : World} (h : laidMetH Tryz.prog [("errors.errorType", Rows.laid_errors_errorType)] W) : ErrT W := by
  have h' : laidMet Tryz.prog [] W ∧ handlesMet Tryz.prog [("errors.errorType", Rows.laid_errors_errorType)] W := h
  exact errHandle (List.mem_singleton.2 rfl) h'.2
/-- A world for the witness: the handle laid. -/
noncomputable def errHeap (h : Array Obj) : Array Obj :=
  h.modify 0 (fun o => match o with
    | .cells _ t frozen => .cells #[.iface 176 (.agg #[.pointer (some ⟨9, 35, none⟩)])] t frozen
    | o => o)
noncomputable def errWorld (os : Os) : World := { World.holding Tryz.prog os ⟨#[], #[], []⟩ with heap := errHeap (World.holding Tryz.prog os ⟨#[], #[], []⟩).heap }
end Go.Proofs.YtanlmfnhlldkeaaGreatDoor

namespace Go.Proofs.YtanlmfnhlldkeaaGreatDoor
open Go.ChangeShapes Go.WideShapes Go.ChangeAt Go.RowKit Go.Joins
set_option maxRecDepth 100000

theorem gP10 : Tryz.prog.globalNamed "internal/strconv.uint64pow10" = some 4 := by kernel_rfl
theorem gP10Type : (Tryz.prog.globals[4]?).map (·.type) = some 239 := by kernel_rfl
theorem cellsP10 : Tryz.prog.cellsOf 239 = 20 := by kernel_rfl
theorem cellsU64 : Tryz.prog.cellsOf 211 = 1 := by kernel_rfl
theorem laidP10 : (Rows.laid_internal_strconv_uint64pow10 : DataW Unit) = Lib.tabData .u64 Lib.pow10Tab := by kernel_rfl
theorem pow10_of_laid {W : World} {x y : String × DataW Unit} {rest : List (String × DataW Unit)} (h : laidMet Tryz.prog (x :: y :: ("internal/strconv.uint64pow10", Rows.laid_internal_strconv_uint64pow10) :: rest) W) : Pow10 W.heap.size W := by
  have h2 := laidMet.tail (laidMet.tail h)
  rw [laidP10] at h2
  exact Lib.tabBelow_of_tabIs (Lib.tabIs_of_head (rest := rest) gP10 gP10Type Tryz.underlying239 Tryz.underlying211 cellsU64 cellsP10 h2)
theorem powTable {W : World} (h : laidMetH Tryz.prog [("math/bits.deBruijn32tab", Rows.laid_math_bits_deBruijn32tab), ("math/bits.deBruijn64tab", Rows.laid_math_bits_deBruijn64tab), ("internal/strconv.uint64pow10", Rows.laid_internal_strconv_uint64pow10)] W) : Pow10 W.heap.size W := pow10_of_laid (rest := []) h
/-- A world for the witness: the settled one, the tables holding what their initialisers lay. -/
noncomputable def powHeap (h : Array Obj) : Array Obj :=
  ((h.modify 7 (fun o => match o with
    | .cells _ t frozen => .cells ((Lib.deBruijn32tab.map Int.ofNat).map (Value.int .u8)).toArray t frozen
    | o => o)).modify 8 (fun o => match o with
    | .cells _ t frozen => .cells ((Lib.deBruijn64tab.map Int.ofNat).map (Value.int .u8)).toArray t frozen
    | o => o)).modify 4 (fun o => match o with
    | .cells _ t frozen => .cells (Lib.pow10Tab.map (Value.int .u64)).toArray t frozen
    | o => o)
noncomputable def powWorld (os : Os) : World := { World.holding Tryz.prog os ⟨#[], #[], []⟩ with heap := powHeap (World.holding Tryz.prog os ⟨#[], #[], []⟩).heap }
end Go.Proofs.YtanlmfnhlldkeaaGreatDoor

namespace Go.Proofs.YtanlmfnhlldkeaaGreatDoor
open Go.ChangeShapes Go.WideShapes Go.ChangeAt Go.RowKit
set_option maxRecDepth 100000
theorem text5 {W : World} (h : laidMetH Tryz.prog [("math/bits.deBruijn32tab", Rows.laid_math_bits_deBruijn32tab), ("math/bits.deBruijn64tab", Rows.laid_math_bits_deBruijn64tab), ("internal/strconv.uint64pow10", Rows.laid_internal_strconv_uint64pow10), ("strconv.ErrRange", Rows.laid_strconv_ErrRange), ("strconv.ErrSyntax", Rows.laid_strconv_ErrSyntax)] W) : Pow10 W.heap.size W := pow10_of_laid (rest := _) h
theorem text6 {W : World} (h : laidMetH Tryz.prog [("math/bits.deBruijn32tab", Rows.laid_math_bits_deBruijn32tab), ("math/bits.deBruijn64tab", Rows.laid_math_bits_deBruijn64tab), ("internal/strconv.uint64pow10", Rows.laid_internal_strconv_uint64pow10), ("errors.errorType", Rows.laid_errors_errorType), ("strconv.ErrRange", Rows.laid_strconv_ErrRange), ("strconv.ErrSyntax", Rows.laid_strconv_ErrSyntax)] W) : Pow10 W.heap.size W ∧ ErrT W := by
  have h' : laidMet Tryz.prog [("math/bits.deBruijn32tab", Rows.laid_math_bits_deBruijn32tab), ("math/bits.deBruijn64tab", Rows.laid_math_bits_deBruijn64tab), ("internal/strconv.uint64pow10", Rows.laid_internal_strconv_uint64pow10), ("strconv.ErrRange", Rows.laid_strconv_ErrRange), ("strconv.ErrSyntax", Rows.laid_strconv_ErrSyntax)] W ∧ handlesMet Tryz.prog [("errors.errorType", Rows.laid_errors_errorType)] W := h
  exact ⟨pow10_of_laid (rest := _) h'.1, errHandle (List.mem_singleton.2 rfl) h'.2⟩
noncomputable def textWorld (os : Os) : World := World.doorLaid Tryz.prog 400 os
end Go.Proofs.YtanlmfnhlldkeaaGreatDoor

namespace Go.Proofs.YtanlmfnhlldkeaaGreatDoor
open Go.ChangeShapes Go.WideShapes Go.ChangeAt Go.RowKit Go.Joins
set_option maxRecDepth 100000

def tab32Z : List Int := Lib.deBruijn32tab.map Int.ofNat
def tab64Z : List Int := Lib.deBruijn64tab.map Int.ofNat
theorem g64 : Tryz.prog.globalNamed "math/bits.deBruijn64tab" = some 8 := by kernel_rfl
theorem g64Type : (Tryz.prog.globals[8]?).map (·.type) = some 257 := by kernel_rfl
theorem cells64 : Tryz.prog.cellsOf 257 = 64 := by kernel_rfl
theorem cells8 : Tryz.prog.cellsOf 5 = 1 := by kernel_rfl
theorem laid32 : (Rows.laid_math_bits_deBruijn32tab : DataW Unit) = Lib.tabData .u8 tab32Z := by kernel_rfl
theorem laid64 : (Rows.laid_math_bits_deBruijn64tab : DataW Unit) = Lib.tabData .u8 tab64Z := by kernel_rfl
theorem tab_of_laid {W : World} {x : String × DataW Unit} {rest : List (String × DataW Unit)} (h : laidMet Tryz.prog (x :: ("math/bits.deBruijn64tab", Rows.laid_math_bits_deBruijn64tab) :: rest) W) : Tab W := by
  have h2 := laidMet.tail h
  rw [laid64] at h2
  have h3 := Lib.tabIs_of_head (rest := rest) g64 g64Type Tryz.underlying257 Tryz.underlying5 cells8 cells64 h2
  intro j hj
  have h4 := h3.cell g64 j (by unfold tab64Z; rw [List.length_map]; exact hj)
  rw [h4]
  unfold tab64Z
  simp only [List.getD, List.getElem?_map]
  rw [List.getElem?_eq_getElem hj]
  rfl
theorem bitsTable {W : World} (h : laidMetH Tryz.prog [("math/bits.deBruijn32tab", Rows.laid_math_bits_deBruijn32tab), ("math/bits.deBruijn64tab", Rows.laid_math_bits_deBruijn64tab)] W) : Tab W := tab_of_laid (rest := []) h

/-- A world for the witness: the settled one, the tables holding what their initialisers lay. -/
noncomputable def laidHeap (h : Array Obj) : Array Obj :=
  (h.modify 7 (fun o => match o with
    | .cells _ t frozen => .cells (tab32Z.map (Value.int .u8)).toArray t frozen
    | o => o)).modify 8 (fun o => match o with
    | .cells _ t frozen => .cells (tab64Z.map (Value.int .u8)).toArray t frozen
    | o => o)
noncomputable def laidWorld (os : Os) : World := { World.holding Tryz.prog os ⟨#[], #[], []⟩ with heap := laidHeap (World.holding Tryz.prog os ⟨#[], #[], []⟩).heap }

end Go.Proofs.YtanlmfnhlldkeaaGreatDoor
