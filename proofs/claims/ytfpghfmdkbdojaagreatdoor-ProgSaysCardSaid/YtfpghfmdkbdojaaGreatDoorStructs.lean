/-
  From the reading of an argument to words of memory: slices of structs whose fields are all ints, as flat lists of ints. ('open_slice_fields' after the guide's extra-structs.)
-/
import Derived.Test.YtfpghfmdkbdojaaGreatDoorFrame
import Derived.Deep.Slices
import Derived.Deep.Fields
import Derived.ChangeSame
namespace Go.Proofs.YtfpghfmdkbdojaaGreatDoor
open Go.ChangeShapes Go.WideShapes Go.ChangeAt Go.RowKit Go.Deep

section
variable {H : Type} {enc : TypeId × Value → H} {P : Program} {w : World} {base : Nat} {spare : Nat → Bool} {held : Bool}
theorem open_slice_fields {t e : TypeId} {fs : Array Field} {fuel : Nat} {cs : List Value} {x : DataW H × List MemPlace} (ht : P.underlying t = some (.slice e)) (he : P.underlying e = some (.struct fs))
    (hone : oneCellFields P fs = true) (hC : P.cellsOf e = fs.size) (h : DataW.trod enc P w base spare held fuel t cs = some x) :
    (cs = [.slice none 0 0] ∧ x = (.nil, [])) ∨
    ∃ (a : Addr) (len cap m : Nat) (D : Nat → DataW H) (Pl : Nat → List MemPlace), cs = [.slice (some a) len cap] ∧ base ≤ a.block ∧ len ≤ cap ∧ cap ≤ maxLen ∧ m = (if spare a.block then cap else len) ∧
      x = (.slice ((List.range len).map D) ((List.range (m - len)).map fun j => D (len + j)), MemPlace.row a (m * fs.size) ++ (List.range m).flatMap Pl) ∧
      ∀ i, i < m → ∃ (ys : List (DataW H × List MemPlace)) (n : Nat), D i = .agg (ys.map (·.1)) ∧ Pl i = ys.flatMap (·.2) ∧ ys.length = fs.size ∧
        ∀ (j : Nat) (f : Field), fs[j]? = some f → ∃ (v : Value) (y : DataW H × List MemPlace), w.cell? (a.add (i * fs.size + j)) = some v ∧ ys[j]? = some y ∧ DataW.trod enc P w base spare held n f.type [v] = some y := by
  rcases open_slice ht h with h0 | ⟨a, len, cap, m, n, D, Pl, hcs, hb, hl, hm, hmm, hx, hi⟩
  · exact .inl h0
  · refine .inr ⟨a, len, cap, m, D, Pl, hcs, hb, hl, hm, hmm, by rw [hC] at hx; exact hx, fun i him => ?_⟩
    obtain ⟨cs', hc, ht'⟩ := hi i him
    rw [hC] at hc
    obtain ⟨ys, n', hn', hy, hlen, hyl, hf⟩ := DataW.trod_struct he ht'
    obtain ⟨_, hcl, hat⟩ := World.cells?_some hc
    simp only [Prod.mk.injEq] at hy
    refine ⟨ys, n', hy.1, hy.2, hyl, fun j f hj => ?_⟩
    obtain ⟨ho, hk⟩ := hone_of hone j f hj
    have hjl : j < fs.size := (Array.getElem?_eq_some_iff.1 hj).1
    have hcell := hat j hjl
    have hv : cs'[j]? = some (cs'[j]'(by omega)) := List.getElem?_eq_getElem (by omega)
    have h1 := hf j f hj
    rw [ho, hk] at h1
    have hone' : (cs'.drop j).take 1 = [cs'[j]'(by omega)] := by
      rw [List.drop_eq_getElem_cons (by omega)]
      rfl
    rw [hone'] at h1
    have hys : ys[j]? = some (ys[j]'(by omega)) := List.getElem?_eq_getElem (by omega)
    refine ⟨_, _, ?_, hys, h1.trans hys⟩
    rw [← Go.Deep.add_add, hcell, hv]

theorem ints_of_cells {a : Addr} : ∀ (N : Nat), (∀ q, q < N → ∃ z : Int, w.cell? (a.add q) = some (.int .i64 z) ∧ I64 z) →
    ∃ zs : List Int, zs.length = N ∧ (∀ q, q < zs.length → w.cell? (a.add q) = some (.int .i64 (zs.getD q 0))) ∧ ∀ x ∈ zs, I64 x
  | 0, _ => ⟨[], rfl, fun q hq => by simp at hq, fun x hx => by cases hx⟩
  | N + 1, h => by
    obtain ⟨zs, hl, hc, hI⟩ := ints_of_cells N fun q hq => h q (by omega)
    obtain ⟨z, hz, hzI⟩ := h N (by omega)
    refine ⟨zs ++ [z], by simp [hl], fun q hq => ?_, fun x hx => ?_⟩
    · rw [List.length_append, List.length_singleton] at hq
      rcases Nat.lt_or_ge q zs.length with h1 | h1
      · rw [hc q h1]; simp [List.getD, List.getElem?_append_left h1]
      · obtain rfl : q = N := by omega
        rw [hz]; simp [List.getD, ← hl]
    · rcases List.mem_append.1 hx with hx | hx
      · exact hI x hx
      · obtain rfl := List.mem_singleton.1 hx; exact hzI

/-- A slice of structs of k ints: a flat list of ints. -/
theorem open_structsAt {W : World} {t e ti : TypeId} {fs : Array Field} {k : Nat} {A : Option Addr} {n c : Nat} {d : DataW H} {p : List MemPlace} {ts : List TypeId} {ds : List (DataW H)} {j : Nat}
    (ht : P.underlying t = some (.slice e)) (he : P.underlying e = some (.struct fs)) (hti : P.underlying ti = some (.int .i64)) (hfs : (List.range fs.size).all (fun i => (fs[i]?.map (·.type)) == some ti) = true)
    (hk : fs.size = k) (hk0 : 0 < k) (hone : oneCellFields P fs = true) (hC : P.cellsOf e = fs.size) (hb : 8 * k ≤ P.bytesOf e)
    (h : DataW.Trod enc P W 0 (fun _ => true) true t (.slice A n c) d p) (hsz : (DataW.weightsEach P ts ds).all (· ≤ reachBytes) = true) (hts : ts[j]? = some t) (hds : ds[j]? = some d) :
    ∃ l : List Int, l.length = n * k ∧ IntsAt W A l ∧ n * k < 2 ^ 47 ∧ ∀ x ∈ l, I64 x := by
  subst hk
  obtain ⟨fuel, hf⟩ := h
  rcases open_slice_fields ht he hone hC hf with ⟨hcs, _⟩ | ⟨a, len, cap, m, D, Pl, hcs, _, hl, hm, hmm, hx, hi⟩
  · simp [Value.cells] at hcs
    obtain ⟨rfl, rfl, rfl⟩ := hcs
    exact ⟨[], by simp, IntsAt.nil, by simp, fun x hx => by cases hx⟩
  · simp [Value.cells] at hcs
    obtain ⟨rfl, rfl, rfl⟩ := hcs
    simp only [if_true] at hmm
    subst hmm
    simp only [Prod.mk.injEq] at hx
    obtain ⟨rfl, -⟩ := hx
    have hsize := sized_slice hsz hts hds ht
    simp only [List.length_map, List.length_range] at hsize
    have hcell : ∀ q, q < m * fs.size → ∃ z : Int, W.cell? (a.add q) = some (.int .i64 z) ∧ I64 z := fun q hq => by
      obtain ⟨ys, n', _, _, _, hfd⟩ := hi (q / fs.size) ((Nat.div_lt_iff_lt_mul hk0).2 hq)
      have hr : q % fs.size < fs.size := Nat.mod_lt _ hk0
      have hft := List.all_eq_true.1 hfs (q % fs.size) (List.mem_range.2 hr)
      obtain ⟨f, hf1⟩ : ∃ f, fs[q % fs.size]? = some f := ⟨fs[q % fs.size], Array.getElem?_eq_getElem hr⟩
      rw [hf1] at hft
      have hft : f.type = ti := by simpa using hft
      obtain ⟨v, y, hv, _, hy⟩ := hfd (q % fs.size) f hf1
      rw [hft] at hy
      obtain ⟨z, hz, _, wz⟩ := DataW.trod_int hti hy
      injection hz with hz
      subst hz
      rw [show q / fs.size * fs.size + q % fs.size = q by rw [Nat.mul_comm]; exact Nat.div_add_mod q fs.size] at hv
      exact ⟨z, hv, bounds_i64 wz⟩
    obtain ⟨zs, hzl, hzc, hzI⟩ := ints_of_cells (m * fs.size) hcell
    have hlm : n * fs.size ≤ m * fs.size := Nat.mul_le_mul_right _ hl
    have hb2 : m * (8 * fs.size) ≤ m * P.bytesOf e := Nat.mul_le_mul_left _ hb
    have h47 := reachBytes_lt
    have hcm : n + (m - n) = m := by omega
    rw [hcm] at hsize
    have h8 : m * (8 * fs.size) = 8 * (m * fs.size) := by rw [Nat.mul_left_comm]
    refine ⟨zs.take (n * fs.size), by rw [List.length_take, hzl]; omega, fun hne => ?_, by omega, fun x hx => hzI x (List.mem_of_mem_take hx)⟩
    have hpos : 0 < zs.length := by
      have := List.length_pos_iff.2 hne
      rw [List.length_take] at this
      omega
    obtain ⟨b, off, rfl, hc2⟩ := ints_at hzc hpos
    refine ⟨b, off, rfl, fun j x hj => ?_⟩
    rw [List.getElem?_take] at hj
    split at hj
    · have hjl := (List.getElem?_eq_some_iff.1 hj).1
      have := hc2 j hjl
      rw [List.getD, hj] at this
      exact this
    · cases hj
end
end Go.Proofs.YtfpghfmdkbdojaaGreatDoor
