/-
  Words: a slice of grants of one's own; a row of bools. Contract: grant.Holds.
-/
import Derived.Test.YtdnkknggnhihgaaDoorGrantC
import Derived.Test.YtdnkknggnhihgaaDoorGrantG
import Derived.Test.YtdnkknggnhihgaaDoorPush
import Derived.Test.YtdnkknggnhihgaaDoorLeafN
namespace Go.Proofs.YtdnkknggnhihgaaDoor
open Go.RowKit
set_option maxRecDepth 100000
set_option linter.unusedVariables false

theorem wrap_pow (k : Nat) (h : k < 62) : IntKind.i64.wrap (2 ^ k) = ((2 ^ k : Nat) : Int) := by
  have h0 := two_pow_lt k h
  have h1 : (0 : Int) < 2 ^ k := Int.pow_pos (by decide)
  rw [IntKind.wrap_i64]; push_cast; omega

set_option maxHeartbeats 1000000 in
theorem GHolds_ok (users : Int) (n : Nat) (G : List Int) (A : Option Addr) (c : Nat) (w : World) (h : IntsAt w A G) (hl : n * 3 ≤ G.length) (hn : n < 2 ^ 47) (hcap : n ≤ c) (hz : gCode users G n = 0) :
    Calls Tryd.prog 31 #[.int .i64 users, .slice A n c] w fun e w' => e = .returned (.tuple #[.int .i64 (gSet G n : Nat), .nilIface]) ∧ Below w.heap.size w w' := by
  have C0 := GCheck_any users n G A c w h hl hn hcap
  rw [hz, errVal_zero] at C0
  have C0 := Lib.hid C0
  obtain ⟨hu, h40, hall⟩ := gCode_ok hz
  have Hto := Lib.hid (fun i (hi : i < n) => ((gBad_zero.1 (hall i hi)).1).2.1)
  clear hz hall
  go_enter Tryd.func31, Tryd.ntmps31
  go_wp2_with fail
  with_reducible refine C0.out.mono ?_
  rintro e w1 ⟨rfl, hb1⟩
  clear C0
  go_wp2_with fail
  go_loopw [7, 18] (fun s i wr => ∃ k : Nat, k ≤ n ∧ i = .int .i64 k ∧ s = .int .i64 (gSet G k : Nat) ∧ Below w.heap.size w wr) (fun _ i _ => n - (intOf i).toNat)
  case atStart => exact ⟨0, Nat.zero_le _, rfl, rfl, hb1⟩
  case round =>
    obtain ⟨k, hk, rfl, rfl, hbr⟩ := hrel
    by_cases hlt : k < n
    · obtain ⟨b, off, rfl, hc⟩ := h (by intro e; simp [e] at hl; omega)
      have p0 : w.cell? ⟨b, off + k * 3, none⟩ = some (.int .i64 (gFr G k)) := hc (k * 3) _ (get_gI (by omega))
      have p1 : w.cell? ⟨b, off + k * 3 + 1, none⟩ = some (.int .i64 (gTo G k)) := hc (k * 3 + 1) _ (get_gI (by omega))
      have p2 : w.cell? ⟨b, off + k * 3 + 2, none⟩ = some (.int .i64 (gTm G k)) := hc (k * 3 + 2) _ (get_gI (by omega))
      have hbw : b < w.heap.size := block_lt p0
      have q0 := (hbr.cell (p := ⟨b, _, none⟩) hbw).trans p0
      have q1 := (hbr.cell (p := ⟨b, _, none⟩) hbw).trans p1
      have q2 := (hbr.cell (p := ⟨b, _, none⟩) hbw).trans p2
      have ht := Hto.out k hlt
      obtain ⟨t, ht'⟩ := Int.eq_ofNat_of_zero_le ht.1
      rw [ht'] at q1
      have ht8 : t < 8 := by omega
      have hs : gSet G k < 2 ^ 62 := Nat.lt_of_lt_of_le (gSet_lt (fun i hi => by have := Hto.out i (by omega); omega)) (by decide)
      have hp : 2 ^ t < 2 ^ 62 := Nat.pow_lt_pow_right (by decide) (by omega)
      have Hs := Lib.hid (show gSet G k ||| 2 ^ t = gSet G (k + 1) by show _ = gSet G k ||| 2 ^ (gTo G k).toNat; rw [ht']; rfl)
      have w1 := wrap_pow t (by omega)
      have w2 := wrap64_pow t (by omega)
      have hb1' := bits_or_nat (gSet G k) (2 ^ t) hs hp
      clear ht ht' p0 p1 p2 hc
      have h1 : bits .or .i64 ((gSet G k : Nat) : Int) (IntKind.i64.wrap (2 ^ t)) = ((gSet G k ||| 2 ^ t : Nat) : Int) := by rw [w1]; exact hb1'
      have h2 : bits .or .i64 ((gSet G k : Nat) : Int) (wrap64 (2 ^ t)) = ((gSet G k ||| 2 ^ t : Nat) : Int) := by rw [w2]; exact hb1'
      clear hb1' w1 w2
      rw [Hs.out] at h1 h2
      generalize gFr G k = x0 at *
      generalize gTm G k = x2 at *
      generalize gSet G k = s at *
      go_wp2_with fail
      refine ⟨⟨k + 1, ?ya, ?yb, ?yc, hbr.alloc hbr.size _⟩, ?yd⟩
      case ya => omega
      case yb => go_num
      case yc => rfl
      case yd => simp [intOf]; omega
    · obtain rfl : k = n := by omega
      go_wp2_with fail
      go_ret2
      exact ⟨rfl, hbr⟩
theorem GHolds_bad (users : Int) (n : Nat) (G : List Int) (A : Option Addr) (c : Nat) (w : World) (h : IntsAt w A G) (hl : n * 3 ≤ G.length) (hn : n < 2 ^ 47) (hcap : n ≤ c) {kk : Nat} (hk : gCode users G n = kk) (hne : kk ≠ 0) :
    Calls Tryd.prog 31 #[.int .i64 users, .slice A n c] w fun e w' => e = .returned (.tuple #[.int .i64 0, .iface 84 (.int .i64 kk)]) ∧ Below w.heap.size w w' := by
  have C0 := GCheck_any users n G A c w h hl hn hcap
  rw [hk, errVal_pos hne] at C0
  have C0 := Lib.hid C0
  clear hk hne h
  go_enter Tryd.func31, Tryd.ntmps31
  go_wp2_with fail
  with_reducible refine C0.out.mono ?_
  rintro e w1 ⟨rfl, hb1⟩
  go_wp2_with fail
  go_ret2
  exact ⟨rfl, hb1⟩

theorem eGivens : EInfo Tryd.prog 48 52 3 24 := EInfo.of (z := .agg #[.int .i64 0, .int .i64 0, .int .i64 0]) Tryd.underlying48 (by kernel_rfl) rfl (by decide)
/-- A slice of n grants of one's own. -/
def OwnG (w : World) (base : Nat) (v : Value) (n : Nat) (xs : List Int) : Prop := w.ownsRow base 52 3 v n (xs.map (.int .i64))
section
variable {w w' : World} {base n : Nat} {v v' : Value} {xs : List Int}
theorem OwnG.nil (w : World) (base : Nat) : OwnG w base (.slice none 0 0) 0 [] := World.ownsRow_nil w base _ 3
theorem OwnG.below {B : Nat} (h : OwnG w base v n xs) (hb : Below B w w') (hB : w.heap.size ≤ B) : OwnG w' base v n xs := ownsRow_below h hb hB
theorem OwnG.next (h : OwnG w base v n xs) (hb : Below w.heap.size w w') : OwnG w' base v n xs := ownsRow_below h hb (Nat.le_refl _)
theorem OwnG.form (h : OwnG w base v n xs) : ∃ A c, v = .slice A n c ∧ n ≤ c ∧ IntsAt w A xs := by
  have h' : w.ownsRow base 52 3 v n (xs.map (.int .i64)) := h
  obtain ⟨A, c, rfl⟩ := ownsRow_form h'
  refine ⟨A, c, rfl, ?_, (CellsAt.own h').ints⟩
  rcases h'.2 with ⟨e, h0⟩ | ⟨g, cap, cur, hv, hb, hg, hnc, _⟩
  · omega
  · injection hv with _ _ h3; omega
theorem wpList_push_g {w : World} {ops : Array Oper} {rest : List Oper} {o : Oper} {a : Act} {Q : Exit → Act → World → Prop} (hgd : o.guard = none) (s x : Operand)
    (ho : o.op = .call { callee := .builtin .append, args := #[s, x], argTypes := #[48, 48] })
    {base n : Nat} {v : Value} {xs : List Int} (hs : a.eval s = v) (hown : OwnG w base v n xs) (g : Nat) (x0 x1 x2 : Int) (hx : a.eval x = .slice (some ⟨g, 0, none⟩) 1 1) (hc : BoxN w g 52 #[.int .i64 x0, .int .i64 x1, .int .i64 x2])
    (hn : n < 2 ^ 40) (hbase : base ≤ w.heap.size)
    (h : ∀ v' w', OwnG w' base v' (n + 1) (xs ++ [x0, x1, x2]) → w.grownBy w' v.ownBlock → (v'.ownBlock = v.ownBlock ∨ v'.ownBlock = some w.heap.size) → (∀ w0, Below base w0 w → Below base w0 w') → wpList Tryd.prog ops Q rest (a.put o.dst v') w') : wpList Tryd.prog ops Q (o :: rest) a w := by
  have hown' : w.ownsRow base 52 3 v n (xs.map (.int .i64)) := hown
  refine wpList_append_cells hgd s x ho eGivens hs hown' (some ⟨g, 0, none⟩) 1 1 [.int .i64 x0, .int .i64 x1, .int .i64 x2] hx (fun _ => ⟨g, 0, rfl, fun j u hj => ?_⟩) rfl (fun u hu => ?_) (by omega) (by omega) hbase (fun v' w' hp => ?_)
  · rw [Nat.zero_add]
    exact hc.cell (by rw [← Array.getElem?_toList]; exact hj)
  · simp at hu; rcases hu with rfl | rfl | rfl <;> rfl
  · refine h v' w' ?_ hp.grew hp.block fun w0 hb => hp.below hown' hb hbase
    have := hp.own
    unfold OwnG
    simpa using this
end

/-- A row of bools. -/
def vB (n : Nat) (f : Nat → Bool) : List Value := (List.range n).map (fun i => Value.bool (f i))
def upd (f : Nat → Bool) (k : Nat) : Nat → Bool := fun i => f i || i == k
theorem length_vB (n : Nat) (f : Nat → Bool) : (vB n f).length = n := by simp [vB]
theorem vB_at {n i : Nat} {f : Nat → Bool} (h : i < n) : (vB n f)[i]? = some (.bool (f i)) := by unfold vB; rw [List.getElem?_map, List.getElem?_range h]; rfl
theorem vB_set {n k : Nat} {f : Nat → Bool} : (vB n f).set k (.bool true) = vB n (upd f k) := by
  apply List.ext_getElem?
  intro j
  rw [List.getElem?_set]
  by_cases hj : j < n
  · rw [vB_at (f := upd f k) hj]
    split
    · rename_i e; subst e
      rw [length_vB, if_pos hj]; simp [upd]
    · rename_i e
      rw [vB_at hj]
      have : (j == k) = false := by simpa using fun e2 : j = k => e e2.symm
      simp [upd, this]
  · have h1 : (vB n f)[j]? = none := List.getElem?_eq_none (by rw [length_vB]; omega)
    have h2 : (vB n (upd f k))[j]? = none := List.getElem?_eq_none (by rw [length_vB]; omega)
    rw [h1, h2]
    split
    · rw [length_vB, if_neg (by omega)]
    · rfl
theorem vB_congr {n : Nat} {f g : Nat → Bool} (h : ∀ i, i < n → f i = g i) : vB n f = vB n g := by
  unfold vB
  apply List.map_congr_left
  intro i hi
  rw [h i (List.mem_range.1 hi)]
theorem boolInfo : (Tryd.prog.info? 4).map (fun i => (i.zero, i.size, i.bytes)) = some (some (.bool false), 1, 1) := by kernel_rfl
theorem own_falses (w : World) (m : Nat) : OwnAt (w.alloc (.cells (madeCells #[Value.bool false] m) 4)) w.heap.size 4 (vB m (fun _ => false)) := by
  have e : vB m (fun _ => false) = List.replicate m (Value.bool false) := by
    unfold vB
    apply List.ext_getElem?
    intro j
    by_cases hj : j < m
    · rw [List.getElem?_map, List.getElem?_range hj, List.getElem?_replicate, if_pos hj]; rfl
    · rw [List.getElem?_eq_none (by simpa using hj), List.getElem?_eq_none (by simpa using hj)]
  refine ⟨_, heap_alloc_new w _, ?_, ?_⟩
  · simp [length_vB, ← Array.length_toList, toList_madeCells_one]
  · intro j v hj
    rw [← Array.getElem?_toList, toList_madeCells_one, ← e]
    exact hj
/-- How many of n have not gone. -/
def left (n : Nat) (f : Nat → Bool) : Nat := gCount (fun i => !f i) n
theorem left_congr {n : Nat} {f g : Nat → Bool} (h : ∀ i, i < n → f i = g i) : left n f = left n g := by
  unfold left
  induction n with
  | zero => rfl
  | succ n ih => unfold gCount; rw [ih (fun i hi => h i (by omega)), h n (by omega)]
theorem left_upd {n k : Nat} {f : Nat → Bool} (hk : k < n) (h : f k = false) : left n (upd f k) < left n f := by
  unfold left
  induction n with
  | zero => omega
  | succ n ih =>
    unfold gCount
    by_cases e : k = n
    · subst e
      have e1 : left k (upd f k) = left k f := left_congr fun i hi => by
        have : (i == k) = false := by simp; omega
        simp [upd, this]
      rw [if_neg (by simp [upd]), if_pos (by simp [h]), show gCount (fun i => !upd f k i) k = gCount (fun i => !f i) k from e1]
      omega
    · have h1 := ih (by omega)
      have e2 : (!upd f k n) = !f n := by
        have : (n == k) = false := by simp; omega
        simp [upd, this]
      rw [e2]
      split <;> omega
end Go.Proofs.YtdnkknggnhihgaaDoor
