/-
  Contract: take.fresh: a graph in memory of one's own.
-/
import Derived.Test.YtpfmllpodjcldaaDoorTakeC
import Derived.Test.YtpfmllpodjcldaaDoorGridW
namespace Go.Proofs.YtpfmllpodjcldaaDoor
open Go.RowKit
set_option maxRecDepth 100000
set_option linter.unusedVariables false

set_option maxHeartbeats 400000 in
theorem CloneI_own (L : List Int) (n : Nat) (hL : L.length = n) (hne : L ≠ []) (A : Option Addr) (c : Nat) (w : World) (h : IntsAt w A L) (hn : n ≤ 1000000) :
    Calls Tryd.prog 60 #[.slice A n c] w fun e w' => (∃ A' c', e = .returned (.slice A' n c') ∧ OwnI w' w.heap.size (.slice A' n c') L) ∧ Below w.heap.size w w' := by
  have q22 := fun (w : World) (a : Option Addr) (n c n' c' : Nat) => Lib.run_eql_slice_nil w _ _ a n c n' c' Tryd.underlying36
  obtain ⟨b, off, rfl, _⟩ := h hne
  have hown : (w.alloc (.cells #[] 3)).ownsRow w.heap.size 3 1 (.slice (some ⟨w.heap.size, 0, none⟩) 0 0) 0 [] := ⟨rfl, .inr ⟨w.heap.size, 0, #[], rfl, Nat.le_refl _, heap_alloc_new w _, Nat.le_refl _, by unfold maxLen; omega, rfl, rfl⟩⟩
  have hcells : CellsAt (w.alloc (.cells #[] 3)) (some ⟨b, off, none⟩) (L.map (.int .i64)) := (h.below ((Below.refl _ w).alloc (Nat.le_refl _) _)).cells
  have Hc := Lib.hid h
  go_enter Tryd.func60, Tryd.ntmps60
  go_wp2_with (at_builtin; refine wpList_append_cells rfl _ _ rfl eInts rfl hown (some ⟨b, off, none⟩) n c (L.map (.int .i64)) rfl hcells (by simp [hL]) (fun u hu => by obtain ⟨x, _, rfl⟩ := List.mem_map.1 hu; rfl) (by omega) (by omega) (by simp) ?_; intro v' w1 hp)
  have hbl : Below w.heap.size w w1 := hp.below hown ((Below.refl _ w).alloc (Nat.le_refl _) _) (by simp)
  have hown1 := hp.own
  rw [Nat.zero_add, List.nil_append] at hown1
  obtain ⟨A', c', rfl⟩ := ownsRow_form hown1
  have ho : OwnI w1 w.heap.size (.slice A' n c') L := by unfold OwnI; rw [hL]; exact hown1
  clear hp
  go_wp2
  go_ret
  exact ⟨⟨A', c', rfl, ho⟩, hbl⟩

theorem rowsInfo : (Tryd.prog.info? 36).map (fun i => (i.zero, i.size, i.bytes)) = some (some (.slice none 0 0), 1, 24) := by kernel_rfl
theorem run_makeRows (n : Nat) (hn : n ≤ 1000) (V : World) : (Instr.makeSlice 22 (.int .i64 n) (.int .i64 n)).run Tryd.prog V = .ok (.slice (some ⟨V.heap.size, 0, none⟩) n n) (V.alloc (.cells (madeCells #[Value.slice none 0 0] n) 36)) := by
  obtain ⟨ti, hi, hz0, hz1, hz2⟩ := info_parts rowsInfo
  have := run_make (P := Tryd.prog) (w := V) 22 36 ti _ Tryd.underlying22 hi hz0 .i64 .i64 n n (by omega) (Int.le_refl _) (by rw [hz2]; omega) (by omega)
  rw [hz1, Int.toNat_natCast, Nat.mul_one] at this
  exact this
theorem grid_made (w : World) (n : Nat) (hn : n ≤ 1000) : GridAt w.heap.size (w.alloc (.cells (madeCells #[Value.slice none 0 0] n) 36)) (.slice (some ⟨w.heap.size, 0, none⟩) n n) (List.replicate n []) := by
  have hz : ∀ i, (List.replicate n vNil).getD i vNil = vNil := fun i => by
    rw [List.getD_eq_getElem?_getD, List.getElem?_replicate]; split <;> rfl
  have hz2 : ∀ i, (List.replicate n ([] : List Int)).getD i [] = [] := fun i => by
    rw [List.getD_eq_getElem?_getD, List.getElem?_replicate]; split <;> rfl
  refine ⟨List.replicate n vNil, ?_, fun i hi => ?_, fun i j hi hj hij g hg => ?_⟩
  · rw [List.length_replicate]
    refine ⟨by simp, .inr ⟨w.heap.size, n, madeCells #[Value.slice none 0 0] n, rfl, Nat.le_refl _, heap_alloc_new w _, Nat.le_refl _, by unfold maxLen; omega, by simp [madeCells], ?_⟩⟩
    rw [toList_madeCells_one, Nat.mul_one, List.take_of_length_le (by simp)]
  · rw [hz, hz2]; exact OwnI.nil _ _
  · rw [hz] at hg; cases hg
def takeRows (L : List (List Int)) (k : Nat) : List (List Int) := L.take k ++ List.replicate (L.length - k) []
theorem length_takeRows (L : List (List Int)) {k : Nat} (h : k ≤ L.length) : (takeRows L k).length = L.length := by simp [takeRows]; omega
theorem takeRows_zero (L : List (List Int)) : takeRows L 0 = List.replicate L.length [] := by simp [takeRows]
theorem takeRows_all (L : List (List Int)) : takeRows L L.length = L := by simp [takeRows]
theorem takeRows_next (L : List (List Int)) {k : Nat} (h : k < L.length) : (takeRows L k).set k (L.getD k []) = takeRows L (k + 1) := by
  refine List.ext_getElem? fun i => ?_
  unfold takeRows
  rcases Nat.lt_trichotomy i k with h1 | rfl | h1
  · rw [List.getElem?_set_ne (by omega), List.getElem?_append_left (by simp; omega), List.getElem?_append_left (by simp; omega), List.getElem?_take_of_lt h1, List.getElem?_take_of_lt (by omega)]
  · rw [List.getElem?_set_self (by simp; omega), List.getElem?_append_left (by simp; omega), List.getElem?_take_of_lt (by omega)]
    exact (getD_lt h).symm
  · rw [List.getElem?_set_ne (by omega), List.getElem?_append_right (by simp; omega), List.getElem?_append_right (by simp; omega), List.getElem?_replicate, List.getElem?_replicate]
    simp only [List.length_take]
    split
    · rw [if_pos (by omega)]
    · rw [if_neg (by omega)]

set_option maxHeartbeats 2000000 in
theorem Fresh_any {ok : Nat → Prop} {w : World} {A : Option Addr} {c n : Nat} {L : List (List Int)} (hL : RowsIn ok 1 w A L) (hn : L.length = n) (hn20 : n ≤ 20) (hr : ∀ i, i < n → (L.getD i []).length = n) :
    Calls Tryd.prog 34 #[.slice A n c] w fun e w' => (∃ v, e = .returned v ∧ GridAt w.heap.size w' v L) ∧ Below w.heap.size w w' := by
  have hmk := fun V => run_makeRows n (by omega) V
  have hg0 := grid_made w n (by omega)
  have hb0 := (Below.refl w.heap.size w).alloc (Nat.le_refl _) (.cells (madeCells #[Value.slice none 0 0] n) 36)
  have HL := Lib.hid hL
  have Hr := Lib.hid hr
  clear hL hr
  go_enter Tryd.func34, Tryd.ntmps34
  go_wp2_with fail
  generalize w.alloc (.cells (madeCells #[Value.slice none 0 0] n) 36) = w1 at *
  clear hmk
  go_loopw [10] (fun i wr => ∃ k : Nat, k ≤ n ∧ i = .int .i64 k ∧ GridAt w.heap.size wr (.slice (some ⟨w.heap.size, 0, none⟩) n n) (takeRows L k) ∧ Below w.heap.size w wr) (fun i _ => n - (intOf i).toNat)
  case atStart => exact ⟨0, Nat.zero_le _, rfl, by rw [takeRows_zero, hn]; exact hg0, hb0⟩
  case round =>
    clear hg0 hb0
    obtain ⟨k, hk, rfl, hg, hbr⟩ := hrel
    by_cases hlt : k < n
    · obtain ⟨b, off, Ai, ni, ci, rfl, c0, hli, hni, hi⟩ := (HL.out.below hbr).get (i := k) (by omega)
      rw [Hr.out k hlt, Nat.mul_one] at hli
      obtain rfl : ni = n := hli.symm
      have HC := Lib.hid (CloneI_own (L.getD k []) ni (Hr.out k hlt) (by intro e; have := Hr.out k hlt; rw [e] at this; simp at this; omega) Ai ci wr hi.at_ (by omega))
      obtain ⟨bo, co, x, hv, hbo, hbl, cx, hfz, hox, hxo, _, hput⟩ := hg.row (i := k) (by rw [length_takeRows L (by omega)]; omega)
      injection hv with hv1 hv2 hv3
      injection hv1 with hv1
      injection hv1 with hv1
      subst hv1
      have Hput := Lib.hid hput
      clear hput hg hox hv2 hv3 hi hni
      have hsz := hbr.size
      go_wp2_with fail
      refine HC.out.mono ?_
      rintro e w2 ⟨⟨A2, c2, rfl, ho2⟩, hb2⟩
      have hf2 : w2.frozen? ⟨w.heap.size, k, none⟩ = false := (hb2.frozen hbl).trans (hfz k)
      have cx2 := (hb2.cell (p := ⟨w.heap.size, k, none⟩) hbl).trans cx
      clear HC
      go_wp2_with fail
      refine ⟨⟨k + 1, ?ya, ?yb, ?yc, ?ye⟩, ?yd⟩
      case ya => omega
      case yb => go_num
      case yc =>
        rw [← takeRows_next L (by omega)]
        refine Hput.out w2 _ _ hb2.size (fun b h1 _ => hb2.block b h1) ?_ (fun g hg => .inr (ho2.lt g hg).1)
        refine ⟨ho2.1, ?_⟩
        rcases ho2.2 with h0 | ⟨g, cap, cur, h1, h2, h3⟩
        · exact .inl h0
        · exact .inr ⟨g, cap, cur, h1, by omega, h3⟩
      case ye => exact (hbr.trans (hb2.mono hsz)).setCell (p := ⟨w.heap.size, k, none⟩) (Nat.le_refl _) _
      case yd => simp [intOf]; omega
    · obtain rfl : k = L.length := by omega
      rw [takeRows_all] at hg
      go_wp2_with fail
      go_ret
      rw [hn]
      exact ⟨⟨_, rfl, hg⟩, hbr⟩
end Go.Proofs.YtpfmllpodjcldaaDoor
