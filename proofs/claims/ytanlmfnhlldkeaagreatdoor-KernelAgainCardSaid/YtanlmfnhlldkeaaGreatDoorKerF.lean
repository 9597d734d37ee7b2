/-
  Contract: quietwingref5.line.
  What is shown: a row of one's own whose room is at least its length; and its beginning.
  Contracts: quietwingref5.put, row.
  Contract: quietwingref5.Save.
-/
import Derived.Test.YtanlmfnhlldkeaaGreatDoorBaseA
import Derived.Test.YtanlmfnhlldkeaaGreatDoorKerC
import Derived.Test.YtanlmfnhlldkeaaGreatDoorDigs
import Derived.Test.YtanlmfnhlldkeaaGreatDoorKerE
import Derived.Test.YtanlmfnhlldkeaaGreatDoorKerB
namespace Go.Proofs.YtanlmfnhlldkeaaGreatDoor
open Go.RowKit
set_option maxRecDepth 100000
set_option linter.unusedVariables false

/-- Numbers that are not negative. -/
theorem line_len {l : List Int} (h : ∀ x ∈ l, 0 ≤ x ∧ x ≤ 9223372036854775807) (k : Nat) : (wTo l k).length ≤ 22 * k := wTo_len (fun x hx => by have := h x hx; omega) k
set_option maxHeartbeats 4000000 in
theorem line_any {l : List Int} {A : Option Addr} {c : Nat} {w : World} (hA : IntsAt w A l) (hl : l.length ≤ 1000000) (h : ∀ x ∈ l, 0 ≤ x ∧ x ≤ 9223372036854775807) :
    Calls Tryz.prog 37 #[.slice A l.length c] w fun e w' => e = .returned (.string ⟨(wordsT l ++ [10]).toArray⟩) ∧ w = w' := by
  have Hw := Lib.hid (show wordsT l = wTo l l.length from rfl)
  have Hlen := Lib.hid (line_len h)
  have HA := Lib.hid hA
  rw [Hw.out]
  have Hget := Lib.hid (show ∀ k, k < l.length → ∃ (n : Nat) (b off : Nat), l.getD k 0 = (n : Int) ∧ n ≤ 9223372036854775807 ∧ A = some ⟨b, off, none⟩ ∧ w.cell? ⟨b, off + k, none⟩ = some (.int .i64 n) from fun k hk => by
    obtain ⟨g, off, x, e, hx, hc⟩ := hA.at_ hk
    have hm := List.mem_of_getElem? hx.out
    obtain ⟨n, rfl⟩ := Int.eq_ofNat_of_zero_le (h x hm).1
    exact ⟨n, g, off, by rw [List.getD_eq_getElem?_getD, hx.out]; rfl, by have := (h _ hm).2; omega, e, hc⟩)
  clear Hw hA h
  generalize hm : l.length = m at *
  clear hm
  go_enter Tryz.func37, Tryz.ntmps37
  go_wp2_with fail
  go_loopw [3, 4] (fun t i wr => ∃ k : Nat, k ≤ m ∧ i = .int .i64 k ∧ t = .string ⟨(wTo l k).toArray⟩ ∧ wr = w) (fun _ i _ => m - (intOf i).toNat)
  case atStart => exact ⟨0, Nat.zero_le _, rfl, rfl, rfl⟩
  case round =>
    obtain ⟨k, hk, rfl, rfl, hwr⟩ := hrel
    have hwr2 : w = wr := hwr.symm
    clear hwr
    subst hwr2
    by_cases hlt : k < m
    · obtain ⟨n, b, off, hn, hnb, rfl, hc⟩ := Hget.out k hlt
      have C1 := Lib.hid (Digits_any w n hnb)
      have htl := Hlen.out k
      have hi := Lib.itoa_length_le (n : Int) (by omega) (by omega)
      have Hst := Lib.hid (show wTo l (k + 1) = wTo l k ++ ((if 0 < k then [32] else []) ++ Lib.itoa n) by rw [wTo, hn])
      generalize hit : Lib.itoa (n : Int) = it at *
      clear hit hn
      rcases Nat.eq_zero_or_pos k with hk0 | hk0
      · have dg : decide ((k : Int) > 0) = false := by subst hk0; rfl
        have dg2 : decide (0 < k) = false := by subst hk0; rfl
        have Hst2 := Lib.hid (show wTo l (k + 1) = wTo l k ++ it by rw [Hst.out, if_neg (by omega)]; rfl)
        generalize wTo l k = tx at *
        have hlen : ¬ 9223372036854775807 < tx.length + it.length := by omega
        clear hk0 Hst
        go_wp2_with fail
        refine C1.out.mono ?_
        rintro e w' ⟨rfl, rfl⟩
        go_wp2_with fail
        refine ⟨⟨k + 1, ?ya, ?yb, ?yc, trivial⟩, ?yd⟩
        case ya => omega
        case yb => go_num
        case yc => rw [Hst2.out, ← bytes_add]
        case yd => simp [intOf]; omega
      · have dg : decide ((k : Int) > 0) = true := by simp; omega
        have dg2 : decide (0 < k) = true := by simp; omega
        have Hst2 := Lib.hid (show wTo l (k + 1) = (wTo l k ++ [32]) ++ it by rw [Hst.out, if_pos hk0, List.append_assoc])
        generalize wTo l k = tx at *
        have hlen : ¬ 9223372036854775807 < tx.length + 1 + it.length := by omega
        have hlen2 : ¬ 9223372036854775807 < tx.length + 1 := by omega
        clear hk0 Hst
        go_wp2_with fail
        refine C1.out.mono ?_
        rintro e w' ⟨rfl, rfl⟩
        go_wp2_with fail
        refine ⟨⟨k + 1, ?za, ?zb, ?zc, trivial⟩, ?zd⟩
        case za => omega
        case zb => go_num
        case zc => rw [Hst2.out, ← bytes_add, ← bytes_add]
        case zd => simp [intOf]; omega
    · obtain rfl : k = m := by omega
      have htl := Hlen.out k
      obtain ⟨tx, htx⟩ : ∃ tx, wTo l k = tx := ⟨_, rfl⟩
      have Htx := Lib.hid htx
      rw [htx] at htl ⊢
      clear htx
      have hlen : ¬ 9223372036854775807 < tx.length + 1 := by omega
      go_wp2_with fail
      go_ret
      exact ⟨by rw [Htx.out, ← bytes_add]; rfl, rfl⟩
end Go.Proofs.YtanlmfnhlldkeaaGreatDoor

namespace Go.Proofs.YtanlmfnhlldkeaaGreatDoor
open Go.RowKit
set_option maxRecDepth 100000
set_option linter.unusedVariables false

theorem ownsRow_cap {w : World} {base size n c : Nat} {e : TypeId} {A : Option Addr} {xs : List Value} (h : w.ownsRow base e size (.slice A n c) n xs) : n ≤ c := by
  rcases h.2 with ⟨h0, h1⟩ | ⟨g, cap, cur, hv, hb, hg, hnc, _⟩
  · omega
  · injection hv with _ _ h3
    omega
set_option maxHeartbeats 400000 in
theorem CloneI_cap (L : List Int) (n : Nat) (hL : L.length = n * 1) (A : Option Addr) (c : Nat) (w : World) (h : IntsAt w A L) (hn : n ≤ 1000000) :
    Calls Tryz.prog 31 #[.slice A n c] w fun e w' => (∃ A' c', e = .returned (.slice A' n c') ∧ n ≤ c' ∧ OwnIn w.heap.size w' A' 3 L) ∧ Below w.heap.size w w' := by
  have q22 := fun (w : World) (a : Option Addr) (n c n' c' : Nat) => Lib.run_eql_slice_nil w _ _ a n c n' c' Tryz.underlying24
  cases A with
  | none =>
    have hL0 : L = [] := Classical.byContradiction fun e => by obtain ⟨b, off, hA, _⟩ := h e; cases hA
    subst hL0
    obtain rfl : n = 0 := by simp at hL; omega
    go_enter Tryz.func31, Tryz.ntmps31
    go_wp2
    go_ret
    exact ⟨⟨none, 0, rfl, Nat.le_refl _, OwnIn.nil⟩, Below.refl _ _⟩
  | some a =>
    have hown : (w.alloc (.cells #[] 3)).ownsRow w.heap.size 3 1 (.slice (some ⟨w.heap.size, 0, none⟩) 0 0) 0 [] := ⟨rfl, .inr ⟨w.heap.size, 0, #[], rfl, Nat.le_refl _, heap_alloc_new w _, Nat.le_refl _, by unfold maxLen; omega, rfl, rfl⟩⟩
    have hcells : CellsAt (w.alloc (.cells #[] 3)) (some a) (L.map (.int .i64)) := (h.below ((Below.refl _ w).alloc (Nat.le_refl _) _)).cells
    have Hc := Lib.hid h
    go_enter Tryz.func31, Tryz.ntmps31
    go_wp2_with (at_builtin; refine wpList_append_cells rfl _ _ rfl eII rfl hown (some a) n c (L.map (.int .i64)) rfl hcells (by simp [hL]) (fun u hu => by obtain ⟨x, _, rfl⟩ := List.mem_map.1 hu; rfl) (by omega) (by omega) (by simp) ?_; intro v' w1 hp)
    have hbl : Below w.heap.size w w1 := hp.below hown ((Below.refl _ w).alloc (Nat.le_refl _) _) (by simp)
    have hown1 := hp.own
    rw [Nat.zero_add, List.nil_append] at hown1
    obtain ⟨A', c', rfl⟩ := ownsRow_form hown1
    clear hp
    go_wp2
    go_ret
    exact ⟨⟨A', c', rfl, ownsRow_cap hown1, own_ownIn hown1⟩, hbl⟩
section
variable {role : Nat → Nat} {lo hi : Nat} {w : World} {p : Nat} {K : KF} {L : List (List Int)} {P : List Int} {q : Nat} {T : List Int} {s : KState} {t : Nat}
theorem Shown_cap (h : KernAt role lo hi w p K L P q T s t) {i : Nat} (hil : i < L.length) (hl : L.length ≤ 5) (hsh : (s.parts i).shown.length ≤ 100000) :
    Calls Tryz.prog 20 #[.pointer (some ⟨p, 0, none⟩), .int .i64 i] w fun e w' => (∃ A c, e = .returned (.slice A (s.parts i).shown.length c) ∧ (s.parts i).shown.length ≤ c ∧ OwnIn w.heap.size w' A 3 (s.parts i).shown) ∧ Below w.heap.size w w' := by
  obtain ⟨-, -, -, x3, -, -⟩ := h.words
  obtain ⟨-, -, ⟨v, e5, r5⟩, -⟩ := h.part hil
  obtain ⟨A, c, rfl, iA⟩ := r5.form
  have W0 := Lib.hid (fun V => Within3_is (i : Int) 0 ((L.length : Int) - 1) true V (decide_eq_true (by omega)))
  have C0 := Lib.hid (CloneI_cap (s.parts i).shown (s.parts i).shown.length (by omega) A c w iA (by omega))
  generalize (s.parts i).shown = l at *
  clear h r5 iA
  go_enter Tryz.func20, Tryz.ntmps20
  go_wp2_with (first | (go_at_call 41; with_reducible refine (W0.out _).mono ?_; rintro e w' ⟨rfl, rfl⟩) | (go_at_call 31; with_reducible refine C0.out.mono ?_; rintro e w' ⟨⟨A', c', rfl, h1, o1⟩, hb⟩))
  go_ret
  exact ⟨⟨A', c', rfl, h1, o1⟩, hb⟩
end
/-- A slice's beginning. -/
theorem run_cut_to (V : World) (A : Option Addr) (n c k : Nat) (h1 : k ≤ n) (h2 : n ≤ c) : (Instr.sliceAt 24 (.slice A n c) none (some (.int .i64 k)) none).run Tryz.prog V = .ok (.slice A k c) V := by
  have e := Tryz.underlying24
  obtain ⟨i, z, hi, hz, hsize, -⟩ := eII.info
  have n1 : ¬ c < k := by omega
  cases A with
  | none => simp [Instr.sliceAt, Instr.slice, Instr.sliceBounds, run_underlying e, sizeOf, typeInfo, hi, go_sem, n1]
  | some a => simp [Instr.sliceAt, Instr.slice, Instr.sliceBounds, run_underlying e, sizeOf, typeInfo, hi, go_sem, n1]
end Go.Proofs.YtanlmfnhlldkeaaGreatDoor

namespace Go.Proofs.YtanlmfnhlldkeaaGreatDoor
open Go.RowKit
set_option maxRecDepth 100000
set_option linter.unusedVariables false

theorem eGI : EInfo Tryz.prog 28 24 1 24 := EInfo.of (z := .slice none 0 0) Tryz.underlying28 (by kernel_rfl) rfl (by decide)
/-- A row of ints, to be read. -/
def R1 (ok : Nat → Prop) (w : World) (A : Option Addr) (n : Nat) (l : List Int) : Prop := l.length = n * 1 ∧ n ≤ maxLen ∧ IntsIn ok w A l
theorem R1.below {ok : Nat → Prop} {w w' : World} {A : Option Addr} {n : Nat} {l : List Int} (h : R1 ok w A n l) (hb : Below w.heap.size w w') : R1 ok w' A n l := ⟨h.1, h.2.1, h.2.2.below hb⟩
theorem IntsAt.anyIn {w : World} {A : Option Addr} {l : List Int} (h : IntsAt w A l) : IntsIn anyB w A l := fun hl => by
  obtain ⟨b, off, e, hc⟩ := h hl
  exact ⟨b, off, e, trivial, hc⟩
theorem rows_vals {ok : Nat → Prop} {w : World} {A : Option Addr} {Ls : List (List Int)} (h : RowsIn ok 1 w A Ls) : ∃ xs, SlVals (R1 ok) w xs Ls ∧ CellsAt w A xs := by
  rcases Classical.em (Ls = []) with rfl | hne
  · exact ⟨[], SlVals.nil, CellsAt.nil⟩
  obtain ⟨b, off, rfl, _, hc⟩ := h hne
  have key : ∀ n, n ≤ Ls.length → ∃ xs : List Value, xs.length = n ∧ ∀ (i : Nat) (l : List Int), i < n → Ls[i]? = some l → ∃ (Ai : Option Addr) (ni ci : Nat), xs[i]? = some (.slice Ai ni ci) ∧ w.cell? ⟨b, off + i, none⟩ = some (.slice Ai ni ci) ∧ R1 ok w Ai ni l := by
    intro n
    induction n with
    | zero => intro _; exact ⟨[], rfl, fun i l hi => by omega⟩
    | succ n ih =>
      intro hn
      obtain ⟨xs, h1, h2⟩ := ih (by omega)
      obtain ⟨Ai, ni, ci, g1, g2, g3, g4⟩ := hc n _ (List.getElem?_eq_getElem (by omega))
      refine ⟨xs ++ [.slice Ai ni ci], by simp [h1], fun i l hi hl => ?_⟩
      rcases Nat.lt_or_ge i n with h3 | h3
      · obtain ⟨Aj, nj, cj, k1, k2, k3⟩ := h2 i l h3 hl
        exact ⟨Aj, nj, cj, by rw [List.getElem?_append_left (by omega)]; exact k1, k2, k3⟩
      · obtain rfl : i = n := by omega
        rw [List.getElem?_eq_getElem (by omega)] at hl
        injection hl with hl
        subst hl
        exact ⟨Ai, ni, ci, by rw [← h1]; simp, g1, g2, g3, g4⟩
  obtain ⟨xs, h1, h2⟩ := key Ls.length (Nat.le_refl _)
  refine ⟨xs, ⟨h1, fun i l hl => ?_⟩, fun _ => ⟨b, off, rfl, fun j u hj => ?_⟩⟩
  · obtain ⟨Ai, ni, ci, k1, _, k3⟩ := h2 i l (List.getElem?_eq_some_iff.1 hl).1 hl
    exact ⟨Ai, ni, ci, k1, k3⟩
  · have hlt : j < Ls.length := by have := (List.getElem?_eq_some_iff.1 hj).1; omega
    obtain ⟨Ai, ni, ci, k1, k2, _⟩ := h2 j _ hlt (List.getElem?_eq_getElem hlt)
    rw [hj] at k1
    rw [k2, ← k1]
theorem vals_rows {ok : Nat → Prop} {w : World} {base n c : Nat} {A : Option Addr} {Ls : List (List Int)} {xs : List Value} (h : SlVals (R1 ok) w xs Ls) (ho : w.ownsRow base 24 1 (.slice A n c) n xs) (hb : ∀ b, base ≤ b → ok b) : RowsIn ok 1 w A Ls := fun hne => by
  have hx : xs ≠ [] := by rintro rfl; exact hne (List.length_eq_zero_iff.1 h.1.symm)
  obtain ⟨b, off, e, hc⟩ := CellsAt.own ho hx
  have hbb : base ≤ b := by
    rcases ho.2 with ⟨_, h0⟩ | ⟨g, cap, cur, hv, hg, _⟩
    · have := ho.1; rw [h0] at this; exact absurd (List.length_eq_zero_iff.1 (by simpa using this)) hx
    · injection hv with hv
      rw [e] at hv
      injection hv with hv
      injection hv with hv
      omega
  refine ⟨b, off, e, hb b hbb, fun i l hi => ?_⟩
  obtain ⟨Ai, ni, ci, h1, h2⟩ := h.2 i l hi
  exact ⟨Ai, ni, ci, hc i _ h1, h2⟩
/-- Rows whose room is at least their length. -/
def CapsV (xs : List Value) : Prop := ∀ u ∈ xs, ∃ (A : Option Addr) (n c : Nat), u = .slice A n c ∧ n ≤ c
def CapsIn (ok : Nat → Prop) (w : World) (A : Option Addr) (n : Nat) : Prop := ∀ i, i < n → ∃ (b off : Nat) (Ai : Option Addr) (ni ci : Nat), A = some ⟨b, off, none⟩ ∧ ok b ∧ w.cell? ⟨b, off + i, none⟩ = some (.slice Ai ni ci) ∧ ni ≤ ci
theorem CapsIn.keep {ok : Nat → Prop} {w w' : World} {A : Option Addr} {n : Nat} (h : CapsIn ok w A n) (hk : ∀ b, b < w.heap.size → ok b → w'.heap[b]? = w.heap[b]?) : CapsIn ok w' A n := fun i hi => by
  obtain ⟨b, off, Ai, ni, ci, e, hb, hc, hle⟩ := h i hi
  refine ⟨b, off, Ai, ni, ci, e, hb, ?_, hle⟩
  rw [World.cell?_of_block (hk b (block_lt hc) hb)]
  exact hc
theorem CapsIn.below {ok : Nat → Prop} {w w' : World} {A : Option Addr} {n : Nat} (h : CapsIn ok w A n) (hb : Below w.heap.size w w') : CapsIn ok w' A n := h.keep fun b h1 _ => hb.block b h1
theorem CapsIn.mono {ok ok' : Nat → Prop} {w : World} {A : Option Addr} {n : Nat} (h : CapsIn ok w A n) (ho : ∀ b, b < w.heap.size → ok b → ok' b) : CapsIn ok' w A n := fun i hi => by
  obtain ⟨b, off, Ai, ni, ci, e, hb, hc, hle⟩ := h i hi
  exact ⟨b, off, Ai, ni, ci, e, ho b (block_lt hc) hb, hc, hle⟩
theorem CapsIn.vals {ok : Nat → Prop} {w : World} {A : Option Addr} {n : Nat} {xs : List Value} (h : CapsIn ok w A n) (hc : CellsAt w A xs) (hl : xs.length = n) : CapsV xs := fun u hu => by
  obtain ⟨i, hi, rfl⟩ := List.getElem_of_mem hu
  obtain ⟨b, off, Ai, ni, ci, e, _, hcell, hle⟩ := h i (by omega)
  obtain ⟨b', off', e', hcs⟩ := hc (by rintro rfl; simp at hi)
  rw [e] at e'
  injection e' with e'
  injection e' with e1 e2
  subst e1; subst e2
  have := hcs i _ (List.getElem?_eq_getElem hi)
  rw [hcell] at this
  injection this with this
  exact ⟨Ai, ni, ci, this.symm, hle⟩
theorem CapsV.own {ok : Nat → Prop} {w : World} {base n c : Nat} {A : Option Addr} {xs : List Value} (h : CapsV xs) (ho : w.ownsRow base 24 1 (.slice A n c) n xs) (hb : ∀ b, base ≤ b → ok b) : CapsIn ok w A n := fun i hi => by
  have hl : xs.length = n := by have := ho.1; omega
  have hx : xs ≠ [] := by rintro rfl; simp at hl; omega
  obtain ⟨b, off, e, hc⟩ := CellsAt.own ho hx
  have hbb : base ≤ b := by
    rcases ho.2 with ⟨_, h0⟩ | ⟨g, cap, cur, hv, hg, _⟩
    · omega
    · injection hv with hv
      rw [e] at hv
      injection hv with hv
      injection hv with hv
      omega
  obtain ⟨Ai, ni, ci, hu, hle⟩ := h _ (List.getElem_mem (by omega : i < xs.length))
  exact ⟨b, off, Ai, ni, ci, e, hb b hbb, by rw [← hu]; exact hc i _ (List.getElem?_eq_getElem (by omega)), hle⟩
theorem CapsV.nil : CapsV [] := fun u hu => by cases hu
theorem CapsV.push {xs : List Value} (h : CapsV xs) {A : Option Addr} {n c : Nat} (hc : n ≤ c) : CapsV (xs ++ [.slice A n c]) := fun u hu => by
  rcases List.mem_append.1 hu with hu | hu
  · exact h u hu
  · rw [List.mem_singleton] at hu
    exact ⟨A, n, c, hu, hc⟩
theorem SlVals.one {R : World → Option Addr → Nat → List Int → Prop} {w : World} {xs : List Value} {Ls : List (List Int)} (h : SlVals R w xs Ls) : ∀ u ∈ xs, u.oneCell' = true := fun u hu => by
  obtain ⟨i, hi, rfl⟩ := List.getElem_of_mem hu
  obtain ⟨A, n, c, h1, _⟩ := h.2 i _ (List.getElem?_eq_getElem (by have := h.1; omega))
  rw [List.getElem?_eq_getElem hi] at h1
  injection h1 with h1
  rw [h1]; rfl
theorem SlVals.set {R : World → Option Addr → Nat → List Int → Prop} {w : World} {xs : List Value} {Ls : List (List Int)} (h : SlVals R w xs Ls) (i : Nat) {A : Option Addr} {n c : Nat} {l : List Int} (hl : R w A n l) : SlVals R w (xs.set i (.slice A n c)) (Ls.set i l) := by
  refine ⟨by simp [h.1], fun j m hj => ?_⟩
  rw [List.getElem?_set] at hj
  rw [List.getElem?_set]
  split at hj
  · rename_i e
    subst e
    split at hj
    · rename_i hlt
      injection hj with hj
      subst hj
      exact ⟨A, n, c, by rw [if_pos rfl, if_pos (by have := h.1; omega)], hl⟩
    · cases hj
  · rename_i e
    rw [if_neg e]
    exact h.2 j m hj
theorem CellsAt.take {w : World} {A : Option Addr} {xs : List Value} (h : CellsAt w A xs) (i : Nat) : CellsAt w A (xs.take i) := fun hne => by
  obtain ⟨b, off, e, hc⟩ := h (by rintro rfl; simp at hne)
  exact ⟨b, off, e, fun j u hj => hc j u (by
    rw [List.getElem?_take] at hj
    split at hj
    · exact hj
    · cases hj)⟩
theorem CellsAt.tail {w : World} {b off : Nat} {xs : List Value} (h : CellsAt w (some ⟨b, off, none⟩) xs) (i k : Nat) (hk : k = i ∨ xs.length ≤ i) : CellsAt w (some ⟨b, off + k, none⟩) (xs.drop i) := fun hne => by
  obtain ⟨b', off', e, hc⟩ := h (by rintro rfl; simp at hne)
  injection e with e
  injection e with e1 e2
  subst e1
  subst e2
  refine ⟨b, off + k, rfl, fun j u hj => ?_⟩
  rw [List.getElem?_drop] at hj
  have hlt := (List.getElem?_eq_some_iff.1 hj).1
  have := hc _ u hj
  rw [Nat.add_assoc, show k + j = i + j by omega]
  exact this
/-- A slice of rows: its beginning. -/
theorem run_rows_to (V : World) (A : Option Addr) (n c k : Nat) (h1 : k ≤ n) (h2 : n ≤ c) : (Instr.sliceAt 28 (.slice A n c) none (some (.int .i64 k)) none).run Tryz.prog V = .ok (.slice A k c) V := by
  have e := Tryz.underlying28
  obtain ⟨i, z, hi, hz, hsize, -⟩ := eGI.info
  have n1 : ¬ c < k := by omega
  cases A with
  | none => simp [Instr.sliceAt, Instr.slice, Instr.sliceBounds, run_underlying e, sizeOf, typeInfo, hi, go_sem, n1]
  | some a => simp [Instr.sliceAt, Instr.slice, Instr.sliceBounds, run_underlying e, sizeOf, typeInfo, hi, go_sem, n1]
/-- .. and its end. -/
theorem run_rows_from (g og n c k : Nat) (h1 : k ≤ n) (h2 : n ≤ c) : ∃ k' c', (k' = k ∨ n ≤ k) ∧ ∀ V : World, (Instr.sliceAt 28 (.slice (some ⟨g, og, none⟩) n c) (some (.int .i64 k)) none none).run Tryz.prog V = .ok (.slice (some ⟨g, og + k', none⟩) (n - k) c') V := by
  have e := Tryz.underlying28
  obtain ⟨i, z, hi, hz, hsize, -⟩ := eGI.info
  have n1 : ¬ n < k := by omega
  by_cases hc : c = k
  · refine ⟨0, c - k, .inr (by omega), fun V => ?_⟩
    subst hc
    simp [Instr.sliceAt, Instr.slice, Instr.sliceBounds, run_underlying e, sizeOf, typeInfo, hi, go_sem, n1]
  · refine ⟨k, c - k, .inl rfl, fun V => ?_⟩
    simp [Instr.sliceAt, Instr.slice, Instr.sliceBounds, run_underlying e, sizeOf, typeInfo, hi, hsize, go_sem, n1, hc]

/-- 'append(s, t..)', cells anywhere; the new slice written out. -/
theorem wpList_join {P : Program} {w : World} {ops : Array Oper} {rest : List Oper} {o : Oper} {a : Act} {Q : Exit → Act → World → Prop} (hgd : o.guard = none) (s x : Operand) {t : TypeId}
    (ho : o.op = .call { callee := .builtin .append, args := #[s, x], argTypes := #[t, t] })
    {base : Nat} {e : TypeId} {bytes : Nat} (E : EInfo P t e 1 bytes) {v : Value} {n : Nat} {xs : List Value} (hs : a.eval s = v) (hown : w.ownsRow base e 1 v n xs)
    (A : Option Addr) (m c : Nat) (news : List Value) (hx : a.eval x = .slice A m c) (hc : CellsAt w A news) (hl : news.length = m) (h1 : ∀ u ∈ news, u.oneCell' = true)
    (hbytes : (n + m) * bytes ≤ 140737488355328) (h63 : n + m ≤ 140737488355328) (hbase : base ≤ w.heap.size)
    (h : ∀ B q cc w', Hid (q = n + m) → w'.ownsRow base e 1 (.slice B q cc) q (xs ++ news) → (∀ w0, Below base w0 w → Below base w0 w') → wpList P ops Q rest (a.put o.dst (.slice B q cc)) w') : wpList P ops Q (o :: rest) a w := by
  refine wpList_append_cells hgd s x ho E hs hown A m c news hx hc (by rw [hl, Nat.mul_one]) h1 hbytes h63 hbase (fun v' w' hp => ?_)
  obtain ⟨B, cc, rfl⟩ := ownsRow_form hp.own
  exact h B (n + m) cc w' (Lib.hid rfl) hp.own fun w0 hb => hp.below hown hb hbase

theorem own_head {w : World} {base n c : Nat} {e : TypeId} {A : Option Addr} {xs : List Value} (h : w.ownsRow base e 1 (.slice A n c) n xs) (hn : 0 < n) : ∃ g, A = some ⟨g, 0, none⟩ ∧ base ≤ g := by
  rcases h.2 with ⟨_, h1⟩ | ⟨g, cap, cur, hv, hg, _⟩
  · omega
  · injection hv with hv
    exact ⟨g, hv, hg⟩

theorem own_cell {w : World} {base n c g i : Nat} {e : TypeId} {xs : List Value} (h : w.ownsRow base e 1 (.slice (some ⟨g, 0, none⟩) n c) n xs) (hi : i < n) : ∃ u, w.cell? ⟨g, i, none⟩ = some u := by
  have hl : xs.length = n := by have := h.1; omega
  obtain ⟨b, off, e1, hc⟩ := CellsAt.own h (by rintro rfl; simp at hl; omega)
  injection e1 with e1
  injection e1 with e1 e2
  subst e1
  subst e2
  have := hc i _ (List.getElem?_eq_getElem (by omega))
  rw [Nat.zero_add] at this
  exact ⟨_, this⟩
end Go.Proofs.YtanlmfnhlldkeaaGreatDoor

namespace Go.Proofs.YtanlmfnhlldkeaaGreatDoor
open Go.RowKit
set_option maxRecDepth 100000
set_option linter.unusedVariables false

def partRows (s : KState) (n : Nat) : List (List Int) := (List.range n).map fun i => partNums (s.parts i)
def heldRows (s : KState) (q : Nat) : List (List Int) := (List.range q).map s.held
theorem partRows_len (s : KState) (n : Nat) : (partRows s n).length = n := by simp [partRows]
theorem heldRows_len (s : KState) (q : Nat) : (heldRows s q).length = q := by simp [heldRows]
theorem partRows_get (s : KState) {n i : Nat} (h : i < n) : (partRows s n).getD i [] = partNums (s.parts i) := by simp [partRows, List.getD_eq_getElem?_getD, h]
theorem heldRows_get (s : KState) {q i : Nat} (h : i < q) : (heldRows s q).getD i [] = s.held i := by simp [heldRows, List.getD_eq_getElem?_getD, h]
theorem KInv.numsPos {s : KState} {u : Nat} (h : KInv s u) (i : Nat) : ∀ x ∈ partNums (s.parts i), 0 ≤ x ∧ x ≤ 9223372036854775807 := fun x hx => by
  unfold partNums at hx
  simp only [List.mem_append, List.mem_cons, List.not_mem_nil, or_false] at hx
  have hp := h.pc i
  have hr := h.regs i
  rcases hx with (rfl | rfl | rfl | rfl | rfl) | hx
  · omega
  · have := hr 0; omega
  · have := hr 1; omega
  · have := hr 2; omega
  · have := hr 3; omega
  · have := (h.shown i).2 x hx; omega
theorem KInv.heldPos {s : KState} {u : Nat} (h : KInv s u) (j : Nat) : ∀ x ∈ s.held j, 0 ≤ x ∧ x ≤ 9223372036854775807 := fun x hx => by have := (h.held j).2 x hx; omega
/-- The reference's kernel as a value. -/
abbrev rkV (Ap Ao At : Option Addr) (cp co ct n q m t : Nat) (Pp Hp : Option Addr) (cP cH : Nat) : Array Value := #[.slice Ap n cp, .slice Ao q co, .slice At m ct, .int .i64 t, .slice Pp n cP, .slice Hp q cH]

set_option maxHeartbeats 8000000 in
theorem RSave_any {s : KState} {u n q m t cp co ct cP cH : Nat} {Ap Ao At Pp Hp : Option Addr} {w : World} (hP : RowsIn anyB 1 w Pp (partRows s n)) (hH : RowsIn anyB 1 w Hp (heldRows s q)) (hI : KInv s u) (hu : u ≤ 100000) (ht : t ≤ 300) (hn : n ≤ 5) (hq : q ≤ 6) :
    Calls Tryz.prog 15 #[.agg (rkV Ap Ao At cp co ct n q m t Pp Hp cP cH)] w fun e w' => e = .returned (.string ⟨(saveH s t n q).toArray⟩) ∧ Below w.heap.size w w' := by
  have hx := BoxN.new w 30 (rkV Ap Ao At cp co ct n q m t Pp Hp cP cH)
  have hb1 := (Below.refl w.heap.size w).alloc (Nat.le_refl _) (.cells (rkV Ap Ao At cp co ct n q m t Pp Hp cP cH) 30)
  have x3 := hx.cell (k := 3) rfl
  have x4 := hx.cell (k := 4) rfl
  have x5 := hx.cell (k := 5) rfl
  have HP := Lib.hid (hP.below hb1)
  have HH := Lib.hid (hH.below hb1)
  have HI := Lib.hid hI
  have Hl1 := Lib.hid (saveP_len hI hu ht)
  have Hl2 := Lib.hid (fun j => saveH_len (n := n) hI hu ht hn j)
  have D0 := Lib.hid (fun V => Digits_any V t (by omega))
  have hl0 := Lib.itoa_length_le (t : Int) (by omega) (by omega)
  have H0 := Lib.hid (show saveP s t 0 = Lib.itoa (t : Int) ++ [10] from by rw [saveP]; rfl)
  generalize Lib.itoa (t : Int) = it at *
  have hlen0 : ¬ 9223372036854775807 < it.length + 1 := by omega
  clear hP hH hI
  go_enter Tryz.func15, Tryz.ntmps15
  go_wp2_with fail
  refine (D0.out _).mono ?_
  rintro e w' ⟨rfl, rfl⟩
  generalize hw1 : w.alloc (.cells (rkV Ap Ao At cp co ct n q m t Pp Hp cP cH) 30) = w1 at *
  clear hw1 hx D0
  go_wp2_with fail
  go_loopw [3, 4] (fun tx i wr => ∃ k : Nat, k ≤ n ∧ i = .int .i64 k ∧ tx = .string ⟨(saveP s t k).toArray⟩ ∧ wr = w1) (fun _ i _ => n - (intOf i).toNat)
  case atStart => exact ⟨0, Nat.zero_le _, rfl, by rw [H0.out, ← bytes_add], rfl⟩
  case round =>
    obtain ⟨k, hk, rfl, rfl, hwr⟩ := hrel
    have hwr2 : w1 = wr := hwr.symm
    clear hwr
    subst hwr2
    by_cases hlt : k < n
    · obtain ⟨b, off, Ai, ni, ci, rfl, hc, hli, -, hin⟩ := HP.out.get (i := k) (by rw [partRows_len]; exact hlt)
      rw [partRows_get s hlt] at hli hin
      have hl := HI.out.numsPos k
      have C1 := Lib.hid (line_any (c := ci) hin.at_ (by rw [partNums_len]; have := (HI.out.shown k).1; omega) hl)
      have hli' : (partNums (s.parts k)).length = ni := by omega
      rw [hli'] at C1
      have Hst := Lib.hid (show saveP s t (k + 1) = saveP s t k ++ (wordsT (partNums (s.parts k)) ++ [10]) from by rw [← List.append_assoc]; rfl)
      have hlk := Hl1.out k
      have hlk1 := Hl1.out (k + 1)
      rw [Hst.out, List.length_append] at hlk1
      generalize wordsT (partNums (s.parts k)) ++ [10] = ln at *
      generalize hfk : saveP s t k = fk at *
      have Hfk := Lib.hid hfk
      clear hl hin hli hli' hfk
      have hlen : ¬ 9223372036854775807 < fk.length + ln.length := by omega
      go_wp2_with fail
      refine C1.out.mono ?_
      rintro e w' ⟨rfl, rfl⟩
      go_wp2_with fail
      refine ⟨⟨k + 1, ?pa, ?pb, ?pc, trivial⟩, ?pd⟩
      case pa => omega
      case pb => go_num
      case pc => rw [Hst.out, ← bytes_add]
      case pd => simp [intOf]; omega
    obtain rfl : n = k := by omega
    go_wp2_with fail
    clear x4
    go_loopw [3, 5] (fun tx i wr => ∃ k : Nat, k ≤ q ∧ i = .int .i64 k ∧ tx = .string ⟨(saveH s t n k).toArray⟩ ∧ wr = w1) (fun _ i _ => q - (intOf i).toNat)
    case atStart => exact ⟨0, Nat.zero_le _, rfl, rfl, rfl⟩
    case round =>
      obtain ⟨k, hk, rfl, rfl, hwr⟩ := hrel
      have hwr2 : w1 = wr := hwr.symm
      clear hwr
      subst hwr2
      by_cases hlt : k < q
      · obtain ⟨b, off, Ai, ni, ci, rfl, hc, hli, -, hin⟩ := HH.out.get (i := k) (by rw [heldRows_len]; exact hlt)
        rw [heldRows_get s hlt] at hli hin
        have hl := HI.out.heldPos k
        have C1 := Lib.hid (line_any (c := ci) hin.at_ (by have := (HI.out.held k).1; omega) hl)
        have hli' : (s.held k).length = ni := by omega
        rw [hli'] at C1
        have Hst := Lib.hid (show saveH s t n (k + 1) = saveH s t n k ++ (wordsT (s.held k) ++ [10]) from by rw [← List.append_assoc]; rfl)
        have hlk := Hl2.out k
        have hlk1 := Hl2.out (k + 1)
        rw [Hst.out, List.length_append] at hlk1
        generalize wordsT (s.held k) ++ [10] = ln at *
        generalize hfk : saveH s t n k = fk at *
        have Hfk := Lib.hid hfk
        clear hl hin hli hli' hfk
        have hlen : ¬ 9223372036854775807 < fk.length + ln.length := by omega
        go_wp2_with fail
        refine C1.out.mono ?_
        rintro e w' ⟨rfl, rfl⟩
        go_wp2_with fail
        refine ⟨⟨k + 1, ?az, ?bz, ?cz, trivial⟩, ?dz⟩
        case az => omega
        case bz => go_num
        case cz => rw [Hst.out, ← bytes_add]
        case dz => simp [intOf]; omega
      have hkn : k = q := by omega
      subst hkn
      go_wp2_with fail
      go_ret
      exact ⟨rfl, hb1⟩
end Go.Proofs.YtanlmfnhlldkeaaGreatDoor
