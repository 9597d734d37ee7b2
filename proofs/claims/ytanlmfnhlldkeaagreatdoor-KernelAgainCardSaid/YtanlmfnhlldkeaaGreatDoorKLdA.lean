/-
  Contract: kernel.numbers.
-/
import Derived.Test.YtanlmfnhlldkeaaGreatDoorKLdN
import Derived.Test.YtanlmfnhlldkeaaGreatDoorTrF
import Derived.Test.YtanlmfnhlldkeaaGreatDoorRowsA
namespace Go.Proofs.YtanlmfnhlldkeaaGreatDoor
open Go.RowKit
set_option maxRecDepth 100000
set_option linter.unusedVariables false

theorem rowK_cut {x : List UInt8} (h : x ≠ []) : rowK x = wordsK (cutL 32 x) := if_neg h
theorem take_succ_getD {α : Type} {l : List α} {k : Nat} {x : α} (h : l[k]? = some x) : l.take (k + 1) = l.take k ++ [x] := by
  rw [List.take_add_one, h]; rfl
theorem split_at {α : Type} : ∀ {l : List α} {k : Nat} {x : α}, l[k]? = some x → l = l.take k ++ x :: l.drop (k + 1)
  | y :: l, 0, x, h => by injection h with h; subst h; rfl
  | y :: l, k + 1, x, h => by
    have := split_at (l := l) (k := k) (by simpa using h)
    rw [List.take_succ_cons, List.cons_append, List.drop_succ_cons, ← this]
theorem OwnI.low {w : World} {base b0 : Nat} {v : Value} {xs : List Int} (h : OwnI w base v xs) (hb : b0 ≤ base) : OwnI w b0 v xs := by
  have h' : w.ownsRow base 3 1 v xs.length (xs.map (.int .i64)) := h
  refine ⟨h'.1, ?_⟩
  rcases h'.2 with h0 | ⟨g, cap, cur, hv, hg, r⟩
  · exact .inl h0
  · exact .inr ⟨g, cap, cur, hv, Nat.le_trans hb hg, r⟩
/-- What numbers hands on. -/
def NumsK (B : Nat) (r : Except Nat (List Int)) (e : Ending) (w' : World) : Prop := match r with
  | .ok l => ∃ A c, e = .returned (.tuple #[.slice A l.length c, .nilIface]) ∧ OwnI w' B (.slice A l.length c) l
  | .error k => e = .returned (.tuple #[.slice none 0 0, .iface 63 (.int .i64 k)])
set_option maxHeartbeats 8000000 in
theorem NumsK_any {W0 w : World} (hG : Glob W0) (hbW : Below W0.heap.size W0 w) (s : ByteArray) (hs : s.size ≤ 1000000) :
    Calls Tryz.prog 30 #[.string s] w fun e w' => NumsK w.heap.size (rowK s.data.toList) e w' ∧ Below w.heap.size w w' := by
  by_cases hs0 : s.size = 0
  · obtain rfl : s = ⟨#[]⟩ := ByteArray.ext (Array.size_eq_zero_iff.1 hs0)
    clear hs0
    go_enter Tryz.func30, Tryz.ntmps30
    go_wp2_with fail
    go_ret2
    exact ⟨⟨none, 0, rfl, OwnI.nil _ _⟩, Below.refl _ _⟩
  have hne : s.data.toList ≠ [] := fun e => hs0 (by rw [ba_size, e]; rfl)
  have HRow := Lib.hid (rowK_cut hne)
  have e0 : ¬ s.toList = [] := fun e => hne (by rw [← Lib.toList_data]; exact e)
  have e1 : (s.toList == []) = false := beq_eq_false_iff_ne.2 e0
  have CS := Split_one 32 s (by omega) w
  have hcut := cutB_map 32 s
  have hnq : (cutB 32 s).length ≤ 1000001 := by
    have h1 := Lib.countB_le ⟨#[32]⟩ (Nat.le_refl 1) s.size s (Nat.le_refl _)
    rw [cutB_length]; omega
  have hpc : ∀ x ∈ cutB 32 s, x.size ≤ 1000000 := fun x hx => by
    have h1 : x.data.toList ∈ cutL 32 s.data.toList := by rw [← hcut]; exact List.mem_map_of_mem hx
    have h2 := cutL_le' 32 h1
    rw [← ba_size, ← ba_size] at h2
    omega
  rw [← hcut] at HRow
  generalize cutB 32 s = ws at *
  obtain ⟨q, hqq⟩ : ∃ q, ws.length = q := ⟨_, rfl⟩
  obtain ⟨w1, hw1⟩ : ∃ w1, w.alloc (.cells (ws.map Value.string).toArray 9) = w1 := ⟨_, rfl⟩
  have hb1 : Below w.heap.size w w1 := by rw [← hw1]; exact (Below.refl _ _).alloc (Nat.le_refl _) _
  have hbx : BoxN w1 w.heap.size 9 (ws.map Value.string).toArray := by rw [← hw1]; exact BoxN.new w _ _
  have Hc := Lib.hid (fun j x (hx : ws[j]? = some x) => (show w1.cell? ⟨w.heap.size, j, none⟩ = some (.string x) from hbx.cell (by simp [hx])))
  rw [hw1, hqq] at CS
  have CS := Lib.hid CS
  have Hq := Lib.hid hqq
  have Hpc := Lib.hid hpc
  have Hb1 := Lib.hid hb1
  rw [hqq] at hnq
  clear hqq hpc hb1 hbx hcut hne hs0
  go_enter Tryz.func30, Tryz.ntmps30
  go_wp2_with fail
  with_reducible refine CS.out.mono ?_
  rintro e w9 ⟨rfl, hw9⟩
  obtain rfl : w1 = w9 := hw9.symm
  clear hw9 CS
  go_wp2_with fail
  go_loopw [4, 6, 7, 8, 14] (fun v4 _ _ _ i wr => ∃ (k : Nat) (l : List Int) (A : Option Addr) (cc : Nat), k ≤ q ∧ l.length = k ∧ v4 = .slice A k cc ∧ i = .int .i64 k ∧ Hid (wordsK ((ws.map (·.data.toList)).take k) = .ok l) ∧ Hid (OwnI wr w1.heap.size (.slice A k cc) l) ∧ Hid (Below w.heap.size w wr) ∧ Hid (Below w1.heap.size w1 wr)) (fun _ _ _ _ i _ => q - (intOf i).toNat)
  case atStart => exact ⟨0, [], none, 0, Nat.zero_le _, rfl, rfl, rfl, Lib.hid rfl, Lib.hid (OwnI.nil _ _), Hb1, Lib.hid (Below.refl _ _)⟩
  case round =>
    obtain ⟨k, l, A, cc, hk, hlk, rfl, rfl, hall, hown, hb, hb1r⟩ := hrel
    by_cases hlt : k < q
    · obtain ⟨x, hx⟩ : ∃ x, ws[k]? = some x := ⟨_, List.getElem?_eq_getElem (by rw [Hq.out]; exact hlt)⟩
      have hM : (ws.map (·.data.toList))[k]? = some x.data.toList := by rw [List.getElem?_map, hx]; rfl
      have cx : wr.cell? ⟨w.heap.size, k, none⟩ = some (.string x) := (hb1r.out.cell (p := ⟨w.heap.size, k, none⟩) (block_lt (Hc.out k x hx))).trans (Hc.out k x hx)
      have hxs := Hpc.out x (List.mem_of_getElem? hx)
      have hV : Below W0.heap.size W0 wr := hbW.trans (hb.out.mono hbW.size)
      have Hsp := Lib.hid (split_at hM)
      have Htk := Lib.hid (take_succ_getD hM)
      have CW := Lib.hid (Word_any hG x (by omega) hV)
      have Hal := Lib.hid hall.out
      clear hx hM hall
      go_wp2_with fail
      with_reducible refine CW.out.mono ?_
      rintro e w5 ⟨hw, hb5⟩
      have Hb5 := Lib.hid (hb.out.trans (hb5.mono hb.out.size))
      have Hb15 := Lib.hid (hb1r.out.trans (hb5.mono hb1r.out.size))
      have HI := Lib.hid (fun (n : Nat) (hn : n ≤ 9223372036854775807) => hG.itoa (hbW.trans (Hb5.out.mono hbW.size)) n hn)
      have Ho5 := Lib.hid (hown.out.next hb5)
      have HB := Lib.hid (fun c (hc : (numV x.data.toList = none ∧ c = 2) ∨ ∃ n, numV x.data.toList = some n ∧ 999999 < n ∧ c = 1) => show rowK s.data.toList = .error c by rw [HRow.out, Hsp.out]; exact wordsK_bad _ Hal.out hc)
      clear CW cx hb5 hb hown hb1r hV
      cases hw with
      | num n hn he =>
        subst he
        have hn63 := (numV_some hn).1
        have f0 : decide ((n : Int) < 0) = false := by simp
        have hit : (⟨(Lib.itoa (n : Int)).toArray⟩ : ByteArray) = x := ba_ext (by rw [ba_of]; exact (numV_some hn).2)
        have Q := HI.out n (by omega)
        rw [hit] at Q
        replace Q := Lib.hid Q
        by_cases h6 : n ≤ 999999
        · have f6 : decide ((n : Int) > 999999) = false := by simp; omega
          have Hall := Lib.hid (show wordsK ((ws.map (·.data.toList)).take (k + 1)) = .ok (l ++ [(n : Int)]) by rw [Htk.out]; exact wordsK_snoc Hal.out hn h6)
          have hl40 : l.length < 2 ^ 40 := by omega
          have Hlk := Lib.hid (show (l ++ [(n : Int)]).length = k + 1 by rw [List.length_append, hlk]; rfl)
          have Hll := Lib.hid (show l.length + 1 = k + 1 by rw [hlk])
          clear hit hn HI HB
          go_wp2_with fail
          with_reducible refine Q.out.mono ?_
          rintro e w6 ⟨rfl, hb6⟩
          have ho6 := Ho5.out.next hb6
          have Hb6 := Lib.hid (Hb5.out.trans (hb6.mono Hb5.out.size))
          have Hb16 := Lib.hid (Hb15.out.trans (hb6.mono Hb15.out.size))
          have hs6 := Hb16.out.size
          clear hb6 Q
          go_wp2_with (at_builtin; refine wpList_push_int rfl _ _ rfl rfl (ho6.next ((Below.refl _ _).alloc (Nat.le_refl _) _)) _ (n : Int) rfl (cell_of_row _ _ 0 _ _ _ (heap_alloc_new _ _)) hl40 (by simp; omega) ?_; intro u1 w7 hown7 hgr7 hblk7 hbl7; obtain ⟨A1, k1, rfl, -⟩ := hown7.form; rw [Hlk.out] at hown7 ⊢; have hb17 := hbl7 w1 (Hb16.out.alloc hs6 _); have hb7 := Hb1.out.trans (hb17.mono Hb1.out.size))
          refine ⟨⟨k + 1, l ++ [(n : Int)], A1, k1, ?ya, Hlk.out, rfl, ?yb, Hall, Lib.hid hown7, Lib.hid hb7, Lib.hid hb17⟩, ?yd⟩
          case ya => omega
          case yb => go_num
          case yd => simp [intOf]; omega
        · have f6 : decide ((n : Int) > 999999) = true := by simp; omega
          have HBad := Lib.hid (HB.out 1 (.inr ⟨n, hn, by omega, rfl⟩))
          clear hit hn HI HB
          go_wp2_with fail
          with_reducible refine Q.out.mono ?_
          rintro e w6 ⟨rfl, hb6⟩
          have Hb6 := Lib.hid (Hb5.out.trans (hb6.mono Hb5.out.size))
          clear Q
          go_wp2_with fail
          go_ret2
          exact ⟨by rw [HBad.out]; exact rfl, Hb6.out⟩
      | neg z hn hz he =>
        subst he
        have f0 : decide (z < 0) = true := by simp; omega
        have HBad := Lib.hid (HB.out 2 (.inl ⟨hn, rfl⟩))
        clear hn HI HB
        go_wp2_with fail
        go_ret2
        exact ⟨by rw [HBad.out]; exact rfl, Hb5.out⟩
      | odd n hn h63 hx' he =>
        subst he
        have f0 : decide ((n : Int) < 0) = false := by simp
        have HBad := Lib.hid (HB.out 2 (.inl ⟨hn, rfl⟩))
        obtain ⟨y, hy⟩ : ∃ y : ByteArray, (⟨(Lib.itoa (n : Int)).toArray⟩ : ByteArray) = y := ⟨_, rfl⟩
        have hyx : ¬ y.toList = x.toList := fun e => hx' (by rw [Lib.toList_data, Lib.toList_data] at e; rw [← e, ← hy, ba_of])
        have hyb : (y.toList == x.toList) = false := beq_eq_false_iff_ne.2 hyx
        have Q := HI.out n (by omega)
        rw [hy] at Q
        replace Q := Lib.hid Q
        clear hn HI HB hx' hy
        go_wp2_with (go_at_call 52; with_reducible refine Q.out.mono ?_; rintro e w6 ⟨rfl, hb6⟩)
        go_ret2
        exact ⟨by rw [HBad.out]; exact rfl, Hb5.out.trans (hb6.mono Hb5.out.size)⟩
      | bad hn z t p he =>
        subst he
        have HBad := Lib.hid (HB.out 2 (.inl ⟨hn, rfl⟩))
        clear hn HI HB
        go_wp2_with fail
        go_ret2
        exact ⟨by rw [HBad.out]; exact rfl, Hb5.out⟩
    · have hkq : k = q := by omega
      have HOk := Lib.hid (show rowK s.data.toList = .ok l by rw [HRow.out, ← hall.out, List.take_of_length_le (by rw [List.length_map, Hq.out]; omega)])
      clear hlt hall
      go_wp2_with fail
      go_ret2
      refine ⟨by rw [HOk.out]; exact ⟨A, cc, by rw [hlk]; rfl, by rw [hlk]; exact hown.out.low Hb1.out.size⟩, hb.out⟩
end Go.Proofs.YtanlmfnhlldkeaaGreatDoor
