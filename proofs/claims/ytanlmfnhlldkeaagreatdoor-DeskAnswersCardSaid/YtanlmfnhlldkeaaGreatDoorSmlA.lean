/-
  Contract: quietwingref5.link.
  Contract: quietwingref1.Mask.
  What is told of one that is there; labels that are right.
  Contract: quietwingref1.in.
  Contract: quietwingref1.Within.
  Contracts of the reference: Label, Below.
  Contract: the reference's set.
  Words: slices of ints that lie where they may; a result that lies in a row. No program is looked at.
  Contracts of the reference: Both, Either, Mask.
-/
import Derived.Test.YtanlmfnhlldkeaaGreatDoorBaseA
import Derived.Test.YtanlmfnhlldkeaaGreatDoorRowsA
import Derived.Laws.ResultCell
import Derived.Laws.Rows
namespace Go.Proofs.YtanlmfnhlldkeaaGreatDoor
open Go.RowKit
set_option maxRecDepth 100000
set_option linter.unusedVariables false

theorem rt_of (l : List UInt8) : (⟨l.toArray⟩ : ByteArray).data.toList = l := List.toList_toArray
theorem rt_size (s : ByteArray) : s.size = s.data.toList.length := (Array.length_toList ..).symm
theorem wsum_drop {l : List UInt8} {k : Nat} (h : k < l.length) : wsum (l.drop k) k = (k + 1) * (l.getD k 0).toNat + wsum (l.drop (k + 1)) (k + 1) := by
  rw [List.drop_eq_getElem_cons h, wsum, List.getD_eq_getElem?_getD, List.getElem?_eq_getElem h]
  rfl
theorem wrap_mul {j x y : Nat} (h : (j + 1) * x = y) (hy : y ≤ 25600000) : wrap64 (((j : Int) + 1) * (x : Int)) = (y : Int) ∧ IntKind.i64.wrap (((j : Int) + 1) * (x : Int)) = (y : Int) := by
  have e : ((j : Int) + 1) * (x : Int) = (y : Int) := by rw [← h]; push_cast; rfl
  rw [e]
  clear h e
  exact ⟨by unfold wrap64; omega, (IntKind.wrap_i64 _).trans (by omega)⟩
set_option maxHeartbeats 4000000 in
theorem RLink_any {c : Nat} {s : ByteArray} (hc : c < 9973) (hs : s.size ≤ 100000) (w : World) :
    Calls Tryz.prog 125 #[.int .i64 c, .string s] w fun e w' => e = .returned (.int .i64 (linkV c s.data.toList : Nat)) ∧ w = w' := by
  have hsz : s.data.toList.length = s.size := Array.length_toList ..
  have Hle := Lib.hid (fun k => wsum_le (s.data.toList.drop k) k)
  have Hlk := Lib.hid (show linkV c s.data.toList = (c * 31 + wsum s.data.toList 0) % 9973 from rfl)
  have Hget := Lib.hid (fun k (hk : k < s.size) => show (s.data.toList.getD k 0) = s[k]'hk by rw [List.getD_eq_getElem?_getD, Array.getElem?_toList, Array.getElem?_eq_getElem hk]; rfl)
  rw [Hlk.out]
  have Hs := Lib.hid (fun k (hk : k < s.size) => wsum_drop (l := s.data.toList) (k := k) (by omega))
  have w1 : IntKind.i64.wrap (31 * (c : Int)) = ((c * 31 : Nat) : Int) := (IntKind.wrap_i64 _).trans (by push_cast; omega)
  have w2 : wrap64 (31 * (c : Int)) = ((c * 31 : Nat) : Int) := by unfold wrap64; push_cast; omega
  have w3 : IntKind.i64.wrap ((s.size : Int) - 1) = (s.size : Int) - 1 := (IntKind.wrap_i64 _).trans (by omega)
  have w4 : wrap64 ((s.size : Int) - 1) = (s.size : Int) - 1 := by unfold wrap64; omega
  have h31 : c * 31 ≤ 309163 := by omega
  obtain ⟨l, hl⟩ : ∃ l, s.data.toList = l := ⟨_, rfl⟩
  simp only [hl] at Hle Hget Hs hsz
  rw [hl]
  clear hl Hlk
  replace hsz := Lib.hid hsz
  obtain ⟨c31, hc31⟩ : ∃ x, c * 31 = x := ⟨_, rfl⟩
  rw [hc31] at w1 w2 h31 ⊢
  clear hc31
  go_enter Tryz.func125, Tryz.ntmps125
  go_wp2_with fail
  clear w1 w2 w3 w4
  go_loopw [5, 6] (fun nv i wr => ∃ (k S : Nat), k ≤ s.size ∧ i = .int .i64 ((k : Int) - 1) ∧ nv = .int .i64 (S : Nat) ∧ Hid (S = c31 + wsum (l.drop k) k) ∧ wr = w) (fun _ i _ => (intOf i + 1).toNat)
  case atStart => exact ⟨s.size, c31, Nat.le_refl _, rfl, rfl, Lib.hid (by rw [List.drop_of_length_le (by have := hsz.out; omega), wsum, Nat.add_zero]), rfl⟩
  case round =>
    obtain ⟨k, S, hk, rfl, rfl, hS, hwr⟩ := hrel
    have hwr2 : w = wr := hwr.symm
    clear hwr
    subst hwr2
    have hS0 : S ≤ 6000000000000 := by
      have h1 := Hle.out k
      have h2 : (l.drop k).length ≤ 100000 := by rw [List.length_drop]; have := hsz.out; omega
      have h3 := hS.out
      have h4 : (l.drop k).length * ((k + (l.drop k).length) * 255) ≤ 100000 * (200000 * 255) := Nat.mul_le_mul h2 (by omega)
      omega
    rcases k with _ | j
    · have hfin := Lib.hid (show S = c31 + wsum l 0 from hS.out)
      have d0 : decide ((((0 : Nat) : Int) - 1) ≥ 0) = false := by simp
      have w5 : (S : Int).tmod 9973 = ((S % 9973 : Nat) : Int) := by rw [Int.tmod_eq_emod_of_nonneg (by omega)]; rfl
      go_wp2_with fail
      go_ret
      refine ⟨?_, rfl⟩
      rw [← hfin.out]
      rfl
    · have hks : j < s.size := by omega
      have hgj := Hget.out j hks
      obtain ⟨x, hx⟩ : ∃ x : Nat, (s[j]'hks).toNat = x := ⟨_, rfl⟩
      have hx256 : x < 256 := by rw [← hx]; exact (s[j]'hks).toNat_lt
      have hstep := Hs.out j hks
      rw [hgj, hx] at hstep
      obtain ⟨y, hy⟩ : ∃ y, (j + 1) * x = y := ⟨_, rfl⟩
      rw [hy] at hstep
      have hS1 := Lib.hid (show S + y = c31 + wsum (l.drop j) j by rw [hstep, hS.out]; omega)
      have hp2 : (j + 1) * x ≤ 100000 * 256 := Nat.mul_le_mul (by omega) (by omega)
      rw [hy] at hp2
      replace hp2 : y ≤ 25600000 := hp2
      obtain ⟨hw1, hw2⟩ := wrap_mul hy hp2
      clear hstep hgj
      have hsub : (((j + 1 : Nat) : Int) - 1) = (j : Int) := by omega
      rw [hsub]
      have d0 : decide ((j : Int) ≥ 0) = true := by simp
      have n0 : (0 : Int) ≤ (j : Int) := by omega
      clear hy hS
      go_wp2_with fail
      refine ⟨⟨j, S + y, ?ya, ?yb, ?yc, hS1, trivial⟩, ?yd⟩
      case ya => omega
      case yb => go_num
      case yc => go_num
      case yd => simp [intOf]
end Go.Proofs.YtanlmfnhlldkeaaGreatDoor

namespace Go.Proofs.YtanlmfnhlldkeaaGreatDoor
open Go.RowKit
set_option maxRecDepth 100000

theorem RMask_any (s : Int) (n : Nat) (w : World) (hn : n < 60) :
    Calls Tryz.prog 171 #[.int .i64 s, .int .i64 n] w fun e w' => e = .returned (.bool (decide (0 ≤ s ∧ s < ((2 ^ n : Nat) : Int)))) ∧ w = w' := by
  have H := Lib.hid (Pow2_any n w hn)
  generalize 2 ^ n = m at *
  by_cases h0 : 0 ≤ s
  · go_enter Tryz.func171, Tryz.ntmps171
    go_wp2_with (go_at_call 124; with_reducible refine H.out.mono ?_; rintro e w' ⟨rfl, rfl⟩)
    go_ret
    exact ⟨ret_bool (by simp [h0]), rfl⟩
  · go_enter Tryz.func171, Tryz.ntmps171
    go_wp2
    go_ret
    exact ⟨ret_bool (by simp; omega), rfl⟩
theorem RMask_is (s : Int) (n : Nat) (b : Bool) (w : World) (hn : n < 60) (hb : decide (0 ≤ s ∧ s < ((2 ^ n : Nat) : Int)) = b) :
    Calls Tryz.prog 171 #[.int .i64 s, .int .i64 n] w fun e w' => e = .returned (.bool b) ∧ w = w' := by
  subst hb; exact RMask_any s n w hn
end Go.Proofs.YtanlmfnhlldkeaaGreatDoor

namespace Go.Proofs.YtanlmfnhlldkeaaGreatDoor
set_option linter.unusedVariables false
end Go.Proofs.YtanlmfnhlldkeaaGreatDoor

namespace Go.Proofs.YtanlmfnhlldkeaaGreatDoor
open Go.RowKit

theorem Rin_any (n a b : Int) (V : World) : Calls Tryz.prog 153 #[.int .i64 n, .int .i64 a, .int .i64 b] V fun e w' => e = .returned (.bool (decide (a ≤ n) && decide (n ≤ b))) ∧ V = w' := by
  by_cases h : a ≤ n
  · have d : decide (a ≤ n) = true := by simpa using h
    have d' : decide (n ≥ a) = true := by simpa using h
    go_enter Tryz.func153, Tryz.ntmps153
    go_wp2
    go_ret
    exact ⟨by rw [d]; rfl, rfl⟩
  · have d : decide (a ≤ n) = false := by simpa using h
    have d' : decide (n ≥ a) = false := by simpa using h
    go_enter Tryz.func153, Tryz.ntmps153
    go_wp2
    go_ret
    exact ⟨rfl, rfl⟩
theorem Rin_is (n a b : Int) (t : Bool) (V : World) (h : (decide (a ≤ n) && decide (n ≤ b)) = t) : Calls Tryz.prog 153 #[.int .i64 n, .int .i64 a, .int .i64 b] V fun e w' => e = .returned (.bool t) ∧ V = w' := by
  subst h; exact Rin_any n a b V
end Go.Proofs.YtanlmfnhlldkeaaGreatDoor

namespace Go.Proofs.YtanlmfnhlldkeaaGreatDoor
open Go.RowKit

set_option maxHeartbeats 400000 in
theorem Within_any (a b : Nat) (w : World) (ha : a < 2 ^ 62) (hb : b < 2 ^ 62) :
    Calls Tryz.prog 172 #[.int .i64 a, .int .i64 b] w fun e w' => e = .returned (.bool (within a b)) ∧ w = w' := by
  go_enter Tryz.func172, Tryz.ntmps172
  go_wp2
  go_loop [0, 1] (fun x y => ∃ c d : Nat, c ≤ a ∧ d ≤ b ∧ x = .int .i64 c ∧ y = .int .i64 d ∧ within a b = within c d) (fun x _ => (intOf x).toNat)
  case atStart => exact ⟨a, b, Nat.le_refl _, Nat.le_refl _, rfl, rfl, rfl⟩
  case round =>
    obtain ⟨c, d, hc, hd, rfl, rfl, he⟩ := hrel
    have He := Lib.hid he
    clear he
    by_cases hz : 0 < c
    · have Hs := Lib.hid (within_step c d)
      by_cases h1 : ((c : Int) % 2 == 1) = true
      · by_cases h2 : ((d : Int) % 2 == 0) = true
        · go_wp2
          go_ret
          refine ⟨ret_bool ?_, rfl⟩
          rw [He.out, Hs.out]
          have e1 : c % 2 = 1 := by have := beq_iff_eq.1 h1; omega
          have e2 : d % 2 = 0 := by have := beq_iff_eq.1 h2; omega
          simp [e1, e2]
        · go_wp2
          refine ⟨⟨c / 2, d / 2, by omega, by omega, by go_num, by go_num, ?_⟩, by simp [intOf]; omega⟩
          rw [He.out, Hs.out]
          have e2 : d % 2 = 1 := by have := mt beq_iff_eq.2 h2; omega
          simp [e2]
      · go_wp2
        refine ⟨⟨c / 2, d / 2, by omega, by omega, by go_num, by go_num, ?_⟩, by simp [intOf]; omega⟩
        rw [He.out, Hs.out]
        have e2 : c % 2 = 0 := by have := mt beq_iff_eq.2 h1; omega
        simp [e2]
    · obtain rfl : c = 0 := by omega
      go_wp2
      go_ret
      exact ⟨ret_bool (by rw [He.out, within_zero]), rfl⟩
theorem Within_is (x y : Nat) (b : Bool) (w : World) (ha : x < 2 ^ 62) (hb : y < 2 ^ 62) (h : within x y = b) :
    Calls Tryz.prog 172 #[.int .i64 x, .int .i64 y] w fun e w' => e = .returned (.bool b) ∧ w = w' := by
  subst h; exact Within_any x y w ha hb
end Go.Proofs.YtanlmfnhlldkeaaGreatDoor

namespace Go.Proofs.YtanlmfnhlldkeaaGreatDoor
open Go.RowKit
set_option maxRecDepth 100000
set_option linter.unusedVariables false

theorem RLabel_any (v s : Int) (w : World) {r : Nat} (hr : (if labOk v s then 0 else 1) = r) :
    Calls Tryz.prog 152 #[.agg #[.int .i64 v, .int .i64 s]] w fun e w' => e = .returned (.int .i64 r) ∧ Below w.heap.size w w' := by
  by_cases h1 : 0 ≤ v ∧ v ≤ 7
  · have C1 := Lib.hid (fun V => Rin_is v 0 7 true V (by simp; omega))
    by_cases h2 : 0 ≤ s ∧ s < 256
    · have C2 := Lib.hid (fun V => RMask_is s 8 true V (by decide) (decide_eq_true ⟨h2.1, by have := h2.2; omega⟩))
      rw [if_pos ⟨h1.1, h1.2, h2.1, h2.2⟩] at hr
      subst hr
      clear h1 h2
      go_enter Tryz.func152, Tryz.ntmps152
      go_wp2_with (first | (go_at_call 153; with_reducible refine (C1.out _).mono ?_; rintro e w' ⟨rfl, rfl⟩) | (go_at_call 171; refine (C2.out _).mono ?_; rintro e w' ⟨rfl, rfl⟩))
      go_ret
      exact ⟨ret_int (by simp), (Below.refl _ _).alloc (Nat.le_refl _) _⟩
    · have C2 := Lib.hid (fun V => RMask_is s 8 false V (by decide) (decide_eq_false fun e => h2 ⟨e.1, by have := e.2; omega⟩))
      rw [if_neg (fun e => h2 ⟨e.2.2.1, e.2.2.2⟩)] at hr
      subst hr
      clear h1 h2
      go_enter Tryz.func152, Tryz.ntmps152
      go_wp2_with (first | (go_at_call 153; with_reducible refine (C1.out _).mono ?_; rintro e w' ⟨rfl, rfl⟩) | (go_at_call 171; refine (C2.out _).mono ?_; rintro e w' ⟨rfl, rfl⟩))
      go_ret
      exact ⟨ret_int (by simp), (Below.refl _ _).alloc (Nat.le_refl _) _⟩
  · have C1 := Lib.hid (fun V => Rin_is v 0 7 false V (by simp; omega))
    rw [if_neg (fun e => h1 ⟨e.1, e.2.1⟩)] at hr
    subst hr
    clear h1
    go_enter Tryz.func152, Tryz.ntmps152
    go_wp2_with (go_at_call 153; with_reducible refine (C1.out _).mono ?_; rintro e w' ⟨rfl, rfl⟩)
    go_ret
    exact ⟨rfl, (Below.refl _ _).alloc (Nat.le_refl _) _⟩
theorem RBelow_any (v v' : Int) (s s' : Int) (hs : 0 ≤ s ∧ s < 256) (hs' : 0 ≤ s' ∧ s' < 256) (w : World) {r : Bool} (hr : (decide (v ≤ v') && within s.toNat s'.toNat) = r) :
    Calls Tryz.prog 154 #[.agg #[.int .i64 v, .int .i64 s], .agg #[.int .i64 v', .int .i64 s']] w fun e w' => e = .returned (.bool r) ∧ Below w.heap.size w w' := by
  obtain ⟨sn, rfl⟩ := Int.eq_ofNat_of_zero_le hs.1
  obtain ⟨sn', rfl⟩ := Int.eq_ofNat_of_zero_le hs'.1
  simp only [Int.toNat_natCast] at hr
  by_cases hv : v ≤ v'
  · have Hw := Lib.hid (fun V => Within_is sn sn' r V (by omega) (by omega) (by rw [← hr]; simp [hv]))
    have d : decide (v ≤ v') = true := by simpa using hv
    clear hr hs hs'
    go_enter Tryz.func154, Tryz.ntmps154
    go_wp2_with (go_at_call 172; with_reducible refine (Hw.out _).mono ?_; rintro e w' ⟨rfl, rfl⟩)
    go_ret
    exact ⟨rfl, ((Below.refl _ _).alloc (Nat.le_refl _) _).alloc (by simp) _⟩
  · have d : decide (v ≤ v') = false := by simpa using hv
    obtain rfl : r = false := by rw [← hr, d]; rfl
    clear hr hs hs'
    go_enter Tryz.func154, Tryz.ntmps154
    go_wp2_with fail
    go_ret
    exact ⟨rfl, ((Below.refl _ _).alloc (Nat.le_refl _) _).alloc (by simp) _⟩
end Go.Proofs.YtanlmfnhlldkeaaGreatDoor

namespace Go.Proofs.YtanlmfnhlldkeaaGreatDoor
open Go.RowKit
set_option maxRecDepth 100000
set_option linter.unusedVariables false

set_option maxHeartbeats 1000000 in
theorem Rset_any (l : List Int) (i : Nat) (x : Int) (A : Option Addr) (c : Nat) (w : World) (h : IntsAt w A l) (hl : l.length ≤ 100) :
    Calls Tryz.prog 155 #[.slice A l.length c, .int .i64 i, .int .i64 x] w fun e w' => (∃ A' c', e = .returned (.slice A' (l.set i x).length c') ∧ IntsAt w' A' (l.set i x) ∧ (l ≠ [] → ∃ g, A' = some ⟨g, 0, none⟩ ∧ w.heap.size ≤ g ∧ OwnAt w' g 3 (vI (l.set i x)))) ∧ Below w.heap.size w w' := by
  generalize hn : l.length = n at *
  have Hn := Lib.hid hn
  clear hn
  go_enter Tryz.func155, Tryz.ntmps155
  go_wp2
  go_loopw [7, 8] (fun o k wr => ∃ j : Nat, j ≤ n ∧ k = .int .i64 j ∧ OwnI wr w.heap.size o ((l.set i x).take j) ∧ Below w.heap.size w wr) (fun _ k _ => n - (intOf k).toNat)
  case atStart => exact ⟨0, Nat.zero_le _, rfl, OwnI.nil _ _, Below.refl _ _⟩
  case round =>
    obtain ⟨j, hj, rfl, hown, hbw⟩ := hrel
    have hA := h.below hbw
    by_cases hlt : j < n
    · obtain ⟨b, off, y, rfl, hy, hc⟩ := hA.at_ (k := j) (by have := Hn.out; omega)
      have hlen : ((l.set i x).take j).length < 2 ^ 40 := by rw [List.length_take]; omega
      have hjl : j < (l.set i x).length := by rw [List.length_set]; have := Hn.out; omega
      by_cases hij : j = i
      · subst hij
        have Hnx := Lib.hid (show (l.set j x).take j ++ [x] = (l.set j x).take (j + 1) by
          rw [List.take_add_one, List.getElem?_set_self (by simpa using hjl)]; rfl)
        generalize (l.set j x).take j = xs at *
        clear hy
        go_wp2_with (at_builtin; refine wpList_push_int rfl _ _ rfl rfl (hown.next ((Below.refl _ _).alloc (Nat.le_refl _) _)) _ x rfl (cell_of_row _ _ 0 _ _ _ (heap_alloc_new _ _)) hlen (by have := hbw.size; simp; omega) ?_; intro v' w' hown' _ _ hbl)
        have hb' := hbl w (hbw.alloc hbw.size _)
        clear hbl
        go_wp2
        refine ⟨⟨j + 1, ?wa, ?wb, ?wc, hb'⟩, ?wd⟩
        case wa => omega
        case wb => go_num
        case wc => rw [← Hnx.out]; exact hown'
        case wd => simp [intOf]; omega
      · have Hnx := Lib.hid (show (l.set i x).take j ++ [y] = (l.set i x).take (j + 1) by
          rw [List.take_add_one, List.getElem?_set_ne (fun e => hij e.symm), hy]; rfl)
        have dj : decide ((j : Int) = i) = false := by simp; omega
        generalize (l.set i x).take j = xs at *
        clear hy
        go_wp2_with (at_builtin; refine wpList_push_int rfl _ _ rfl rfl (hown.next ((Below.refl _ _).alloc (Nat.le_refl _) _)) _ y rfl (cell_of_row _ _ 0 _ _ _ (heap_alloc_new _ _)) hlen (by have := hbw.size; simp; omega) ?_; intro v' w' hown' _ _ hbl)
        have hb' := hbl w (hbw.alloc hbw.size _)
        clear hbl
        go_wp2
        refine ⟨⟨j + 1, ?va, ?vb, ?vc, hb'⟩, ?vd⟩
        case va => omega
        case vb => go_num
        case vc => rw [← Hnx.out]; exact hown'
        case vd => simp [intOf]; omega
    · obtain rfl : j = n := by omega
      have e : (l.set i x).take j = l.set i x := List.take_of_length_le (by rw [List.length_set]; have := Hn.out; omega)
      rw [e] at hown
      obtain ⟨B, cc, rfl, hi⟩ := hown.form
      have how : l ≠ [] → ∃ g, B = some ⟨g, 0, none⟩ ∧ w.heap.size ≤ g ∧ OwnAt wr g 3 (vI (l.set i x)) := fun hne => OwnAt.of_owns hown (by rw [List.length_set]; exact List.length_pos_iff.2 hne)
      go_wp2
      go_ret
      exact ⟨⟨B, cc, rfl, hi, how⟩, hbw⟩
end Go.Proofs.YtanlmfnhlldkeaaGreatDoor

namespace Go.Proofs.YtanlmfnhlldkeaaGreatDoor
open Go.RowKit

/-- Ints that lie where they may. -/
def IntsIn (ok : Nat → Prop) (w : World) (A : Option Addr) (l : List Int) : Prop := IntsAt w A l ∧ ∀ b off, A = some ⟨b, off, none⟩ → l ≠ [] → ok b
theorem IntsIn.below {ok : Nat → Prop} {w w' : World} {A : Option Addr} {l : List Int} (h : IntsIn ok w A l) (hb : Below w.heap.size w w') : IntsIn ok w' A l := ⟨h.1.below hb, h.2⟩
theorem results_row_tmp {P : Program} {fn : Func} {p u : Tmp} {ty : TypeId} (h : fn.results = #[.cell p ty, .tmp u]) (tmps : Array Value) (w : World) (g : Nat) (t : TypeId) (cs : Array Value) (fr : Nat × Nat) (d : TypeDesc)
    (hp : tmps.getD p undef = .pointer (some ⟨g, 0, none⟩)) (hg : w.heap[g]? = some (.cells cs t fr))
    (hu : P.underlying ty = some d) (hd : (match d with | .struct _ | .array _ _ => true | _ => false) = true) (hi : (P.info? ty).map (·.size) = some cs.size) :
    (results fn tmps).run P w = .ok (.tuple #[.agg cs, tmps.getD u undef]) w := by
  rw [results_cell_tmp h, hp]
  simp [asAddr, Result.andThen, run_loadVar_row w g t ty cs fr d hg hu hd hi]
/-- Ints lie in no block of other values. -/
theorem IntsAt.box {w w' : World} {A : Option Addr} {l : List Int} {x : Nat} {t : TypeId} {vs : Array Value} (h : IntsAt w A l) (hb : BoxN w x t vs) (hno : ∀ (k : Nat) (z : Int), vs[k]? ≠ some (.int .i64 z)) (hw : ∀ a : Addr, a.block ≠ x → w'.cell? a = w.cell? a) : IntsAt w' A l := fun hl => by
  obtain ⟨b, off, rfl, hc⟩ := h hl
  have hne : b ≠ x := by
    rintro rfl
    have p := hc 0 _ (get_gI (List.length_pos_iff.2 hl))
    rw [cell_of_row w b _ vs t (0, 0) hb] at p
    exact hno _ _ p
  exact ⟨b, off, rfl, fun j y hj => (hw ⟨b, off + j, none⟩ hne).trans (hc j y hj)⟩
theorem IntsAt.lt {w : World} {A : Option Addr} {l : List Int} (h : IntsAt w A l) {b off : Nat} (e : A = some ⟨b, off, none⟩) (hl : l ≠ []) : b < w.heap.size := by
  obtain ⟨b', off', e', hc⟩ := h hl
  rw [e] at e'; cases e'
  exact block_lt (hc 0 _ (get_gI (List.length_pos_iff.2 hl)))
/-- A list of values that holds no int. -/
def noInt (vs : Array Value) : Prop := ∀ (k : Nat) (z : Int), vs[k]? ≠ some (.int .i64 z)
theorem noInt_of {vs : Array Value} (h : vs.toList.all (fun v => match v with | .int .i64 _ => false | _ => true) = true) : noInt vs := fun k z e => by
  rw [List.all_eq_true] at h
  rw [← Array.getElem?_toList] at e
  have := h _ (List.mem_of_getElem? e)
  cases this
/-- Only block x has turned. -/
def OnlyAt (x : Nat) (w w' : World) : Prop := (∀ b, b ≠ x → w'.heap[b]? = w.heap[b]?)
theorem OnlyAt.refl (x : Nat) (w : World) : OnlyAt x w w := fun _ _ => rfl
theorem OnlyAt.set {x : Nat} {w w' : World} (h : OnlyAt x w w') (k : Nat) (v : Value) : OnlyAt x w (w'.setCell ⟨x, k, none⟩ v) := fun b hb => (Below.heap_setCell _ _ _ _ hb).trans (h b hb)
theorem OnlyAt.cell {x : Nat} {w w' : World} (h : OnlyAt x w w') (a : Addr) (ha : a.block ≠ x) : w'.cell? a = w.cell? a := World.cell?_of_block (h _ ha)
theorem IntsIn.only {ok : Nat → Prop} {w w' : World} {A : Option Addr} {l : List Int} {x : Nat} {t : TypeId} {vs : Array Value} (h : IntsIn ok w A l) (hb : BoxN w x t vs) (hno : noInt vs) (ho : OnlyAt x w w') : IntsIn ok w' A l := ⟨h.1.box hb hno ho.cell, h.2⟩
end Go.Proofs.YtanlmfnhlldkeaaGreatDoor

namespace Go.Proofs.YtanlmfnhlldkeaaGreatDoor
open Go.RowKit
set_option maxRecDepth 100000

theorem mod_step (x k : Nat) : x % 2 ^ (k + 1) = x % 2 ^ k + if x.testBit k then 2 ^ k else 0 := by
  rw [Nat.mod_pow_succ, Nat.testBit_eq_decide_div_mod_eq]
  rcases Nat.mod_two_eq_zero_or_one (x / 2 ^ k) with h | h <;> rw [h] <;> simp
theorem odd_bit (s k d : Nat) (h : s / 2 ^ k = d) : ((d : Int) % 2 == 1) = s.testBit k := bit_end s k d h
set_option maxHeartbeats 1000000 in
theorem RBoth_any (a b : Nat) (w : World) (ha : a < 2 ^ 60) (hb : b < 2 ^ 60) :
    Calls Tryz.prog 173 #[.int .i64 a, .int .i64 b] w fun e w' => e = .returned (.int .i64 (a &&& b : Nat)) ∧ w = w' := by
  go_enter Tryz.func173, Tryz.ntmps173
  go_wp2
  go_loop [0, 1, 5, 6] (fun x y o p => ∃ k : Nat, k ≤ 60 ∧ x = .int .i64 (a / 2 ^ k : Nat) ∧ y = .int .i64 (b / 2 ^ k : Nat) ∧ o = .int .i64 ((a &&& b) % 2 ^ k : Nat) ∧ p = .int .i64 (2 ^ k : Nat)) (fun x _ _ _ => (intOf x).toNat)
  case atStart => exact ⟨0, Nat.zero_le _, by simp, by simp, by simp [Nat.mod_one], rfl⟩
  case round =>
    obtain ⟨k, hk, rfl, rfl, rfl, rfl⟩ := hrel
    have hx : a / 2 ^ k < 2 ^ 60 := Nat.lt_of_le_of_lt (Nat.div_le_self _ _) ha
    have hy : b / 2 ^ k < 2 ^ 60 := Nat.lt_of_le_of_lt (Nat.div_le_self _ _) hb
    have hp : 2 ^ k ≤ 2 ^ 60 := Nat.pow_le_pow_right (by decide) hk
    have ho : (a &&& b) % 2 ^ k < 2 ^ k := Nat.mod_lt _ (Nat.two_pow_pos k)
    have Hand := Lib.hid (Nat.testBit_and a b k)
    have Hstep := Lib.hid (mod_step (a &&& b) k)
    have Hpow := Lib.hid (Nat.pow_succ 2 k)
    have Hend := Lib.hid (fun (h : a / 2 ^ k = 0 ∨ b / 2 ^ k = 0) => show (a &&& b) % 2 ^ k = a &&& b from by
      refine Nat.mod_eq_of_lt ?_
      rcases h with h | h
      · exact Nat.lt_of_le_of_lt Nat.and_le_left ((Nat.div_eq_zero_iff_lt (Nat.two_pow_pos k)).1 h)
      · exact Nat.lt_of_le_of_lt Nat.and_le_right ((Nat.div_eq_zero_iff_lt (Nat.two_pow_pos k)).1 h))
    have Hka := Lib.hid (fun (h : 0 < a / 2 ^ k) => show k + 1 ≤ 60 from by
      rcases Nat.lt_or_ge k 60 with h1 | h1
      · exact h1
      · have h2 : a < 2 ^ k := Nat.lt_of_lt_of_le ha (Nat.pow_le_pow_right (by decide) h1)
        rw [Nat.div_eq_of_lt h2] at h; omega)
    have Hda := Lib.hid (fun d h => div_succ_cast a k d h)
    have Hdb := Lib.hid (fun d h => div_succ_cast b k d h)
    have Hoa := Lib.hid (fun d h => odd_bit a k d h)
    have Hob := Lib.hid (fun d h => odd_bit b k d h)
    generalize hxe : a / 2 ^ k = x at *
    generalize hye : b / 2 ^ k = y at *
    generalize hoe : (a &&& b) % 2 ^ k = o at *
    generalize hpe : 2 ^ k = p at *
    have Hx := Lib.hid hxe
    have Hy := Lib.hid hye
    clear hxe hye hoe hpe
    by_cases hz : 0 < x ∧ 0 < y
    · obtain ⟨z1, z2⟩ := hz
      have Hk1 := Hka.out z1
      by_cases b1 : ((x : Int) % 2 == 1) = true
      · by_cases b2 : ((y : Int) % 2 == 1) = true
        · have Hb : Hid ((a &&& b).testBit k = true) := by
            have h1 := Hoa.out x rfl
            have h2 := Hob.out y rfl
            rw [b1] at h1; rw [b2] at h2
            show (a &&& b).testBit k = true
            rw [Hand.out, ← h1, ← h2]; rfl
          go_wp2
          refine ⟨⟨k + 1, ?_, ?_, ?_, ?_, ?_⟩, by simp [intOf]; omega⟩
          · exact Hk1
          · rw [Hda.out x rfl]
          · rw [Hdb.out y rfl]
          · rw [Hstep.out, if_pos Hb.out]; go_num
          · rw [Hpow.out]; go_num
        · have b2' : ((y : Int) % 2 == 1) = false := by simpa using b2
          have Hb : Hid ((a &&& b).testBit k = false) := by
            have h2 := Hob.out y rfl
            rw [b2'] at h2
            show (a &&& b).testBit k = false
            rw [Hand.out, ← h2]; simp
          clear b2
          go_wp2
          refine ⟨⟨k + 1, ?_, ?_, ?_, ?_, ?_⟩, by simp [intOf]; omega⟩
          · exact Hk1
          · rw [Hda.out x rfl]
          · rw [Hdb.out y rfl]
          · rw [Hstep.out, if_neg (by rw [Hb.out]; simp)]; go_num
          · rw [Hpow.out]; go_num
      · have b1' : ((x : Int) % 2 == 1) = false := by simpa using b1
        have Hb : Hid ((a &&& b).testBit k = false) := by
          have h1 := Hoa.out x rfl
          rw [b1'] at h1
          show (a &&& b).testBit k = false
          rw [Hand.out, ← h1]; rfl
        clear b1
        go_wp2
        refine ⟨⟨k + 1, ?_, ?_, ?_, ?_, ?_⟩, by simp [intOf]; omega⟩
        · exact Hk1
        · rw [Hda.out x rfl]
        · rw [Hdb.out y rfl]
        · rw [Hstep.out, if_neg (by rw [Hb.out]; simp)]; go_num
        · rw [Hpow.out]; go_num
    · by_cases z1 : 0 < x
      · have z2 : y = 0 := by omega
        have he := Hend.out (.inr z2)
        have He := Lib.hid he
        subst z2
        clear hz he
        go_wp2
        go_ret
        exact ⟨ret_int (by rw [← He.out]), rfl⟩
      · have z2 : x = 0 := by omega
        have he := Hend.out (.inl z2)
        have He := Lib.hid he
        subst z2
        clear hz he z1
        go_wp2
        go_ret
        exact ⟨ret_int (by rw [← He.out]), rfl⟩
theorem and_add_or (a : Nat) : ∀ b : Nat, (a &&& b) + (a ||| b) = a + b := by
  induction a using Nat.strongRecOn with
  | _ a ih =>
    intro b
    by_cases h0 : a = 0
    · subst h0; simp
    · have h := ih (a / 2) (by omega) (b / 2)
      have e1 := Nat.and_div_two (a := a) (b := b)
      have e2 := Nat.or_div_two (a := a) (b := b)
      have m1 : (a &&& b) % 2 = a % 2 * (b % 2) := by
        have := Nat.and_mod_two_pow (a := a) (b := b) (n := 1)
        rw [Nat.pow_one] at this; rw [this]
        rcases Nat.mod_two_eq_zero_or_one a with h | h <;> rcases Nat.mod_two_eq_zero_or_one b with h' | h' <;> rw [h, h'] <;> rfl
      have m2 : (a ||| b) % 2 = a % 2 + b % 2 - a % 2 * (b % 2) := by
        have := Nat.or_mod_two_pow (a := a) (b := b) (n := 1)
        rw [Nat.pow_one] at this; rw [this]
        rcases Nat.mod_two_eq_zero_or_one a with h | h <;> rcases Nat.mod_two_eq_zero_or_one b with h' | h' <;> rw [h, h'] <;> rfl
      rw [← e1, ← e2] at h
      rcases Nat.mod_two_eq_zero_or_one a with h3 | h3 <;> rcases Nat.mod_two_eq_zero_or_one b with h4 | h4 <;> rw [h3, h4] at m1 m2 <;> omega
theorem Either_any (a b : Nat) (w : World) (ha : a < 2 ^ 60) (hb : b < 2 ^ 60) :
    Calls Tryz.prog 156 #[.int .i64 a, .int .i64 b] w fun e w' => e = .returned (.int .i64 (a ||| b : Nat)) ∧ w = w' := by
  have H := Lib.hid (RBoth_any a b w ha hb)
  have He := Lib.hid (and_add_or a b)
  have hl : a &&& b ≤ a := Nat.and_le_left
  generalize a &&& b = c at *
  generalize a ||| b = d at *
  go_enter Tryz.func156, Tryz.ntmps156
  go_wp2_with (go_at_call 173; with_reducible refine H.out.mono ?_; rintro e w' ⟨rfl, rfl⟩)
  go_ret
  exact ⟨ret_int (by have := He.out; omega), rfl⟩
end Go.Proofs.YtanlmfnhlldkeaaGreatDoor
