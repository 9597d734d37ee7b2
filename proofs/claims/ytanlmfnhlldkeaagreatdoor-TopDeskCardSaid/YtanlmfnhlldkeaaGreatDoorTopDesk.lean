/-
  The walk of TopDesk.
-/
import Derived.Test.YtanlmfnhlldkeaaGreatDoorDkR
import Derived.Test.YtanlmfnhlldkeaaGreatDoorDkL
import Derived.Test.YtanlmfnhlldkeaaGreatDoorDoorA
import Derived.Laws.IdiomStrings
namespace Go.Proofs.YtanlmfnhlldkeaaGreatDoor
open Go.RowKit
set_option maxRecDepth 100000
set_option linter.unusedVariables false

set_option maxHeartbeats 4000000 in
/-- The last line of a text of lines. -/
theorem lastLine_any (s : ByteArray) {p l : List UInt8} (hs : s.data.toList = p ++ (l ++ [10])) (hp : ∀ x, p.getLast? = some x → x = 10) (hl : 10 ∉ l) (h63 : s.size ≤ 1000000000) (w : World) :
    Calls Tryz.prog 23 #[.string s] w fun e w' => e = .returned (.string ⟨(l ++ [10]).toArray⟩) ∧ w = w' := by
  have hsz : s.size = p.length + l.length + 1 := by rw [ba_size, hs]; simp; omega
  have Hsz := Lib.hid hsz
  have hcut : s.extract p.length s.size = ⟨(l ++ [10]).toArray⟩ := ba_ext (by
    rw [ByteArray.data_extract, ba_size s]
    simp
    rw [hs]
    simp
    exact List.take_of_length_le (by rw [List.length_append, List.length_singleton]; omega))
  have Hcut := Lib.hid hcut
  have Hs := Lib.hid hs
  have Hl := Lib.hid hl
  have Hp := Lib.hid hp
  have pn : IntKind.i64.wrap ((s.size : Int) - 1) = (s.size : Int) - 1 := (IntKind.wrap_i64 _).trans (by omega)
  obtain ⟨n, hn⟩ : ∃ n, s.size = n + 1 := ⟨p.length + l.length, hsz⟩
  have pn0 : IntKind.i64.wrap ((s.size : Int) - 1) = (n : Int) := pn.trans (by omega)
  have Hn := Lib.hid (show n = p.length + l.length by omega)
  clear hsz hcut hs hl hp pn
  replace hn := Lib.hid hn
  go_enter Tryz.func23, Tryz.ntmps23
  go_wp2_with fail
  go_loopw [3] (fun i wr => ∃ (m : Nat), p.length ≤ m ∧ m ≤ n ∧ i = .int .i64 m ∧ wr = w) (fun i _ => (intOf i).toNat)
  case atStart => exact ⟨n, by have := Hn.out; omega, Nat.le_refl _, rfl, rfl⟩
  case round =>
    obtain ⟨m, hm1, hm2, rfl, hwr⟩ := hrel
    have hwr2 : w = wr := hwr.symm
    clear hwr
    subst hwr2
    have hz63 : n ≤ 1000000000 := by have := hn.out; omega
    cases m with
    | zero =>
      have hp0 : p.length = 0 := by omega
      have HC := Hcut.out
      rw [hp0] at HC
      have d0 : decide (((0 : Nat) : Int) > 0) = false := by decide
      have d1 : decide (((0 : Nat) : Int) < 0) = false := by decide
      have q0 : (0 : Int) ≤ (s.size : Int) := by omega
      clear hm1 hm2 hp0
      go_wp2_with fail
      go_ret
      exact ⟨rfl, rfl⟩
    | succ q =>
      have hks : q < s.size := by have := hn.out; omega
      obtain ⟨x, hx⟩ : ∃ x : Nat, (s[q]'hks).toNat = x := ⟨_, rfl⟩
      have hgx : s.data.toList[q]? = some (s[q]'hks) := by rw [Array.getElem?_toList, Array.getElem?_eq_getElem hks]; rfl
      have dp : decide (((q + 1 : Nat) : Int) > 0) = true := decide_eq_true (by omega)
      have dp2 : decide ((q : Int) + 1 > 0) = true := decide_eq_true (by omega)
      have dn1 : decide (((q + 1 : Nat) : Int) < 0) = false := decide_eq_false (by omega)
      have dn2 : decide ((q : Int) + 1 < 0) = false := decide_eq_false (by omega)
      have pn1 : IntKind.i64.wrap (((q + 1 : Nat) : Int) - 1) = (q : Int) := (IntKind.wrap_i64 _).trans (by omega)
      have pn2 : IntKind.i64.wrap ((q : Int) + 1 - 1) = (q : Int) := (IntKind.wrap_i64 _).trans (by omega)
      have pn3 : IntKind.i64.wrap (q : Int) = (q : Int) := (IntKind.wrap_i64 _).trans (by omega)
      by_cases hpq : p.length = q + 1
      · have h10 : x = 10 := by
          have h1 : p.getLast? = some (s[q]'hks) := by
            rw [List.getLast?_eq_getElem?, show p.length - 1 = q by omega, ← hgx, Hs.out, List.getElem?_append_left (by omega)]
          rw [← hx, Hp.out _ h1]
          rfl
        have HC := Hcut.out
        rw [hpq] at HC
        have d10 : ((x : Int) == 10) = true := by simp; omega
        have d11 : ((x : Int) != 10) = false := by simp; omega
        have q0 : (0 : Int) ≤ ((q + 1 : Nat) : Int) := by omega
        have q1 : ((q + 1 : Nat) : Int) ≤ (s.size : Int) := by omega
        have r0 : (0 : Int) ≤ (q : Int) + 1 := by omega
        have r1 : (q : Int) + 1 ≤ (s.size : Int) := by omega
        clear hm1 hm2 hpq h10 hgx
        go_wp2_with fail
        go_ret
        exact ⟨rfl, rfl⟩
      · have h10 : x ≠ 10 := fun e => by
          have h1 : s[q]'hks = 10 := UInt8.toNat_inj.1 (by rw [hx, e]; rfl)
          have h2 : l[q - p.length]? = some 10 := by
            have h3 := hgx
            rw [h1, Hs.out, List.getElem?_append_right (by omega), List.getElem?_append_left (by have := Hn.out; omega)] at h3
            exact h3
          exact Hl.out (List.mem_of_getElem? h2)
        have d10 : ((x : Int) == 10) = false := by simp; omega
        have d11 : ((x : Int) != 10) = true := by simp; omega
        have hm3 : p.length ≤ q := by omega
        have hm4 : q ≤ n := by omega
        clear hm1 hm2 hpq h10 hgx
        go_wp2_with fail
        refine ⟨⟨q, ?ya, ?yb, ?yc, trivial⟩, ?yd⟩
        case ya => exact hm3
        case yb => exact hm4
        case yc => rfl
        case yd => simp [intOf]
theorem digits_free (k : Nat) (hk : k ≤ 9) : 10 ∉ ((⟨#[48, 49, 50, 51, 52, 53, 54, 55, 56, 57]⟩ : ByteArray).extract k (k + 1)).data.toList ∧ ((⟨#[48, 49, 50, 51, 52, 53, 54, 55, 56, 57]⟩ : ByteArray).extract k (k + 1)).size = 1 := by
  rcases (by omega : k = 0 ∨ k = 1 ∨ k = 2 ∨ k = 3 ∨ k = 4 ∨ k = 5 ∨ k = 6 ∨ k = 7 ∨ k = 8 ∨ k = 9) with rfl | rfl | rfl | rfl | rfl | rfl | rfl | rfl | rfl | rfl <;> exact ⟨by decide, by decide⟩
theorem ba_cat (a b : ByteArray) : (a ++ b).data.toList = a.data.toList ++ b.data.toList := by simp
set_option maxHeartbeats 8000000 in
theorem TopDesk_walk (s : ByteArray) {W : World} (hsW : s.size < 2 ^ 47) (f : Int) (bf : I64 f) (w : World) (hw : w = W) (hG : Glob W) :
    Calls Tryz.prog 8 #[.string s, .int .i64 f] w fun e w' => e = .returned (.bool true) ∧ Below W.heap.size W w' := by
  subst hw
  have hf : dRun [117, 115, 101, 114, 32, 51, 97] = [111, 107, 10] := by kernel_rfl
  have R0 := Run_any hG ⟨#[117, 115, 101, 114, 32, 51, 97]⟩
  rw [show dRun (⟨#[117, 115, 101, 114, 32, 51, 97]⟩ : ByteArray).data.toList = [111, 107, 10] from hf] at R0
  have R1 := Lib.hid (fun V (hV : Below w.heap.size w V) (t : ByteArray) => Run_any (hG.next hV) t)
  have R0 := Lib.hid R0
  clear hf hG
  go_enter Tryz.func8, Tryz.ntmps8
  go_wp2_with fail
  with_reducible refine R0.out.mono ?_
  rintro e w1 ⟨rfl, hb1⟩
  have Hb1 := Lib.hid hb1
  clear R0 hb1
  by_cases hs : 2900 < s.size
  · have g0 : decide ((s.size : Int) > 2900) = true := by simp; omega
    clear hs
    go_wp2_with fail
    go_ret
    exact ⟨rfl, Hb1.out⟩
  have g0 : decide ((s.size : Int) > 2900) = false := by simp; omega
  by_cases hk0 : f < 0
  · have g1 : decide (f < 0) = true := by simp; omega
    clear hs
    go_wp2_with fail
    go_ret
    exact ⟨rfl, Hb1.out⟩
  have g1 : decide (f < 0) = false := by simp; omega
  by_cases hk1 : 9 < f
  · have g2 : decide (f > 9) = true := by simp; omega
    clear hs hk0
    go_wp2_with fail
    go_ret
    exact ⟨rfl, Hb1.out⟩
  have g2 : decide (f > 9) = false := by simp; omega
  obtain ⟨k, rfl⟩ := Int.eq_ofNat_of_zero_le (show 0 ≤ f by omega)
  have hk9 : k ≤ 9 := by omega
  have hs3 : s.size ≤ 2900 := by omega
  clear hs hk0 hk1 bf
  have hfin : (∀ x, s.data.toList.getLast? = some x → x = 10) → ∃ (X7 X8 Z : ByteArray), 0 < Z.size ∧
      (∀ V, Below w.heap.size w V → Calls Tryz.prog 21 #[.string (s ++ ((⟨#[104, 111, 108, 100, 115, 32]⟩ ++ (⟨#[48, 49, 50, 51, 52, 53, 54, 55, 56, 57]⟩ : ByteArray).extract k (k + 1)) ++ ⟨#[10]⟩))] V fun e w' => e = .returned (.string X7) ∧ Below V.heap.size V w') ∧
      (∀ V, Below w.heap.size w V → Calls Tryz.prog 21 #[.string ((s ++ ⟨#[99, 114, 97, 115, 104, 32, 57, 57, 57, 57, 10]⟩) ++ ((⟨#[104, 111, 108, 100, 115, 32]⟩ ++ (⟨#[48, 49, 50, 51, 52, 53, 54, 55, 56, 57]⟩ : ByteArray).extract k (k + 1)) ++ ⟨#[10]⟩))] V fun e w' => e = .returned (.string X8) ∧ Below V.heap.size V w') ∧
      (∀ V, Calls Tryz.prog 23 #[.string X7] V fun e w' => e = .returned (.string Z) ∧ V = w') ∧
      (∀ V, Calls Tryz.prog 23 #[.string X8] V fun e w' => e = .returned (.string Z) ∧ V = w') := by
    intro hlast
    obtain ⟨hd, hdz⟩ := digits_free k hk9
    have ha : 10 ∉ [104, 111, 108, 100, 115, 32] ++ ((⟨#[48, 49, 50, 51, 52, 53, 54, 55, 56, 57]⟩ : ByteArray).extract k (k + 1)).data.toList := by
      rw [List.mem_append]
      rintro (h | h)
      · exact absurd h (by decide)
      · exact hd h
    have hal : ([104, 111, 108, 100, 115, 32] ++ ((⟨#[48, 49, 50, 51, 52, 53, 54, 55, 56, 57]⟩ : ByteArray).extract k (k + 1)).data.toList).length = 7 := by
      rw [List.length_append, ← ba_size, hdz]; rfl
    obtain ⟨p, q, l, hp, hq, hl, e1, e2⟩ := run_top (t := s.data.toList) ha (by rw [← ba_size, hal]; omega) hlast
    have hlen : ∀ t : List UInt8, (dRun t).length ≤ 1000000000 := fun t => by
      unfold dRun
      split
      · decide
      · have h1 := lines_len (lineL t) DOk.new
        have h2 := linesL_few t
        unfold lineL at h1 ⊢
        rw [List.length_map] at h1
        omega
    refine ⟨⟨(p ++ (l ++ [10])).toArray⟩, ⟨(q ++ (l ++ [10])).toArray⟩, ⟨(l ++ [10]).toArray⟩, by rw [ba_size, ba_of]; simp, fun V hV => ?_, fun V hV => ?_, fun V => ?_, fun V => ?_⟩
    · have h := R1.out V hV (s ++ ((⟨#[104, 111, 108, 100, 115, 32]⟩ ++ (⟨#[48, 49, 50, 51, 52, 53, 54, 55, 56, 57]⟩ : ByteArray).extract k (k + 1)) ++ ⟨#[10]⟩))
      rw [ba_cat, ba_cat, ba_cat] at h
      rw [← e1]
      exact h
    · have h := R1.out V hV ((s ++ ⟨#[99, 114, 97, 115, 104, 32, 57, 57, 57, 57, 10]⟩) ++ ((⟨#[104, 111, 108, 100, 115, 32]⟩ ++ (⟨#[48, 49, 50, 51, 52, 53, 54, 55, 56, 57]⟩ : ByteArray).extract k (k + 1)) ++ ⟨#[10]⟩))
      rw [ba_cat, ba_cat, ba_cat, ba_cat, List.append_assoc] at h
      rw [← e2]
      exact h
    · exact lastLine_any _ (ba_of _) hp hl (by rw [ba_size, ba_of, ← e1]; exact hlen _) V
    · exact lastLine_any _ (ba_of _) hq hl (by rw [ba_size, ba_of, ← e2]; exact hlen _) V
  obtain ⟨c, hc⟩ : ∃ c : ByteArray, (⟨#[48, 49, 50, 51, 52, 53, 54, 55, 56, 57]⟩ : ByteArray).extract k (k + 1) = c := ⟨_, rfl⟩
  have hz1 : c.size = 1 := by rw [← hc]; exact (digits_free k hk9).2
  have hz2 : ((⟨#[104, 111, 108, 100, 115, 32]⟩ : ByteArray) ++ c).size = 7 := by rw [ByteArray.size_append, hz1]; rfl
  have hz3 : (((⟨#[104, 111, 108, 100, 115, 32]⟩ : ByteArray) ++ c) ++ ⟨#[10]⟩).size = 8 := by rw [ByteArray.size_append, hz2]; rfl
  have hz4 : (s ++ (((⟨#[104, 111, 108, 100, 115, 32]⟩ : ByteArray) ++ c) ++ ⟨#[10]⟩)).size = s.size + 8 := by rw [ByteArray.size_append, hz3]
  have hz5 : (s ++ (⟨#[99, 114, 97, 115, 104, 32, 57, 57, 57, 57, 10]⟩ : ByteArray)).size = s.size + 11 := by rw [ByteArray.size_append]; rfl
  have pk : IntKind.i64.wrap ((k : Int) + 1) = (k : Int) + 1 := (IntKind.wrap_i64 _).trans (by omega)
  have k0 : (0 : Int) ≤ (k : Int) := by omega
  have k1 : (k : Int) ≤ (k : Int) + 1 := by omega
  have k2 : (k : Int) + 1 ≤ 10 := by omega
  have k3 : k + 1 ≤ 10 := by omega
  rw [hc] at hfin
  by_cases hs0 : s.size = 0
  · have g3 : decide ((s.size : Int) > 0) = false := decide_eq_false (by omega)
    have g4 : decide (0 < s.size) = false := decide_eq_false (by omega)
    obtain ⟨X7, X8, Z, hZ, C7, C8, L7, L8⟩ := hfin (fun x hx => by
      have : s.data.toList = [] := List.length_eq_zero_iff.1 (by rw [← ba_size]; exact hs0)
      rw [this] at hx; cases hx)
    clear hfin hs0
    have C7 := Lib.hid C7
    have C8 := Lib.hid C8
    have L7 := Lib.hid L7
    have L8 := Lib.hid L8
    have dz : decide ((Z.size : Int) > 0) = true := decide_eq_true (by omega)
    go_wp2_with fail
    with_reducible refine (C7.out w1 Hb1.out).mono ?_
    rintro e w2 ⟨rfl, hb2⟩
    have hb02 := Hb1.out.trans (hb2.mono Hb1.out.size)
    go_wp2_with fail
    with_reducible refine (L7.out _).mono ?_
    rintro e w3 ⟨rfl, hw3⟩
    obtain rfl := hw3
    go_wp2_with fail
    with_reducible refine (C8.out w2 hb02).mono ?_
    rintro e w4 ⟨rfl, hb4⟩
    have Hb4 := Lib.hid (hb02.trans (hb4.mono hb02.size))
    go_wp2_with fail
    with_reducible refine (L8.out _).mono ?_
    rintro e w5 ⟨rfl, hw5⟩
    obtain rfl := hw5
    go_wp2_with fail
    go_ret
    exact ⟨rfl, Hb4.out⟩
  · have g3 : decide ((s.size : Int) > 0) = true := decide_eq_true (by omega)
    have g4 : decide (0 < s.size) = true := decide_eq_true (by omega)
    have pn : IntKind.i64.wrap ((s.size : Int) - 1) = (s.size : Int) - 1 := (IntKind.wrap_i64 _).trans (by omega)
    have hls : s.size - 1 < s.size := by omega
    have q0 : (0 : Int) ≤ (s.size : Int) - 1 := by omega
    have q1 : (s.size : Int) - 1 < (s.size : Int) := by omega
    have qt : ((s.size : Int) - 1).toNat = s.size - 1 := by omega
    obtain ⟨x, hx⟩ : ∃ x : Nat, (s[s.size - 1]'hls).toNat = x := ⟨_, rfl⟩
    have hgl : s.data.toList.getLast? = some (s[s.size - 1]'hls) := by
      rw [List.getLast?_eq_getElem?, ← ba_size, Array.getElem?_toList, Array.getElem?_eq_getElem hls]; rfl
    by_cases h10 : x = 10
    · have d10 : ((x : Int) == 10) = true := by simp; omega
      have d11 : ((x : Int) != 10) = false := by simp; omega
      have d12 : (((s[s.size - 1]'hls).toNat : Int) != 10) = false := by rw [hx]; exact d11
      obtain ⟨X7, X8, Z, hZ, C7, C8, L7, L8⟩ := hfin (fun y hy => by
        rw [hgl] at hy
        injection hy with hy
        exact hy ▸ UInt8.toNat_inj.1 (by rw [hx, h10]; rfl))
      clear h10 hgl
      clear hfin
      have C7 := Lib.hid C7
      have C8 := Lib.hid C8
      have L7 := Lib.hid L7
      have L8 := Lib.hid L8
      have dz : decide ((Z.size : Int) > 0) = true := decide_eq_true (by omega)
      go_wp2_with fail
      with_reducible refine (C7.out w1 Hb1.out).mono ?_
      rintro e w2 ⟨rfl, hb2⟩
      have hb02 := Hb1.out.trans (hb2.mono Hb1.out.size)
      go_wp2_with fail
      with_reducible refine (L7.out _).mono ?_
      rintro e w3 ⟨rfl, hw3⟩
      obtain rfl := hw3
      go_wp2_with fail
      with_reducible refine (C8.out w2 hb02).mono ?_
      rintro e w4 ⟨rfl, hb4⟩
      have Hb4 := Lib.hid (hb02.trans (hb4.mono hb02.size))
      go_wp2_with fail
      with_reducible refine (L8.out _).mono ?_
      rintro e w5 ⟨rfl, hw5⟩
      obtain rfl := hw5
      go_wp2_with fail
      go_ret
      exact ⟨rfl, Hb4.out⟩
    · have d10 : ((x : Int) == 10) = false := by simp; omega
      have d11 : ((x : Int) != 10) = true := by simp; omega
      clear h10 hgl hfin
      go_wp2_with fail
      go_ret
      exact ⟨rfl, Hb1.out⟩
end Go.Proofs.YtanlmfnhlldkeaaGreatDoor
