/-
  The walk of DeskLines.
-/
import Derived.Test.YtanlmfnhlldkeaaGreatDoorDkR
import Derived.Test.YtanlmfnhlldkeaaGreatDoorDkL
import Derived.Laws.IdiomStrings
namespace Go.Proofs.YtanlmfnhlldkeaaGreatDoor
open Go.RowKit
set_option maxRecDepth 100000
set_option linter.unusedVariables false

/-- How many lines up to a byte. -/
def lnTo (t : List UInt8) (k : Nat) : Nat := (t.take k).count 10 + if k = t.length then (if t.getLast?.getD 10 = 10 then 0 else 1) else 0
theorem count_snoc {l : List UInt8} {k : Nat} (h : k < l.length) : (l.take (k + 1)).count 10 = (l.take k).count 10 + if (l.getD k 0).toNat = 10 then 1 else 0 := by
  rw [List.take_add_one, List.getElem?_eq_getElem h, List.count_append, List.getD_eq_getElem?_getD, List.getElem?_eq_getElem h]
  show _ + [l[k]].count 10 = _
  rw [Option.getD_some]
  by_cases e : l[k] = 10
  · rw [e]; simp
  · rw [if_neg (fun h2 => e (by apply UInt8.toNat_inj.1; rw [h2]; rfl)), List.count_eq_zero.2 (fun hm => e (List.mem_singleton.1 hm).symm)]
theorem lnTo_zero (t : List UInt8) : lnTo t 0 = 0 := by
  unfold lnTo
  cases t with
  | nil => rfl
  | cons c t => simp
theorem lnTo_end (t : List UInt8) : lnTo t t.length = nLines t := by unfold lnTo nLines; rw [List.take_length, if_pos rfl]
theorem lnTo_succ {t : List UInt8} {k : Nat} (h : k < t.length) : lnTo t (k + 1) = lnTo t k + if (t.getD k 0).toNat = 10 ∨ k + 1 = t.length then 1 else 0 := by
  unfold lnTo
  rw [count_snoc h, if_neg (show ¬ k = t.length by omega)]
  by_cases hk : k + 1 = t.length
  · have hl : t.getLast?.getD 10 = t.getD k 0 := by
      rw [List.getLast?_eq_getElem?, List.getD_eq_getElem?_getD, show t.length - 1 = k by omega, List.getElem?_eq_getElem h]
      rfl
    rw [if_pos hk, if_pos (Or.inr hk), hl]
    by_cases h10 : (t.getD k 0).toNat = 10
    · rw [if_pos h10, if_pos (by apply UInt8.toNat_inj.1; rw [h10]; rfl)]
    · rw [if_neg h10, if_neg (fun e => h10 (by rw [e]; rfl))]
  · rw [if_neg hk]
    by_cases h10 : (t.getD k 0).toNat = 10
    · rw [if_pos h10, if_pos (Or.inl h10)]
    · rw [if_neg h10, if_neg (by omega)]
theorem lnTo_le (t : List UInt8) (k : Nat) : lnTo t k ≤ k + 1 := by
  unfold lnTo
  have : (t.take k).count 10 ≤ k := Nat.le_trans List.count_le_length (by rw [List.length_take]; exact Nat.min_le_left ..)
  split
  · split <;> omega
  · omega
set_option maxHeartbeats 8000000 in
theorem DeskLines_walk (s : ByteArray) {W : World} (hsW : s.size < 2 ^ 47) (w : World) (hw : w = W) (hG : Glob W) :
    Calls Tryz.prog 7 #[.string s] w fun e w' => e = .returned (.bool true) ∧ Below W.heap.size W w' := by
  subst hw
  have hf : dRun [117, 115, 101, 114, 32, 51, 97, 10, 10, 98] = [111, 107, 10, 98, 97, 100, 10, 98, 97, 100, 10] := by kernel_rfl
  have R0 := Run_any hG ⟨#[117, 115, 101, 114, 32, 51, 97, 10, 10, 98]⟩
  rw [show dRun (⟨#[117, 115, 101, 114, 32, 51, 97, 10, 10, 98]⟩ : ByteArray).data.toList = [111, 107, 10, 98, 97, 100, 10, 98, 97, 100, 10] from hf] at R0
  have R1 := Lib.hid (fun V (hV : Below w.heap.size w V) => Run_any (hG.next hV) s)
  have R0 := Lib.hid R0
  clear hf hG
  go_enter Tryz.func7, Tryz.ntmps7
  go_wp2_with fail
  with_reducible refine R0.out.mono ?_
  rintro e w1 ⟨rfl, hb1⟩
  go_wp2_with fail
  with_reducible refine (R1.out w1 hb1).mono ?_
  rintro e w2 ⟨rfl, hb2⟩
  have Hb := Lib.hid (hb1.trans (hb2.mono hb1.size))
  clear R0 R1 hb1 hb2
  by_cases hs : 3000 < s.size
  · have g0 : decide ((s.size : Int) > 3000) = true := by simp; omega
    have hd : dRun s.data.toList = [116, 111, 111, 32, 108, 111, 110, 103, 10] := by unfold dRun; rw [← ba_size, if_pos hs]; rfl
    rw [hd]
    clear hs hd
    go_wp2_with fail
    go_ret
    exact ⟨rfl, Hb.out⟩
  · have g0 : decide ((s.size : Int) > 3000) = false := by simp; omega
    have Hr := Lib.hid (run_lines (t := s.data.toList) (by rw [← ba_size]; omega))
    have hs2 : s.size ≤ 3000 := by omega
    clear hs
    obtain ⟨y, hy⟩ : ∃ y : ByteArray, (⟨(dRun s.data.toList).toArray⟩ : ByteArray) = y := ⟨_, rfl⟩
    have hyd : y.data.toList = dRun s.data.toList := by rw [← hy, ba_of]
    rw [hy]
    rw [← hyd] at Hr
    have hylen : y.size ≤ 3000 * 2001 := by
      rw [ba_size, hyd]
      unfold dRun
      rw [if_neg (by rw [← ba_size]; omega)]
      have h1 := lines_len (lineL s.data.toList) DOk.new
      have h2 := linesL_few s.data.toList
      rw [← ba_size] at h2
      unfold lineL at h1
      rw [List.length_map] at h1
      unfold lineL
      omega
    clear hyd hy
    have Hsl := Lib.hid (show s.data.toList.length = s.size from (ba_size s).symm)
    have Hyl := Lib.hid (show y.data.toList.length = y.size from (ba_size y).symm)
    have hy63 : y.size ≤ 1000000000 := by
      have h1 := hylen
      omega
    clear hylen
    go_wp2_with fail
    go_loopw [5, 6] (fun ln i wr => ∃ (k : Nat), k ≤ s.size ∧ i = .int .i64 k ∧ ln = .int .i64 (lnTo s.data.toList k : Nat) ∧ wr = w2) (fun _ i _ => s.size - (intOf i).toNat)
    case atStart => exact ⟨0, Nat.zero_le _, rfl, by rw [lnTo_zero]; rfl, rfl⟩
    case round =>
      obtain ⟨k, hk, rfl, rfl, hwr⟩ := hrel
      have hwr2 : w2 = wr := hwr.symm
      clear hwr
      subst hwr2
      by_cases hlt : k < s.size
      · have hks := hlt
        have Hc := Lib.hid (lnTo_succ (t := s.data.toList) (k := k) (by rw [Hsl.out]; exact hlt))
        obtain ⟨x, hx⟩ : ∃ x : Nat, (s[k]'hks).toNat = x := ⟨_, rfl⟩
        have hgx : (s.data.toList.getD k 0).toNat = x := by rw [← hx, List.getD_eq_getElem?_getD, Array.getElem?_toList, Array.getElem?_eq_getElem hks]; rfl
        have hcl := lnTo_le s.data.toList k
        rw [hgx, Hsl.out] at Hc
        clear hgx
        generalize lnTo s.data.toList k = S at *
        have pS : IntKind.i64.wrap ((S : Int) + 1) = (S : Int) + 1 := (IntKind.wrap_i64 _).trans (by omega)
        have pn : IntKind.i64.wrap ((s.size : Int) - 1) = (s.size : Int) - 1 := (IntKind.wrap_i64 _).trans (by omega)
        by_cases h10 : x = 10
        · rw [if_pos (Or.inl h10)] at Hc
          have d10 : ((x : Int) == 10) = true := by simp; omega
          clear h10
          go_wp2_with fail
          refine ⟨⟨k + 1, ?ya, ?yb, ?yc, trivial⟩, ?yd⟩
          case ya => omega
          case yb => go_num
          case yc => rw [Hc.out]; go_num
          case yd => simp [intOf]; omega
        · have d10 : ((x : Int) == 10) = false := by simp; omega
          by_cases hE : k + 1 = s.size
          · rw [if_pos (Or.inr hE)] at Hc
            have dE : ((k : Int) == (s.size : Int) - 1) = true := by simp; omega
            clear h10 hE
            go_wp2_with fail
            refine ⟨⟨k + 1, ?za, ?zb, ?zc, trivial⟩, ?zd⟩
            case za => omega
            case zb => go_num
            case zc => rw [Hc.out]; go_num
            case zd => simp [intOf]; omega
          · rw [if_neg (fun e => e.elim h10 hE)] at Hc
            have dE : ((k : Int) == (s.size : Int) - 1) = false := by simp; omega
            clear h10 hE
            go_wp2_with fail
            refine ⟨⟨k + 1, ?wa, ?wb, ?wc, trivial⟩, ?wd⟩
            case wa => omega
            case wb => go_num
            case wc => rw [Hc.out, Nat.add_zero]
            case wd => simp [intOf]; omega
      · have hks : k = s.size := by omega
        subst hks
        clear hlt hk
        have HL := Lib.hid (show lnTo s.data.toList s.size = nLines s.data.toList by rw [← Hsl.out, lnTo_end])
        generalize lnTo s.data.toList s.size = N1 at *
        go_wp2_with fail
        go_loopw [7, 8] (fun ln i wr => ∃ (k : Nat), k ≤ y.size ∧ i = .int .i64 k ∧ ln = .int .i64 ((y.data.toList.take k).count 10 : Nat) ∧ wr = w2) (fun _ i _ => y.size - (intOf i).toNat)
        case atStart => exact ⟨0, Nat.zero_le _, rfl, by simp, rfl⟩
        case round =>
          obtain ⟨k, hk, rfl, rfl, hwr⟩ := hrel
          have hwr2 : w2 = wr := hwr.symm
          clear hwr
          subst hwr2
          by_cases hlt : k < y.size
          · have hks := hlt
            have Hc := Lib.hid (count_snoc (l := y.data.toList) (k := k) (by rw [Hyl.out]; exact hlt))
            obtain ⟨x, hx⟩ : ∃ x : Nat, (y[k]'hks).toNat = x := ⟨_, rfl⟩
            have hgx : (y.data.toList.getD k 0).toNat = x := by rw [← hx, List.getD_eq_getElem?_getD, Array.getElem?_toList, Array.getElem?_eq_getElem hks]; rfl
            have hcl : (y.data.toList.take k).count 10 ≤ k := Nat.le_trans List.count_le_length (by rw [List.length_take]; omega)
            rw [hgx] at Hc
            clear hgx
            generalize (y.data.toList.take k).count 10 = S at *
            have pS : IntKind.i64.wrap ((S : Int) + 1) = (S : Int) + 1 := (IntKind.wrap_i64 _).trans (by omega)
            by_cases h10 : x = 10
            · rw [if_pos h10] at Hc
              have d10 : ((x : Int) == 10) = true := by simp; omega
              clear h10
              go_wp2_with fail
              refine ⟨⟨k + 1, ?va, ?vb, ?vc, trivial⟩, ?vd⟩
              case va => omega
              case vb => go_num
              case vc => rw [Hc.out]; go_num
              case vd => simp [intOf]; omega
            · rw [if_neg h10] at Hc
              have d10 : ((x : Int) == 10) = false := by simp; omega
              clear h10
              go_wp2_with fail
              refine ⟨⟨k + 1, ?ua, ?ub, ?uc, trivial⟩, ?ud⟩
              case ua => omega
              case ub => go_num
              case uc => rw [Hc.out, Nat.add_zero]
              case ud => simp [intOf]; omega
          · have hks : k = y.size := by omega
            subst hks
            clear hlt hk
            have hN : (y.data.toList.take y.size).count 10 = N1 := by
              rw [List.take_of_length_le (by rw [Hyl.out]; exact Nat.le_refl _), Hr.out.1, HL.out]
            rw [hN]
            have dN : ((N1 : Int) == (N1 : Int)) = true := by simp
            by_cases h0 : y.size = 0
            · have d0 : ((y.size : Int) == 0) = true := beq_iff_eq.2 (by omega)
              clear h0 hN
              go_wp2_with fail
              go_ret
              exact ⟨rfl, Hb.out⟩
            · have d0 : ((y.size : Int) == 0) = false := beq_eq_false_iff_ne.2 (by omega)
              have pn : IntKind.i64.wrap ((y.size : Int) - 1) = (y.size : Int) - 1 := (IntKind.wrap_i64 _).trans (by omega)
              have hls : y.size - 1 < y.size := by omega
              have hlast : (y[y.size - 1]'hls).toNat = 10 := by
                rcases Hr.out.2 with e | ⟨p, e⟩
                · have := Hyl.out; rw [e] at this; simp at this; omega
                · have h1 : y.data.toList[y.size - 1]? = some 10 := by
                    have h2 := Hyl.out
                    rw [e, List.length_append, List.length_singleton] at h2
                    rw [e, List.getElem?_append_right (by omega), show y.size - 1 - p.length = 0 by omega]
                    rfl
                  rw [Array.getElem?_toList, Array.getElem?_eq_getElem hls] at h1
                  injection h1 with h1
                  show (y.data[y.size - 1]'hls).toNat = 10
                  rw [h1]
                  rfl
              have q0 : (0 : Int) ≤ (y.size : Int) - 1 := by omega
              have q1 : (y.size : Int) - 1 < (y.size : Int) := by omega
              have qt : ((y.size : Int) - 1).toNat = y.size - 1 := by omega
              clear h0 hN
              go_wp2_with fail
              go_ret
              exact ⟨rfl, Hb.out⟩
end Go.Proofs.YtanlmfnhlldkeaaGreatDoor
