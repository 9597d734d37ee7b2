/-
  The walk of TrailTurned.
-/
import Derived.Test.YtncokblinocgaaaGreatDoorTrV
import Derived.Test.YtncokblinocgaaaGreatDoorDoorA
import Derived.Laws.IdiomStrings
import Derived.Deep.RegionHeld3
namespace Go.Proofs.YtncokblinocgaaaGreatDoor
open Go.RowKit
set_option maxRecDepth 100000
set_option linter.unusedVariables false

set_option maxHeartbeats 8000000 in
theorem TrailTurned_walk (m : Nat) (U : List Int) (Ua : Option Addr) (Uc : Nat) {W : World} (hU : U.length = m * 2) (iU : IntsAt W Ua U) (sU : m * 2 < 2 ^ 47) (bU : ∀ x ∈ U, I64 x) (n : Nat) (F : List Int) (Fa : Option Addr) (Fc : Nat) (hF : F.length = n * 2) (iF : IntsAt W Fa F) (sF : n * 2 < 2 ^ 47) (bF : ∀ x ∈ F, I64 x)
    (q : Nat) (K : List Int) (Ka : Option Addr) (Kc : Nat) (hn : K.length = q * 4) (hK : IntsAt W Ka K) (sK : q * 4 < 2 ^ 47) (bK : ∀ x ∈ K, I64 x)
    (i : Int) (bi : I64 i) (c : Int) (bc : 0 ≤ c ∧ c ≤ 255) (w : World) (hw : w = W) (hG : Glob W) :
    Calls Tryz.prog 6 #[.slice Ua m Uc, .slice Fa n Fc, .slice Ka q Kc, .int .i64 i, .int .u8 c] w fun e w' => e = .returned (.bool true) ∧ Below W.heap.size W w' := by
  subst hw
  obtain ⟨x8, rfl⟩ : ∃ x : UInt8, c = (x.toNat : Int) := ⟨UInt8.ofNat c.toNat, by simp; omega⟩
  have H0 := Lib.hid (trailFact_true w hG)
  by_cases h12 : labsCode U m 8 = 0 ∧ labsCode F n 8 = 0
  · have hL : LabsOk m n U F := ⟨h12.1, h12.2, hU, hF⟩
    have HT := Lib.hid (fun V (hV : Below w.heap.size w V) => Told_ok U F m n hL Ua Fa Uc Fc V (iU.below hV) (iF.below hV) q K Ka Kc hn (hK.below hV) (hG.next hV))
    have HO := Lib.hid (fun V (s : ByteArray) (hs : s.size < 4294967281) (hV : Below w.heap.size w V) => TOpen_ok U F m n hU hF Ua Fa Uc Fc s hs V (hG.next hV) (iU.below hV) (iF.below hV) h12.1 h12.2)
    have hlen : TLen m n U F (tRun U F K (tStart m n) (min q 60)) := (TLen.start hL.m8 hL.n8).run _
    have Hturn := Lib.hid (fun (j : Nat) (x : UInt8) => open_turned (K := K) (i := j) (c := x) (TInv.start (U := U) (F := F) hL.m8 hL.n8) rfl rfl (min q 60))
    generalize tRun U F K (tStart m n) (min q 60) = T at *
    clear h12
    go_enter Tryz.func6, Tryz.ntmps6
    go_wp2_with fail
    with_reducible refine H0.out.mono ?_
    rintro e w1 ⟨rfl, hb1⟩
    go_wp2_with fail
    with_reducible refine (HT.out _ hb1).mono ?_
    rintro e w2 ⟨⟨b, p, v, A, own, rfl, hT⟩, hb2⟩
    have hb02 := hb1.trans (hb2.mono hb1.size)
    have CT := Lib.hid (TText_any hT)
    have hlowT := hT.low
    clear hT H0 HT
    go_wp2_with fail
    with_reducible refine CT.out.mono ?_
    rintro e w3 ⟨rfl, hT3, hq3⟩
    have hb03 := hq3.to_below (B := w.heap.size) (w0 := w) (fun k hk => Nat.le_trans hb1.size (hlowT k hk)) hb02 hb02.size
    have hloglen := hlen.inv.log
    have hmany := hlen.inv.many
    have Hs := Lib.hid (show (⟨T.log.toArray⟩ : ByteArray).data.toList = T.log from ba_of _)
    have hsz : (⟨T.log.toArray⟩ : ByteArray).size = T.log.length := by rw [ba_size, ba_of]
    have hss : (⟨T.log.toArray⟩ : ByteArray).size ≤ 100 * 20 := by rw [hsz]; omega
    replace hsz := Lib.hid hsz
    generalize (⟨T.log.toArray⟩ : ByteArray) = str at *
    clear CT hT3 hq3
    by_cases hi0 : i < 0
    · have d0 : decide (i < 0) = true := by simp; omega
      go_wp2_with fail
      go_ret
      exact ⟨rfl, hb03⟩
    have d0 : decide (i < 0) = false := by simp; omega
    by_cases hi1 : (str.size : Int) ≤ i
    · have d1 : decide (i ≥ (str.size : Int)) = true := by simp; omega
      go_wp2_with fail
      go_ret
      exact ⟨rfl, hb03⟩
    obtain ⟨j, rfl⟩ := Int.eq_ofNat_of_zero_le (show 0 ≤ i by omega)
    have hj : j < str.size := by omega
    have d1 : decide ((j : Int) ≥ (str.size : Int)) = false := by simp; omega
    go_wp2_with fail
    · go_ret
      exact ⟨rfl, hb03⟩
    · go_ret
      exact ⟨rfl, hb03⟩
    · go_ret
      exact ⟨rfl, hb03⟩
    rename_i hn10 hc10 hnc _ _
    have Hn := Lib.hid (And.intro hn10 (And.intro hc10 hnc))
    clear hn10 hc10 hnc
    go_loopw [15, 16] (fun ln i wr => ∃ (k : Nat), k ≤ j ∧ i = .int .i64 k ∧ ln = .int .i64 ((T.log.take k).count 10 + 1 : Nat) ∧ wr = w3) (fun _ i _ => j - (intOf i).toNat)
    case atStart => exact ⟨0, Nat.zero_le _, rfl, by simp, rfl⟩
    case round =>
      obtain ⟨k, hk, rfl, rfl, hwr⟩ := hrel
      have hwr2 : w3 = wr := hwr.symm
      clear hwr
      subst hwr2
      by_cases hlt : k < j
      · have hks : k < str.size := by omega
        have Hc := Lib.hid (count_next (l := T.log) (k := k) (by have := hsz.out; omega))
        obtain ⟨x, hx⟩ : ∃ x : Nat, (str[k]'hks).toNat = x := ⟨_, rfl⟩
        have hgx : (T.log.getD k 0).toNat = x := by rw [← hx, ← Hs.out, List.getD_eq_getElem?_getD, Array.getElem?_toList, Array.getElem?_eq_getElem hks]; rfl
        have hcl : (T.log.take k).count 10 ≤ T.log.length := Nat.le_trans List.count_le_length (by rw [List.length_take]; omega)
        rw [hgx] at Hc
        clear hgx
        by_cases h10 : x = 10
        · rw [if_pos h10] at Hc
          have d10 : ((x : Int) == 10) = true := by simp; omega
          generalize (T.log.take k).count 10 = S at *
          go_wp2_with fail
          refine ⟨⟨k + 1, ?ya, ?yb, ?yc, trivial⟩, ?yd⟩
          case ya => omega
          case yb => go_num
          case yc => rw [Hc.out]; go_num
          case yd => simp [intOf]; omega
        · rw [if_neg h10] at Hc
          have d10 : ((x : Int) == 10) = false := by simp; omega
          generalize (T.log.take k).count 10 = S at *
          go_wp2_with fail
          refine ⟨⟨k + 1, ?ya, ?yb, ?yc, trivial⟩, ?yd⟩
          case ya => omega
          case yb => go_num
          case yc => rw [Hc.out]
          case yd => simp [intOf]; omega
      · obtain rfl : k = j := by omega
        have n0 : (0 : Int) ≤ (k : Int) := by omega
        have n1 : (k : Int) ≤ (str.size : Int) := by omega
        have p0 : (0 : Int) ≤ (k : Int) + 1 := by omega
        have p1 : (k : Int) + 1 ≤ (str.size : Int) := by omega
        have pw : IntKind.i64.wrap ((k : Int) + 1) = (k : Int) + 1 := (IntKind.wrap_i64 _).trans (by omega)
        have hcv : (convert 63 9 (.slice (some ⟨w3.heap.size, 0, none⟩) 1 1)).run Tryz.prog (w3.alloc (.cells #[.int .u8 (x8.toNat : Int)] 5)).drew = .ok (.string ⟨#[x8]⟩) (w3.alloc (.cells #[.int .u8 (x8.toNat : Int)] 5)).drew := run_convert_bytes_back (P := Tryz.prog) (w3.alloc (.cells #[.int .u8 (x8.toNat : Int)] 5)).drew 63 9 5 ⟨w3.heap.size, 0, none⟩ 1 [x8] Tryz.underlying63 Tryz.underlying5 Tryz.underlying9 (fun j hj => by
          obtain rfl : j = 0 := by simpa using hj
          simp [Addr.add])
        have hz1 : (str.extract 0 k).size = k := by rw [ByteArray.size_extract]; omega
        have hz2 : (str.extract (k + 1) str.size).size = str.size - (k + 1) := by rw [ByteArray.size_extract]; omega
        have hz3 : (⟨#[x8]⟩ : ByteArray).size = 1 := rfl
        have hz4 : (str.extract 0 k ++ ⟨#[x8]⟩).size = k + 1 := by rw [ByteArray.size_append, hz1, hz3]
        have l1 : ¬ 9223372036854775807 < (str.extract 0 k).size + (⟨#[x8]⟩ : ByteArray).size := by rw [hz1, hz3]; omega
        have l2 : ¬ 9223372036854775807 < (str.extract 0 k ++ ⟨#[x8]⟩).size + (str.extract (k + 1) str.size).size := by rw [hz4, hz2]; omega
        have hz5 : (str.extract 0 k ++ ⟨#[x8]⟩ ++ str.extract (k + 1) str.size).size = str.size := by rw [ByteArray.size_append, hz4, hz2]; omega
        have hstr : (str.extract 0 k ++ ⟨#[x8]⟩ ++ str.extract (k + 1) str.size).data.toList = T.log.set k x8 := by rw [turned_ext hj, ba_of, Hs.out]
        have hgk : T.log[k]? = some (str[k]'hj) := by rw [← Hs.out, Array.getElem?_toList, Array.getElem?_eq_getElem hj]; rfl
        obtain ⟨T', code, ho, hcode⟩ := Hturn.out k x8 (by have := hsz.out; omega) (by
          rw [hgk]; intro e; injection e with e; exact Hn.out.1 (by rw [e]; rfl)) (by
          intro e; exact Hn.out.2.1 (by rw [e]; rfl)) (by
          rw [hgk]; intro e; injection e with e; have h3 := Hn.out.2.2.2; rw [e] at h3; simp at h3)
        have hbA : Below w.heap.size w (w3.alloc (.cells #[.int .u8 (x8.toNat : Int)] 5)).drew := (hb03.alloc hb03.size _).drew
        have hcl : (T.log.take k).count 10 ≤ T.log.length := Nat.le_trans List.count_le_length (by rw [List.length_take]; omega)
        have CO := HO.out _ _ (by rw [hz5]; omega) hbA
        rw [hstr, ho] at CO
        have CO := Lib.hid (CO.mono (R' := fun e w' => e = .returned (.tuple #[.pointer none, .int .i64 ((T.log.take k).count 10 + 1 : Nat), .iface 97 (.int .i64 code)]) ∧ Below (w3.alloc (.cells #[.int .u8 (x8.toNat : Int)] 5)).drew.heap.size (w3.alloc (.cells #[.int .u8 (x8.toNat : Int)] 5)).drew w') fun e w' ⟨hp, hb⟩ => ⟨by
          rcases hp with ⟨h0, _⟩ | ⟨_, he⟩
          · exfalso
            have h0 : code = 0 := h0
            omega
          · exact he, hb⟩)
        have HE := Lib.hid (fun V (hV : Below w.heap.size w V) => hG.err.next hV)
        generalize (T.log.take k).count 10 = S at *
        have dS : ((S : Int) + 1 == (S : Int) + 1) = true := by simp
        clear HO Hturn ho hstr hgk hz1 hz2 hz3 hz4 hz5
        rcases hcode with rfl | rfl
        · have C2 := Lib.hid (fun V (hV : Below w.heap.size w V) => show Calls Tryz.prog 17 #[.iface 97 (.int .i64 2), .int .i64 2] V fun e w' => e = .returned (.bool true) ∧ Below V.heap.size V w' from Error_is 2 2 true V (HE.out V hV) rfl)
          go_wp2_with fail
          go_region_with ((go_at_call 27; with_reducible refine CO.out.mono ?_; rintro e w4 ⟨rfl, hb4⟩))
          have hb04 := hbA.trans (hb4.mono hbA.size)
          go_wp2_with fail
          with_reducible refine (C2.out _ hb04).mono ?_
          rintro e w5 ⟨rfl, hb5⟩
          go_wp2_with fail
          go_ret
          exact ⟨rfl, hb04.trans (hb5.mono hb04.size)⟩
        · have C2 := Lib.hid (fun V (hV : Below w.heap.size w V) => show Calls Tryz.prog 17 #[.iface 97 (.int .i64 6), .int .i64 2] V fun e w' => e = .returned (.bool false) ∧ Below V.heap.size V w' from Error_is 6 2 false V (HE.out V hV) rfl)
          have C6 := Lib.hid (fun V (hV : Below w.heap.size w V) => show Calls Tryz.prog 17 #[.iface 97 (.int .i64 6), .int .i64 6] V fun e w' => e = .returned (.bool true) ∧ Below V.heap.size V w' from Error_is 6 6 true V (HE.out V hV) rfl)
          go_wp2_with fail
          go_region_with ((go_at_call 27; with_reducible refine CO.out.mono ?_; rintro e w4 ⟨rfl, hb4⟩))
          have hb04 := hbA.trans (hb4.mono hbA.size)
          go_wp2_with fail
          with_reducible refine (C2.out _ hb04).mono ?_
          rintro e w5 ⟨rfl, hb5⟩
          have hb05 := hb04.trans (hb5.mono hb04.size)
          go_wp2_with fail
          with_reducible refine (C6.out _ hb05).mono ?_
          rintro e w6 ⟨rfl, hb6⟩
          go_wp2_with fail
          go_ret
          exact ⟨rfl, hb05.trans (hb6.mono hb05.size)⟩
  · have HT := Lib.hid (fun V (hV : Below w.heap.size w V) => Told_bad U F m n hU hF Ua Fa Uc Fc (.slice Ka q Kc) V (iU.below hV) (iF.below hV) (by omega) (by omega) h12)
    clear h12
    go_enter Tryz.func6, Tryz.ntmps6
    go_wp2_with fail
    with_reducible refine H0.out.mono ?_
    rintro e w1 ⟨rfl, hb1⟩
    go_wp2_with fail
    with_reducible refine (HT.out _ hb1).mono ?_
    rintro e w2 ⟨rfl, hb2⟩
    go_wp2_with fail
    go_ret
    exact ⟨rfl, hb1.trans (hb2.mono hb1.size)⟩
end Go.Proofs.YtncokblinocgaaaGreatDoor
