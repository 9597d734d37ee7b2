/-
  The walk of KernelAgain.
-/
import Derived.Test.YtanlmfnhlldkeaaGreatDoorKLdD
import Derived.Test.YtanlmfnhlldkeaaGreatDoorKAgN
import Derived.Test.YtanlmfnhlldkeaaGreatDoorKernFact
import Derived.Test.YtanlmfnhlldkeaaGreatDoorSaveB
import Derived.Test.YtanlmfnhlldkeaaGreatDoorKerF
import Derived.Test.YtanlmfnhlldkeaaGreatDoorAsA
import Derived.Test.YtanlmfnhlldkeaaGreatDoorInts
import Derived.Deep.QuietTactic
import Derived.BigQuiet
import Derived.Deep.RegionHeld3
namespace Go.Proofs.YtanlmfnhlldkeaaGreatDoor
open Go.RowKit
set_option maxRecDepth 100000
set_option linter.unusedVariables false

/-- What is wrong with a run of b ticks at tick t. -/
def rC (t : Nat) (b : Int) : Nat := if ¬ (0 ≤ b ∧ b ≤ 300) then 1 else if b > 300 - (t : Int) then 4 else 0
def rS (L : List (List Int)) (T : List Int) (s : KState) (t : Nat) (b : Int) : KState := if rC t b = 0 then kturns (sysOps L) (turnsFrom T t b.toNat) s else s
def rT (t : Nat) (b : Int) : Nat := if rC t b = 0 then t + b.toNat else t
theorem rC_zero {t : Nat} {b : Int} (h : rC t b = 0) : 0 ≤ b ∧ b ≤ 300 ∧ t + b.toNat ≤ 300 := by
  unfold rC at h
  split at h
  · cases h
  · split at h
    · cases h
    · omega
theorem rT_le {t : Nat} {b : Int} (ht : t ≤ 300) : rT t b ≤ 300 := by
  unfold rT
  split
  · rename_i h; exact (rC_zero h).2.2
  · exact ht
section
variable {role : Nat → Nat} {lo hi : Nat} {w : World} {p : Nat} {K : KF} {L : List (List Int)} {P : List Int} {q : Nat} {T : List Int} {s : KState} {t u : Nat}
theorem rS_inv (hs : SysOk L P q T) (hI : KInv s u) (b : Int) : KInv (rS L T s t b) (u + 300) := by
  unfold rS
  split
  · rename_i h
    have h1 := hI.turns hs (turnsFrom T t b.toNat)
    have h2 : (turnsFrom T t b.toNat).length = b.toNat := by simp [turnsFrom]
    rw [h2] at h1
    have := rC_zero h
    exact h1.mono (by omega)
  · exact hI.mono (by omega)
theorem Run_all (h : KernAt role lo hi w p K L P q T s t) (hs : SysOk L P q T) (hI : KInv s u) (hu : u ≤ 10000) (ht : t ≤ 300) (b : Int) :
    Calls Tryz.prog 18 #[.pointer (some ⟨p, 0, none⟩), .int .i64 b] w fun e w' => e = .returned (errVal (rC t b)) ∧ RunPost role lo hi w p K L P q T (rS L T s t b) (rT t b) w' := by
  by_cases h1 : 0 ≤ b ∧ b ≤ 300
  · by_cases h4 : b > 300 - (t : Int)
    · have hc : rC t b = 4 := by unfold rC; rw [if_neg (by omega), if_pos h4]
      have h2 : rS L T s t b = s := by unfold rS; rw [if_neg (by omega)]
      have h3 : rT t b = t := by unfold rT; rw [if_neg (by omega)]
      rw [hc, h2, h3, errVal_pos (by decide)]
      exact (Run_bad4 h b h1 h4 (by omega)).mono fun e w' ⟨he, hw⟩ => ⟨he, hw ▸ ⟨role, h, RoleTo.refl _ _⟩⟩
    · have hc : rC t b = 0 := by unfold rC; rw [if_neg (by omega), if_neg h4]
      obtain ⟨n, rfl⟩ := Int.eq_ofNat_of_zero_le h1.1
      have h2 : rS L T s t (n : Int) = kturns (sysOps L) (turnsFrom T t n) s := by unfold rS; rw [if_pos hc]; rfl
      have h3 : rT t (n : Int) = t + n := by unfold rT; rw [if_pos hc]; rfl
      rw [hc, h2, h3, errVal_zero]
      exact Run_ok h hs hI hu n (by omega) (by omega)
  · have hc : rC t b = 1 := by unfold rC; rw [if_pos h1]
    have h2 : rS L T s t b = s := by unfold rS; rw [if_neg (by omega)]
    have h3 : rT t b = t := by unfold rT; rw [if_neg (by omega)]
    rw [hc, h2, h3, errVal_pos (by decide)]
    exact (Run_bad1 h b h1).mono fun e w' ⟨he, hw⟩ => ⟨he, hw ▸ ⟨role, h, RoleTo.refl _ _⟩⟩
end
section
variable {L : List (List Int)} {P T : List Int} {q : Nat} {a b : Int} {Ap Ao At : Option Addr} {cp co ct : Nat} {w : World}
set_option maxHeartbeats 4000000 in
theorem KernelAgain_bad (hL : RowsIn anyB 3 w Ap L) (hP : IntsIn anyB w Ao P) (hl : P.length = q * 2) (hT : IntsIn anyB w At T) (nL : L.length ≤ maxLen) (nq : q ≤ maxLen) (nT : T.length ≤ maxLen)
    (hc : sysCode L P q T ≠ 0) :
    Calls Tryz.prog 4 #[.agg #[.slice Ap L.length cp, .slice Ao q co, .slice At T.length ct], .int .i64 a, .int .i64 b] w fun e w' => e = .returned (.bool true) ∧ Below w.heap.size w w' := by
  have hb0 := BoxN.new w 26 #[.slice Ap L.length cp, .slice Ao q co, .slice At T.length ct]
  have hbW := (Below.refl w.heap.size w).alloc (Nat.le_refl _) (.cells #[.slice Ap L.length cp, .slice Ao q co, .slice At T.length ct] 26)
  go_enter Tryz.func4, Tryz.ntmps4
  go_wp2_with fail
  generalize w.alloc (.cells #[.slice Ap L.length cp, .slice Ao q co, .slice At T.length ct] 26) = W0 at *
  refine (kernelFact_true W0).mono ?_
  rintro e w1 ⟨rfl, hb1⟩
  have hbx1 := hb0.all hb1
  have hbw1 := hbW.trans (hb1.mono hbW.size)
  clear hb0 hb1 hbW
  have x0 := hbx1.cell (k := 0) rfl
  have x1 := hbx1.cell (k := 1) rfl
  have x2 := hbx1.cell (k := 2) rfl
  have HN := Lib.hid (fun V (hV : Below w1.heap.size w1 V) => New_bad (cp := cp) (co := co) (ct := ct) ((hL.below hbw1).below hV) ((hP.below hbw1).below hV) hl ((hT.below hbw1).below hV) rfl rfl nL nq nT rfl hc)
  generalize sysCode L P q T = k at *
  go_wp2_with fail
  refine (HN.out _ (Below.refl _ _)).mono ?_
  rintro e w2 ⟨rfl, hb2⟩
  have hbw2 := hbw1.trans (hb2.mono hbw1.size)
  clear x0 x1 x2
  go_wp2_with fail
  go_ret
  exact ⟨rfl, hbw2⟩
set_option maxHeartbeats 4000000 in
theorem KernelAgain_out (hL : RowsIn anyB 3 w Ap L) (hP : IntsIn anyB w Ao P) (hl : P.length = q * 2) (hT : IntsIn anyB w At T) (nL : L.length ≤ maxLen) (nq : q ≤ maxLen) (nT : T.length ≤ maxLen)
    (hc : sysCode L P q T = 0) (ha : ¬ (0 ≤ a ∧ a ≤ 300)) :
    Calls Tryz.prog 4 #[.agg #[.slice Ap L.length cp, .slice Ao q co, .slice At T.length ct], .int .i64 a, .int .i64 b] w fun e w' => e = .returned (.bool true) ∧ Below w.heap.size w w' := by
  have hb0 := BoxN.new w 26 #[.slice Ap L.length cp, .slice Ao q co, .slice At T.length ct]
  have hbW := (Below.refl w.heap.size w).alloc (Nat.le_refl _) (.cells #[.slice Ap L.length cp, .slice Ao q co, .slice At T.length ct] 26)
  have Ha := Lib.hid ha
  clear ha
  go_enter Tryz.func4, Tryz.ntmps4
  go_wp2_with fail
  generalize w.alloc (.cells #[.slice Ap L.length cp, .slice Ao q co, .slice At T.length ct] 26) = W0 at *
  refine (kernelFact_true W0).mono ?_
  rintro e w1 ⟨rfl, hb1⟩
  have hbx1 := hb0.all hb1
  have hbw1 := hbW.trans (hb1.mono hbW.size)
  clear hb0 hb1 hbW
  have x0 := hbx1.cell (k := 0) rfl
  have x1 := hbx1.cell (k := 1) rfl
  have x2 := hbx1.cell (k := 2) rfl
  have HN := Lib.hid (New_ok (cp := cp) (co := co) (ct := ct) (hL.below hbw1) (hP.below hbw1) hl (hT.below hbw1) rfl rfl nL nq nT hc)
  go_wp2_with fail
  refine HN.out.mono ?_
  rintro e w2 ⟨⟨p, rfl, gp, gh, K, hK⟩, hb2⟩
  have hbw2 := hbw1.trans (hb2.mono hbw1.size)
  clear x0 x1 x2 HN
  have R1 := Lib.hid (Run_bad1 hK a Ha.out)
  have K1 := Lib.hid (Tick_any hK)
  clear hK
  go_wp2_with fail
  refine R1.out.mono ?_
  rintro e w3 ⟨rfl, rfl⟩
  go_wp2_with fail
  refine K1.out.mono ?_
  rintro e w' ⟨rfl, rfl⟩
  go_wp2_with fail
  go_ret
  exact ⟨rfl, hbw2⟩
end
set_option maxHeartbeats 16000000 in
theorem KernelAgain_in {L : List (List Int)} {P T : List Int} {q a : Nat} {b : Int} {Ap Ao At : Option Addr} {cp co ct : Nat} {w : World} (hL : RowsIn anyB 3 w Ap L) (hP : IntsIn anyB w Ao P) (hl : P.length = q * 2) (hT : IntsIn anyB w At T) (nL : L.length ≤ maxLen) (nq : q ≤ maxLen) (nT : T.length ≤ maxLen)
    (ha : a ≤ 300) (hc : sysCode L P q T = 0) (hG : Glob w) :
    Calls Tryz.prog 4 #[.agg #[.slice Ap L.length cp, .slice Ao q co, .slice At T.length ct], .int .i64 a, .int .i64 b] w fun e w' => e = .returned (.bool true) ∧ Below w.heap.size w w' := by
  have hb0 := BoxN.new w 26 #[.slice Ap L.length cp, .slice Ao q co, .slice At T.length ct]
  have hbW := (Below.refl w.heap.size w).alloc (Nat.le_refl _) (.cells #[.slice Ap L.length cp, .slice Ao q co, .slice At T.length ct] 26)
  have hsW : (w.alloc (.cells #[.slice Ap L.length cp, .slice Ao q co, .slice At T.length ct] 26)).heap.size = w.heap.size + 1 := by simp
  have Hok := Lib.hid (sysOk hc)
  have HLd := Lib.hid (fun V (hV : Below w.heap.size w V) (s : ByteArray) => Load_any (cp := cp) (co := co) (ct := ct) (hG.next hV) (hL.below hV) (hP.below hV) hl (hT.below hV) rfl rfl hc s)
  have HG := Lib.hid hG
  have HN0 := Lib.hid (fun V (hV : Below w.heap.size w V) => New_ok (cp := cp) (co := co) (ct := ct) (hL.below hV) (hP.below hV) hl (hT.below hV) rfl rfl nL nq nT hc)
  clear hL hP hT hl nL nq nT hc hG
  go_enter Tryz.func4, Tryz.ntmps4
  go_wp2_with fail
  generalize w.alloc (.cells #[.slice Ap L.length cp, .slice Ao q co, .slice At T.length ct] 26) = W0 at *
  refine (kernelFact_true W0).mono ?_
  rintro e w1 ⟨rfl, hb1⟩
  have hbx1 := hb0.all hb1
  have hbw1 := hbW.trans (hb1.mono hbW.size)
  have Hs1 := Lib.hid (show w.heap.size < w1.heap.size by have := hbx1.lt; omega)
  clear hb0 hb1 hsW hbW
  have x0 := hbx1.cell (k := 0) rfl
  have x1 := hbx1.cell (k := 1) rfl
  have x2 := hbx1.cell (k := 2) rfl
  have HN := Lib.hid (HN0.out _ hbw1)
  clear HN0
  go_wp2_with fail
  refine HN.out.mono ?_
  rintro e w2 ⟨⟨p, rfl, gp, gh, K, hK⟩, hb2⟩
  have hbx2 := hbx1.all hb2
  have hbw2 := hbw1.trans (hb2.mono hbw1.size)
  have Hs12 := Lib.hid hb2.size
  have HLow := Lib.hid hK.low
  have R1 := Lib.hid (Run_ok hK Hok.out kNew_inv (by omega) a (by omega) (by omega))
  clear HN x0 x1 x2 hbx1 hb2 hK
  go_wp2_with fail
  refine R1.out.mono ?_
  rintro e w3 ⟨rfl, r3, k3, t3⟩
  rw [Nat.zero_add] at k3
  have hI1 := kNew_inv.turns Hok.out (turnsFrom T 0 a)
  have hl1 : (turnsFrom T 0 a).length = a := by simp [turnsFrom]
  rw [hl1, Nat.zero_add] at hI1
  have hTd := KTidy.turns Hok.out (turnsFrom T 0 a) (KTidy.new (n := L.length) (q := q))
  obtain ⟨s1, he1⟩ : ∃ s1, kturns (sysOps L) (turnsFrom T 0 a) kNew = s1 := ⟨_, rfl⟩
  rw [he1] at k3 hI1 hTd
  have hB3 := t3.to_below (B := w.heap.size + 1) (fun b hb => HLow.out b (by have := Hs1.out; omega)) (by have := hbx2.lt; omega)
  have hbx3 := hbx2.below hB3 (by omega)
  have hbw3 := hbw2.trans (hB3.mono (by omega))
  have Hlow3 := Lib.hid (show ∀ b, b < w.heap.size + 1 → r3 b = 0 from fun b hb => by
    rw [t3.keep b (by have := hbx2.lt; omega)]
    exact HLow.out b (by have := Hs1.out; omega))
  have HI1 := Lib.hid hI1
  have HTd := Lib.hid hTd
  have Hs23 := Lib.hid t3.size
  have hL5 : L.length ≤ 5 := Hok.out.parts.2
  have S1 := Lib.hid (Save_any k3 hI1 (by omega) ha hL5 Hok.out.few (HG.out.pow.next hbw3 hbw3.size (Nat.le_refl _)))
  obtain ⟨str, hstr⟩ : ∃ str, saveH s1 a L.length q = str := ⟨_, rfl⟩
  have HLs := Lib.hid (load_save (n := L.length) (q := q) hI1 ha)
  rw [hstr] at S1 HLs
  have Hstr := Lib.hid hstr
  obtain ⟨sb, hsb⟩ : ∃ sb : ByteArray, (⟨str.toArray⟩ : ByteArray) = sb := ⟨_, rfl⟩
  have hsbl : sb.data.toList = str := by rw [← hsb]
  have hsbs : sb.size = str.length := by rw [ba_size, hsbl]
  rw [hsb] at S1
  have Hsb := Lib.hid hsb
  have HK3 := Lib.hid k3
  have HX3 := Lib.hid hbx3
  have Hbw3 := Lib.hid hbw3
  clear R1 he1 hl1 hI1 hTd hstr hsb t3 hB3 hbx2 hbx3 k3 hbw1 hbw2 hbw3
  go_wp2_with fail
  refine S1.out.mono ?_
  rintro e w4 ⟨rfl, hb4⟩
  have hbx4 := HX3.out.all hb4
  have hbw4 := Hbw3.out.trans (hb4.mono Hbw3.out.size)
  have HLd4 := Lib.hid (HLd.out _ hbw4 sb)
  rw [hsbl, HLs.out] at HLd4
  have x0 := hbx4.cell (k := 0) rfl
  have x1 := hbx4.cell (k := 1) rfl
  have x2 := hbx4.cell (k := 2) rfl
  have Hsbl := Lib.hid hsbl
  have Hsbs := Lib.hid hsbs
  have HX4 := Lib.hid hbx4
  have Hbw4 := Lib.hid hbw4
  have Hb4 := Lib.hid hb4
  clear S1 HLd HLs hsbl hsbs hbx4 hbw4 hb4
  by_cases h4 : 4000 < str.length
  · rw [if_pos h4] at HLd4
    have g4 : decide ((sb.size : Int) > 4000) = true := decide_eq_true (by have := Hsbs.out; omega)
    clear h4
    go_wp2_with fail
    refine HLd4.out.mono ?_
    rintro e w5 ⟨rfl, hb5⟩
    have hbw5 := Hbw4.out.trans (hb5.mono Hbw4.out.size)
    have HEr := Lib.hid (show Calls Tryz.prog 12 #[.iface 63 (.int .i64 4), .int .i64 4] w5 fun e w' => e = .returned (.bool true) ∧ Below w5.heap.size w5 w' from Error_is 4 4 true w5 (HG.out.err.next hbw5) rfl)
    clear x0 x1 x2
    go_wp2_with fail
    refine HEr.out.mono ?_
    rintro e w6 ⟨rfl, hb6⟩
    go_wp2_with fail
    go_ret
    exact ⟨rfl, hbw5.trans (hb6.mono hbw5.size)⟩
  · rw [if_neg h4] at HLd4
    clear h4
    go_wp2_with fail
    refine HLd4.out.mono ?_
    rintro e w5 ⟨⟨p2, role2, hi2, K2, rfl, hK2⟩, hb5⟩
    rw [load_tidy HTd.out, load_tick] at hK2
    have hbx5 := HX4.out.all hb5
    have hbw5 := Hbw4.out.trans (hb5.mono Hbw4.out.size)
    have HK2 := Lib.hid hK2
    have HK35 := Lib.hid ((HK3.out.below Hb4.out).below hb5)
    have Hs34 := Lib.hid Hb4.out.size
    have Hs45 := Lib.hid hb5.size
    have S2 := Lib.hid (fun V (hV : Below w5.heap.size w5 V) => Save_any (hK2.below hV) HI1.out (by omega) ha hL5 Hok.out.few (HG.out.pow.next (hbw5.trans (hV.mono hbw5.size)) (Nat.le_trans hbw5.size hV.size) (Nat.le_refl _)))
    have K1 := Lib.hid (fun V (hV : Below w5.heap.size w5 V) => Tick_any (hK2.below hV))
    have K2' := Lib.hid (fun V (hV : Below w5.heap.size w5 V) => Tick_any (HK35.out.below hV))
    simp only [Hstr.out, Hsb.out] at S2
    have HX5 := Lib.hid hbx5
    have Hbw5 := Lib.hid hbw5
    clear HLd4 x0 x1 x2 hK2 hbx5 hbw5 hb5
    go_wp2_with fail
    refine (S2.out _ (Below.refl _ _)).mono ?_
    rintro e w6 ⟨rfl, hb6⟩
    go_wp2_with fail
    refine (K1.out _ hb6).mono ?_
    rintro e w' ⟨rfl, rfl⟩
    go_wp2_with fail
    refine (K2'.out _ hb6).mono ?_
    rintro e w' ⟨rfl, rfl⟩
    have hbx6 := HX5.out.all hb6
    have hbw6 := Hbw5.out.trans (hb6.mono Hbw5.out.size)
    have hK16 := HK35.out.below hb6
    have hK26 := HK2.out.below hb6
    have R3 := Lib.hid (Run_all hK16 Hok.out HI1.out (by omega) ha b)
    have Hnew3 := Lib.hid HK3.out.new
    have Hlo2 := Lib.hid hK26.low
    have Hnw2 := Lib.hid hK26.new
    have Hs56 := Lib.hid hb6.size
    clear S2 K1 K2' hb6 hK16 HK35 HK2
    go_wp2_with fail
    refine R3.out.mono ?_
    rintro e w7 ⟨rfl, r7, k7, t7⟩
    have hK27 := hK26.off t7 (fun b hb hh => Hnew3.out b (by
      have h2 := Hs34.out
      have h3 := Hs45.out
      rcases hh with hh | hh
      · rcases Nat.lt_or_ge b w4.heap.size with h1 | h1
        · exact absurd (Hlo2.out b h1) hh
        · omega
      · omega))
    have R4 := Lib.hid (Run_all hK27 Hok.out HI1.out (by omega) ha b)
    have hB7 := t7.to_below (B := w.heap.size + 1) (fun b hb => Hlow3.out b hb) (by have := hbx6.lt; omega)
    have hbx7 := hbx6.below hB7 (by omega)
    have hbw7 := hbw6.trans (hB7.mono (by omega))
    have hi16 := HK3.out.size
    clear hK26 R3 hB7
    go_wp2_with fail
    refine R4.out.mono ?_
    rintro e w8 ⟨rfl, r8, k8, t8⟩
    have k78 := k7.off t8 (fun b hb hh => by
      have h1 := Hs34.out
      have h2 := Hs45.out
      have h3 := Hs56.out
      have h5 := Hs23.out
      rcases Nat.lt_or_ge b w4.heap.size with h4 | h4
      · exact Hlo2.out b h4
      · rcases hh with hh | hh
        · rcases Nat.lt_or_ge b w6.heap.size with h6 | h6
          · rw [t7.keep b h6] at hh
            exact absurd (Hnew3.out b (by omega)) hh
          · exact Hnw2.out b h6
        · omega)
    have hB8 := t8.to_below (B := w.heap.size + 1) (fun b hb => Hlo2.out b (by have := Hs1.out; have := Hs12.out; have := Hs23.out; have := Hs34.out; omega)) (by have := hbx7.lt; omega)
    have hbx8 := hbx7.below hB8 (by omega)
    have hbw8 := hbw7.trans (hB8.mono (by omega))
    have hI8 := rS_inv (T := T) (t := a) Hok.out HI1.out b
    have hT8 := rT_le (b := b) ha
    obtain ⟨s8, hs8⟩ : ∃ s8, rS L T s1 a b = s8 := ⟨_, rfl⟩
    obtain ⟨t8', ht8⟩ : ∃ t8', rT a b = t8' := ⟨_, rfl⟩
    obtain ⟨c8, hc8⟩ : ∃ c8, rC a b = c8 := ⟨_, rfl⟩
    rw [hs8, ht8] at k78 k8
    rw [hs8] at hI8
    rw [ht8] at hT8
    rw [hc8]
    have S3 := Lib.hid (fun V (hV : Below w8.heap.size w8 V) => (Save_any (k78.below hV) hI8 (by omega) hT8 hL5 Hok.out.few (HG.out.pow.next (hbw8.trans (hV.mono hbw8.size)) (Nat.le_trans hbw8.size hV.size) (Nat.le_refl _))).mono fun e w' ⟨he, hb⟩ => (⟨he, hV.trans (hb.mono hV.size)⟩ : _ ∧ Below w8.heap.size w8 w'))
    have S4 := Lib.hid (fun V (hV : Below w8.heap.size w8 V) => (Save_any (k8.below hV) hI8 (by omega) hT8 hL5 Hok.out.few (HG.out.pow.next (hbw8.trans (hV.mono hbw8.size)) (Nat.le_trans hbw8.size hV.size) (Nat.le_refl _))).mono fun e w' ⟨he, hb⟩ => (⟨he, hV.trans (hb.mono hV.size)⟩ : _ ∧ Below w8.heap.size w8 w'))
    obtain ⟨str8, hstr8⟩ : ∃ str, saveH s8 t8' L.length q = str := ⟨_, rfl⟩
    simp only [hstr8] at S3 S4
    have HK1 := Lib.hid k78
    have HK2 := Lib.hid k8
    have HX8 := Lib.hid hbx8
    have Hbw8 := Lib.hid hbw8
    have HI8 := Lib.hid hI8
    have hpd := (Below.refl w8.heap.size w8).drew
    clear R4 hK27 t7 t8 k7 hB8 hbx6 hbx7 hbx8 hbw6 hbw7 hbw8 k78 k8 hs8 ht8 hc8 hI8 hstr8 hi16
    by_cases hz : c8 = 0
    · subst hz
      rw [errVal_zero]
      go_wp2_with fail
      go_region_held3 (fun V => True) (trivial)
        ((first
          | (go_at_call 14; first | (with_reducible refine (S3.out _ hpd).mono ?_; rintro e w9 ⟨rfl, hp1⟩) | (with_reducible refine (S4.out _ hp1).mono ?_; rintro e w10 ⟨rfl, hp2⟩))
          | fail))
      clear S3 S4 hpd hp1
      have x0 := (HX8.out.all hp2).cell (k := 0) rfl
      go_wp2_with fail
      go_loopw [16] (fun i wr => ∃ j : Nat, j ≤ L.length ∧ i = .int .i64 j ∧ Hid (Below w8.heap.size w8 wr)) (fun i _ => L.length - (intOf i).toNat)
      case atStart => exact ⟨0, Nat.zero_le _, rfl, Lib.hid hp2⟩
      case round =>
        obtain ⟨wi, rfl⟩ : ∃ wi : World, wi = wr := ⟨_, rfl⟩
        obtain ⟨j, hj, rfl, hbr⟩ := hrel
        clear x0
        have x0 := (HX8.out.all hbr.out).cell (k := 0) rfl
        by_cases hlt : j < L.length
        · have hlen := (HI8.out.shown j).1
          have SH1 := Lib.hid (Shown_any (HK1.out.below hbr.out) (i := j) hlt hL5 (by omega))
          have SH2 := Lib.hid (fun V (hV : Below wi.heap.size wi V) => Shown_any ((HK2.out.below hbr.out).below hV) (i := j) hlt hL5 (by omega))
          obtain ⟨l, hl⟩ : ∃ l, (s8.parts j).shown = l := ⟨_, rfl⟩
          rw [hl] at SH1 hlen
          simp only [hl] at SH2
          clear hl
          go_wp2_with fail
          refine SH1.out.mono ?_
          rintro e wa ⟨⟨A1, c1, rfl, o1⟩, hba⟩
          have Ho1 := Lib.hid o1
          have Hba := Lib.hid hba
          clear SH1 o1 hba
          go_wp2_with fail
          refine (SH2.out _ Hba.out).mono ?_
          rintro e wb ⟨⟨A2, c2, rfl, o2⟩, hbb⟩
          have HIn := Lib.hid (Ints_any l l A1 A2 c1 c2 wb (Ho1.out.intsIn.at_.below hbb) o2.intsIn.at_ (by omega))
          have Hbb := Lib.hid (hbr.out.trans ((Hba.out.trans (hbb.mono Hba.out.size)).mono hbr.out.size))
          clear SH2 o2 hbb
          go_wp2_with fail
          refine HIn.out.mono ?_
          rintro e wc ⟨rfl, nd, rfl⟩
          have dl : decide (l = l) = true := by simp
          go_wp2_with fail
          refine ⟨⟨j + 1, ?ya, ?yb, Lib.hid (below_drewN Hbb.out nd)⟩, ?yd⟩
          case ya => omega
          case yb => go_num
          case yd => simp [intOf]; omega
        · have hjl : j = L.length := by omega
          have djl : decide ((j : Int) < (L.length : Int)) = false := by simp; omega
          clear hjl
          go_wp2_with fail
          go_ret
          exact ⟨rfl, Hbw8.out.trans (hbr.out.mono Hbw8.out.size)⟩
    · rw [errVal_pos hz]
      go_wp2_with fail
      go_region_held3 (fun V => True) (trivial)
        ((first
          | (go_at_call 14; first | (with_reducible refine (S3.out _ hpd).mono ?_; rintro e w9 ⟨rfl, hp1⟩) | (with_reducible refine (S4.out _ hp1).mono ?_; rintro e w10 ⟨rfl, hp2⟩))
          | fail))
      clear S3 S4 hpd hp1
      have x0 := (HX8.out.all hp2).cell (k := 0) rfl
      go_wp2_with fail
      go_loopw [16] (fun i wr => ∃ j : Nat, j ≤ L.length ∧ i = .int .i64 j ∧ Hid (Below w8.heap.size w8 wr)) (fun i _ => L.length - (intOf i).toNat)
      case atStart => exact ⟨0, Nat.zero_le _, rfl, Lib.hid hp2⟩
      case round =>
        obtain ⟨wi, rfl⟩ : ∃ wi : World, wi = wr := ⟨_, rfl⟩
        obtain ⟨j, hj, rfl, hbr⟩ := hrel
        clear x0
        have x0 := (HX8.out.all hbr.out).cell (k := 0) rfl
        by_cases hlt : j < L.length
        · have hlen := (HI8.out.shown j).1
          have SH1 := Lib.hid (Shown_any (HK1.out.below hbr.out) (i := j) hlt hL5 (by omega))
          have SH2 := Lib.hid (fun V (hV : Below wi.heap.size wi V) => Shown_any ((HK2.out.below hbr.out).below hV) (i := j) hlt hL5 (by omega))
          obtain ⟨l, hl⟩ : ∃ l, (s8.parts j).shown = l := ⟨_, rfl⟩
          rw [hl] at SH1 hlen
          simp only [hl] at SH2
          clear hl
          go_wp2_with fail
          refine SH1.out.mono ?_
          rintro e wa ⟨⟨A1, c1, rfl, o1⟩, hba⟩
          have Ho1 := Lib.hid o1
          have Hba := Lib.hid hba
          clear SH1 o1 hba
          go_wp2_with fail
          refine (SH2.out _ Hba.out).mono ?_
          rintro e wb ⟨⟨A2, c2, rfl, o2⟩, hbb⟩
          have HIn := Lib.hid (Ints_any l l A1 A2 c1 c2 wb (Ho1.out.intsIn.at_.below hbb) o2.intsIn.at_ (by omega))
          have Hbb := Lib.hid (hbr.out.trans ((Hba.out.trans (hbb.mono Hba.out.size)).mono hbr.out.size))
          clear SH2 o2 hbb
          go_wp2_with fail
          refine HIn.out.mono ?_
          rintro e wc ⟨rfl, nd, rfl⟩
          have dl : decide (l = l) = true := by simp
          go_wp2_with fail
          refine ⟨⟨j + 1, ?ya, ?yb, Lib.hid (below_drewN Hbb.out nd)⟩, ?yd⟩
          case ya => omega
          case yb => go_num
          case yd => simp [intOf]; omega
        · have hjl : j = L.length := by omega
          have djl : decide ((j : Int) < (L.length : Int)) = false := by simp; omega
          clear hjl
          go_wp2_with fail
          go_ret
          exact ⟨rfl, Hbw8.out.trans (hbr.out.mono Hbw8.out.size)⟩
theorem KernelAgain_walk (L : List (List Int)) (P T : List Int) (q : Nat) (Ap Ao At : Option Addr) (cp co ct : Nat) {W : World} (hL : RowsIn anyB 3 W Ap L) (hP : IntsIn anyB W Ao P) (hl : P.length = q * 2) (hT : IntsIn anyB W At T) (nL : L.length ≤ maxLen) (nq : q ≤ maxLen) (nT : T.length ≤ maxLen)
    (a : Int) (_ : I64 a) (b : Int) (_ : I64 b) (w : World) (hw : w = W) (hG : Glob W) :
    Calls Tryz.prog 4 #[.agg #[.slice Ap L.length cp, .slice Ao q co, .slice At T.length ct], .int .i64 a, .int .i64 b] w fun e w' => e = .returned (.bool true) ∧ Below W.heap.size W w' := by
  subst hw
  by_cases hc : sysCode L P q T = 0
  · by_cases ha : 0 ≤ a ∧ a ≤ 300
    · obtain ⟨an, rfl⟩ := Int.eq_ofNat_of_zero_le ha.1
      exact KernelAgain_in hL hP hl hT nL nq nT (by omega) hc hG
    · exact KernelAgain_out hL hP hl hT nL nq nT hc ha
  · exact KernelAgain_bad hL hP hl hT nL nq nT hc
end Go.Proofs.YtanlmfnhlldkeaaGreatDoor
