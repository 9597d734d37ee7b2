/-
  Contracts: take.act, whatever is asked; take.Play.
-/
import Derived.Test.YtpfmllpodjcldaaDoorTakeP2
import Derived.Test.YtpfmllpodjcldaaDoorTakeN
namespace Go.Proofs.YtpfmllpodjcldaaDoor
open Go.RowKit
set_option maxRecDepth 100000
set_option linter.unusedVariables false

theorem Act_any {B : Nat} {w : World} {A : Option Addr} {n c : Nat} {L : List (List Int)} {s : GStep} (h : GridAt B w (.slice A n c) L) (hok : GOk L) (hn : L.length = n) (hB : B ≤ w.heap.size) :
    Calls Tryd.prog 35 #[.slice A n c, stVal s] w fun e w' => (stCode L s ≠ 0 ∧ e = .returned (.tuple #[.slice none 0 0, .iface 59 (.int .i64 (stCode L s))]) ∨
      stCode L s = 0 ∧ ∃ A' n' c', n' = (stDo L s).length ∧ e = .returned (.tuple #[.slice A' n' c', .nilIface]) ∧ GridAt B w' (.slice A' n' c') (stDo L s)) ∧ Below B w w' := by
  have hn20 : n ≤ 20 := by have := hok.few; omega
  by_cases h1 : ¬ inR s.k 0 2 ∨ ¬ inR s.w 0 ((n : Int) - 1)
  · have hc : stCode L s = 1 := by unfold stCode; rw [hn, if_pos h1]
    rw [hc]
    exact (Act_range hn hn20 h1).mono fun e w' ⟨he, hb⟩ => ⟨.inl ⟨by decide, he⟩, hb.mono hB⟩
  have hk : inR s.k 0 2 := Classical.byContradiction fun e => h1 (.inl e)
  have hw : inR s.w 0 ((n : Int) - 1) := Classical.byContradiction fun e => h1 (.inr e)
  have hwu := hw
  unfold inR at hwu
  by_cases h2 : s.k = 2
  · by_cases h20 : n = 20
    · have hc : stCode L s = 4 := by unfold stCode; rw [hn, if_neg h1, if_pos h2, if_pos h20]
      rw [hc]
      exact (Act_full hn h2 hw h20).mono fun e w' ⟨he, hb⟩ => ⟨.inl ⟨by decide, he⟩, hb.mono hB⟩
    · have hc : stCode L s = 0 := by unfold stCode; rw [hn, if_neg h1, if_pos h2, if_neg h20]
      have hd : stDo L s = newL L s.w.toNat := by unfold stDo; rw [if_pos h2]
      have hA := Act_new (who := s.w.toNat) (o := s.o) (t := s.t) (r := s.r) h hok hn hB (by omega) (by omega)
      have hwe : ((s.w.toNat : Nat) : Int) = s.w := by omega
      rw [hwe, ← h2] at hA
      refine hA.mono fun e w' ⟨⟨A', c', he, hg⟩, hb⟩ => ⟨.inr ⟨hc, A', n + 1, c', ?_, he, ?_⟩, hb⟩
      · rw [hd, length_newL, hn]
      · rw [hd]; exact hg
  by_cases h3 : ¬ inR s.o 0 ((n : Int) - 1) ∨ ¬ inR s.t 0 ((n : Int) - 1) ∨ ¬ inR s.r 1 7
  · have hc : stCode L s = 1 := by unfold stCode; rw [hn, if_neg h1, if_neg h2, if_pos h3]
    rw [hc]
    exact (Act_range2 hn hn20 hk h2 hw h3).mono fun e w' ⟨he, hb⟩ => ⟨.inl ⟨by decide, he⟩, hb.mono hB⟩
  have ho : inR s.o 0 ((n : Int) - 1) := Classical.byContradiction fun e => h3 (.inl e)
  have ht : inR s.t 0 ((n : Int) - 1) := Classical.byContradiction fun e => h3 (.inr (.inl e))
  have hr : inR s.r 1 7 := Classical.byContradiction fun e => h3 (.inr (.inr e))
  have hkn : stCode L s = if stTo s = s.t.toNat ∨ gN L s.w.toNat s.o.toNat &&& stNeed s = 0 ∨ s.r.toNat &&& gN L (stFrom s) s.t.toNat ≠ s.r.toNat then 7 else 0 := by
    unfold stCode; rw [hn, if_neg h1, if_neg h2, if_neg h3]
  have hd : stDo L s = setG L (stTo s) s.t.toNat ((gN L (stTo s) s.t.toNat ||| s.r.toNat : Nat) : Int) := by unfold stDo; rw [if_neg h2]
  unfold inR at hk ho ht hr
  have e1 : ((s.w.toNat : Nat) : Int) = s.w := by omega
  have e2 : ((s.o.toNat : Nat) : Int) = s.o := by omega
  have e3 : ((s.t.toNat : Nat) : Int) = s.t := by omega
  have e4 : ((s.r.toNat : Nat) : Int) = s.r := by omega
  by_cases hk1 : s.k = 1
  · have f1 : stTo s = s.o.toNat := by unfold stTo; rw [if_pos hk1]
    have f2 : stFrom s = s.w.toNat := by unfold stFrom; rw [if_pos hk1]
    have f3 : stNeed s = 2 := by unfold stNeed; rw [if_pos hk1]
    have hA := Act_Grant (who := s.w.toNat) (of_ := s.o.toNat) (t := s.t.toNat) (r := s.r.toNat) h hok hn hB (by omega) (by omega) (by omega) (by omega)
    rw [e1, e2, e3, e4, ← hk1] at hA
    rw [f1, f2, f3] at hkn
    rw [f1] at hd
    refine hA.mono fun e w' ⟨hp, hb⟩ => ⟨?_, hb⟩
    rcases hp with ⟨hcc, he⟩ | ⟨hcc, he, hg⟩
    · rw [hkn, if_pos hcc]
      exact .inl ⟨by decide, he⟩
    · rw [hkn, if_neg hcc]
      exact .inr ⟨rfl, A, n, c, by rw [hd, length_setG, hn], he, by rw [hd]; exact hg⟩
  · have hk0 : s.k = 0 := by omega
    have f1 : stTo s = s.w.toNat := by unfold stTo; rw [if_neg hk1]
    have f2 : stFrom s = s.o.toNat := by unfold stFrom; rw [if_neg hk1]
    have f3 : stNeed s = 1 := by unfold stNeed; rw [if_neg hk1]
    have hA := Act_Take (who := s.w.toNat) (of_ := s.o.toNat) (t := s.t.toNat) (r := s.r.toNat) h hok hn hB (by omega) (by omega) (by omega) (by omega)
    rw [e1, e2, e3, e4, ← hk0] at hA
    rw [f1, f2, f3] at hkn
    rw [f1] at hd
    refine hA.mono fun e w' ⟨hp, hb⟩ => ⟨?_, hb⟩
    rcases hp with ⟨hcc, he⟩ | ⟨hcc, he, hg⟩
    · rw [hkn, if_pos hcc]
      exact .inl ⟨by decide, he⟩
    · rw [hkn, if_neg hcc]
      exact .inr ⟨rfl, A, n, c, by rw [hd, length_setG, hn], he, by rw [hd]; exact hg⟩

/-- The i-th of some steps. -/
def stepAt (S : List Int) (i : Nat) : GStep := ⟨nI S (i * 5), nI S (i * 5 + 1), nI S (i * 5 + 2), nI S (i * 5 + 3), nI S (i * 5 + 4)⟩
def playG (L : List (List Int)) (S : List Int) : Nat → List (List Int)
  | 0 => L
  | k + 1 => stDo (playG L S k) (stepAt S k)
def playCode (L : List (List Int)) (S : List Int) (i : Nat) : Nat := stCode (playG L S i) (stepAt S i)
theorem play_law {L : List (List Int)} {S : List Int} (h : GOk L) {k : Nat} (hz : ∀ j, j < k → playCode L S j = 0) : GOk (playG L S k) ∧ TSteps (L.length, gN L) ((playG L S k).length, gN (playG L S k)) := by
  induction k with
  | zero => exact ⟨h, .none _⟩
  | succ k ih =>
    obtain ⟨h1, h2⟩ := ih fun j hj => hz j (by omega)
    obtain ⟨h3, h4⟩ := st_law h1 (hz k (by omega))
    exact ⟨h3, .more h2 h4⟩
def PlayPost (w : World) (L : List (List Int)) (S : List Int) (m : Nat) (e : Ending) (w' : World) : Prop :=
  (gCode L ≠ 0 ∧ e = .returned (.tuple #[.slice none 0 0, .int .i64 0, .iface 59 (.int .i64 (gCode L))])) ∨
  (gCode L = 0 ∧ 60 < m ∧ e = .returned (.tuple #[.slice none 0 0, .int .i64 0, .iface 59 (.int .i64 4)])) ∨
  (gCode L = 0 ∧ m ≤ 60 ∧ ∃ i, i < m ∧ (∀ j, j < i → playCode L S j = 0) ∧ playCode L S i ≠ 0 ∧ e = .returned (.tuple #[.slice none 0 0, .int .i64 i, .iface 59 (.int .i64 (playCode L S i))])) ∨
  (gCode L = 0 ∧ m ≤ 60 ∧ (∀ j, j < m → playCode L S j = 0) ∧ ∃ A' n' c', n' = (playG L S m).length ∧ e = .returned (.tuple #[.slice A' n' c', .int .i64 0, .nilIface]) ∧ GridAt w.heap.size w' (.slice A' n' c') (playG L S m))

theorem steps_cells {w : World} {A : Option Addr} {S : List Int} (h : IntsAt w A S) {m i : Nat} (hl : m * 5 ≤ S.length) (hi : i < m) : ∃ b off, A = some ⟨b, off, none⟩ ∧ b < w.heap.size ∧ ∀ j, j < 5 → w.cell? ⟨b, off + (i * 5 + j), none⟩ = some (.int .i64 (nI S (i * 5 + j))) := by
  obtain ⟨b, off, hA, hc⟩ := h (by rintro rfl; simp at hl; omega)
  have h1 : ∀ j, j < 5 → w.cell? ⟨b, off + (i * 5 + j), none⟩ = some (.int .i64 (nI S (i * 5 + j))) := fun j hj => hc _ _ (getD_lt (d := (0 : Int)) (by omega))
  exact ⟨b, off, hA, block_lt (h1 0 (by omega)), h1⟩

set_option maxHeartbeats 8000000 in
theorem Play_any {w : World} {A As : Option Addr} {c n m cs : Nat} {L : List (List Int)} {S : List Int} (hL : RowsIn anyB 1 w A L) (hn : L.length = n) (nm : n ≤ maxLen) (hS : IntsAt w As S) (hm : m * 5 ≤ S.length) (hs : m * 5 < 2 ^ 47) :
    Calls Tryd.prog 11 #[.slice A n c, .slice As m cs] w fun e w' => PlayPost w L S m e w' ∧ Below w.heap.size w w' := by
  have HC := TCheck_any (c := c) hL hn nm
  by_cases h1 : gCode L = 0
  · rw [h1, errVal_zero] at HC
    have HC := Lib.hid HC
    have hok := gOk h1
    have hn20 : n ≤ 20 := by have := hok.few; omega
    by_cases h60 : 60 < m
    · have dm : decide ((m : Int) > 60) = true := by simp; omega
      have Hr := Lib.hid (fun e w' (he : e = .returned (.tuple #[.slice none 0 0, .int .i64 0, .iface 59 (.int .i64 4)])) => (show PlayPost w L S m e w' from .inr (.inl ⟨h1, h60, he⟩)))
      clear hL hS
      go_enter Tryd.func11, Tryd.ntmps11
      go_wp2_with (go_at_call 8; with_reducible refine HC.out.mono ?_; rintro e w' ⟨rfl, rfl⟩)
      go_ret3
      exact ⟨Hr.out _ _ rfl, Below.refl _ _⟩
    have dm : decide ((m : Int) > 60) = false := by simp; omega
    have HF := Lib.hid (Fresh_any (c := c) hL hn hn20 (fun i hi => by rw [hok.row i (by omega), hn]))
    have HS := Lib.hid hS
    have Hok := Lib.hid hok
    have H1 := Lib.hid h1
    clear hL hS h1
    go_enter Tryd.func11, Tryd.ntmps11
    go_wp2_with (go_at_call 8; with_reducible refine HC.out.mono ?_; rintro e w' ⟨rfl, rfl⟩)
    refine HF.out.mono ?_
    rintro e w1 ⟨⟨v, rfl, hg⟩, hb1⟩
    obtain ⟨A0, c0, hv⟩ := hg.form
    rw [hn] at hv
    subst hv
    have hsz1 := hb1.size
    clear HC HF
    go_wp2_with fail
    go_loopw [0, 25] (fun g i wr => ∃ (k : Nat) (A' : Option Addr) (n' c' : Nat), k ≤ m ∧ i = .int .i64 k ∧ g = .slice A' n' c' ∧ Hid (n' = (playG L S k).length) ∧ Hid (∀ j, j < k → playCode L S j = 0) ∧ GridAt w.heap.size wr (.slice A' n' c') (playG L S k) ∧ Below w.heap.size w wr) (fun _ i _ => m - (intOf i).toNat)
    case atStart => exact ⟨0, A0, n, c0, Nat.zero_le _, rfl, rfl, Lib.hid hn.symm, Lib.hid (fun j hj => by omega), hg, hb1⟩
    case round =>
      clear hg hb1 hsz1
      obtain ⟨k, A', n', c', hk, rfl, rfl, hnl, hz, hg, hbr⟩ := hrel
      by_cases hlt : k < m
      · obtain ⟨b, off, rfl, hbl, hcs⟩ := steps_cells (HS.out.below hbr) hm hlt
        have y0 := hcs 0 (by decide)
        have y1 : wr.cell? ⟨b, off + k * 5 + 1, none⟩ = _ := hcs 1 (by decide)
        have y2 : wr.cell? ⟨b, off + k * 5 + 2, none⟩ = _ := hcs 2 (by decide)
        have y3 : wr.cell? ⟨b, off + k * 5 + 3, none⟩ = _ := hcs 3 (by decide)
        have y4 : wr.cell? ⟨b, off + k * 5 + 4, none⟩ = _ := hcs 4 (by decide)
        have hlaw := play_law Hok.out hz.out
        have HA := Lib.hid (fun V (hV : Below wr.heap.size wr V) => Act_any (s := stepAt S k) (hg.below hV) hlaw.1 hnl.out.symm (Nat.le_trans hbr.size hV.size))
        unfold stepAt at HA
        have Hcode := Lib.hid (show playCode L S k = stCode (playG L S k) ⟨nI S (k * 5), nI S (k * 5 + 1), nI S (k * 5 + 2), nI S (k * 5 + 3), nI S (k * 5 + 4)⟩ from rfl)
        have Hdo := Lib.hid (show playG L S (k + 1) = stDo (playG L S k) ⟨nI S (k * 5), nI S (k * 5 + 1), nI S (k * 5 + 2), nI S (k * 5 + 3), nI S (k * 5 + 4)⟩ from rfl)
        simp only [Nat.add_zero] at y0
        clear hcs hlaw
        generalize nI S (k * 5) = s0 at *
        generalize nI S (k * 5 + 1) = s1 at *
        generalize nI S (k * 5 + 2) = s2 at *
        generalize nI S (k * 5 + 3) = s3 at *
        generalize nI S (k * 5 + 4) = s4 at *
        go_wp2_with fail
        have hba := (Below.refl wr.heap.size wr).alloc (Nat.le_refl _) (.cells #[.int .i64 s0, .int .i64 s1, .int .i64 s2, .int .i64 s3, .int .i64 s4] 65)
        refine (HA.out _ hba).mono ?_
        rintro e w2 ⟨hp | hp, hb2⟩
        · obtain ⟨hne, rfl⟩ := hp
          have hb := (hbr.trans (hba.mono hbr.size)).trans hb2
          have Hr := Lib.hid (fun e w' (he : e = .returned (.tuple #[.slice none 0 0, .int .i64 k, .iface 59 (.int .i64 (playCode L S k))])) => (show PlayPost w L S m e w' from .inr (.inr (.inl ⟨H1.out, by omega, k, hlt, hz.out, by rw [Hcode.out]; exact hne, he⟩))))
          rw [← Hcode.out]
          clear hne HA Hdo Hcode y0 y1 y2 y3 y4
          generalize playCode L S k = code at *
          go_wp2_with fail
          go_ret3
          exact ⟨Hr.out _ _ rfl, hb⟩
        · obtain ⟨hz0, A2, n2, c2, hn2, rfl, hg2⟩ := hp
          have hb := (hbr.trans (hba.mono hbr.size)).trans hb2
          have Hz2 := Lib.hid (show ∀ j, j < k + 1 → playCode L S j = 0 from fun j hj => by
            rcases Nat.lt_or_ge j k with h1 | h1
            · exact hz.out j h1
            · obtain rfl : j = k := by omega
              rw [Hcode.out]; exact hz0)
          have Hn2 := Lib.hid (show n2 = (playG L S (k + 1)).length by rw [Hdo.out]; exact hn2)
          have Hg2 := Lib.hid (show GridAt w.heap.size w2 (.slice A2 n2 c2) (playG L S (k + 1)) by rw [Hdo.out]; exact hg2)
          clear hz0 hn2 hg2 HA Hdo Hcode y0 y1 y2 y3 y4 hz hg
          go_wp2_with fail
          refine ⟨⟨k + 1, A2, n2, c2, ?ya, ?yb, ?yc, Hn2, Hz2, Hg2.out, hb⟩, ?yd⟩
          case ya => omega
          case yb => go_num
          case yc => rfl
          case yd => simp [intOf]; omega
      · obtain rfl : k = m := by omega
        have Hr := Lib.hid (fun e w' (he : e = .returned (.tuple #[.slice A' n' c', .int .i64 0, .nilIface]) ∧ GridAt w.heap.size w' (.slice A' n' c') (playG L S k)) => (show PlayPost w L S k e w' from .inr (.inr (.inr ⟨H1.out, by omega, hz.out, A', n', c', hnl.out, he.1, he.2⟩))))
        have Hg := Lib.hid hg
        clear hg
        go_wp2_with fail
        go_ret3
        exact ⟨Hr.out _ _ ⟨rfl, Hg.out⟩, hbr⟩
  · rw [errVal_pos h1] at HC
    have HC := Lib.hid HC
    have Hr := Lib.hid (fun e w' (he : e = .returned (.tuple #[.slice none 0 0, .int .i64 0, .iface 59 (.int .i64 (gCode L))])) => (show PlayPost w L S m e w' from .inl ⟨h1, he⟩))
    generalize gCode L = code at *
    clear hL hS
    go_enter Tryd.func11, Tryd.ntmps11
    go_wp2_with (go_at_call 8; with_reducible refine HC.out.mono ?_; rintro e w' ⟨rfl, rfl⟩)
    go_ret3
    exact ⟨Hr.out _ _ rfl, Below.refl _ _⟩
end Go.Proofs.YtpfmllpodjcldaaDoor
