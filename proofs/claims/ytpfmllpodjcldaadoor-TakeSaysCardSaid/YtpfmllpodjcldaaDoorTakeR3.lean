/-
  Contracts: quietwingref1.DoStep, whatever is asked; quietwingref1.PlaySteps; quietwingsame.Rows.
-/
import Derived.Test.YtpfmllpodjcldaaDoorTakeR2
import Derived.Test.YtpfmllpodjcldaaDoorInts
import Derived.BigQuiet
namespace Go.Proofs.YtpfmllpodjcldaaDoor
open Go.RowKit
set_option maxRecDepth 100000
set_option linter.unusedVariables false

section
variable {w : World} {A : Option Addr} {n c : Nat} {L : List (List Int)} {s : GStep}
set_option maxHeartbeats 4000000 in
theorem RDo_range (hn : L.length = n) (hn20 : n ≤ 20) (h : ¬ inR s.k 0 2 ∨ ¬ inR s.w 0 ((n : Int) - 1)) :
    Calls Tryd.prog 33 #[.slice A n c, stVal s] w fun e w' => e = .returned (.tuple #[.slice A n c, .int .i64 1]) ∧ Below w.heap.size w w' := by
  obtain ⟨k, who, o, t, r⟩ := s
  simp only at h
  unfold inR at h
  have hb0 := Lib.hid ((Below.refl w.heap.size w).alloc (Nat.le_refl _) (.cells #[.int .i64 k, .int .i64 who, .int .i64 o, .int .i64 t, .int .i64 r] 65))
  by_cases h1 : 0 ≤ k ∧ k ≤ 2
  · have W1 := Lib.hid (fun V => RinD_is k 0 2 true V (decide_eq_true h1))
    have W2 := Lib.hid (fun V => RinD_is who 0 ((n : Int) - 1) false V (decide_eq_false (by omega)))
    clear h
    go_enter Tryd.func33, Tryd.ntmps33
    go_wp2_with (first | (with_reducible refine (W1.out _).mono ?_; rintro e w' ⟨rfl, rfl⟩) | (with_reducible refine (W2.out _).mono ?_; rintro e w' ⟨rfl, rfl⟩))
    go_ret2
    exact ⟨rfl, hb0.out⟩
  · have W1 := Lib.hid (fun V => RinD_is k 0 2 false V (decide_eq_false h1))
    clear h h1
    go_enter Tryd.func33, Tryd.ntmps33
    go_wp2_with (with_reducible refine (W1.out _).mono ?_; rintro e w' ⟨rfl, rfl⟩)
    go_ret2
    exact ⟨rfl, hb0.out⟩
set_option maxHeartbeats 4000000 in
theorem RDo_full (hn : L.length = n) (hk : s.k = 2) (hw : inR s.w 0 ((n : Int) - 1)) (h : n = 20) :
    Calls Tryd.prog 33 #[.slice A n c, stVal s] w fun e w' => e = .returned (.tuple #[.slice A n c, .int .i64 4]) ∧ Below w.heap.size w w' := by
  obtain ⟨k, who, o, t, r⟩ := s
  simp only at hk hw
  unfold inR at hw
  subst hk
  have hb0 := Lib.hid ((Below.refl w.heap.size w).alloc (Nat.le_refl _) (.cells #[.int .i64 2, .int .i64 who, .int .i64 o, .int .i64 t, .int .i64 r] 65))
  have W1 := Lib.hid (fun V => RinD_is 2 0 2 true V (by simp))
  subst h
  have W2 := Lib.hid (fun V => RinD_is who 0 19 true V (decide_eq_true (by omega)))
  go_enter Tryd.func33, Tryd.ntmps33
  go_wp2_with (first | (with_reducible refine (W1.out _).mono ?_; rintro e w' ⟨rfl, rfl⟩) | (with_reducible refine (W2.out _).mono ?_; rintro e w' ⟨rfl, rfl⟩))
  go_ret2
  exact ⟨rfl, hb0.out⟩
set_option maxHeartbeats 4000000 in
theorem RDo_range2 (hn : L.length = n) (hn20 : n ≤ 20) (hk : inR s.k 0 2) (hk2 : s.k ≠ 2) (hw : inR s.w 0 ((n : Int) - 1)) (h : ¬ inR s.o 0 ((n : Int) - 1) ∨ ¬ inR s.t 0 ((n : Int) - 1) ∨ ¬ inR s.r 1 7) :
    Calls Tryd.prog 33 #[.slice A n c, stVal s] w fun e w' => e = .returned (.tuple #[.slice A n c, .int .i64 1]) ∧ Below w.heap.size w w' := by
  obtain ⟨k, who, o, t, r⟩ := s
  simp only at hk hw hk2 h
  unfold inR at hw hk h
  have hb0 := Lib.hid ((Below.refl w.heap.size w).alloc (Nat.le_refl _) (.cells #[.int .i64 k, .int .i64 who, .int .i64 o, .int .i64 t, .int .i64 r] 65))
  have W1 := Lib.hid (fun V => RinD_is k 0 2 true V (decide_eq_true hk))
  have W2 := Lib.hid (fun V => RinD_is who 0 ((n : Int) - 1) true V (decide_eq_true hw))
  have dk : (k == 2) = false := by simpa using hk2
  have dk' : (k != 2) = true := by simpa using hk2
  by_cases h1 : 0 ≤ o ∧ o ≤ (n : Int) - 1
  · have W3 := Lib.hid (fun V => RinD_is o 0 ((n : Int) - 1) true V (decide_eq_true h1))
    by_cases h2 : 0 ≤ t ∧ t ≤ (n : Int) - 1
    · have W4 := Lib.hid (fun V => RinD_is t 0 ((n : Int) - 1) true V (decide_eq_true h2))
      have W5 := Lib.hid (fun V => RinD_is r 1 7 false V (decide_eq_false (by omega)))
      clear h hk hw hk2 h1 h2
      go_enter Tryd.func33, Tryd.ntmps33
      go_wp2_with (first | (with_reducible refine (W1.out _).mono ?_; rintro e w' ⟨rfl, rfl⟩) | (with_reducible refine (W2.out _).mono ?_; rintro e w' ⟨rfl, rfl⟩) | (with_reducible refine (W3.out _).mono ?_; rintro e w' ⟨rfl, rfl⟩) | (with_reducible refine (W4.out _).mono ?_; rintro e w' ⟨rfl, rfl⟩) | (with_reducible refine (W5.out _).mono ?_; rintro e w' ⟨rfl, rfl⟩))
      go_ret2
      exact ⟨rfl, hb0.out⟩
    · have W4 := Lib.hid (fun V => RinD_is t 0 ((n : Int) - 1) false V (decide_eq_false h2))
      clear h hk hw hk2 h1 h2
      go_enter Tryd.func33, Tryd.ntmps33
      go_wp2_with (first | (with_reducible refine (W1.out _).mono ?_; rintro e w' ⟨rfl, rfl⟩) | (with_reducible refine (W2.out _).mono ?_; rintro e w' ⟨rfl, rfl⟩) | (with_reducible refine (W3.out _).mono ?_; rintro e w' ⟨rfl, rfl⟩) | (with_reducible refine (W4.out _).mono ?_; rintro e w' ⟨rfl, rfl⟩))
      go_ret2
      exact ⟨rfl, hb0.out⟩
  · have W3 := Lib.hid (fun V => RinD_is o 0 ((n : Int) - 1) false V (decide_eq_false h1))
    clear h hk hw hk2 h1
    go_enter Tryd.func33, Tryd.ntmps33
    go_wp2_with (first | (with_reducible refine (W1.out _).mono ?_; rintro e w' ⟨rfl, rfl⟩) | (with_reducible refine (W2.out _).mono ?_; rintro e w' ⟨rfl, rfl⟩) | (with_reducible refine (W3.out _).mono ?_; rintro e w' ⟨rfl, rfl⟩))
    go_ret2
    exact ⟨rfl, hb0.out⟩
end

theorem RDo_any {w : World} {A : Option Addr} {n c : Nat} {L : List (List Int)} {s : GStep} (h : RowsIn anyB 1 w A L) (hok : GOk L) (hn : L.length = n) :
    Calls Tryd.prog 33 #[.slice A n c, stVal s] w fun e w' => (stCode L s ≠ 0 ∧ e = .returned (.tuple #[.slice A n c, .int .i64 (stCode L s)]) ∨
      stCode L s = 0 ∧ ∃ A' n' c', n' = (stDo L s).length ∧ e = .returned (.tuple #[.slice A' n' c', .int .i64 0]) ∧ RowsIn anyB 1 w' A' (stDo L s)) ∧ Below w.heap.size w w' := by
  have hn20 : n ≤ 20 := by have := hok.few; omega
  by_cases h1 : ¬ inR s.k 0 2 ∨ ¬ inR s.w 0 ((n : Int) - 1)
  · have hc : stCode L s = 1 := by unfold stCode; rw [hn, if_pos h1]
    rw [hc]
    exact (RDo_range hn hn20 h1).mono fun e w' ⟨he, hb⟩ => ⟨.inl ⟨by decide, he⟩, hb⟩
  have hk : inR s.k 0 2 := Classical.byContradiction fun e => h1 (.inl e)
  have hw : inR s.w 0 ((n : Int) - 1) := Classical.byContradiction fun e => h1 (.inr e)
  have hwu := hw
  unfold inR at hwu
  by_cases h2 : s.k = 2
  · by_cases h20 : n = 20
    · have hc : stCode L s = 4 := by unfold stCode; rw [hn, if_neg h1, if_pos h2, if_pos h20]
      rw [hc]
      exact (RDo_full hn h2 hw h20).mono fun e w' ⟨he, hb⟩ => ⟨.inl ⟨by decide, he⟩, hb⟩
    · have hc : stCode L s = 0 := by unfold stCode; rw [hn, if_neg h1, if_pos h2, if_neg h20]
      have hd : stDo L s = newL L s.w.toNat := by unfold stDo; rw [if_pos h2]
      have hA := RDo_new (c := c) (who := s.w.toNat) (of_ := s.o) (t := s.t) (r := s.r) h hok hn (by omega) (by omega)
      have hwe : ((s.w.toNat : Nat) : Int) = s.w := by omega
      rw [hwe, ← h2] at hA
      refine hA.mono fun e w' ⟨⟨A', c', he, hg⟩, hb⟩ => ⟨.inr ⟨hc, A', n + 1, c', ?_, he, ?_⟩, hb⟩
      · rw [hd, length_newL, hn]
      · rw [hd]; exact hg
  by_cases h3 : ¬ inR s.o 0 ((n : Int) - 1) ∨ ¬ inR s.t 0 ((n : Int) - 1) ∨ ¬ inR s.r 1 7
  · have hc : stCode L s = 1 := by unfold stCode; rw [hn, if_neg h1, if_neg h2, if_pos h3]
    rw [hc]
    exact (RDo_range2 hn hn20 hk h2 hw h3).mono fun e w' ⟨he, hb⟩ => ⟨.inl ⟨by decide, he⟩, hb⟩
  have ho : inR s.o 0 ((n : Int) - 1) := Classical.byContradiction fun e => h3 (.inl e)
  have ht : inR s.t 0 ((n : Int) - 1) := Classical.byContradiction fun e => h3 (.inr (.inl e))
  have hr : inR s.r 1 7 := Classical.byContradiction fun e => h3 (.inr (.inr e))
  have hkn : stCode L s = if stTo s = s.t.toNat ∨ gN L s.w.toNat s.o.toNat &&& stNeed s = 0 ∨ s.r.toNat &&& gN L (stFrom s) s.t.toNat ≠ s.r.toNat then 7 else 0 := by
    unfold stCode; rw [hn, if_neg h1, if_neg h2, if_neg h3]
  have hd : stDo L s = setG L (stTo s) s.t.toNat ((gN L (stTo s) s.t.toNat ||| s.r.toNat : Nat) : Int) := by unfold stDo; rw [if_neg h2]
  unfold inR at hk ho ht hr
  have e1 : ((s.w.toNat : Nat) : Int) = s.w := by omega
  have e2 : ((s.o.toNat : Nat) : Int) = s.o := by omega
  have e3 : ((s.t.toNat : Nat) : Int) = s.t := by omega
  have e4 : ((s.r.toNat : Nat) : Int) = s.r := by omega
  by_cases hk1 : s.k = 1
  · have f1 : stTo s = s.o.toNat := by unfold stTo; rw [if_pos hk1]
    have f2 : stFrom s = s.w.toNat := by unfold stFrom; rw [if_pos hk1]
    have f3 : stNeed s = 2 := by unfold stNeed; rw [if_pos hk1]
    rw [f1, f2, f3] at hkn
    rw [f1] at hd
    by_cases hcond : s.o.toNat = s.t.toNat ∨ gN L s.w.toNat s.o.toNat &&& 2 = 0 ∨ s.r.toNat &&& gN L s.w.toNat s.t.toNat ≠ s.r.toNat
    · have hA := RDo_Grant_bad (c := c) (who := s.w.toNat) (of_ := s.o.toNat) (t := s.t.toNat) (r := s.r.toNat) h hok hn (by omega) (by omega) (by omega) (by omega) hcond
      rw [e1, e2, e3, e4, ← hk1] at hA
      rw [hkn, if_pos hcond]
      exact hA.mono fun e w' ⟨he, hb⟩ => ⟨.inl ⟨by decide, he⟩, hb⟩
    · have hA := RDo_Grant_ok (c := c) (who := s.w.toNat) (of_ := s.o.toNat) (t := s.t.toNat) (r := s.r.toNat) h hok hn (by omega) (by omega) (by omega) (by omega) hcond
      rw [e1, e2, e3, e4, ← hk1] at hA
      rw [hkn, if_neg hcond]
      exact hA.mono fun e w' ⟨⟨A', c', he, hg⟩, hb⟩ => ⟨.inr ⟨rfl, A', n, c', by rw [hd, length_setG, hn], he, by rw [hd]; exact hg⟩, hb⟩
  · have hk0 : s.k = 0 := by omega
    have f1 : stTo s = s.w.toNat := by unfold stTo; rw [if_neg hk1]
    have f2 : stFrom s = s.o.toNat := by unfold stFrom; rw [if_neg hk1]
    have f3 : stNeed s = 1 := by unfold stNeed; rw [if_neg hk1]
    rw [f1, f2, f3] at hkn
    rw [f1] at hd
    by_cases hcond : s.w.toNat = s.t.toNat ∨ gN L s.w.toNat s.o.toNat &&& 1 = 0 ∨ s.r.toNat &&& gN L s.o.toNat s.t.toNat ≠ s.r.toNat
    · have hA := RDo_Take_bad (c := c) (who := s.w.toNat) (of_ := s.o.toNat) (t := s.t.toNat) (r := s.r.toNat) h hok hn (by omega) (by omega) (by omega) (by omega) hcond
      rw [e1, e2, e3, e4, ← hk0] at hA
      rw [hkn, if_pos hcond]
      exact hA.mono fun e w' ⟨he, hb⟩ => ⟨.inl ⟨by decide, he⟩, hb⟩
    · have hA := RDo_Take_ok (c := c) (who := s.w.toNat) (of_ := s.o.toNat) (t := s.t.toNat) (r := s.r.toNat) h hok hn (by omega) (by omega) (by omega) (by omega) hcond
      rw [e1, e2, e3, e4, ← hk0] at hA
      rw [hkn, if_neg hcond]
      exact hA.mono fun e w' ⟨⟨A', c', he, hg⟩, hb⟩ => ⟨.inr ⟨rfl, A', n, c', by rw [hd, length_setG, hn], by rw [hk0] at he; exact he, by rw [hd]; exact hg⟩, hb⟩

/-- What comes of steps: what is wrong, and which. -/
def PlayOut (L : List (List Int)) (S : List Int) (m k i : Nat) : Prop :=
  (gCode L ≠ 0 ∧ k = gCode L ∧ i = 0) ∨ (gCode L = 0 ∧ 60 < m ∧ k = 4 ∧ i = 0) ∨
  (gCode L = 0 ∧ m ≤ 60 ∧ i < m ∧ (∀ j, j < i → playCode L S j = 0) ∧ playCode L S i ≠ 0 ∧ k = playCode L S i) ∨
  (gCode L = 0 ∧ m ≤ 60 ∧ (∀ j, j < m → playCode L S j = 0) ∧ k = 0 ∧ i = 0)
theorem PlayOut.same {L : List (List Int)} {S : List Int} {m k i k' i' : Nat} (h : PlayOut L S m k i) (h' : PlayOut L S m k' i') : k = k' ∧ i = i' := by
  rcases h with ⟨a, rfl, rfl⟩ | ⟨a, b, rfl, rfl⟩ | ⟨a, b, c, d, e, rfl⟩ | ⟨a, b, c, rfl, rfl⟩
  · rcases h' with ⟨a', rfl, rfl⟩ | ⟨a', b', rfl, rfl⟩ | ⟨a', b', c', d', e', rfl⟩ | ⟨a', b', c', rfl, rfl⟩
    · exact ⟨rfl, rfl⟩
    all_goals exact absurd a' a
  · rcases h' with ⟨a', rfl, rfl⟩ | ⟨a', b', rfl, rfl⟩ | ⟨a', b', c', d', e', rfl⟩ | ⟨a', b', c', rfl, rfl⟩
    · exact absurd a a'
    · exact ⟨rfl, rfl⟩
    all_goals omega
  · rcases h' with ⟨a', rfl, rfl⟩ | ⟨a', b', rfl, rfl⟩ | ⟨a', b', c', d', e', rfl⟩ | ⟨a', b', c', rfl, rfl⟩
    · exact absurd a a'
    · omega
    · have : i = i' := by
        rcases Nat.lt_trichotomy i i' with h1 | h1 | h1
        · exact absurd (d' i h1) e
        · exact h1
        · exact absurd (d i' h1) e'
      subst this
      exact ⟨rfl, rfl⟩
    · exact absurd (c' i c) e
  · rcases h' with ⟨a', rfl, rfl⟩ | ⟨a', b', rfl, rfl⟩ | ⟨a', b', c', d', e', rfl⟩ | ⟨a', b', c', rfl, rfl⟩
    · exact absurd a a'
    · omega
    · exact absurd (c i' c') e'
    · exact ⟨rfl, rfl⟩
theorem PlayPost.out {w : World} {L : List (List Int)} {S : List Int} {m : Nat} {e : Ending} {w' : World} (h : PlayPost w L S m e w') : ∃ k i, PlayOut L S m k i ∧ (k ≠ 0 ∧ e = .returned (.tuple #[.slice none 0 0, .int .i64 i, .iface 59 (.int .i64 k)]) ∨
    k = 0 ∧ i = 0 ∧ gCode L = 0 ∧ (∀ j, j < m → playCode L S j = 0) ∧ ∃ A' n' c', n' = (playG L S m).length ∧ e = .returned (.tuple #[.slice A' n' c', .int .i64 0, .nilIface]) ∧ GridAt w.heap.size w' (.slice A' n' c') (playG L S m)) := by
  rcases h with ⟨a, h⟩ | ⟨a, b, h⟩ | ⟨a, b, i, c, d, f, h⟩ | ⟨a, b, c, h⟩
  · exact ⟨gCode L, 0, .inl ⟨a, rfl, rfl⟩, .inl ⟨a, h⟩⟩
  · exact ⟨4, 0, .inr (.inl ⟨a, b, rfl, rfl⟩), .inl ⟨by decide, h⟩⟩
  · exact ⟨_, i, .inr (.inr (.inl ⟨a, b, c, d, f, rfl⟩)), .inl ⟨f, h⟩⟩
  · exact ⟨0, 0, .inr (.inr (.inr ⟨a, b, c, rfl, rfl⟩)), .inr ⟨rfl, rfl, a, c, h⟩⟩
def RPlayPost (L : List (List Int)) (S : List Int) (m : Nat) (e : Ending) (w' : World) : Prop :=
  ∃ k i, PlayOut L S m k i ∧ (k ≠ 0 ∧ e = .returned (.tuple #[.slice none 0 0, .int .i64 i, .int .i64 k]) ∨
    k = 0 ∧ ∃ A' n' c', n' = (playG L S m).length ∧ e = .returned (.tuple #[.slice A' n' c', .int .i64 0, .int .i64 0]) ∧ RowsIn anyB 1 w' A' (playG L S m))

set_option maxHeartbeats 8000000 in
theorem RPlay_any {w : World} {A As : Option Addr} {c n m cs : Nat} {L : List (List Int)} {S : List Int} (hL : RowsIn anyB 1 w A L) (hn : L.length = n) (nm : n ≤ maxLen) (hS : IntsAt w As S) (hm : m * 5 ≤ S.length) (hs : m * 5 < 2 ^ 47) :
    Calls Tryd.prog 10 #[.slice A n c, .slice As m cs] w fun e w' => RPlayPost L S m e w' ∧ Below w.heap.size w w' := by
  have HC := RGraph_any (c := c) hL hn nm
  by_cases h1 : gCode L = 0
  · rw [h1] at HC
    have HC := Lib.hid HC
    have hok := gOk h1
    have hn20 : n ≤ 20 := by have := hok.few; omega
    by_cases h60 : 60 < m
    · have dm : decide ((m : Int) > 60) = true := by simp; omega
      have Hr := Lib.hid (fun e w' (he : e = .returned (.tuple #[.slice none 0 0, .int .i64 0, .int .i64 4])) => (show RPlayPost L S m e w' from ⟨4, 0, .inr (.inl ⟨h1, h60, rfl, rfl⟩), .inl ⟨by decide, he⟩⟩))
      clear hL hS
      go_enter Tryd.func10, Tryd.ntmps10
      go_wp2_with (go_at_call 9; with_reducible refine HC.out.mono ?_; rintro e w' ⟨rfl, rfl⟩)
      go_ret3
      exact ⟨Hr.out _ _ rfl, Below.refl _ _⟩
    have dm : decide ((m : Int) > 60) = false := by simp; omega
    have HS := Lib.hid hS
    have Hok := Lib.hid hok
    have H1 := Lib.hid h1
    have HL := Lib.hid hL
    clear hL hS h1
    go_enter Tryd.func10, Tryd.ntmps10
    go_wp2_with (go_at_call 9; with_reducible refine HC.out.mono ?_; rintro e w' ⟨rfl, rfl⟩)
    clear HC
    go_loopw [0, 8] (fun g i wr => ∃ (k : Nat) (A' : Option Addr) (n' c' : Nat), k ≤ m ∧ i = .int .i64 k ∧ g = .slice A' n' c' ∧ Hid (n' = (playG L S k).length) ∧ Hid (∀ j, j < k → playCode L S j = 0) ∧ RowsIn anyB 1 wr A' (playG L S k) ∧ Below w.heap.size w wr) (fun _ i _ => m - (intOf i).toNat)
    case atStart => exact ⟨0, A, n, c, Nat.zero_le _, rfl, rfl, Lib.hid hn.symm, Lib.hid (fun j hj => by omega), HL.out, Below.refl _ _⟩
    case round =>
      obtain ⟨k, A', n', c', hk, rfl, rfl, hnl, hz, hg, hbr⟩ := hrel
      by_cases hlt : k < m
      · obtain ⟨b, off, rfl, hbl, hcs⟩ := steps_cells (HS.out.below hbr) hm hlt
        have y0 := hcs 0 (by decide)
        have y1 : wr.cell? ⟨b, off + k * 5 + 1, none⟩ = _ := hcs 1 (by decide)
        have y2 : wr.cell? ⟨b, off + k * 5 + 2, none⟩ = _ := hcs 2 (by decide)
        have y3 : wr.cell? ⟨b, off + k * 5 + 3, none⟩ = _ := hcs 3 (by decide)
        have y4 : wr.cell? ⟨b, off + k * 5 + 4, none⟩ = _ := hcs 4 (by decide)
        have hlaw := play_law Hok.out hz.out
        have HA := Lib.hid (RDo_any (c := c') (s := stepAt S k) hg hlaw.1 hnl.out.symm)
        unfold stepAt at HA
        have Hcode := Lib.hid (show playCode L S k = stCode (playG L S k) ⟨nI S (k * 5), nI S (k * 5 + 1), nI S (k * 5 + 2), nI S (k * 5 + 3), nI S (k * 5 + 4)⟩ from rfl)
        have Hdo := Lib.hid (show playG L S (k + 1) = stDo (playG L S k) ⟨nI S (k * 5), nI S (k * 5 + 1), nI S (k * 5 + 2), nI S (k * 5 + 3), nI S (k * 5 + 4)⟩ from rfl)
        simp only [Nat.add_zero] at y0
        clear hcs hlaw
        generalize nI S (k * 5) = s0 at *
        generalize nI S (k * 5 + 1) = s1 at *
        generalize nI S (k * 5 + 2) = s2 at *
        generalize nI S (k * 5 + 3) = s3 at *
        generalize nI S (k * 5 + 4) = s4 at *
        go_wp2_with fail
        refine HA.out.mono ?_
        rintro e w2 ⟨hp | hp, hb2⟩
        · obtain ⟨hne, rfl⟩ := hp
          have hb := hbr.trans (hb2.mono hbr.size)
          have dne : ((stCode (playG L S k) ⟨s0, s1, s2, s3, s4⟩ : Nat) : Int) != 0 := by simpa using hne
          have Hr := Lib.hid (fun e w' (he : e = .returned (.tuple #[.slice none 0 0, .int .i64 k, .int .i64 (playCode L S k)])) => (show RPlayPost L S m e w' from ⟨_, k, .inr (.inr (.inl ⟨H1.out, by omega, hlt, hz.out, by rw [Hcode.out]; exact hne, rfl⟩)), .inl ⟨by rw [Hcode.out]; exact hne, he⟩⟩))
          rw [← Hcode.out] at dne ⊢
          clear hne HA Hdo Hcode y0 y1 y2 y3 y4
          generalize playCode L S k = code at *
          go_wp2_with fail
          go_ret3
          exact ⟨Hr.out _ _ rfl, hb⟩
        · obtain ⟨hz0, A2, n2, c2, hn2, rfl, hg2⟩ := hp
          have hb := hbr.trans (hb2.mono hbr.size)
          have Hz2 := Lib.hid (show ∀ j, j < k + 1 → playCode L S j = 0 from fun j hj => by
            rcases Nat.lt_or_ge j k with h1 | h1
            · exact hz.out j h1
            · obtain rfl : j = k := by omega
              rw [Hcode.out]; exact hz0)
          have Hn2 := Lib.hid (show n2 = (playG L S (k + 1)).length by rw [Hdo.out]; exact hn2)
          have Hg2 := Lib.hid (show RowsIn anyB 1 w2 A2 (playG L S (k + 1)) by rw [Hdo.out]; exact hg2)
          clear hz0 hn2 hg2 HA Hdo Hcode y0 y1 y2 y3 y4 hz hg
          go_wp2_with fail
          refine ⟨⟨k + 1, A2, n2, c2, ?ya, ?yb, ?yc, Hn2, Hz2, Hg2.out, hb⟩, ?yd⟩
          case ya => omega
          case yb => go_num
          case yc => rfl
          case yd => simp [intOf]; omega
      · obtain rfl : k = m := by omega
        have Hr := Lib.hid (fun e w' (he : e = .returned (.tuple #[.slice A' n' c', .int .i64 0, .int .i64 0]) ∧ RowsIn anyB 1 w' A' (playG L S k)) => (show RPlayPost L S k e w' from ⟨0, 0, .inr (.inr (.inr ⟨H1.out, by omega, hz.out, rfl, rfl⟩)), .inr ⟨rfl, A', n', c', hnl.out, he.1, he.2⟩⟩))
        have Hg := Lib.hid hg
        clear hg
        go_wp2_with fail
        go_ret3
        exact ⟨Hr.out _ _ ⟨rfl, Hg.out⟩, hbr⟩
  · have dne : ((gCode L : Nat) : Int) != 0 := by simpa using h1
    have deq : (((gCode L : Nat) : Int) == 0) = false := by simpa using h1
    have HC := Lib.hid HC
    have Hr := Lib.hid (fun e w' (he : e = .returned (.tuple #[.slice none 0 0, .int .i64 0, .int .i64 (gCode L)])) => (show RPlayPost L S m e w' from ⟨_, 0, .inl ⟨h1, rfl, rfl⟩, .inl ⟨h1, he⟩⟩))
    generalize gCode L = code at *
    clear hL hS
    go_enter Tryd.func10, Tryd.ntmps10
    go_wp2_with (go_at_call 9; with_reducible refine HC.out.mono ?_; rintro e w' ⟨rfl, rfl⟩)
    go_ret3
    exact ⟨Hr.out _ _ rfl, Below.refl _ _⟩

set_option maxHeartbeats 2000000 in
theorem Rows_any {w : World} {A A' : Option Addr} {c c' n : Nat} {L : List (List Int)} (hA : RowsIn anyB 1 w A L) (hB : RowsIn anyB 1 w A' L) (hn : L.length = n) (nm : n ≤ 1000) (hr : ∀ i, i < n → (L.getD i []).length ≤ 1000) :
    Calls Tryd.prog 12 #[.slice A n c, .slice A' n c'] w fun e w' => e = .returned (.bool true) ∧ ∃ d, w' = w.drewN d := by
  have HA := Lib.hid hA
  have HB := Lib.hid hB
  have Hr := Lib.hid hr
  clear hA hB hr
  go_enter Tryd.func12, Tryd.ntmps12
  go_wp2_with fail
  go_loopw [5] (fun i wr => ∃ k : Nat, k ≤ n ∧ i = .int .i64 k ∧ Hid (∃ d, wr = w.drewN d)) (fun i _ => n - (intOf i).toNat)
  case atStart => exact ⟨0, Nat.zero_le _, rfl, Lib.hid ⟨0, rfl⟩⟩
  case round =>
    obtain ⟨k, hk, rfl, hd⟩ := hrel
    have HA2 : RowsIn anyB 1 wr A L := by obtain ⟨d, rfl⟩ := hd.out; exact HA.out
    have HB2 : RowsIn anyB 1 wr A' L := by obtain ⟨d, rfl⟩ := hd.out; exact HB.out
    by_cases hlt : k < n
    · obtain ⟨b, off, Ai, ni, ci, rfl, c0, hli, hni, hi⟩ := HA2.get (i := k) (by omega)
      obtain ⟨b', off', Ai', ni', ci', rfl, c0', hli', hni', hi'⟩ := HB2.get (i := k) (by omega)
      have hne : ni = ni' := by omega
      subst hne
      rw [Nat.mul_one] at hli
      have HQ := fun q => Ints_any (L.getD k []) (L.getD k []) Ai Ai' ci ci' (wr.drewN q) (hi.at_.drewN q) (hi'.at_.drewN q) (by have := Hr.out k hlt; omega)
      rw [hli] at HQ
      have HQ2 := Lib.hid (show ∀ q, Calls Tryd.prog 36 #[.slice Ai ni ci, .slice Ai' ni ci'] (wr.drewN q) (fun e w'' => e = .returned (.bool true) ∧ ∃ m, w'' = wr.drewN m) from fun q => (HQ q).mono fun e w' ⟨he, d, hd⟩ => ⟨by rw [he]; simp, q + d, by rw [hd]; simp only [World.drewN, Nat.add_assoc]⟩)
      clear hi hi' hli hli' HQ HA2 HB2
      go_wp2_with fail
      go_quiet (with_reducible exact HQ2.out _)
      go_wp2_with fail
      refine ⟨⟨k + 1, ?ya, ?yb, Lib.hid ?yc⟩, ?yd⟩
      case ya => omega
      case yb => go_num
      case yc =>
        obtain ⟨d, hd⟩ := hd.out
        exact ⟨d + nq, by rw [hd]; simp only [World.drewN, Nat.add_assoc]⟩
      case yd => simp [intOf]; omega
    · obtain rfl : k = n := by omega
      clear HA2 HB2
      go_wp2_with fail
      go_ret
      exact ⟨rfl, hd.out⟩
end Go.Proofs.YtpfmllpodjcldaaDoor
