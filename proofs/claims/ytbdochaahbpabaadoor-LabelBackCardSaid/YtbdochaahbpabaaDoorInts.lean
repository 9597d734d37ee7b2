/-
  Contracts: quietwingsame.Ints, slices.Clone at ints.
-/
import Derived.Test.YtbdochaahbpabaaDoorLeaf
import Derived.Deep.QuietTactic
import Derived.BigQuiet
namespace Go.Proofs.YtbdochaahbpabaaDoor
open Go.RowKit
set_option maxRecDepth 100000

theorem take_succ_eq {l l' : List Int} {k : Nat} {x : Int} (h : l.take k = l'.take k) (h1 : l[k]? = some x) (h2 : l'[k]? = some x) : l.take (k + 1) = l'.take (k + 1) := by
  rw [List.take_add_one, List.take_add_one, h, h1, h2]

set_option maxHeartbeats 400000 in
theorem Ints_any (l l' : List Int) (A A' : Option Addr) (c c' : Nat) (w : World) (h : IntsAt w A l) (h' : IntsAt w A' l') (hl : l.length < 2 ^ 60) :
    Calls Tryd.prog 26 #[.slice A l.length c, .slice A' l'.length c'] w fun e w' => e = .returned (.bool (decide (l = l'))) ∧ ∃ n, w' = w.drewN n := by
  by_cases hlen : l.length = l'.length
  · have Hlen := Lib.hid hlen
    rw [← hlen]
    clear hlen
    generalize hn : l.length = n at *
    have Hn := Lib.hid hn
    clear hn
    go_enter Tryd.func26, Tryd.ntmps26
    go_wp2
    go_loopw [5] (fun i wr => ∃ k : Nat, k ≤ n ∧ i = .int .i64 k ∧ l.take k = l'.take k ∧ ∃ q, wr = w.drewN q) (fun i _ => n - (intOf i).toNat)
    case atStart => exact ⟨0, Nat.zero_le _, rfl, by simp, 0, rfl⟩
    case round =>
      obtain ⟨k, hk, rfl, heq, q, rfl⟩ := hrel
      have Heq := Lib.hid heq
      clear heq
      by_cases hlt : k < n
      · obtain ⟨b, off, x, rfl, hx, hc⟩ := h.at_ (k := k) (by have := Hn.out; omega)
        obtain ⟨b', off', x', rfl, hx', hc'⟩ := h'.at_ (k := k) (by have := Hn.out; have := Hlen.out; omega)
        clear h h'
        by_cases hxx : x = x'
        · subst hxx
          go_wp2
          go_quiet (fail)
          go_wp2
          refine ⟨⟨k + 1, by omega, by go_num, take_succ_eq Heq.out hx.out hx'.out, _, rfl⟩, by simp [intOf]; omega⟩
        · go_wp2
          go_quiet (fail)
          go_wp2
          go_ret
          refine ⟨ret_bool ?_, _, World.drewN_drewN _ _ _⟩
          have : l ≠ l' := by
            intro e
            have h1 := hx.out
            rw [e, hx'.out] at h1
            exact hxx (Option.some.inj h1).symm
          simp [this]
      · obtain rfl : k = n := by omega
        go_wp2
        go_ret
        refine ⟨ret_bool ?_, _, rfl⟩
        have : l = l' := by
          have h1 := Heq.out
          rwa [List.take_of_length_le (by have := Hn.out; omega), List.take_of_length_le (by have := Hn.out; have := Hlen.out; omega)] at h1
        simp [this]
  · have hb : ((l.length : Int) != (l'.length : Int)) = true := by rw [bne_iff_ne]; omega
    have Hn := Lib.hid (show l ≠ l' from fun e => hlen (by rw [e]))
    generalize l.length = n at *
    generalize l'.length = n' at *
    go_enter Tryd.func26, Tryd.ntmps26
    go_wp2
    go_ret
    exact ⟨ret_bool (by simp [Hn.out]), 0, rfl⟩

theorem Tryd.info3 : (Tryd.prog.info? 3).map (fun i => (i.zero, i.size, i.bytes)) = some (some (.int .i64 0), 1, 8) := by kernel_rfl

set_option maxHeartbeats 400000 in
theorem Clone_some (b off c : Nat) (l : List Int) (w : World) (h : IntsAt w (some ⟨b, off, none⟩) l) (hn : l ≠ []) (hbig : l.length * 8 ≤ 140737488355328) :
    Calls Tryd.prog 72 #[.slice (some ⟨b, off, none⟩) l.length c] w fun e w' => ∃ g c', e = .returned (.slice (some ⟨g, 0, none⟩) l.length c') ∧ w.heap.size ≤ g ∧ OwnAt w' g 3 (l.map (.int .i64)) ∧ Below w.heap.size w w' := by
  obtain ⟨i0, hi, hz0, hz1, hz2⟩ := info_parts Tryd.info3
  have q22 := fun (w : World) (a : Option Addr) (n c n' c' : Nat) => Lib.run_eql_slice_nil w _ _ a n c n' c' Tryd.underlying30
  obtain ⟨b', off', hA, hc⟩ := h hn
  have hA' : b = b' ∧ off = off' := by injection hA with hA; injection hA with h1 h2; exact ⟨h1, h2⟩
  obtain ⟨rfl, rfl⟩ := hA'
  clear hA h
  have hpos : 0 < l.length := List.length_pos_iff.2 hn
  have Hc := Lib.hid hc
  clear hc
  go_enter Tryd.func72, Tryd.ntmps72
  go_wp2_with (at_builtin; refine wpList_append_own _ rfl _ _ 30 rfl w.heap.size 3 i0 (.int .i64 0) 1 8 Tryd.underlying30 hi hz0 hz1 hz2 rfl (by decide) _ _ _ rfl (World.ownsRow_made w #[] 0 (Nat.le_refl _) (Nat.zero_le _) rfl) ⟨b, off, none⟩ l.length c (l.map (Value.int .i64)) rfl ?qc1 ?qc2 ?qc3 ?qc4 ?qc5 ?qc6 ?_)
  case qc1 => simp
  case qc2 =>
    intro j u hj
    rw [List.getElem?_map] at hj
    cases hx : l[j]? with
    | none => rw [hx] at hj; cases hj
    | some x =>
      rw [hx] at hj
      injection hj with hj
      subst hj
      have := Hc.out j x hx
      rw [Addr.add_lit]
      rw [World.cell?_alloc_lt w _ _ (block_lt this)]
      exact this
  case qc3 => intro u hu; obtain ⟨x, _, rfl⟩ := List.mem_map.1 hu; rfl
  case qc4 => unfold maxLen; omega
  case qc5 => omega
  case qc6 => simp
  intro v' w1 hown hgrow hnil
  have hown' : w1.ownsRow w.heap.size 3 1 v' l.length (l.map (.int .i64)) := by simpa using hown
  have hv : ∃ g c', v' = .slice (some ⟨g, 0, none⟩) l.length c' ∧ w.heap.size ≤ g ∧ OwnAt w1 g 3 (l.map (.int .i64)) := by
    rcases hown'.2 with ⟨rfl, h0⟩ | ⟨g, cap, cur, rfl, hb, r⟩
    · omega
    · obtain ⟨g', hg', hb', ho⟩ := OwnAt.of_owns hown' hpos
      injection hg' with hg'
      injection hg' with hg'
      subst hg'
      exact ⟨g, cap, rfl, hb, ho⟩
  have hbl : Below w.heap.size w w1 := ((Below.refl _ w).alloc (Nat.le_refl _) _).grown hgrow (by simp) (by intro k hk; simp [Value.ownBlock] at hk; omega)
  obtain ⟨g, c', rfl, h1, h2⟩ := hv
  clear hown hown' hgrow hnil
  go_wp2
  go_ret
  exact ⟨g, c', rfl, h1, h2, hbl⟩

theorem Clone_empty (A : Option Addr) (c : Nat) (w : World) :
    Calls Tryd.prog 72 #[.slice A 0 c] w fun e w' => ∃ B c', e = .returned (.slice B 0 c') ∧ Below w.heap.size w w' := by
  obtain ⟨i0, hi, hz0, hz1, hz2⟩ := info_parts Tryd.info3
  have q22 := fun (w : World) (a : Option Addr) (n c n' c' : Nat) => Lib.run_eql_slice_nil w _ _ a n c n' c' Tryd.underlying30
  cases A with
  | none =>
    go_enter Tryd.func72, Tryd.ntmps72
    go_wp2
    go_ret
    exact ⟨none, 0, rfl, Below.refl _ _⟩
  | some a =>
    go_enter Tryd.func72, Tryd.ntmps72
    go_wp2_with (at_builtin; refine wpList_append_own _ rfl _ _ 30 rfl w.heap.size 3 i0 (.int .i64 0) 1 8 Tryd.underlying30 hi hz0 hz1 hz2 rfl (by decide) _ _ _ rfl (World.ownsRow_made w #[] 0 (Nat.le_refl _) (Nat.zero_le _) rfl) a 0 c [] rfl rfl ?qc2 ?qc3 ?qc4 ?qc5 ?qc6 ?_)
    case qc2 => intro j u hj; simp at hj
    case qc3 => intro u hu; simp at hu
    case qc4 => unfold maxLen; omega
    case qc5 => omega
    case qc6 => simp
    intro v' w1 hown hgrow hnil
    have hbl : Below w.heap.size w w1 := ((Below.refl _ w).alloc (Nat.le_refl _) _).grown hgrow (by simp) (by intro k hk; simp [Value.ownBlock] at hk; omega)
    have hv : ∃ B c', v' = .slice B 0 c' := by
      rcases hown.2 with ⟨rfl, h0⟩ | ⟨g, cap, cur, rfl, hb, r⟩
      · exact ⟨_, _, rfl⟩
      · exact ⟨_, _, rfl⟩
    obtain ⟨B, c', rfl⟩ := hv
    clear hown hgrow hnil
    go_wp2
    go_ret
    exact ⟨B, c', rfl, hbl⟩
end Go.Proofs.YtbdochaahbpabaaDoor
