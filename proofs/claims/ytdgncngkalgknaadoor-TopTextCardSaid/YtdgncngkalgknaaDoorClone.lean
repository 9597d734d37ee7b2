/-
  Contract: slices.Clone at ints.
-/
import Derived.Test.YtdgncngkalgknaaDoorBase
import Derived.Laws.AppendOwn
namespace Go.Proofs.YtdgncngkalgknaaDoor
open Go.RowKit
set_option maxRecDepth 100000

theorem Tryd.info3 : (Tryd.prog.info? 3).map (fun i => (i.zero, i.size, i.bytes)) = some (some (.int .i64 0), 1, 8) := by kernel_rfl

set_option maxHeartbeats 400000 in
theorem Clone_some (b off c : Nat) (l : List Int) (w : World) (h : IntsAt w (some ⟨b, off, none⟩) l) (hn : l ≠ []) (hbig : l.length * 8 ≤ 140737488355328) :
    Calls Tryd.prog 39 #[.slice (some ⟨b, off, none⟩) l.length c] w fun e w' => ∃ g c', e = .returned (.slice (some ⟨g, 0, none⟩) l.length c') ∧ w.heap.size ≤ g ∧ OwnAt w' g 3 (l.map (.int .i64)) ∧ Below w.heap.size w w' := by
  obtain ⟨i0, hi, hz0, hz1, hz2⟩ := info_parts Tryd.info3
  have q22 := fun (w : World) (a : Option Addr) (n c n' c' : Nat) => Lib.run_eql_slice_nil w _ _ a n c n' c' Tryd.underlying22
  obtain ⟨b', off', hA, hc⟩ := h hn
  have hA' : b = b' ∧ off = off' := by injection hA with hA; injection hA with h1 h2; exact ⟨h1, h2⟩
  obtain ⟨rfl, rfl⟩ := hA'
  clear hA h
  have hpos : 0 < l.length := List.length_pos_iff.2 hn
  have Hc := Lib.hid hc
  clear hc
  go_enter Tryd.func39, Tryd.ntmps39
  go_wp2_with (at_builtin; refine wpList_append_own _ rfl _ _ 22 rfl w.heap.size 3 i0 (.int .i64 0) 1 8 Tryd.underlying22 hi hz0 hz1 hz2 rfl (by decide) _ _ _ rfl (World.ownsRow_made w #[] 0 (Nat.le_refl _) (Nat.zero_le _) rfl) ⟨b, off, none⟩ l.length c (l.map (Value.int .i64)) rfl ?qc1 ?qc2 ?qc3 ?qc4 ?qc5 ?qc6 ?_)
  case qc1 => simp
  case qc2 =>
    intro j u hj
    rw [List.getElem?_map] at hj
    cases hx : l[j]? with
    | none => rw [hx] at hj; cases hj
    | some x =>
      rw [hx] at hj
      injection hj with hj
      subst hj
      have := Hc.out j x hx
      rw [Addr.add_lit]
      rw [World.cell?_alloc_lt w _ _ (block_lt this)]
      exact this
  case qc3 => intro u hu; obtain ⟨x, _, rfl⟩ := List.mem_map.1 hu; rfl
  case qc4 => unfold maxLen; omega
  case qc5 => omega
  case qc6 => simp
  intro v' w1 hown hgrow hnil
  have hown' : w1.ownsRow w.heap.size 3 1 v' l.length (l.map (.int .i64)) := by simpa using hown
  have hv : ∃ g c', v' = .slice (some ⟨g, 0, none⟩) l.length c' ∧ w.heap.size ≤ g ∧ OwnAt w1 g 3 (l.map (.int .i64)) := by
    rcases hown'.2 with ⟨rfl, h0⟩ | ⟨g, cap, cur, rfl, hb, r⟩
    · omega
    · obtain ⟨g', hg', hb', ho⟩ := OwnAt.of_owns hown' hpos
      injection hg' with hg'
      injection hg' with hg'
      subst hg'
      exact ⟨g, cap, rfl, hb, ho⟩
  have hbl : Below w.heap.size w w1 := ((Below.refl _ w).alloc (Nat.le_refl _) _).grown hgrow (by simp) (by intro k hk; simp [Value.ownBlock] at hk; omega)
  obtain ⟨g, c', rfl, h1, h2⟩ := hv
  clear hown hown' hgrow hnil
  go_wp2
  go_ret
  exact ⟨g, c', rfl, h1, h2, hbl⟩

theorem Clone_empty (A : Option Addr) (c : Nat) (w : World) :
    Calls Tryd.prog 39 #[.slice A 0 c] w fun e w' => ∃ B c', e = .returned (.slice B 0 c') ∧ Below w.heap.size w w' := by
  obtain ⟨i0, hi, hz0, hz1, hz2⟩ := info_parts Tryd.info3
  have q22 := fun (w : World) (a : Option Addr) (n c n' c' : Nat) => Lib.run_eql_slice_nil w _ _ a n c n' c' Tryd.underlying22
  cases A with
  | none =>
    go_enter Tryd.func39, Tryd.ntmps39
    go_wp2
    go_ret
    exact ⟨none, 0, rfl, Below.refl _ _⟩
  | some a =>
    go_enter Tryd.func39, Tryd.ntmps39
    go_wp2_with (at_builtin; refine wpList_append_own _ rfl _ _ 22 rfl w.heap.size 3 i0 (.int .i64 0) 1 8 Tryd.underlying22 hi hz0 hz1 hz2 rfl (by decide) _ _ _ rfl (World.ownsRow_made w #[] 0 (Nat.le_refl _) (Nat.zero_le _) rfl) a 0 c [] rfl rfl ?qc2 ?qc3 ?qc4 ?qc5 ?qc6 ?_)
    case qc2 => intro j u hj; simp at hj
    case qc3 => intro u hu; simp at hu
    case qc4 => unfold maxLen; omega
    case qc5 => omega
    case qc6 => simp
    intro v' w1 hown hgrow hnil
    have hbl : Below w.heap.size w w1 := ((Below.refl _ w).alloc (Nat.le_refl _) _).grown hgrow (by simp) (by intro k hk; simp [Value.ownBlock] at hk; omega)
    have hv : ∃ B c', v' = .slice B 0 c' := by
      rcases hown.2 with ⟨rfl, h0⟩ | ⟨g, cap, cur, rfl, hb, r⟩
      · exact ⟨_, _, rfl⟩
      · exact ⟨_, _, rfl⟩
    obtain ⟨B, c', rfl⟩ := hv
    clear hown hgrow hnil
    go_wp2
    go_ret
    exact ⟨B, c', rfl, hbl⟩
end Go.Proofs.YtdgncngkalgknaaDoor
