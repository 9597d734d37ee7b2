/-
  Contract: quietwingsame.Ints.
-/
import Derived.Test.YtanlmfnhlldkeaaGreatDoorBaseA
import Derived.Test.YtanlmfnhlldkeaaGreatDoorRowsA
import Derived.Deep.QuietTactic
import Derived.BigQuiet
namespace Go.Proofs.YtanlmfnhlldkeaaGreatDoor
open Go.RowKit
set_option maxRecDepth 100000

theorem take_succ_eq {l l' : List Int} {k : Nat} {x : Int} (h : l.take k = l'.take k) (h1 : l[k]? = some x) (h2 : l'[k]? = some x) : l.take (k + 1) = l'.take (k + 1) := by
  rw [List.take_add_one, List.take_add_one, h, h1, h2]

set_option maxHeartbeats 400000 in
theorem Ints_any (l l' : List Int) (A A' : Option Addr) (c c' : Nat) (w : World) (h : IntsAt w A l) (h' : IntsAt w A' l') (hl : l.length < 2 ^ 60) :
    Calls Tryz.prog 19 #[.slice A l.length c, .slice A' l'.length c'] w fun e w' => e = .returned (.bool (decide (l = l'))) ∧ ∃ n, w' = w.drewN n := by
  by_cases hlen : l.length = l'.length
  · have Hlen := Lib.hid hlen
    rw [← hlen]
    clear hlen
    generalize hn : l.length = n at *
    have Hn := Lib.hid hn
    clear hn
    go_enter Tryz.func19, Tryz.ntmps19
    go_wp2
    go_loopw [5] (fun i wr => ∃ k : Nat, k ≤ n ∧ i = .int .i64 k ∧ l.take k = l'.take k ∧ ∃ q, wr = w.drewN q) (fun i _ => n - (intOf i).toNat)
    case atStart => exact ⟨0, Nat.zero_le _, rfl, by simp, 0, rfl⟩
    case round =>
      obtain ⟨k, hk, rfl, heq, q, rfl⟩ := hrel
      have Heq := Lib.hid heq
      clear heq
      by_cases hlt : k < n
      · obtain ⟨b, off, x, rfl, hx, hc⟩ := h.at_ (k := k) (by have := Hn.out; omega)
        obtain ⟨b', off', x', rfl, hx', hc'⟩ := h'.at_ (k := k) (by have := Hn.out; have := Hlen.out; omega)
        clear h h'
        by_cases hxx : x = x'
        · subst hxx
          go_wp2
          go_quiet (fail)
          go_wp2
          refine ⟨⟨k + 1, by omega, by go_num, take_succ_eq Heq.out hx.out hx'.out, _, rfl⟩, by simp [intOf]; omega⟩
        · go_wp2
          go_quiet (fail)
          go_wp2
          go_ret
          refine ⟨ret_bool ?_, _, World.drewN_drewN _ _ _⟩
          have : l ≠ l' := by
            intro e
            have h1 := hx.out
            rw [e, hx'.out] at h1
            exact hxx (Option.some.inj h1).symm
          simp [this]
      · obtain rfl : k = n := by omega
        go_wp2
        go_ret
        refine ⟨ret_bool ?_, _, rfl⟩
        have : l = l' := by
          have h1 := Heq.out
          rwa [List.take_of_length_le (by have := Hn.out; omega), List.take_of_length_le (by have := Hn.out; have := Hlen.out; omega)] at h1
        simp [this]
  · have hb : ((l.length : Int) != (l'.length : Int)) = true := by rw [bne_iff_ne]; omega
    have Hn := Lib.hid (show l ≠ l' from fun e => hlen (by rw [e]))
    generalize l.length = n at *
    generalize l'.length = n' at *
    go_enter Tryz.func19, Tryz.ntmps19
    go_wp2
    go_ret
    exact ⟨ret_bool (by simp [Hn.out]), 0, rfl⟩
end Go.Proofs.YtanlmfnhlldkeaaGreatDoor
