/-
  Contract of the reference: Rel.
-/
import Derived.Test.YtpfmllpodjcldaaDoorRelB
import Derived.Test.YtpfmllpodjcldaaDoorSets
import Derived.Test.YtpfmllpodjcldaaDoorCnt
import Derived.Test.YtpfmllpodjcldaaDoorEither
namespace Go.Proofs.YtpfmllpodjcldaaDoor
open Go.RowKit
set_option maxRecDepth 100000

set_option maxHeartbeats 1000000 in
theorem RRel_any (l : List Int) (A : Option Addr) (c : Nat) (w : World) (h : IntsAt w A l) (hl : l.length < 2 ^ 60) :
    Calls Tryd.prog 46 #[.slice A l.length c] w fun e w' => e = .returned (.int .i64 (relCode l)) ∧ ∃ q, w.drewN q = w' := by
  by_cases h12 : 12 < l.length
  · have Hc := Lib.hid (show relCode l = 4 by unfold relCode; rw [if_pos h12])
    generalize l.length = n at *
    go_enter Tryd.func46, Tryd.ntmps46
    go_wp2
    go_ret
    exact ⟨ret_int (by rw [Hc.out]; rfl), 0, rfl⟩
  · have Hc := Lib.hid (show relCode l = if l.all (good l) then 0 else 1 by unfold relCode; rw [if_neg h12])
    have Hg := Lib.hid (show ∀ x, good l x = decide (0 ≤ x ∧ x < ((2 ^ l.length : Nat) : Int)) from fun x => rfl)
    generalize hn : l.length = n at *
    have Hn := Lib.hid hn
    clear hn
    go_enter Tryd.func46, Tryd.ntmps46
    go_wp2
    go_loopw [3] (fun i wr => ∃ k : Nat, k ≤ n ∧ i = .int .i64 k ∧ Hid (∀ x ∈ l.take k, good l x = true) ∧ ∃ q, w.drewN q = wr) (fun i _ => n - (intOf i).toNat)
    case atStart => exact ⟨0, Nat.zero_le _, rfl, fun x hx => by simp at hx, 0, rfl⟩
    case round =>
      obtain ⟨k, hk, rfl, hall, q, rfl⟩ := hrel
      by_cases hlt : k < n
      · obtain ⟨b, off, x, rfl, hx, hc⟩ := h.at_ (k := k) (by have := Hn.out; omega)
        cases hb : good l x with
        | true =>
          have Hb := Lib.hid (fun V => RMask_is x n true V (by omega) (by rw [← hb, Hg.out]))
          have Hnew := Lib.hid (show ∀ y ∈ l.take (k + 1), good l y = true from fun y hy => by
            rw [List.take_add_one, List.mem_append] at hy
            rcases hy with hy | hy
            · exact hall.out y hy
            · rw [hx.out] at hy; simp at hy; subst hy; exact hb)
          clear hb hall
          go_wp2_with (go_at_call 25; with_reducible refine (Hb.out _).mono ?_; rintro e w' ⟨rfl, rfl⟩)
          refine ⟨⟨k + 1, ?xa, ?xb, Hnew, ?xc⟩, ?xd⟩
          case xa => omega
          case xb => go_num
          case xc => exact ⟨q, rfl⟩
          case xd => simp [intOf]; omega
        | false =>
          have Hb := Lib.hid (fun V => RMask_is x n false V (by omega) (by rw [← hb, Hg.out]))
          have Hno := Lib.hid (show l.all (good l) = false from by
            refine Bool.eq_false_iff.2 fun e => ?_
            rw [List.all_eq_true] at e
            rw [e x (List.mem_of_getElem? hx.out)] at hb; cases hb)
          clear hb hall
          go_wp2_with (go_at_call 25; with_reducible refine (Hb.out _).mono ?_; rintro e w' ⟨rfl, rfl⟩)
          go_ret
          exact ⟨ret_int (by rw [Hc.out, Hno.out]; rfl), q, rfl⟩
      · obtain rfl : k = n := by omega
        have Hyes := Lib.hid (show l.all (good l) = true from by
          rw [List.all_eq_true]
          intro x hx
          exact hall.out x (by rw [List.take_of_length_le (by have := Hn.out; omega)]; exact hx))
        clear hall
        go_wp2
        go_ret
        exact ⟨ret_int (by rw [Hc.out, Hyes.out]; rfl), q, rfl⟩
end Go.Proofs.YtpfmllpodjcldaaDoor
