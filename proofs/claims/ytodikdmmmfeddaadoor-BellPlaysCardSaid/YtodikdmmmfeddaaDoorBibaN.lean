/-
  Contracts: biba.levels, biba.New.
-/
import Derived.Test.YtodikdmmmfeddaaDoorBibaM
namespace Go.Proofs.YtodikdmmmfeddaaDoor
open Go.RowKit
set_option maxRecDepth 100000
set_option linter.unusedVariables false

def lvl (x : Int) : Bool := decide (0 ≤ x ∧ x ≤ 7)
/-- What is wrong with levels. -/
def levCode (l : List Int) (most : Nat) : Nat := if most < l.length then 4 else if l.all lvl then 0 else 1
theorem levCode_ok {l : List Int} {most : Nat} (h : levCode l most = 0) : l.length ≤ most ∧ ∀ x ∈ l, 0 ≤ x ∧ x ≤ 7 := by
  unfold levCode at h
  split at h
  · cases h
  · split at h
    · rename_i h1 h2
      rw [List.all_eq_true] at h2
      exact ⟨by omega, fun x hx => of_decide_eq_true (h2 x hx)⟩
    · cases h

set_option maxHeartbeats 1000000 in
theorem levels_any (l : List Int) (most : Nat) (hm : most ≤ 100) (A : Option Addr) (c : Nat) (w : World) (h : IntsAt w A l) (hl : l.length < 2 ^ 60) :
    Calls Tryd.prog 39 #[.slice A l.length c, .int .i64 most] w fun e w' => e = .returned (errVal (levCode l most)) ∧ w = w' := by
  by_cases h12 : most < l.length
  · have Hc := Lib.hid (show levCode l most = 4 by unfold levCode; rw [if_pos h12])
    generalize l.length = n at *
    go_enter Tryd.func39, Tryd.ntmps39
    go_wp2
    go_ret
    exact ⟨by rw [Hc.out]; rfl, rfl⟩
  · have Hc := Lib.hid (show levCode l most = if l.all lvl then 0 else 1 by unfold levCode; rw [if_neg h12])
    generalize hn : l.length = n at *
    have Hn := Lib.hid hn
    clear hn
    go_enter Tryd.func39, Tryd.ntmps39
    go_wp2
    go_loop [14] (fun i => ∃ k : Nat, k ≤ n ∧ i = .int .i64 k ∧ Hid (∀ x ∈ l.take k, lvl x = true)) (fun i => n - (intOf i).toNat)
    case atStart => exact ⟨0, Nat.zero_le _, rfl, fun x hx => by simp at hx⟩
    case round =>
      obtain ⟨k, hk, rfl, hall⟩ := hrel
      by_cases hlt : k < n
      · obtain ⟨b, off, x, rfl, hx, hc⟩ := h.at_ (k := k) (by have := Hn.out; omega)
        cases hb : lvl x with
        | true =>
          have Hb := Lib.hid (fun V => Within3_is x 0 7 true V hb)
          have Hnew := Lib.hid (show ∀ y ∈ l.take (k + 1), lvl y = true from fun y hy => by
            rw [List.take_add_one, List.mem_append] at hy
            rcases hy with hy | hy
            · exact hall.out y hy
            · rw [hx.out] at hy; simp at hy; subst hy; exact hb)
          clear hb hall
          go_wp2_with (go_at_call 41; with_reducible refine (Hb.out _).mono ?_; rintro e w' ⟨rfl, rfl⟩)
          refine ⟨⟨k + 1, ?xa, ?xb, Hnew⟩, ?xd⟩
          case xa => omega
          case xb => go_num
          case xd => simp [intOf]; omega
        | false =>
          have Hb := Lib.hid (fun V => Within3_is x 0 7 false V hb)
          have Hno := Lib.hid (show l.all lvl = false from by
            refine Bool.eq_false_iff.2 fun e => ?_
            rw [List.all_eq_true] at e
            rw [e x (List.mem_of_getElem? hx.out)] at hb; cases hb)
          clear hb hall
          go_wp2_with (go_at_call 41; with_reducible refine (Hb.out _).mono ?_; rintro e w' ⟨rfl, rfl⟩)
          go_ret
          exact ⟨by rw [Hc.out, Hno.out]; rfl, rfl⟩
      · obtain rfl : k = n := by omega
        have Hyes := Lib.hid (show l.all lvl = true from by
          rw [List.all_eq_true]
          intro x hx
          exact hall.out x (by rw [List.take_of_length_le (by have := Hn.out; omega)]; exact hx))
        clear hall
        go_wp2
        go_ret
        exact ⟨by rw [Hc.out, Hyes.out]; rfl, rfl⟩

/-- A clone, whatever it is of. -/
theorem Clone_any (l : List Int) (A : Option Addr) (c : Nat) (w : World) (h : IntsAt w A l) (hl : l.length ≤ 100) :
    Calls Tryd.prog 40 #[.slice A l.length c] w fun e w' => (∃ A' c', e = .returned (.slice A' l.length c') ∧ IntsAt w' A' l ∧ (l ≠ [] → ∃ g, A' = some ⟨g, 0, none⟩ ∧ w.heap.size ≤ g ∧ OwnAt w' g 3 (vI l))) ∧ Below w.heap.size w w' := by
  by_cases hn : l = []
  · subst hn
    exact (Clone_empty A c w).mono fun e w' ⟨B, c', he, hb⟩ => ⟨⟨B, c', he, IntsAt.nil, fun h => absurd rfl h⟩, hb⟩
  · obtain ⟨b, off, rfl, _⟩ := h hn
    exact (Clone_some b off c l w h hn (by omega)).mono fun e w' ⟨g, c', he, hg, ho, hb⟩ => ⟨⟨_, c', he, ho.ints, fun _ => ⟨g, rfl, hg, ho⟩⟩, hb⟩

set_option maxHeartbeats 1000000 in
theorem New_ok (U F : List Int) (A B : Option Addr) (c d : Nat) (w : World) (hU : IntsAt w A U) (hF : IntsAt w B F) (h1 : levCode U 8 = 0) (h2 : levCode F 8 = 0) :
    Calls Tryd.prog 15 #[.slice A U.length c, .slice B F.length d] w fun e w' => (∃ p Au Af Aw Ah cu cf cw ch, e = .returned (.tuple #[.pointer (some ⟨p, 0, none⟩), .nilIface]) ∧ BibaAt w' w.heap.size p F ⟨U, F, U⟩ Au Af Aw Ah cu cf cw ch) ∧ Below w.heap.size w w' := by
  have l1 := (levCode_ok h1).1
  have l2 := (levCode_ok h2).1
  have L1 := fun V (hV : IntsAt V A U) => levels_any U 8 (by omega) A c V hV (by omega)
  have L2 := fun V (hV : IntsAt V B F) => levels_any F 8 (by omega) B d V hV (by omega)
  rw [h1, errVal_zero] at L1
  rw [h2, errVal_zero] at L2
  have M1 := Lib.hid L1
  have M2 := Lib.hid L2
  have K1 := Lib.hid (fun V (hV : IntsAt V A U) => Clone_any U A c V hV (by omega))
  have K2 := Lib.hid (fun V (hV : IntsAt V B F) => Clone_any F B d V hV (by omega))
  clear L1 L2 h1 h2
  obtain ⟨nu, hnu⟩ : ∃ n, U.length = n := ⟨_, rfl⟩
  obtain ⟨nf, hnf⟩ : ∃ n, F.length = n := ⟨_, rfl⟩
  rw [hnu] at M1 K1 ⊢
  rw [hnf] at M2 K2 ⊢
  have Hnu := Lib.hid hnu
  have Hnf := Lib.hid hnf
  clear hnu hnf l1 l2
  go_enter Tryd.func15, Tryd.ntmps15
  go_wp2_with fail
  refine (M1.out _ hU).mono ?_
  rintro e w' ⟨rfl, rfl⟩
  go_wp2_with fail
  refine (M2.out _ hF).mono ?_
  rintro e w' ⟨rfl, rfl⟩
  go_wp2_with fail
  refine (K1.out _ hU).mono ?_
  rintro e w1 ⟨⟨Au, cu, rfl, iu, ou⟩, hb1⟩
  go_wp2_with fail
  refine (K2.out _ (hF.below hb1)).mono ?_
  rintro e w2 ⟨⟨Af, cf, rfl, if_, of_⟩, hb2⟩
  have hb02 := hb1.trans (hb2.mono hb1.size)
  go_wp2_with fail
  refine (K2.out _ (hF.below hb02)).mono ?_
  rintro e w3 ⟨⟨Aw, cw, rfl, iw, ow⟩, hb3⟩
  have hb03 := hb02.trans (hb3.mono hb02.size)
  go_wp2_with fail
  refine (K1.out _ (hU.below hb03)).mono ?_
  rintro e w4 ⟨⟨Ah, ch, rfl, ih, oh⟩, hb4⟩
  have hb04 := hb03.trans (hb4.mono hb03.size)
  have hb24 := hb3.trans (hb4.mono hb3.size)
  have hb14 := hb2.trans (hb24.mono hb2.size)
  have s1 := hb1.size
  have s2 := hb2.size
  have s3 := hb3.size
  have s4 := hb4.size
  clear hb1 hb2 hb3 M1 M2 K1 K2
  go_wp2_with fail
  go_ret2
  have hba := (Below.refl w4.heap.size w4).alloc (Nat.le_refl _) (.cells #[.slice Au nu cu, .slice Af nf cf, .slice Aw nf cw, .slice Ah nu ch] 68)
  refine ⟨⟨w4.heap.size, Au, Af, Aw, Ah, cu, cf, cw, ch, rfl, by omega, ?_, rfl, rfl, (iu.below hb14).below hba, (iw.below hb4).below hba, fun n1 n2 => ?_⟩, hb04.alloc (by omega) _⟩
  · rw [Hnf.out]
    show BoxN _ _ _ #[.slice Au U.length cu, _, _, .slice Ah U.length ch]
    rw [Hnu.out]
    exact BoxN.new w4 _ _
  · obtain ⟨gu, e1, b1, o1⟩ := ou n1
    obtain ⟨gf, e2, b2, o2⟩ := of_ n2
    obtain ⟨gw, e3, b3, o3⟩ := ow n2
    obtain ⟨gh, e4, b4, o4⟩ := oh n1
    have t1 := o1.lt
    have t2 := o2.lt
    have t3 := o3.lt
    have t4 := o4.lt
    exact ⟨gu, gf, gw, gh, e1, e2, e3, e4, by omega, by omega, by omega, by omega, (o1.all hb14).all hba, (o2.all hb24).all hba, (o3.all hb4).all hba, o4.all hba, by omega, by omega, by omega, by omega, by omega, by omega⟩
set_option maxHeartbeats 1000000 in
theorem New_bad (U F : List Int) (A B : Option Addr) (c d : Nat) (w : World) (hU : IntsAt w A U) (hF : IntsAt w B F) (l1 : U.length < 2 ^ 60) (l2 : F.length < 2 ^ 60) (k : Nat) (hk : k = if levCode U 8 ≠ 0 then levCode U 8 else levCode F 8) (hne : k ≠ 0) :
    Calls Tryd.prog 15 #[.slice A U.length c, .slice B F.length d] w fun e w' => e = .returned (.tuple #[.pointer none, .iface 70 (.int .i64 k)]) ∧ w = w' := by
  have L1 := fun V (hV : IntsAt V A U) => levels_any U 8 (by omega) A c V hV l1
  have L2 := fun V (hV : IntsAt V B F) => levels_any F 8 (by omega) B d V hV l2
  by_cases h1 : levCode U 8 = 0
  · rw [if_neg (by simpa using h1)] at hk
    rw [← hk, errVal_pos hne] at L2
    rw [h1, errVal_zero] at L1
    have M1 := Lib.hid L1
    have M2 := Lib.hid L2
    clear L1 L2 hk hne h1
    generalize U.length = nu at *
    generalize F.length = nf at *
    go_enter Tryd.func15, Tryd.ntmps15
    go_wp2_with fail
    refine (M1.out _ hU).mono ?_
    rintro e w' ⟨rfl, rfl⟩
    go_wp2_with fail
    refine (M2.out _ hF).mono ?_
    rintro e w' ⟨rfl, rfl⟩
    go_wp2_with fail
    go_ret2
    exact ⟨rfl, rfl⟩
  · rw [if_pos h1] at hk
    rw [← hk, errVal_pos hne] at L1
    have M1 := Lib.hid L1
    clear L1 L2 hk hne h1
    generalize U.length = nu at *
    generalize F.length = nf at *
    go_enter Tryd.func15, Tryd.ntmps15
    go_wp2_with fail
    refine (M1.out _ hU).mono ?_
    rintro e w' ⟨rfl, rfl⟩
    go_wp2_with fail
    go_ret2
    exact ⟨rfl, rfl⟩
end Go.Proofs.YtodikdmmmfeddaaDoor
