/-
  Contracts: quietwingref1.RoleSet, quietwingref1.TaskSet.
-/
import Derived.Test.YtpfmllpodjcldaaDoorRoleL
import Derived.Test.YtpfmllpodjcldaaDoorSets
import Derived.Test.YtpfmllpodjcldaaDoorRefC
namespace Go.Proofs.YtpfmllpodjcldaaDoor
open Go.RowKit
set_option maxRecDepth 100000
set_option linter.unusedVariables false

/-- All of a set's sets together, told upwards. -/
def orTo (f : Nat → Nat) (s : Nat) : Nat → Nat
  | 0 => 0
  | t + 1 => if s.testBit t then orTo f s t ||| f t else orTo f s t
theorem orTo_bit {f : Nat → Nat} {s j : Nat} (t : Nat) : (orTo f s t).testBit j = true ↔ ∃ i, i < t ∧ s.testBit i = true ∧ (f i).testBit j = true := by
  induction t with
  | zero => constructor
            · intro h; rw [orTo, Nat.zero_testBit] at h; cases h
            · rintro ⟨i, hi, -⟩; omega
  | succ t ih =>
    rw [orTo]
    split
    · rename_i hb
      rw [tb_or, Bool.or_eq_true, ih]
      constructor
      · rintro (⟨i, hi, h⟩ | h)
        · exact ⟨i, by omega, h⟩
        · exact ⟨t, by omega, hb, h⟩
      · rintro ⟨i, hi, h1, h2⟩
        rcases Nat.lt_or_ge i t with h | h
        · exact .inl ⟨i, h, h1, h2⟩
        · obtain rfl : i = t := by omega
          exact .inr h2
    · rename_i hb
      rw [ih]
      constructor
      · rintro ⟨i, hi, h⟩; exact ⟨i, by omega, h⟩
      · rintro ⟨i, hi, h1, h2⟩
        rcases Nat.lt_or_ge i t with h | h
        · exact ⟨i, h, h1, h2⟩
        · obtain rfl : i = t := by omega
          exact absurd h1 hb
theorem orTo_all {f : Nat → Nat} {s n : Nat} (hn : n ≤ 8) (hs : s < 2 ^ n) : orTo f s n = orAll f (bitsOf s) := by
  refine Nat.eq_of_testBit_eq fun j => ?_
  rw [Bool.eq_iff_iff, orTo_bit, orAll_bit]
  constructor
  · rintro ⟨i, hi, h1, h2⟩; exact ⟨i, (mem_bitsOf (lt64 hn hs)).2 h1, h2⟩
  · rintro ⟨i, hi, h⟩
    have hi := (mem_bitsOf (lt64 hn hs)).1 hi
    exact ⟨i, bit_in hs hi, hi, h⟩
theorem orTo_lt {f : Nat → Nat} {k : Nat} (h : ∀ i, f i < 2 ^ k) (s t : Nat) : orTo f s t < 2 ^ k := by
  induction t with
  | zero => exact Nat.two_pow_pos k
  | succ t ih => rw [orTo]; split
                 · exact Nat.or_lt_two_pow ih (h t)
                 · exact ih
section
variable {w : World} {Au Aa Am : Option Addr} {nu nm cu ca cm : Nat} {few most : Int} {r M : List Nat}
set_option maxHeartbeats 4000000 in
theorem RRoleSet_any (hlen : r.length ≤ 8) (hb : Bd r.length r) (hA : IntsAt w Aa (castL r)) {s : Nat} (hs : s < 2 ^ r.length) :
    Calls Tryd.prog 21 #[.agg #[.slice Au nu cu, .slice Aa r.length ca, .slice Am nm cm, .int .i64 few, .int .i64 most], .int .i64 s] w fun e w' => e = .returned (.int .i64 (allS r s : Nat)) ∧ Below w.heap.size w w' := by
  have hs256 : s < 256 := Nat.lt_of_lt_of_le hs (Nat.pow_le_pow_right (by decide) hlen)
  have hbc : Bd r.length (closed r) := hb.closedTo _
  have hbc8 : ∀ i, row (closed r) i < 2 ^ 8 := fun i => Nat.lt_of_lt_of_le (hbc i) (Nat.pow_le_pow_right (by decide) hlen)
  have hb0 : Below w.heap.size w (w.alloc (.cells #[.slice Au nu cu, .slice Aa r.length ca, .slice Am nm cm, .int .i64 few, .int .i64 most] 47)) := (Below.refl _ _).alloc (Nat.le_refl _) _
  have HC := Lib.hid (fun V (hV : Below w.heap.size w V) => (RClosure_any r (by omega) hb Aa ca V (hA.below hV)).mono fun e w' ⟨B, c', he, hi, hx⟩ => (⟨B, c', he, hi, hV.trans (hx.mono hV.size)⟩ : ∃ B c', e = Ending.returned (.slice B r.length c') ∧ IntsAt w' B (castL (closed r)) ∧ Below w.heap.size w w'))
  have Hres := Lib.hid (show orTo (row (closed r)) s r.length = allS r s from orTo_all hlen hs)
  have Hlt := Lib.hid (fun t => orTo_lt (k := 8) hbc8 s t)
  have Hsx := Lib.hid (fun t => show orTo (row (closed r)) s (t + 1) = if s.testBit t then orTo (row (closed r)) s t ||| row (closed r) t else orTo (row (closed r)) s t from rfl)
  have Hrow := Lib.hid hbc8
  have Hlc := Lib.hid (length_closed r)
  clear hs hb hbc hbc8 hA
  generalize allS r s = res at *
  generalize closed r = cl at *
  generalize r.length = n at *
  go_enter Tryd.func21, Tryd.ntmps21
  go_wp2_with fail
  refine (HC.out _ hb0).mono ?_
  rintro e w1 ⟨B, c', rfl, hi, hbw⟩
  clear HC hb0
  go_wp2_with fail
  go_loop [6, 7] (fun o i => ∃ t : Nat, t ≤ n ∧ i = .int .i64 t ∧ o = .int .i64 (orTo (row cl) s t : Nat)) (fun _ i => n - (intOf i).toNat)
  case atStart => exact ⟨0, Nat.zero_le _, rfl, rfl⟩
  case round =>
    obtain ⟨t, ht, rfl, rfl⟩ := hrel
    by_cases hlt : t < n
    · obtain ⟨b, off, rfl, hc⟩ := hi.row (k := t) (by rw [Hlc.out]; exact hlt)
      have Hst := Lib.hid (Hsx.out t)
      have ho := Hlt.out t
      have hr := Hrow.out t
      have htn : (t : Int) < n := by omega
      cases hbit : s.testBit t with
      | true =>
        have He := Lib.hid (show orTo (row cl) s (t + 1) = orTo (row cl) s t ||| row cl t by rw [Hst.out, if_pos hbit])
        clear Hst
        generalize orTo (row cl) s t = o at *
        generalize row cl t = x at *
        have C2 := Lib.hid (fun V => Bit_is s t true V (by omega) (by omega) hbit)
        have C3 := Lib.hid (fun V => Either_any o x V (by omega) (by omega))
        clear hbit
        go_wp2_with (first | (go_at_call 55; with_reducible refine (C2.out _).mono ?_; rintro e w' ⟨rfl, rfl⟩) | (go_at_call 56; with_reducible refine (C3.out _).mono ?_; rintro e w' ⟨rfl, rfl⟩))
        refine ⟨⟨t + 1, ?xa, ?xb, ?xc⟩, ?xd⟩
        case xa => omega
        case xb => go_num
        case xc => rw [He.out]
        case xd => simp [intOf]; omega
      | false =>
        have He := Lib.hid (show orTo (row cl) s (t + 1) = orTo (row cl) s t by rw [Hst.out, if_neg (by rw [hbit]; simp)])
        have C2 := Lib.hid (fun V => Bit_is s t false V (by omega) (by omega) hbit)
        clear hbit Hst
        go_wp2_with (go_at_call 55; with_reducible refine (C2.out _).mono ?_; rintro e w' ⟨rfl, rfl⟩)
        refine ⟨⟨t + 1, ?ya, ?yb, ?yc⟩, ?yd⟩
        case ya => omega
        case yb => go_num
        case yc => rw [He.out]
        case yd => simp [intOf]; omega
    · obtain rfl : t = n := by omega
      rw [Hres.out]
      go_wp2_with fail
      go_ret
      exact ⟨rfl, hbw⟩
set_option maxHeartbeats 4000000 in
theorem RTaskSet_any (hlen : r.length ≤ 8) (hb : Bd r.length r) (hA : IntsAt w Aa (castL r)) (hM : M.length = r.length) (hMb : ∀ i, row M i < 2 ^ 10) (hMi : IntsAt w Am (castL M)) {s : Nat} (hs : s < 2 ^ r.length) :
    Calls Tryd.prog 22 #[.agg #[.slice Au nu cu, .slice Aa r.length ca, .slice Am M.length cm, .int .i64 few, .int .i64 most], .int .i64 s] w fun e w' => e = .returned (.int .i64 (taskS r M s : Nat)) ∧ Below w.heap.size w w' := by
  have hb0 : Below w.heap.size w (w.alloc (.cells #[.slice Au nu cu, .slice Aa r.length ca, .slice Am M.length cm, .int .i64 few, .int .i64 most] 47)) := (Below.refl _ _).alloc (Nat.le_refl _) _
  have hx0 := BoxN.new w 47 #[.slice Au nu cu, .slice Aa r.length ca, .slice Am M.length cm, .int .i64 few, .int .i64 most]
  have HC := Lib.hid (fun V (hV : Below w.heap.size w V) => (RRoleSet_any (Au := Au) (nu := nu) (cu := cu) (ca := ca) (nm := M.length) (Am := Am) (cm := cm) (few := few) (most := most) hlen hb (hA.below hV) hs).mono fun e w' ⟨he, hx⟩ => (⟨he, hx, hV.trans (hx.mono hV.size)⟩ : _ ∧ Below V.heap.size V w' ∧ Below w.heap.size w w'))
  have hal := allS_lt hlen hb s
  have ha256 : allS r s < 256 := Nat.lt_of_lt_of_le hal (Nat.pow_le_pow_right (by decide) hlen)
  have Hres := Lib.hid (show orTo (row M) (allS r s) M.length = taskS r M s by rw [hM]; exact orTo_all hlen hal)
  have Hlt := Lib.hid (fun t => orTo_lt (k := 10) hMb (allS r s) t)
  have Hsx := Lib.hid (fun t => show orTo (row M) (allS r s) (t + 1) = if (allS r s).testBit t then orTo (row M) (allS r s) t ||| row M t else orTo (row M) (allS r s) t from rfl)
  have Hrow := Lib.hid hMb
  obtain ⟨nm, hnm⟩ : ∃ nm, M.length = nm := ⟨_, rfl⟩
  have Hm := Lib.hid hnm
  have Hi := Lib.hid hMi
  rw [hnm] at HC Hres hb0 hx0 ⊢
  have hm8 : nm ≤ 8 := by omega
  clear hs hb hA hM hMb hal hnm hMi
  generalize taskS r M s = res at *
  generalize allS r s = a at *
  generalize r.length = n at *
  go_enter Tryd.func22, Tryd.ntmps22
  go_wp2_with fail
  refine (HC.out _ hb0).mono ?_
  rintro e w1 ⟨rfl, hb1, hbw⟩
  have hx1 := hx0.all hb1
  have e2 : w1.cell? ⟨w.heap.size, 2, none⟩ = some (.slice Am nm cm) := hx1.cell rfl
  have hi := Hi.out.below hbw
  clear HC hb0 hb1 hx0
  go_wp2_with fail
  go_loop [6, 7] (fun o i => ∃ t : Nat, t ≤ nm ∧ i = .int .i64 t ∧ o = .int .i64 (orTo (row M) a t : Nat)) (fun _ i => nm - (intOf i).toNat)
  case atStart => exact ⟨0, Nat.zero_le _, rfl, rfl⟩
  case round =>
    obtain ⟨t, ht, rfl, rfl⟩ := hrel
    by_cases hlt : t < nm
    · obtain ⟨b, off, rfl, hc⟩ := hi.row (k := t) (by rw [Hm.out]; exact hlt)
      have Hst := Lib.hid (Hsx.out t)
      have ho := Hlt.out t
      have hr := Hrow.out t
      have htn : (t : Int) < nm := by omega
      cases hbit : a.testBit t with
      | true =>
        have He := Lib.hid (show orTo (row M) a (t + 1) = orTo (row M) a t ||| row M t by rw [Hst.out, if_pos hbit])
        clear Hst
        generalize orTo (row M) a t = o at *
        generalize row M t = x at *
        have C2 := Lib.hid (fun V => Bit_is a t true V (by omega) (by omega) hbit)
        have C3 := Lib.hid (fun V => Either_any o x V (by omega) (by omega))
        clear hbit
        go_wp2_with (first | (go_at_call 55; with_reducible refine (C2.out _).mono ?_; rintro e w' ⟨rfl, rfl⟩) | (go_at_call 56; with_reducible refine (C3.out _).mono ?_; rintro e w' ⟨rfl, rfl⟩))
        refine ⟨⟨t + 1, ?xa, ?xb, ?xc⟩, ?xd⟩
        case xa => omega
        case xb => go_num
        case xc => rw [He.out]
        case xd => simp [intOf]; omega
      | false =>
        have He := Lib.hid (show orTo (row M) a (t + 1) = orTo (row M) a t by rw [Hst.out, if_neg (by rw [hbit]; simp)])
        have C2 := Lib.hid (fun V => Bit_is a t false V (by omega) (by omega) hbit)
        clear hbit Hst
        go_wp2_with (go_at_call 55; with_reducible refine (C2.out _).mono ?_; rintro e w' ⟨rfl, rfl⟩)
        refine ⟨⟨t + 1, ?ya, ?yb, ?yc⟩, ?yd⟩
        case ya => omega
        case yb => go_num
        case yc => rw [He.out]
        case yd => simp [intOf]; omega
    · obtain rfl : t = nm := by omega
      rw [Hres.out]
      go_wp2_with fail
      go_ret
      exact ⟨rfl, hbw⟩
end
end Go.Proofs.YtpfmllpodjcldaaDoor
