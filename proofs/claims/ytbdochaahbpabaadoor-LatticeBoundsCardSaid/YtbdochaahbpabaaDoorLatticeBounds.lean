/-
  The walk of quietwinglaw1.LatticeBounds.
-/
import Derived.Test.YtbdochaahbpabaaDoorLatLaw2
import Derived.Test.YtbdochaahbpabaaDoorFrame
namespace Go.Proofs.YtbdochaahbpabaaDoor
open Go.RowKit
set_option maxRecDepth 100000
set_option linter.unusedVariables false

theorem bit_con (s i : Nat) (b : Bool) (hs : s < 2 ^ 12) (hi : i < 2 ^ 12) (h : s.testBit i = b) : ∀ V : World, Calls Tryd.prog 21 #[.int .i64 s, .int .i64 i] V fun e w' => e = .returned (.bool b) ∧ V = w' :=
  fun V => Bit_is s i b V (by omega) (by omega) h

set_option maxHeartbeats 8000000 in
theorem LatticeBounds_ok (r : List Nat) (h1 : r.length ≤ 12) (h2 : Bd r.length r) (A : Option Addr) (c : Nat) (a b k : Nat) (w : World) (h : IntsAt w A (castL r)) (hT : Tab w) (ha : a < r.length) (hb : b < r.length) (hk : k < r.length) :
    Calls Tryd.prog 7 #[.slice A r.length c, .int .i64 a, .int .i64 b, .int .i64 k] w fun e w' => e = .returned (.bool true) ∧ Below w.heap.size w w' := by
  have Hc := Lib.hid (fun (V : World) (hV : IntsAt V A (castL r)) => Closure_ok r h1 h2 A c V hV)
  have hj := fun (V : World) (hV : IntsAt V A (castL r)) (hTV : Tab V) => Join_any (castL r) (by rw [length_castL]; omega) A c a b V hV hTV
  have hm := fun (V : World) (hV : IntsAt V A (castL r)) (hTV : Tab V) => Meet_any (castL r) (by rw [length_castL]; omega) A c a b V hV hTV
  obtain ⟨jv, jc, hje⟩ : ∃ jv jc, boundV (castL r) false a b = (jv, jc) := ⟨_, _, rfl⟩
  obtain ⟨mv, mc, hme⟩ : ∃ mv mc, boundV (castL r) true a b = (mv, mc) := ⟨_, _, rfl⟩
  rw [hje, length_castL] at hj
  rw [hme, length_castL] at hm
  have Hj := Lib.hid hj
  have Hm := Lib.hid hm
  have Hjs := Lib.hid (fun (e : jc = 0) => join_spec h1 h2 ha hb (e ▸ hje))
  have Hms := Lib.hid (fun (e : mc = 0) => meet_spec h1 h2 ha hb (e ▸ hme))
  have hcn := length_closed r
  have hcb := closed_lt r h2
  clear hj hm hje hme h2
  generalize closed r = cl at *
  generalize r.length = n at *
  have Hcn := Lib.hid hcn
  have hc12 : ∀ i, row cl i < 2 ^ 12 := fun i => Nat.lt_of_lt_of_le (hcb i) (Nat.pow_le_pow_right (by decide) h1)
  have Hc12 := Lib.hid hc12
  clear hcn hcb hc12
  go_enter Tryd.func7, Tryd.ntmps7
  go_wp2_with fail
  refine (latticeFact_any _ hT).mono ?_
  rintro e w1 ⟨rfl, hb1⟩
  have hi1 := h.below hb1
  have hT1 := hT.next hb1
  go_wp2_with fail
  refine (Hc.out w1 hi1).mono ?_
  rintro e w2 ⟨B, cc, rfl, hC, hb2⟩
  have hi2 := hi1.below hb2
  have hT2 := hT1.next hb2
  have hbl2 := hb1.trans (hb2.mono hb1.size)
  clear h hi1 hT hT1 hb1 hb2 Hc
  have g1 : decide ((a : Int) < 0) = false := by simp
  have g2 : decide ((b : Int) < 0) = false := by simp
  have g3 : decide ((k : Int) < 0) = false := by simp
  have g4 : decide ((a : Int) ≥ (n : Int)) = false := by simp; omega
  have g5 : decide ((b : Int) ≥ (n : Int)) = false := by simp; omega
  have g6 : decide ((k : Int) ≥ (n : Int)) = false := by simp; omega
  go_wp2_with fail
  refine (Hj.out w2 hi2 hT2).mono ?_
  rintro e w3 ⟨rfl, hb3⟩
  have hi3 := hi2.below hb3
  have hT3 := hT2.next hb3
  have hC3 := hC.below hb3
  have hbl3 := hbl2.trans (hb3.mono hbl2.size)
  clear hi2 hT2 hC hb3 hbl2 Hj
  by_cases hj0 : jc = 0
  · obtain ⟨x, rfl, hxn, t1, t2, t3⟩ := Hjs.out hj0
    subst hj0
    rw [show errVal 0 = .nilIface from rfl]
    clear Hjs
    have gx1 : decide ((x : Int) < 0) = false := by simp
    have gx2 : decide ((x : Int) ≥ (n : Int)) = false := by simp; omega
    obtain ⟨bc, oc, rfl, ka⟩ := hC3.row (k := a) (by rw [Hcn.out]; assumption)
    obtain ⟨bc', oc', hE, kb⟩ := hC3.row (k := b) (by rw [Hcn.out]; assumption)
    obtain ⟨rfl, rfl⟩ : bc = bc' ∧ oc = oc' := by injection hE with hE; injection hE with e1 e2; exact ⟨e1, e2⟩
    clear hE
    obtain ⟨bc', oc', hE, kx⟩ := hC3.row (k := x) (by rw [Hcn.out]; assumption)
    obtain ⟨rfl, rfl⟩ : bc = bc' ∧ oc = oc' := by injection hE with hE; injection hE with e1 e2; exact ⟨e1, e2⟩
    clear hE
    have C1 := Lib.hid (bit_con (row cl a) x true (Hc12.out a) (by omega) t1)
    have C2 := Lib.hid (bit_con (row cl b) x true (Hc12.out b) (by omega) t2)
    cases p1 : (row cl a).testBit k with
    | false =>
      have C3 := Lib.hid (bit_con (row cl a) k false (Hc12.out a) (by omega) p1)
      have hra := Hc12.out a
      have hrb := Hc12.out b
      have hrx := Hc12.out x
      clear t1 t2 t3 p1
      obtain ⟨xa, hxa⟩ : ∃ xa, row cl a = xa := ⟨_, rfl⟩
      obtain ⟨xb, hxb⟩ : ∃ xb, row cl b = xb := ⟨_, rfl⟩
      obtain ⟨xx, hxx⟩ : ∃ xx, row cl x = xx := ⟨_, rfl⟩
      rw [hxa] at ka hra C1 C3
      rw [hxb] at kb hrb C2 
      rw [hxx] at kx hrx 
      clear hxa hxb hxx
      go_wp2_with (first | (go_at_call 21; with_reducible refine (C1.out _).mono ?_; rintro e w' ⟨rfl, rfl⟩) | (go_at_call 21; with_reducible refine (C2.out _).mono ?_; rintro e w' ⟨rfl, rfl⟩) | (go_at_call 21; with_reducible refine (C3.out _).mono ?_; rintro e w' ⟨rfl, rfl⟩))
      clear C1 C2 C3
      clear ka kb kx
      refine (Hm.out w3 hi3 hT3).mono ?_
      rintro e w4 ⟨rfl, hb4⟩
      have hC4 := hC3.below hb4
      have hbl4 := hbl3.trans (hb4.mono hbl3.size)
      clear hb4 Hm
      by_cases hm0 : mc = 0
      · obtain ⟨m, rfl, hmn, s1, s2, s3⟩ := Hms.out hm0
        subst hm0
        rw [show errVal 0 = .nilIface from rfl]
        clear Hms
        have gm1 : decide ((m : Int) ≥ 0) = true := by simp
        have gm2 : decide ((m : Int) < (n : Int)) = true := by simp; omega
        have km : w4.cell? ⟨bc, oc + m, none⟩ = some (Value.int .i64 (row cl m : Nat)) := by
          obtain ⟨bc', oc', hE, km⟩ := hC4.row (k := m) (by rw [Hcn.out]; assumption)
          obtain ⟨rfl, rfl⟩ : bc = bc' ∧ oc = oc' := by injection hE with hE; injection hE with e1 e2; exact ⟨e1, e2⟩
          exact km
        have kk : w4.cell? ⟨bc, oc + k, none⟩ = some (Value.int .i64 (row cl k : Nat)) := by
          obtain ⟨bc', oc', hE, kk⟩ := hC4.row (k := k) (by rw [Hcn.out]; assumption)
          obtain ⟨rfl, rfl⟩ : bc = bc' ∧ oc = oc' := by injection hE with hE; injection hE with e1 e2; exact ⟨e1, e2⟩
          exact kk
        have D1 := Lib.hid (bit_con (row cl m) a true (Hc12.out m) (by omega) s1)
        have D2 := Lib.hid (bit_con (row cl m) b true (Hc12.out m) (by omega) s2)
        cases q1 : (row cl k).testBit a with
        | false =>
          have D3 := Lib.hid (bit_con (row cl k) a false (Hc12.out k) (by omega) q1)
          have hrm := Hc12.out m
          have hrk := Hc12.out k
          clear s1 s2 s3 q1
          generalize row cl m = xm at *
          generalize row cl k = xk at *
          go_wp2_with (first | (go_at_call 21; with_reducible refine (D1.out _).mono ?_; rintro e w' ⟨rfl, rfl⟩) | (go_at_call 21; with_reducible refine (D2.out _).mono ?_; rintro e w' ⟨rfl, rfl⟩) | (go_at_call 21; with_reducible refine (D3.out _).mono ?_; rintro e w' ⟨rfl, rfl⟩))
          go_ret
          exact ⟨rfl, hbl4⟩
        | true =>
          have D3 := Lib.hid (bit_con (row cl k) a true (Hc12.out k) (by omega) q1)
          cases q2 : (row cl k).testBit b with
          | false =>
            have D4 := Lib.hid (bit_con (row cl k) b false (Hc12.out k) (by omega) q2)
            have hrm := Hc12.out m
            have hrk := Hc12.out k
            clear s1 s2 s3 q1 q2
            generalize row cl m = xm at *
            generalize row cl k = xk at *
            go_wp2_with (first | (go_at_call 21; with_reducible refine (D1.out _).mono ?_; rintro e w' ⟨rfl, rfl⟩) | (go_at_call 21; with_reducible refine (D2.out _).mono ?_; rintro e w' ⟨rfl, rfl⟩) | (go_at_call 21; with_reducible refine (D3.out _).mono ?_; rintro e w' ⟨rfl, rfl⟩) | (go_at_call 21; with_reducible refine (D4.out _).mono ?_; rintro e w' ⟨rfl, rfl⟩))
            go_ret
            exact ⟨rfl, hbl4⟩
          | true =>
            have D4 := Lib.hid (bit_con (row cl k) b true (Hc12.out k) (by omega) q2)
            have q3 := s3 k hk q1 q2
            have D5 := Lib.hid (bit_con (row cl k) m true (Hc12.out k) (by omega) q3)
            have hrm := Hc12.out m
            have hrk := Hc12.out k
            clear s1 s2 s3 q1 q2 q3
            generalize row cl m = xm at *
            generalize row cl k = xk at *
            go_wp2_with (first | (go_at_call 21; with_reducible refine (D1.out _).mono ?_; rintro e w' ⟨rfl, rfl⟩) | (go_at_call 21; with_reducible refine (D2.out _).mono ?_; rintro e w' ⟨rfl, rfl⟩) | (go_at_call 21; with_reducible refine (D3.out _).mono ?_; rintro e w' ⟨rfl, rfl⟩) | (go_at_call 21; with_reducible refine (D4.out _).mono ?_; rintro e w' ⟨rfl, rfl⟩) | (go_at_call 21; with_reducible refine (D5.out _).mono ?_; rintro e w' ⟨rfl, rfl⟩))
            go_ret
            exact ⟨rfl, hbl4⟩
      · rw [errVal, if_neg hm0]
        clear Hms hm0
        generalize mc = m' at *
        go_wp2_with fail
        go_ret
        exact ⟨rfl, hbl4⟩
    | true =>
      have C3 := Lib.hid (bit_con (row cl a) k true (Hc12.out a) (by omega) p1)
      cases p2 : (row cl b).testBit k with
      | false =>
        have C4 := Lib.hid (bit_con (row cl b) k false (Hc12.out b) (by omega) p2)
        have hra := Hc12.out a
        have hrb := Hc12.out b
        have hrx := Hc12.out x
        clear t1 t2 t3 p1 p2
        obtain ⟨xa, hxa⟩ : ∃ xa, row cl a = xa := ⟨_, rfl⟩
        obtain ⟨xb, hxb⟩ : ∃ xb, row cl b = xb := ⟨_, rfl⟩
        obtain ⟨xx, hxx⟩ : ∃ xx, row cl x = xx := ⟨_, rfl⟩
        rw [hxa] at ka hra C1 C3
        rw [hxb] at kb hrb C2 C4
        rw [hxx] at kx hrx 
        clear hxa hxb hxx
        go_wp2_with (first | (go_at_call 21; with_reducible refine (C1.out _).mono ?_; rintro e w' ⟨rfl, rfl⟩) | (go_at_call 21; with_reducible refine (C2.out _).mono ?_; rintro e w' ⟨rfl, rfl⟩) | (go_at_call 21; with_reducible refine (C3.out _).mono ?_; rintro e w' ⟨rfl, rfl⟩) | (go_at_call 21; with_reducible refine (C4.out _).mono ?_; rintro e w' ⟨rfl, rfl⟩))
        clear C1 C2 C3 C4
        clear ka kb kx
        refine (Hm.out w3 hi3 hT3).mono ?_
        rintro e w4 ⟨rfl, hb4⟩
        have hC4 := hC3.below hb4
        have hbl4 := hbl3.trans (hb4.mono hbl3.size)
        clear hb4 Hm
        by_cases hm0 : mc = 0
        · obtain ⟨m, rfl, hmn, s1, s2, s3⟩ := Hms.out hm0
          subst hm0
          rw [show errVal 0 = .nilIface from rfl]
          clear Hms
          have gm1 : decide ((m : Int) ≥ 0) = true := by simp
          have gm2 : decide ((m : Int) < (n : Int)) = true := by simp; omega
          have km : w4.cell? ⟨bc, oc + m, none⟩ = some (Value.int .i64 (row cl m : Nat)) := by
            obtain ⟨bc', oc', hE, km⟩ := hC4.row (k := m) (by rw [Hcn.out]; assumption)
            obtain ⟨rfl, rfl⟩ : bc = bc' ∧ oc = oc' := by injection hE with hE; injection hE with e1 e2; exact ⟨e1, e2⟩
            exact km
          have kk : w4.cell? ⟨bc, oc + k, none⟩ = some (Value.int .i64 (row cl k : Nat)) := by
            obtain ⟨bc', oc', hE, kk⟩ := hC4.row (k := k) (by rw [Hcn.out]; assumption)
            obtain ⟨rfl, rfl⟩ : bc = bc' ∧ oc = oc' := by injection hE with hE; injection hE with e1 e2; exact ⟨e1, e2⟩
            exact kk
          have D1 := Lib.hid (bit_con (row cl m) a true (Hc12.out m) (by omega) s1)
          have D2 := Lib.hid (bit_con (row cl m) b true (Hc12.out m) (by omega) s2)
          cases q1 : (row cl k).testBit a with
          | false =>
            have D3 := Lib.hid (bit_con (row cl k) a false (Hc12.out k) (by omega) q1)
            have hrm := Hc12.out m
            have hrk := Hc12.out k
            clear s1 s2 s3 q1
            generalize row cl m = xm at *
            generalize row cl k = xk at *
            go_wp2_with (first | (go_at_call 21; with_reducible refine (D1.out _).mono ?_; rintro e w' ⟨rfl, rfl⟩) | (go_at_call 21; with_reducible refine (D2.out _).mono ?_; rintro e w' ⟨rfl, rfl⟩) | (go_at_call 21; with_reducible refine (D3.out _).mono ?_; rintro e w' ⟨rfl, rfl⟩))
            go_ret
            exact ⟨rfl, hbl4⟩
          | true =>
            have D3 := Lib.hid (bit_con (row cl k) a true (Hc12.out k) (by omega) q1)
            cases q2 : (row cl k).testBit b with
            | false =>
              have D4 := Lib.hid (bit_con (row cl k) b false (Hc12.out k) (by omega) q2)
              have hrm := Hc12.out m
              have hrk := Hc12.out k
              clear s1 s2 s3 q1 q2
              generalize row cl m = xm at *
              generalize row cl k = xk at *
              go_wp2_with (first | (go_at_call 21; with_reducible refine (D1.out _).mono ?_; rintro e w' ⟨rfl, rfl⟩) | (go_at_call 21; with_reducible refine (D2.out _).mono ?_; rintro e w' ⟨rfl, rfl⟩) | (go_at_call 21; with_reducible refine (D3.out _).mono ?_; rintro e w' ⟨rfl, rfl⟩) | (go_at_call 21; with_reducible refine (D4.out _).mono ?_; rintro e w' ⟨rfl, rfl⟩))
              go_ret
              exact ⟨rfl, hbl4⟩
            | true =>
              have D4 := Lib.hid (bit_con (row cl k) b true (Hc12.out k) (by omega) q2)
              have q3 := s3 k hk q1 q2
              have D5 := Lib.hid (bit_con (row cl k) m true (Hc12.out k) (by omega) q3)
              have hrm := Hc12.out m
              have hrk := Hc12.out k
              clear s1 s2 s3 q1 q2 q3
              generalize row cl m = xm at *
              generalize row cl k = xk at *
              go_wp2_with (first | (go_at_call 21; with_reducible refine (D1.out _).mono ?_; rintro e w' ⟨rfl, rfl⟩) | (go_at_call 21; with_reducible refine (D2.out _).mono ?_; rintro e w' ⟨rfl, rfl⟩) | (go_at_call 21; with_reducible refine (D3.out _).mono ?_; rintro e w' ⟨rfl, rfl⟩) | (go_at_call 21; with_reducible refine (D4.out _).mono ?_; rintro e w' ⟨rfl, rfl⟩) | (go_at_call 21; with_reducible refine (D5.out _).mono ?_; rintro e w' ⟨rfl, rfl⟩))
              go_ret
              exact ⟨rfl, hbl4⟩
        · rw [errVal, if_neg hm0]
          clear Hms hm0
          generalize mc = m' at *
          go_wp2_with fail
          go_ret
          exact ⟨rfl, hbl4⟩
      | true =>
        have C4 := Lib.hid (bit_con (row cl b) k true (Hc12.out b) (by omega) p2)
        have p3 := t3 k p1 p2
        have C5 := Lib.hid (bit_con (row cl x) k true (Hc12.out x) (by omega) p3)
        have hra := Hc12.out a
        have hrb := Hc12.out b
        have hrx := Hc12.out x
        clear t1 t2 t3 p1 p2 p3
        obtain ⟨xa, hxa⟩ : ∃ xa, row cl a = xa := ⟨_, rfl⟩
        obtain ⟨xb, hxb⟩ : ∃ xb, row cl b = xb := ⟨_, rfl⟩
        obtain ⟨xx, hxx⟩ : ∃ xx, row cl x = xx := ⟨_, rfl⟩
        rw [hxa] at ka hra C1 C3
        rw [hxb] at kb hrb C2 C4
        rw [hxx] at kx hrx C5
        clear hxa hxb hxx
        go_wp2_with (first | (go_at_call 21; with_reducible refine (C1.out _).mono ?_; rintro e w' ⟨rfl, rfl⟩) | (go_at_call 21; with_reducible refine (C2.out _).mono ?_; rintro e w' ⟨rfl, rfl⟩) | (go_at_call 21; with_reducible refine (C3.out _).mono ?_; rintro e w' ⟨rfl, rfl⟩) | (go_at_call 21; with_reducible refine (C4.out _).mono ?_; rintro e w' ⟨rfl, rfl⟩) | (go_at_call 21; with_reducible refine (C5.out _).mono ?_; rintro e w' ⟨rfl, rfl⟩))
        clear C1 C2 C3 C4 C5
        clear ka kb kx
        refine (Hm.out w3 hi3 hT3).mono ?_
        rintro e w4 ⟨rfl, hb4⟩
        have hC4 := hC3.below hb4
        have hbl4 := hbl3.trans (hb4.mono hbl3.size)
        clear hb4 Hm
        by_cases hm0 : mc = 0
        · obtain ⟨m, rfl, hmn, s1, s2, s3⟩ := Hms.out hm0
          subst hm0
          rw [show errVal 0 = .nilIface from rfl]
          clear Hms
          have gm1 : decide ((m : Int) ≥ 0) = true := by simp
          have gm2 : decide ((m : Int) < (n : Int)) = true := by simp; omega
          have km : w4.cell? ⟨bc, oc + m, none⟩ = some (Value.int .i64 (row cl m : Nat)) := by
            obtain ⟨bc', oc', hE, km⟩ := hC4.row (k := m) (by rw [Hcn.out]; assumption)
            obtain ⟨rfl, rfl⟩ : bc = bc' ∧ oc = oc' := by injection hE with hE; injection hE with e1 e2; exact ⟨e1, e2⟩
            exact km
          have kk : w4.cell? ⟨bc, oc + k, none⟩ = some (Value.int .i64 (row cl k : Nat)) := by
            obtain ⟨bc', oc', hE, kk⟩ := hC4.row (k := k) (by rw [Hcn.out]; assumption)
            obtain ⟨rfl, rfl⟩ : bc = bc' ∧ oc = oc' := by injection hE with hE; injection hE with e1 e2; exact ⟨e1, e2⟩
            exact kk
          have D1 := Lib.hid (bit_con (row cl m) a true (Hc12.out m) (by omega) s1)
          have D2 := Lib.hid (bit_con (row cl m) b true (Hc12.out m) (by omega) s2)
          cases q1 : (row cl k).testBit a with
          | false =>
            have D3 := Lib.hid (bit_con (row cl k) a false (Hc12.out k) (by omega) q1)
            have hrm := Hc12.out m
            have hrk := Hc12.out k
            clear s1 s2 s3 q1
            generalize row cl m = xm at *
            generalize row cl k = xk at *
            go_wp2_with (first | (go_at_call 21; with_reducible refine (D1.out _).mono ?_; rintro e w' ⟨rfl, rfl⟩) | (go_at_call 21; with_reducible refine (D2.out _).mono ?_; rintro e w' ⟨rfl, rfl⟩) | (go_at_call 21; with_reducible refine (D3.out _).mono ?_; rintro e w' ⟨rfl, rfl⟩))
            go_ret
            exact ⟨rfl, hbl4⟩
          | true =>
            have D3 := Lib.hid (bit_con (row cl k) a true (Hc12.out k) (by omega) q1)
            cases q2 : (row cl k).testBit b with
            | false =>
              have D4 := Lib.hid (bit_con (row cl k) b false (Hc12.out k) (by omega) q2)
              have hrm := Hc12.out m
              have hrk := Hc12.out k
              clear s1 s2 s3 q1 q2
              generalize row cl m = xm at *
              generalize row cl k = xk at *
              go_wp2_with (first | (go_at_call 21; with_reducible refine (D1.out _).mono ?_; rintro e w' ⟨rfl, rfl⟩) | (go_at_call 21; with_reducible refine (D2.out _).mono ?_; rintro e w' ⟨rfl, rfl⟩) | (go_at_call 21; with_reducible refine (D3.out _).mono ?_; rintro e w' ⟨rfl, rfl⟩) | (go_at_call 21; with_reducible refine (D4.out _).mono ?_; rintro e w' ⟨rfl, rfl⟩))
              go_ret
              exact ⟨rfl, hbl4⟩
            | true =>
              have D4 := Lib.hid (bit_con (row cl k) b true (Hc12.out k) (by omega) q2)
              have q3 := s3 k hk q1 q2
              have D5 := Lib.hid (bit_con (row cl k) m true (Hc12.out k) (by omega) q3)
              have hrm := Hc12.out m
              have hrk := Hc12.out k
              clear s1 s2 s3 q1 q2 q3
              generalize row cl m = xm at *
              generalize row cl k = xk at *
              go_wp2_with (first | (go_at_call 21; with_reducible refine (D1.out _).mono ?_; rintro e w' ⟨rfl, rfl⟩) | (go_at_call 21; with_reducible refine (D2.out _).mono ?_; rintro e w' ⟨rfl, rfl⟩) | (go_at_call 21; with_reducible refine (D3.out _).mono ?_; rintro e w' ⟨rfl, rfl⟩) | (go_at_call 21; with_reducible refine (D4.out _).mono ?_; rintro e w' ⟨rfl, rfl⟩) | (go_at_call 21; with_reducible refine (D5.out _).mono ?_; rintro e w' ⟨rfl, rfl⟩))
              go_ret
              exact ⟨rfl, hbl4⟩
        · rw [errVal, if_neg hm0]
          clear Hms hm0
          generalize mc = m' at *
          go_wp2_with fail
          go_ret
          exact ⟨rfl, hbl4⟩
  · rw [errVal, if_neg hj0]
    clear Hjs hj0
    generalize jc = j' at *
    go_wp2_with fail
    refine (Hm.out w3 hi3 hT3).mono ?_
    rintro e w4 ⟨rfl, hb4⟩
    have hC4 := hC3.below hb4
    have hbl4 := hbl3.trans (hb4.mono hbl3.size)
    clear hb4 Hm
    by_cases hm0 : mc = 0
    · obtain ⟨m, rfl, hmn, s1, s2, s3⟩ := Hms.out hm0
      subst hm0
      rw [show errVal 0 = .nilIface from rfl]
      clear Hms
      have gm1 : decide ((m : Int) ≥ 0) = true := by simp
      have gm2 : decide ((m : Int) < (n : Int)) = true := by simp; omega
      obtain ⟨bc, oc, rfl, km⟩ := hC4.row (k := m) (by rw [Hcn.out]; assumption)
      obtain ⟨bc', oc', hE, kk⟩ := hC4.row (k := k) (by rw [Hcn.out]; assumption)
      obtain ⟨rfl, rfl⟩ : bc = bc' ∧ oc = oc' := by injection hE with hE; injection hE with e1 e2; exact ⟨e1, e2⟩
      clear hE
      have D1 := Lib.hid (bit_con (row cl m) a true (Hc12.out m) (by omega) s1)
      have D2 := Lib.hid (bit_con (row cl m) b true (Hc12.out m) (by omega) s2)
      cases q1 : (row cl k).testBit a with
      | false =>
        have D3 := Lib.hid (bit_con (row cl k) a false (Hc12.out k) (by omega) q1)
        have hrm := Hc12.out m
        have hrk := Hc12.out k
        clear s1 s2 s3 q1
        generalize row cl m = xm at *
        generalize row cl k = xk at *
        go_wp2_with (first | (go_at_call 21; with_reducible refine (D1.out _).mono ?_; rintro e w' ⟨rfl, rfl⟩) | (go_at_call 21; with_reducible refine (D2.out _).mono ?_; rintro e w' ⟨rfl, rfl⟩) | (go_at_call 21; with_reducible refine (D3.out _).mono ?_; rintro e w' ⟨rfl, rfl⟩))
        go_ret
        exact ⟨rfl, hbl4⟩
      | true =>
        have D3 := Lib.hid (bit_con (row cl k) a true (Hc12.out k) (by omega) q1)
        cases q2 : (row cl k).testBit b with
        | false =>
          have D4 := Lib.hid (bit_con (row cl k) b false (Hc12.out k) (by omega) q2)
          have hrm := Hc12.out m
          have hrk := Hc12.out k
          clear s1 s2 s3 q1 q2
          generalize row cl m = xm at *
          generalize row cl k = xk at *
          go_wp2_with (first | (go_at_call 21; with_reducible refine (D1.out _).mono ?_; rintro e w' ⟨rfl, rfl⟩) | (go_at_call 21; with_reducible refine (D2.out _).mono ?_; rintro e w' ⟨rfl, rfl⟩) | (go_at_call 21; with_reducible refine (D3.out _).mono ?_; rintro e w' ⟨rfl, rfl⟩) | (go_at_call 21; with_reducible refine (D4.out _).mono ?_; rintro e w' ⟨rfl, rfl⟩))
          go_ret
          exact ⟨rfl, hbl4⟩
        | true =>
          have D4 := Lib.hid (bit_con (row cl k) b true (Hc12.out k) (by omega) q2)
          have q3 := s3 k hk q1 q2
          have D5 := Lib.hid (bit_con (row cl k) m true (Hc12.out k) (by omega) q3)
          have hrm := Hc12.out m
          have hrk := Hc12.out k
          clear s1 s2 s3 q1 q2 q3
          generalize row cl m = xm at *
          generalize row cl k = xk at *
          go_wp2_with (first | (go_at_call 21; with_reducible refine (D1.out _).mono ?_; rintro e w' ⟨rfl, rfl⟩) | (go_at_call 21; with_reducible refine (D2.out _).mono ?_; rintro e w' ⟨rfl, rfl⟩) | (go_at_call 21; with_reducible refine (D3.out _).mono ?_; rintro e w' ⟨rfl, rfl⟩) | (go_at_call 21; with_reducible refine (D4.out _).mono ?_; rintro e w' ⟨rfl, rfl⟩) | (go_at_call 21; with_reducible refine (D5.out _).mono ?_; rintro e w' ⟨rfl, rfl⟩))
          go_ret
          exact ⟨rfl, hbl4⟩
    · rw [errVal, if_neg hm0]
      clear Hms hm0
      generalize mc = m' at *
      go_wp2_with fail
      go_ret
      exact ⟨rfl, hbl4⟩
end Go.Proofs.YtbdochaahbpabaaDoor

