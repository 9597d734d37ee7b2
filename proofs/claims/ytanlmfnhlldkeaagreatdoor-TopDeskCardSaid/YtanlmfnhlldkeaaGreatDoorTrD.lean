/-
  Contract: (*trail.Trail).Ask.
-/
import Derived.Test.YtanlmfnhlldkeaaGreatDoorTrC
import Derived.Test.YtanlmfnhlldkeaaGreatDoorLoopA
import Derived.Lib.QuietBelow
import Derived.Deep.RegionHeld3
import Derived.Deep.RegionLaw
namespace Go.Proofs.YtanlmfnhlldkeaaGreatDoor
open Go.RowKit
set_option maxRecDepth 100000
set_option linter.unusedVariables false

/-- What Ask hands on. -/
def AskPost (lo : Nat) (own : Nat → Prop) (w : World) (b m : Nat) (A : LA) (U F : List Int) (T : TS) (c : Nat) (e : Ending) (w' : World) : Prop :=
  e = .returned (errVal c) ∧ ∃ own' v', TrailAt lo own' w' b m v' A U F T ∧ (∀ g, own' g → own g ∨ w.heap.size ≤ g) ∧ QKeeps own w w'
section
variable {lo : Nat} {W0 w : World} {b m : Nat} {own : Nat → Prop} {v : Value} {A : LA} {U F : List Int} {T : TS}
/-- Behind what Ask wrote. -/
theorem TrailAt.said (h : TrailAt lo own w b m v A U F T) (hlo : lo ≤ w.heap.size) {w3 w12 w14 : World} {T' : TS} {c : Nat} {v' : Value} {w2 : World}
    (hq : QKeeps own w w3) (_h2 : w2.heap.size ≤ w3.heap.size) (hB : BellAt w3 0 m U F T'.S A)
    (hT : Trl ⟨.pointer (some ⟨m, 0, none⟩), .int .i64 T'.many, .int .i64 T'.chain⟩ b v' (Lib.byteCells T'.log) w14) (hgo : GoesOn w12 v v') (h12 : w3.heap.size ≤ w12.heap.size)
    (hq2 : QKeeps (fun g => g = b ∨ v.ownBlock = some g) w3 w14) : AskPost lo own w b m A U F T' c (.returned (errVal c)) w14 := by
  have hlt3 : ∀ g, own g → g < w3.heap.size := fun g hg => Nat.lt_of_lt_of_le (h.lt g hg) hq.size
  have hno : ∀ g, own g → g ≠ b → v.ownBlock ≠ some g → w14.heap[g]? = w3.heap[g]? := fun g hg h1 h2 => hq2.block g (hlt3 g hg) (fun e => e.elim h1 h2)
  have hnew : ∀ g, v'.ownBlock = some g → v.ownBlock = some g ∨ w3.heap.size ≤ g := fun g hg => by
    rcases hgo with e | ⟨x, hx, e⟩
    · exact .inl (e ▸ hg)
    · rw [hg] at e
      injection e with e
      subst e
      exact .inr (Nat.le_trans h12 hx)
  refine ⟨rfl, (fun g => own g ∨ v'.ownBlock = some g), v', ⟨hT, hB.keepB (hno m h.om h.bm.symm h.vm) fun k hk => hno k (h.oa k hk) (fun e => h.nb (e ▸ hk)) (fun e => h.nv k e hk), .inl h.ob, .inl h.om, fun g hg => .inr hg, fun g hg => .inl (h.oa g hg), h.nb, ?_, ?_, ?_⟩, ?_, hq.trans hq2 ?_⟩
  · intro g hg hh
    rcases hnew g hg with e | e
    · exact h.nv g e hh
    · have := hlt3 g (h.oa g hh)
      omega
  · rintro g (hg | hg)
    · exact Nat.lt_of_lt_of_le (hlt3 g hg) hq2.size
    · exact hT.vlt hg
  · rintro g (hg | hg)
    · exact h.low g hg
    · rcases hnew g hg with e | e
      · exact h.low g (h.ov g e)
      · have := hq.size
        omega
  · rintro g (hg | hg)
    · exact .inl hg
    · rcases hnew g hg with e | e
      · exact .inl (h.ov g e)
      · exact .inr (Nat.le_trans hq.size e)
  · rintro g (rfl | hg)
    · exact .inl h.ob
    · exact .inl (h.ov g hg)
set_option maxHeartbeats 4000000 in
theorem TAsk_full (h : TrailAt W0.heap.size own w b m v A U F T) (hm : T.many = 100) (k u f t : Int) :
    Calls Tryz.prog 91 #[.pointer (some ⟨b, 0, none⟩), .agg #[.int .i64 k, .int .i64 u, .int .i64 f, .int .i64 t]] w (AskPost W0.heap.size own w b m A U F T 4) := by
  obtain ⟨p, _, hb⟩ := h.boxes
  rw [hm] at hb
  have x3 := ((hb.alloc (.cells #[.int .i64 k, .int .i64 u, .int .i64 f, .int .i64 t] 157)).cell (k := 3) rfl)
  have hbw := (Below.refl w.heap.size w).alloc (Nat.le_refl _) (.cells #[.int .i64 k, .int .i64 u, .int .i64 f, .int .i64 t] 157)
  have h2 := Lib.hid (h.below hbw)
  clear hb h
  go_enter Tryz.func91, Tryz.ntmps91
  go_wp2_with fail
  go_ret
  exact ⟨rfl, own, v, h2.out, fun g hg => .inl hg, QKeeps.of_below hbw⟩
/- printed by tools/trask.py -/
set_option maxHeartbeats 16000000 in
theorem TAsk_copy (hG : Glob W0) (hbW : Below W0.heap.size W0 w) (h : TrailAt W0.heap.size own w b m v A U F T) (hI : TInv U F T) (hU : ∀ i, i < T.S.Re.length → labOk (gI U (i * 2)) (gI U (i * 2 + 1))) (hF : ∀ i, i < T.S.Ho.length → labOk (gI F (i * 2)) (gI F (i * 2 + 1)))
    (hm : T.many ≠ 100) (k u f t : Int) (hk3 : k = 3) :
    Calls Tryz.prog 91 #[.pointer (some ⟨b, 0, none⟩), .agg #[.int .i64 k, .int .i64 u, .int .i64 f, .int .i64 t]] w (AskPost W0.heap.size own w b m A U F (tAsk U F T k u f t).1 (tAsk U F T k u f t).2) := by
  subst hk3
  obtain ⟨p, hp, hb⟩ := h.boxes
  have d100 : ((T.many : Int) == 100) = false := by simp; omega
  have dk : (3 != 3) = false := by simp
  have hx0 : BoxN (w.alloc (.cells #[.int .i64 3, .int .i64 u, .int .i64 f, .int .i64 t] 157)) w.heap.size 157 #[.int .i64 3, .int .i64 u, .int .i64 f, .int .i64 t] := BoxN.new w _ _
  have hb0 := hb.alloc (.cells #[.int .i64 3, .int .i64 u, .int .i64 f, .int .i64 t] 157)
  have hbw0 : Below w.heap.size w (w.alloc (.cells #[.int .i64 3, .int .i64 u, .int .i64 f, .int .i64 t] 157)) := (Below.refl _ w).alloc (Nat.le_refl _) _
  have c3 : (w.alloc (.cells #[.int .i64 3, .int .i64 u, .int .i64 f, .int .i64 t] 157)).cell? ⟨b, 3, none⟩ = some (.int .i64 T.many) := hb0.cell rfl
  go_enter Tryz.func91, Tryz.ntmps91
  have y0 : (w.alloc (.cells #[.int .i64 3, .int .i64 u, .int .i64 f, .int .i64 t] 157)).cell? ⟨w.heap.size, 0, none⟩ = some (.int .i64 3) := hx0.cell rfl
  have y3 : (w.alloc (.cells #[.int .i64 3, .int .i64 u, .int .i64 f, .int .i64 t] 157)).cell? ⟨w.heap.size, 3, none⟩ = some (.int .i64 t) := hx0.cell rfl
  have fy3 := hx0.free 3
  clear hb
  go_wp2_with fail
  have hx1 := hx0
  have hbw1 := hbw0
  generalize (w.alloc (.cells #[.int .i64 3, .int .i64 u, .int .i64 f, .int .i64 t] 157)) = w1 at *
  clear c3 y0 y3 fy3 d100 dk hx0 hb0 hbw0
  replace hx1 := hx1.drewN 1
  replace hbw1 := belowD hbw1 1
  have z0 := hx1
  obtain ⟨p1, hp1, hbb1⟩ := (h.below hbw1).boxes
  have z0 : (w1.drewN 1).cell? ⟨b, 0, none⟩ = some (.pointer (some ⟨m, 0, none⟩)) := hbb1.cell rfl
  have y0 : (w1.drewN 1).cell? ⟨w.heap.size, 0, none⟩ = some (.int .i64 3) := hx1.cell rfl
  have y1 : (w1.drewN 1).cell? ⟨w.heap.size, 1, none⟩ = some (.int .i64 u) := hx1.cell rfl
  have y2 : (w1.drewN 1).cell? ⟨w.heap.size, 2, none⟩ = some (.int .i64 f) := hx1.cell rfl
  have y3 : (w1.drewN 1).cell? ⟨w.heap.size, 3, none⟩ = some (.int .i64 t) := hx1.cell rfl
  refine wp_still_tailD 5 (by kernel_rfl) (by kernel_rfl) ?_
  simp only [List.take_succ_cons, List.take_zero, List.drop_succ_cons, List.drop_zero]
  repeat still_step
  refine wpStill_nil ?_
  generalize w1.drewN 1 = w2 at *
  have h1 := h.below hbw1
  have hb1 : Below W0.heap.size W0 w2 := hbW.trans (hbw1.mono hbW.size)
  have HA := Lib.hid (LAsk_any2 (ok := fun g => ¬ A.has U F g) h1.bell (hG.tab.next hb1) hI.inv hU hF (Nat.zero_le _) (fun h1' h2' g hg => fun hno => hno (h1.bell.has_of h1' h2' hg)) 3 u f t)
  obtain ⟨r, hr⟩ : ∃ r, lAsk U F T.S 3 u f t = r := ⟨_, rfl⟩
  rw [hr] at HA
  have Hr := Lib.hid hr
  have Hrd := Lib.hid (lAsk_code U F T.S 3 u f t)
  rw [hr] at Hrd
  have H0 := Lib.hid (show tAsk U F T 3 u f t = if r.2 = 1 then (T, 1) else (T.push r.1 (3 : Int).toNat u.toNat f.toNat (t : Int).toNat r.2, r.2) by unfold tAsk; rw [if_neg hm, hr, show toOf 3 t = t from if_pos rfl])
  have Hran := Lib.hid (show r.2 ≠ 1 → TRan T.S 3 u f t from fun hh => TRan.of (by rw [hr]; exact hh))
  have hsz1 := hbw1.size
  have hxlt := hx1.lt
  clear hr z0 hbb1
  obtain ⟨S', code⟩ := r
  go_wp2_with (go_at_call 119; with_reducible refine HA.out.mono ?_; rintro e w3 ⟨rfl, hB3, hb3, hkt3, hsp3⟩)
  have hq3 : QKeeps (A.has U F) w2 w3 := ⟨hb3.os, hb3.tape, hb3.output, hb3.size, fun g hg hn => hsp3 g hn hg⟩
  clear HA y0 y1 y2 y3 hb3 hsp3 hp1
  have hxn : ¬ A.has U F w.heap.size := fun hh => by have := h.lt _ (h.oa _ hh); omega
  have hx3 : BoxN w3 w.heap.size 157 #[.int .i64 3, .int .i64 u, .int .i64 f, .int .i64 t] := (hq3.block _ hx1.lt hxn).trans hx1
  have hT3 := Lib.hid (h1.trl.keep (hq3.block b (h1.lt b h1.ob) h1.nb) fun g hg => hq3.block g (h1.lt g (h1.ov g hg)) (h1.nv g hg))
  have hb3 : Below W0.heap.size W0 w3 := hq3.to_below (fun g hg => h1.low g (h1.oa g hg)) hb1 hb1.size
  have hqw3 : QKeeps own w w3 := (QKeeps.of_below hbw1).trans hq3 fun g hg => .inl (h1.oa g hg)
  have CIs := Lib.hid (Is_any code w3)
  clear hkt3 h1 hx1 hbw1 z0 hxn
  by_cases hc1 : code = 1
  · subst hc1
    have hS : S' = T.S := by
      have q := Hr.out
      have q2 : (lAsk U F T.S 3 u f t).2 = 1 := by rw [q]
      have q3 := lAsk_one.1 q2
      unfold lAsk at q
      rw [if_neg q3] at q
      injection q with q1 q2
      exact q1.symm
    have H1 := Lib.hid (show tAsk U F T 3 u f t = (T, 1) from by rw [H0.out, if_pos rfl])
    rw [show decide ((1 : Nat) = 1) = true from rfl] at CIs
    clear H0 Hrd Hran
    with_reducible refine CIs.out.mono ?_
    rintro e w4 ⟨rfl, rfl⟩
    go_wp2_with fail
    go_ret
    show AskPost _ _ _ _ _ _ _ _ _ _ _ _
    rw [H1.out]
    subst hS
    exact ⟨rfl, own, v, ⟨hT3.out, hB3, h.ob, h.om, h.ov, h.oa, h.nb, h.nv, fun g hg => Nat.lt_of_lt_of_le (h.lt g hg) hqw3.size, h.low⟩, fun g hg => .inl hg, hqw3⟩
  · have H1 := Lib.hid (show tAsk U F T 3 u f t = (T.push S' (3 : Int).toNat u.toNat f.toNat (t : Int).toNat code, code) from by rw [H0.out, if_neg hc1])
    rw [show decide (code = 1) = false from decide_eq_false hc1] at CIs
    obtain ⟨⟨k0, k3⟩, ⟨u0, u8⟩, ⟨f0, f8⟩, ⟨t0, t8⟩⟩ := Hran.out hc1
    have l8 := hI.inv.lm
    have n8 := hI.inv.ln
    have hcode : code < 10 := by have := Hrd.out; omega
    obtain ⟨un, rfl⟩ := Int.eq_ofNat_of_zero_le u0
    obtain ⟨fn, rfl⟩ := Int.eq_ofNat_of_zero_le f0
    rw [show toOf 3 t = t from if_pos rfl] at t0 t8
    obtain ⟨tn, rfl⟩ := Int.eq_ofNat_of_zero_le t0
    simp only [Int.toNat_natCast] at H1
    clear H0 Hrd Hran
    with_reducible refine CIs.out.mono ?_
    rintro e w4 ⟨rfl, rfl⟩
    have y0 := cell_regrown (show w3.cell? ⟨w.heap.size, 0, none⟩ = some (.int .i64 3) from hx3.cell rfl)
    have y1 := cell_regrown (show w3.cell? ⟨w.heap.size, 1, none⟩ = some (.int .i64 un) from hx3.cell rfl)
    have y2 := cell_regrown (show w3.cell? ⟨w.heap.size, 2, none⟩ = some (.int .i64 fn) from hx3.cell rfl)
    have y3 := cell_regrown (show w3.cell? ⟨w.heap.size, 3, none⟩ = some (.int .i64 tn) from hx3.cell rfl)
    have Q1 := Lib.hid (fun (d : Nat) (os : Array Obj) => Calls.regrown_of (trTold_any code (Sort.grow (redrawn w3 d) os) (hG.err.next (hb3.trans ((below_regrown w3 d os).mono hb3.size)))))
    go_wp2_with fail
    refine wp_region_quiet_below (by kernel_rfl) (by kernel_rfl) ?_
    repeat (go_big_quiet_step (with_reducible exact Q1.out _ _))
    refine wpQuiet_nil ?_
    rintro _ ⟨pq, rfl⟩
    have hbq := below_regrown w3 pq.d pq.os
    generalize Sort.grow (redrawn w3 pq.d) pq.os = w4 at *
    clear y0 y1 y2 y3 Q1 CIs
    have hb4 : Below W0.heap.size W0 w4 := hb3.trans (hbq.mono hb3.size)
    have CI := Lib.hid (fun (n : Nat) (hn : n < 10) (V : World) (hV : Below W0.heap.size W0 V) => (hG.itoa hV n (by omega)).mono fun e w' ⟨he, hb⟩ => (⟨by rw [itoa_one hn] at he; exact he, hb⟩ : e = Ending.returned (Value.string ⟨#[UInt8.ofNat (48 + n)]⟩) ∧ Below V.heap.size V w'))
    go_wp2_with fail
    have hx0 := index5_0 3 un fn tn code
    have hx1 := index5_1 3 un fn tn code
    have hx2 := index5_2 3 un fn tn code
    have hx3i := index5_3 3 un fn tn code
    have hx4 := index5_4 3 un fn tn code
    obtain ⟨dk, hdk⟩ : ∃ x, UInt8.ofNat (48 + 3) = x := ⟨_, rfl⟩
    obtain ⟨du, hdu⟩ : ∃ x, UInt8.ofNat (48 + un) = x := ⟨_, rfl⟩
    obtain ⟨df, hdf⟩ : ∃ x, UInt8.ofNat (48 + fn) = x := ⟨_, rfl⟩
    obtain ⟨dt, hdt⟩ : ∃ x, UInt8.ofNat (48 + tn) = x := ⟨_, rfl⟩
    obtain ⟨dc, hdc⟩ : ∃ x, UInt8.ofNat (48 + code) = x := ⟨_, rfl⟩
    have C0 := Lib.hid (fun (V : World) (hV : Below W0.heap.size W0 V) => show Calls Tryz.prog 52 #[.int .i64 3] V (fun e w' => e = Ending.returned (Value.string ⟨#[UInt8.ofNat (48 + 3)]⟩) ∧ Below V.heap.size V w') from CI.out 3 (by omega) V hV)
    have C1 := Lib.hid (CI.out un (by omega))
    have C2 := Lib.hid (CI.out fn (by omega))
    have C3 := Lib.hid (fun (V : World) (hV : Below W0.heap.size W0 V) => show Calls Tryz.prog 52 #[.int .i64 tn] V (fun e w' => e = Ending.returned (Value.string ⟨#[UInt8.ofNat (48 + tn)]⟩) ∧ Below V.heap.size V w') from CI.out tn (by omega) V hV)
    have C4 := Lib.hid (CI.out code hcode)
    rw [hdk] at C0
    rw [hdu] at C1
    rw [hdf] at C2
    rw [hdt] at C3
    rw [hdc] at C4
    have Hsay := Lib.hid (show sayT 3 un fn tn code = [dk, 32, du, 32, df, 32, dt, 32, dc, 32] by rw [sayT_ten (by omega) (by omega) (by omega) (by omega) hcode, hdk, hdu, hdf, hdt, hdc])
    clear hdk hdu hdf hdt hdc CI
    refine wp_loop_rounds 6 ?_
    rw [rounds_succ]
    go_wp2_with fail
    with_reducible refine (C0.out _ hb4).mono ?_
    rintro e w5 ⟨rfl, hv⟩
    have hb5 := hb4.trans (hv.mono hb4.size)
    have hq5 := hv
    clear hv C0
    go_wp2_with fail
    rw [rounds_succ]
    go_wp2_with fail
    with_reducible refine (C1.out _ hb5).mono ?_
    rintro e w6 ⟨rfl, hv⟩
    have hb6 := hb5.trans (hv.mono hb5.size)
    have hq6 := hv
    clear hv C1
    go_wp2_with fail
    rw [rounds_succ]
    go_wp2_with fail
    with_reducible refine (C2.out _ hb6).mono ?_
    rintro e w7 ⟨rfl, hv⟩
    have hb7 := hb6.trans (hv.mono hb6.size)
    have hq7 := hv
    clear hv C2
    go_wp2_with fail
    rw [rounds_succ]
    go_wp2_with fail
    with_reducible refine (C3.out _ hb7).mono ?_
    rintro e w8 ⟨rfl, hv⟩
    have hb8 := hb7.trans (hv.mono hb7.size)
    have hq8 := hv
    clear hv C3
    go_wp2_with fail
    rw [rounds_succ]
    go_wp2_with fail
    with_reducible refine (C4.out _ hb8).mono ?_
    rintro e w9 ⟨rfl, hv⟩
    have hb9 := hb8.trans (hv.mono hb8.size)
    have hq9 := hv
    clear hv C4
    go_wp2_with fail
    obtain ⟨line, hline⟩ : ∃ line : ByteArray, ((((⟨#[]⟩ ++ (⟨#[dk]⟩ ++ ⟨#[32]⟩)) ++ (⟨#[du]⟩ ++ ⟨#[32]⟩)) ++ (⟨#[df]⟩ ++ ⟨#[32]⟩)) ++ (⟨#[dt]⟩ ++ ⟨#[32]⟩)) ++ (⟨#[dc]⟩ ++ ⟨#[32]⟩) = line := ⟨_, rfl⟩
    rw [hline]
    have Hline := Lib.hid (show line.data.toList = sayT 3 un fn tn code by rw [← hline, Hsay.out]; simp)
    have Hsz := Lib.hid (show line.size = 10 by rw [← hline]; simp only [ByteArray.size_append]; rfl)
    have hlz := Hsz.out
    have Hw39 := Lib.hid (hbq.trans ((hq5.trans ((hq6.trans ((hq7.trans ((hq8.trans (hq9.mono hq8.size)).mono hq7.size)).mono hq6.size)).mono hq5.size)).mono hbq.size))
    have hT9 := Lib.hid (hT3.out.below Hw39.out)
    obtain ⟨-, -, c4, -, -⟩ := hT9.out.cells
    have CN := Lib.hid (fun V => next_any (c := T.chain) (s := line) hI.chain (by omega) V)
    rw [Hline.out] at CN
    have hlk := linkV_lt T.chain (sayT 3 un fn tn code)
    have hlen4 := link_len hlk
    have Hlk := Lib.hid (show linkV T.chain (sayT 3 un fn tn code) = linkV T.chain (sayT 3 un fn tn code) from rfl)
    obtain ⟨lk, hlke⟩ : ∃ lk, linkV T.chain (sayT 3 un fn tn code) = lk := ⟨_, rfl⟩
    rw [hlke] at CN hlk hlen4
    have Hlke := Lib.hid hlke
    clear hline hlz hq5 hq6 hq7 hq8 hq9 hbq hlke Hlk hx0 hx1 hx2 hx3i hx4 hb4 hb5 hb6 hb7 hb8
    rw [rounds_succ]
    go_wp2_with fail
    with_reducible refine (CN.out _).mono ?_
    rintro e w10 ⟨rfl, hv⟩
    have hb10 := hb9.trans (hv.mono hb9.size)
    have Hw10 := Lib.hid (Hw39.out.trans (hv.mono Hw39.out.size))
    have hT10 := Lib.hid (hT3.out.below Hw10.out)
    obtain ⟨-, -, c4', -, f4⟩ := hT10.out.cells
    clear hv CN c4 hT9 Hw39
    go_wp2_with fail
    have hT11 := Lib.hid (hT10.out.setC (.int .i64 (lk : Nat)))
    have hq11 := (QKeeps.of_below Hw10.out (S := fun g => g = b ∨ v.ownBlock = some g)).setCell (p := ⟨b, 4, none⟩) (.inl rfl) (.int .i64 (lk : Nat))
    have hlob := h.low b h.ob
    have hb11 := hb10.setCell (p := ⟨b, 4, none⟩) hlob (.int .i64 (lk : Nat))
    generalize w10.setCell ⟨b, 4, none⟩ (.int .i64 (lk : Nat)) = w11 at *
    obtain ⟨-, c3, c4, -, -⟩ := hT11.out.cells
    clear c4' f4 hT10 hb10 hb9 Hw10
    have CL := Lib.hid (fun (V : World) (hV : Below W0.heap.size W0 V) => hG.itoa hV lk (by omega))
    obtain ⟨tl, htl⟩ : ∃ tl, Lib.itoa (lk : Int) = tl := ⟨_, rfl⟩
    rw [htl] at CL hlen4
    have Htl := Lib.hid htl
    have hloglen := hI.log
    have hmany := hI.many
    have hsum : (Lib.byteCells T.log).length + ((line ++ ⟨tl.toArray⟩) ++ ⟨#[10]⟩ : ByteArray).size ≤ 140737488355328 := by
      have e1 : (⟨tl.toArray⟩ : ByteArray).size = tl.length := by simp [ByteArray.size]
      have e2 : (⟨#[10]⟩ : ByteArray).size = 1 := rfl
      rw [Lib.byteCells_length, ByteArray.size_append, ByteArray.size_append, Hsz.out, e1, e2]
      omega
    have n1 : ¬ 9223372036854775807 < line.size + tl.length := by have := Hsz.out; omega
    have n2 : ¬ 9223372036854775807 < line.size + tl.length + 1 := by have := Hsz.out; omega
    clear htl hloglen hlk hlen4
    have hbA : Below w11.heap.size w11 w11.drew := (Below.refl _ _).drew
    have hKeep := Lib.hid (fun V (hV : Below w11.heap.size w11 V) => (hV.cell (p := ⟨b, 4, none⟩) hT11.out.lt).trans c4)
    obtain ⟨str, hstr⟩ : ∃ str : ByteArray, (line ++ ⟨tl.toArray⟩) ++ ⟨#[10]⟩ = str := ⟨_, rfl⟩
    rw [hstr] at hsum
    have Hstr := Lib.hid hstr
    have CW := Lib.hid (fun (V : World) (hV : Below w11.heap.size w11 V) => TrlString_any str (hT11.out.below hV) hsum)
    rw [← hstr] at CW
    clear hstr
    have hb11' := Lib.hid (fun V (hV : Below w11.heap.size w11 V) => (hb11.trans (hV.mono hb11.size)))
    go_wp2_with fail
    go_region_held3 (fun V => V.cell? ⟨b, 4, none⟩ = some (.int .i64 (lk : Nat))) ((first | with_reducible assumption | (refine hKeep.out _ ?_; repeat (first | with_reducible assumption | refine Below.drew ?_)))) ((first | (go_at_call 52; with_reducible refine (CL.out _ (hb11'.out _ (by repeat (first | assumption | refine Below.drew ?_)))).mono ?_; rintro e w12 ⟨rfl, hv12⟩; have hw12 : Below w11.heap.size w11 w12 := hbA.trans (hv12.mono hbA.size)) | (go_at_call 43; with_reducible refine (CW.out _ (by repeat (first | assumption | refine Below.drew ?_))).mono ?_; rintro e w13 ⟨rfl, v', hT13, hgo, hq13⟩; have hc13 : w13.cell? ⟨b, 4, none⟩ = some (.int .i64 (lk : Nat)) := hT13.cells.2.2.1)))
    have Hlog := Lib.hid (show Lib.byteCells T.log ++ Lib.strCells ((line ++ ⟨tl.toArray⟩) ++ ⟨#[10]⟩) = Lib.byteCells (T.log ++ (sayT 3 un fn tn code ++ tl ++ [10])) by
      have e1 : ((line ++ ⟨tl.toArray⟩) ++ ⟨#[10]⟩ : ByteArray).data.toList = line.data.toList ++ tl ++ [10] := by simp
      show Lib.byteCells T.log ++ Lib.byteCells (((line ++ ⟨tl.toArray⟩) ++ ⟨#[10]⟩ : ByteArray).data.toList) = _
      rw [e1, Hline.out]
      simp [Lib.byteCells])
    rw [Hlog.out] at hT13
    clear CW CL hb11' hKeep Hstr Hlog
    have hT14 := Lib.hid (hT13.setK (.int .i64 ((T.many : Int) + 1)))
    obtain ⟨-, d3, -, f3, -⟩ := hT13.cells
    have hq3e := hq11.trans (QKeeps.of_below (S := fun _ => False) hw12) (fun _ h => h.elim)
    have hqA := Lib.hid ((hq3e.trans hq13 fun g hg => .inl hg).setCell (p := ⟨b, 3, none⟩) (.inl rfl) (.int .i64 ((T.many : Int) + 1)))
    have hs1 : IntKind.i64.wrap ((T.many : Int) + 1) = (T.many : Int) + 1 := (IntKind.wrap_i64 _).trans (by omega)
    go_wp2_with fail
    go_ret
    show AskPost _ _ _ _ _ _ _ _ _ _ _ _
    rw [H1.out]
    refine TrailAt.said h hbW.size hqw3 (Nat.le_refl _) hB3 ?_ hgo (Nat.le_trans hq11.size hw12.size) hqA.out
    show Trl ⟨_, .int .i64 ((T.many : Int) + 1), .int .i64 ((linkV T.chain (sayT 3 un fn tn code) : Nat) : Int)⟩ b v' (Lib.byteCells (T.log ++ (sayT 3 un fn tn code ++ Lib.itoa ((linkV T.chain (sayT 3 un fn tn code) : Nat) : Int) ++ [10]))) _
    rw [Hlke.out, Htl.out]
    exact hT14.out

set_option maxHeartbeats 16000000 in
theorem TAsk_other (hG : Glob W0) (hbW : Below W0.heap.size W0 w) (h : TrailAt W0.heap.size own w b m v A U F T) (hI : TInv U F T) (hU : ∀ i, i < T.S.Re.length → labOk (gI U (i * 2)) (gI U (i * 2 + 1))) (hF : ∀ i, i < T.S.Ho.length → labOk (gI F (i * 2)) (gI F (i * 2 + 1)))
    (hm : T.many ≠ 100) (k u f t : Int) (hk3 : k ≠ 3) :
    Calls Tryz.prog 91 #[.pointer (some ⟨b, 0, none⟩), .agg #[.int .i64 k, .int .i64 u, .int .i64 f, .int .i64 t]] w (AskPost W0.heap.size own w b m A U F (tAsk U F T k u f t).1 (tAsk U F T k u f t).2) := by
  obtain ⟨p, hp, hb⟩ := h.boxes
  have d100 : ((T.many : Int) == 100) = false := by simp; omega
  have dk : (k != 3) = true := by simp [hk3]
  have hx0 : BoxN (w.alloc (.cells #[.int .i64 k, .int .i64 u, .int .i64 f, .int .i64 t] 157)) w.heap.size 157 #[.int .i64 k, .int .i64 u, .int .i64 f, .int .i64 t] := BoxN.new w _ _
  have hb0 := hb.alloc (.cells #[.int .i64 k, .int .i64 u, .int .i64 f, .int .i64 t] 157)
  have hbw0 : Below w.heap.size w (w.alloc (.cells #[.int .i64 k, .int .i64 u, .int .i64 f, .int .i64 t] 157)) := (Below.refl _ w).alloc (Nat.le_refl _) _
  have c3 : (w.alloc (.cells #[.int .i64 k, .int .i64 u, .int .i64 f, .int .i64 t] 157)).cell? ⟨b, 3, none⟩ = some (.int .i64 T.many) := hb0.cell rfl
  go_enter Tryz.func91, Tryz.ntmps91
  have y0 : (w.alloc (.cells #[.int .i64 k, .int .i64 u, .int .i64 f, .int .i64 t] 157)).cell? ⟨w.heap.size, 0, none⟩ = some (.int .i64 k) := hx0.cell rfl
  have y3 : (w.alloc (.cells #[.int .i64 k, .int .i64 u, .int .i64 f, .int .i64 t] 157)).cell? ⟨w.heap.size, 3, none⟩ = some (.int .i64 t) := hx0.cell rfl
  have fy3 := hx0.free 3
  clear hb
  go_wp2_with fail
  have hx1 : BoxN (w.alloc (.cells #[.int .i64 k, .int .i64 u, .int .i64 f, .int .i64 0] 157)) w.heap.size 157 #[.int .i64 k, .int .i64 u, .int .i64 f, .int .i64 0] := BoxN.new w _ _
  have hbw1 : Below w.heap.size w (w.alloc (.cells #[.int .i64 k, .int .i64 u, .int .i64 f, .int .i64 0] 157)) := (Below.refl _ w).alloc (Nat.le_refl _) _
  generalize (w.alloc (.cells #[.int .i64 k, .int .i64 u, .int .i64 f, .int .i64 0] 157)) = w1 at *
  clear c3 y0 y3 fy3 d100 dk hx0 hb0 hbw0
  replace hx1 := hx1.drewN 1
  replace hbw1 := belowD hbw1 1
  have z0 := hx1
  obtain ⟨p1, hp1, hbb1⟩ := (h.below hbw1).boxes
  have z0 : (w1.drewN 1).cell? ⟨b, 0, none⟩ = some (.pointer (some ⟨m, 0, none⟩)) := hbb1.cell rfl
  have y0 : (w1.drewN 1).cell? ⟨w.heap.size, 0, none⟩ = some (.int .i64 k) := hx1.cell rfl
  have y1 : (w1.drewN 1).cell? ⟨w.heap.size, 1, none⟩ = some (.int .i64 u) := hx1.cell rfl
  have y2 : (w1.drewN 1).cell? ⟨w.heap.size, 2, none⟩ = some (.int .i64 f) := hx1.cell rfl
  have y3 : (w1.drewN 1).cell? ⟨w.heap.size, 3, none⟩ = some (.int .i64 0) := hx1.cell rfl
  refine wp_still_tailD 5 (by kernel_rfl) (by kernel_rfl) ?_
  simp only [List.take_succ_cons, List.take_zero, List.drop_succ_cons, List.drop_zero]
  repeat still_step
  refine wpStill_nil ?_
  generalize w1.drewN 1 = w2 at *
  have h1 := h.below hbw1
  have hb1 : Below W0.heap.size W0 w2 := hbW.trans (hbw1.mono hbW.size)
  have HA := Lib.hid (LAsk_any2 (ok := fun g => ¬ A.has U F g) h1.bell (hG.tab.next hb1) hI.inv hU hF (Nat.zero_le _) (fun h1' h2' g hg => fun hno => hno (h1.bell.has_of h1' h2' hg)) k u f 0)
  rw [show lAsk U F T.S k u f 0 = lAsk U F T.S k u f t from (by have q := lAsk_to U F T.S k u f t; rwa [show toOf k t = 0 from if_neg hk3] at q)] at HA
  obtain ⟨r, hr⟩ : ∃ r, lAsk U F T.S k u f t = r := ⟨_, rfl⟩
  rw [hr] at HA
  have Hr := Lib.hid hr
  have Hrd := Lib.hid (lAsk_code U F T.S k u f t)
  rw [hr] at Hrd
  have H0 := Lib.hid (show tAsk U F T k u f t = if r.2 = 1 then (T, 1) else (T.push r.1 (k : Int).toNat u.toNat f.toNat (0 : Int).toNat r.2, r.2) by unfold tAsk; rw [if_neg hm, hr, show toOf k t = 0 from if_neg hk3])
  have Hran := Lib.hid (show r.2 ≠ 1 → TRan T.S k u f t from fun hh => TRan.of (by rw [hr]; exact hh))
  have hsz1 := hbw1.size
  have hxlt := hx1.lt
  clear hr z0 hbb1
  obtain ⟨S', code⟩ := r
  go_wp2_with (go_at_call 119; with_reducible refine HA.out.mono ?_; rintro e w3 ⟨rfl, hB3, hb3, hkt3, hsp3⟩)
  have hq3 : QKeeps (A.has U F) w2 w3 := ⟨hb3.os, hb3.tape, hb3.output, hb3.size, fun g hg hn => hsp3 g hn hg⟩
  clear HA y0 y1 y2 y3 hb3 hsp3 hp1
  have hxn : ¬ A.has U F w.heap.size := fun hh => by have := h.lt _ (h.oa _ hh); omega
  have hx3 : BoxN w3 w.heap.size 157 #[.int .i64 k, .int .i64 u, .int .i64 f, .int .i64 0] := (hq3.block _ hx1.lt hxn).trans hx1
  have hT3 := Lib.hid (h1.trl.keep (hq3.block b (h1.lt b h1.ob) h1.nb) fun g hg => hq3.block g (h1.lt g (h1.ov g hg)) (h1.nv g hg))
  have hb3 : Below W0.heap.size W0 w3 := hq3.to_below (fun g hg => h1.low g (h1.oa g hg)) hb1 hb1.size
  have hqw3 : QKeeps own w w3 := (QKeeps.of_below hbw1).trans hq3 fun g hg => .inl (h1.oa g hg)
  have CIs := Lib.hid (Is_any code w3)
  clear hkt3 h1 hx1 hbw1 z0 hxn
  by_cases hc1 : code = 1
  · subst hc1
    have hS : S' = T.S := by
      have q := Hr.out
      have q2 : (lAsk U F T.S k u f t).2 = 1 := by rw [q]
      have q3 := lAsk_one.1 q2
      unfold lAsk at q
      rw [if_neg q3] at q
      injection q with q1 q2
      exact q1.symm
    have H1 := Lib.hid (show tAsk U F T k u f t = (T, 1) from by rw [H0.out, if_pos rfl])
    rw [show decide ((1 : Nat) = 1) = true from rfl] at CIs
    clear H0 Hrd Hran
    with_reducible refine CIs.out.mono ?_
    rintro e w4 ⟨rfl, rfl⟩
    go_wp2_with fail
    go_ret
    show AskPost _ _ _ _ _ _ _ _ _ _ _ _
    rw [H1.out]
    subst hS
    exact ⟨rfl, own, v, ⟨hT3.out, hB3, h.ob, h.om, h.ov, h.oa, h.nb, h.nv, fun g hg => Nat.lt_of_lt_of_le (h.lt g hg) hqw3.size, h.low⟩, fun g hg => .inl hg, hqw3⟩
  · have H1 := Lib.hid (show tAsk U F T k u f t = (T.push S' (k : Int).toNat u.toNat f.toNat (0 : Int).toNat code, code) from by rw [H0.out, if_neg hc1])
    rw [show decide (code = 1) = false from decide_eq_false hc1] at CIs
    obtain ⟨⟨k0, k3⟩, ⟨u0, u8⟩, ⟨f0, f8⟩, ⟨t0, t8⟩⟩ := Hran.out hc1
    have l8 := hI.inv.lm
    have n8 := hI.inv.ln
    have hcode : code < 10 := by have := Hrd.out; omega
    obtain ⟨un, rfl⟩ := Int.eq_ofNat_of_zero_le u0
    obtain ⟨fn, rfl⟩ := Int.eq_ofNat_of_zero_le f0
    obtain ⟨kn, rfl⟩ := Int.eq_ofNat_of_zero_le k0
    simp only [Int.toNat_natCast] at H1
    clear H0 Hrd Hran
    with_reducible refine CIs.out.mono ?_
    rintro e w4 ⟨rfl, rfl⟩
    have y0 := cell_regrown (show w3.cell? ⟨w.heap.size, 0, none⟩ = some (.int .i64 kn) from hx3.cell rfl)
    have y1 := cell_regrown (show w3.cell? ⟨w.heap.size, 1, none⟩ = some (.int .i64 un) from hx3.cell rfl)
    have y2 := cell_regrown (show w3.cell? ⟨w.heap.size, 2, none⟩ = some (.int .i64 fn) from hx3.cell rfl)
    have y3 := cell_regrown (show w3.cell? ⟨w.heap.size, 3, none⟩ = some (.int .i64 0) from hx3.cell rfl)
    have Q1 := Lib.hid (fun (d : Nat) (os : Array Obj) => Calls.regrown_of (trTold_any code (Sort.grow (redrawn w3 d) os) (hG.err.next (hb3.trans ((below_regrown w3 d os).mono hb3.size)))))
    go_wp2_with fail
    refine wp_region_quiet_below (by kernel_rfl) (by kernel_rfl) ?_
    repeat (go_big_quiet_step (with_reducible exact Q1.out _ _))
    refine wpQuiet_nil ?_
    rintro _ ⟨pq, rfl⟩
    have hbq := below_regrown w3 pq.d pq.os
    generalize Sort.grow (redrawn w3 pq.d) pq.os = w4 at *
    clear y0 y1 y2 y3 Q1 CIs
    have hb4 : Below W0.heap.size W0 w4 := hb3.trans (hbq.mono hb3.size)
    have CI := Lib.hid (fun (n : Nat) (hn : n < 10) (V : World) (hV : Below W0.heap.size W0 V) => (hG.itoa hV n (by omega)).mono fun e w' ⟨he, hb⟩ => (⟨by rw [itoa_one hn] at he; exact he, hb⟩ : e = Ending.returned (Value.string ⟨#[UInt8.ofNat (48 + n)]⟩) ∧ Below V.heap.size V w'))
    go_wp2_with fail
    have hx0 := index5_0 kn un fn 0 code
    have hx1 := index5_1 kn un fn 0 code
    have hx2 := index5_2 kn un fn 0 code
    have hx3i := index5_3 kn un fn 0 code
    have hx4 := index5_4 kn un fn 0 code
    obtain ⟨dk, hdk⟩ : ∃ x, UInt8.ofNat (48 + kn) = x := ⟨_, rfl⟩
    obtain ⟨du, hdu⟩ : ∃ x, UInt8.ofNat (48 + un) = x := ⟨_, rfl⟩
    obtain ⟨df, hdf⟩ : ∃ x, UInt8.ofNat (48 + fn) = x := ⟨_, rfl⟩
    obtain ⟨dt, hdt⟩ : ∃ x, UInt8.ofNat (48 + 0) = x := ⟨_, rfl⟩
    obtain ⟨dc, hdc⟩ : ∃ x, UInt8.ofNat (48 + code) = x := ⟨_, rfl⟩
    have C0 := Lib.hid (fun (V : World) (hV : Below W0.heap.size W0 V) => show Calls Tryz.prog 52 #[.int .i64 kn] V (fun e w' => e = Ending.returned (Value.string ⟨#[UInt8.ofNat (48 + kn)]⟩) ∧ Below V.heap.size V w') from CI.out kn (by omega) V hV)
    have C1 := Lib.hid (CI.out un (by omega))
    have C2 := Lib.hid (CI.out fn (by omega))
    have C3 := Lib.hid (fun (V : World) (hV : Below W0.heap.size W0 V) => show Calls Tryz.prog 52 #[.int .i64 0] V (fun e w' => e = Ending.returned (Value.string ⟨#[UInt8.ofNat (48 + 0)]⟩) ∧ Below V.heap.size V w') from CI.out 0 (by omega) V hV)
    have C4 := Lib.hid (CI.out code hcode)
    rw [hdk] at C0
    rw [hdu] at C1
    rw [hdf] at C2
    rw [hdt] at C3
    rw [hdc] at C4
    have Hsay := Lib.hid (show sayT kn un fn 0 code = [dk, 32, du, 32, df, 32, dt, 32, dc, 32] by rw [sayT_ten (by omega) (by omega) (by omega) (by omega) hcode, hdk, hdu, hdf, hdt, hdc])
    clear hdk hdu hdf hdt hdc CI
    refine wp_loop_rounds 6 ?_
    rw [rounds_succ]
    go_wp2_with fail
    with_reducible refine (C0.out _ hb4).mono ?_
    rintro e w5 ⟨rfl, hv⟩
    have hb5 := hb4.trans (hv.mono hb4.size)
    have hq5 := hv
    clear hv C0
    go_wp2_with fail
    rw [rounds_succ]
    go_wp2_with fail
    with_reducible refine (C1.out _ hb5).mono ?_
    rintro e w6 ⟨rfl, hv⟩
    have hb6 := hb5.trans (hv.mono hb5.size)
    have hq6 := hv
    clear hv C1
    go_wp2_with fail
    rw [rounds_succ]
    go_wp2_with fail
    with_reducible refine (C2.out _ hb6).mono ?_
    rintro e w7 ⟨rfl, hv⟩
    have hb7 := hb6.trans (hv.mono hb6.size)
    have hq7 := hv
    clear hv C2
    go_wp2_with fail
    rw [rounds_succ]
    go_wp2_with fail
    with_reducible refine (C3.out _ hb7).mono ?_
    rintro e w8 ⟨rfl, hv⟩
    have hb8 := hb7.trans (hv.mono hb7.size)
    have hq8 := hv
    clear hv C3
    go_wp2_with fail
    rw [rounds_succ]
    go_wp2_with fail
    with_reducible refine (C4.out _ hb8).mono ?_
    rintro e w9 ⟨rfl, hv⟩
    have hb9 := hb8.trans (hv.mono hb8.size)
    have hq9 := hv
    clear hv C4
    go_wp2_with fail
    obtain ⟨line, hline⟩ : ∃ line : ByteArray, ((((⟨#[]⟩ ++ (⟨#[dk]⟩ ++ ⟨#[32]⟩)) ++ (⟨#[du]⟩ ++ ⟨#[32]⟩)) ++ (⟨#[df]⟩ ++ ⟨#[32]⟩)) ++ (⟨#[dt]⟩ ++ ⟨#[32]⟩)) ++ (⟨#[dc]⟩ ++ ⟨#[32]⟩) = line := ⟨_, rfl⟩
    rw [hline]
    have Hline := Lib.hid (show line.data.toList = sayT kn un fn 0 code by rw [← hline, Hsay.out]; simp)
    have Hsz := Lib.hid (show line.size = 10 by rw [← hline]; simp only [ByteArray.size_append]; rfl)
    have hlz := Hsz.out
    have Hw39 := Lib.hid (hbq.trans ((hq5.trans ((hq6.trans ((hq7.trans ((hq8.trans (hq9.mono hq8.size)).mono hq7.size)).mono hq6.size)).mono hq5.size)).mono hbq.size))
    have hT9 := Lib.hid (hT3.out.below Hw39.out)
    obtain ⟨-, -, c4, -, -⟩ := hT9.out.cells
    have CN := Lib.hid (fun V => next_any (c := T.chain) (s := line) hI.chain (by omega) V)
    rw [Hline.out] at CN
    have hlk := linkV_lt T.chain (sayT kn un fn 0 code)
    have hlen4 := link_len hlk
    have Hlk := Lib.hid (show linkV T.chain (sayT kn un fn 0 code) = linkV T.chain (sayT kn un fn 0 code) from rfl)
    obtain ⟨lk, hlke⟩ : ∃ lk, linkV T.chain (sayT kn un fn 0 code) = lk := ⟨_, rfl⟩
    rw [hlke] at CN hlk hlen4
    have Hlke := Lib.hid hlke
    clear hline hlz hq5 hq6 hq7 hq8 hq9 hbq hlke Hlk hx0 hx1 hx2 hx3i hx4 hb4 hb5 hb6 hb7 hb8
    rw [rounds_succ]
    go_wp2_with fail
    with_reducible refine (CN.out _).mono ?_
    rintro e w10 ⟨rfl, hv⟩
    have hb10 := hb9.trans (hv.mono hb9.size)
    have Hw10 := Lib.hid (Hw39.out.trans (hv.mono Hw39.out.size))
    have hT10 := Lib.hid (hT3.out.below Hw10.out)
    obtain ⟨-, -, c4', -, f4⟩ := hT10.out.cells
    clear hv CN c4 hT9 Hw39
    go_wp2_with fail
    have hT11 := Lib.hid (hT10.out.setC (.int .i64 (lk : Nat)))
    have hq11 := (QKeeps.of_below Hw10.out (S := fun g => g = b ∨ v.ownBlock = some g)).setCell (p := ⟨b, 4, none⟩) (.inl rfl) (.int .i64 (lk : Nat))
    have hlob := h.low b h.ob
    have hb11 := hb10.setCell (p := ⟨b, 4, none⟩) hlob (.int .i64 (lk : Nat))
    generalize w10.setCell ⟨b, 4, none⟩ (.int .i64 (lk : Nat)) = w11 at *
    obtain ⟨-, c3, c4, -, -⟩ := hT11.out.cells
    clear c4' f4 hT10 hb10 hb9 Hw10
    have CL := Lib.hid (fun (V : World) (hV : Below W0.heap.size W0 V) => hG.itoa hV lk (by omega))
    obtain ⟨tl, htl⟩ : ∃ tl, Lib.itoa (lk : Int) = tl := ⟨_, rfl⟩
    rw [htl] at CL hlen4
    have Htl := Lib.hid htl
    have hloglen := hI.log
    have hmany := hI.many
    have hsum : (Lib.byteCells T.log).length + ((line ++ ⟨tl.toArray⟩) ++ ⟨#[10]⟩ : ByteArray).size ≤ 140737488355328 := by
      have e1 : (⟨tl.toArray⟩ : ByteArray).size = tl.length := by simp [ByteArray.size]
      have e2 : (⟨#[10]⟩ : ByteArray).size = 1 := rfl
      rw [Lib.byteCells_length, ByteArray.size_append, ByteArray.size_append, Hsz.out, e1, e2]
      omega
    have n1 : ¬ 9223372036854775807 < line.size + tl.length := by have := Hsz.out; omega
    have n2 : ¬ 9223372036854775807 < line.size + tl.length + 1 := by have := Hsz.out; omega
    clear htl hloglen hlk hlen4
    have hbA : Below w11.heap.size w11 w11.drew := (Below.refl _ _).drew
    have hKeep := Lib.hid (fun V (hV : Below w11.heap.size w11 V) => (hV.cell (p := ⟨b, 4, none⟩) hT11.out.lt).trans c4)
    obtain ⟨str, hstr⟩ : ∃ str : ByteArray, (line ++ ⟨tl.toArray⟩) ++ ⟨#[10]⟩ = str := ⟨_, rfl⟩
    rw [hstr] at hsum
    have Hstr := Lib.hid hstr
    have CW := Lib.hid (fun (V : World) (hV : Below w11.heap.size w11 V) => TrlString_any str (hT11.out.below hV) hsum)
    rw [← hstr] at CW
    clear hstr
    have hb11' := Lib.hid (fun V (hV : Below w11.heap.size w11 V) => (hb11.trans (hV.mono hb11.size)))
    go_wp2_with fail
    go_region_held3 (fun V => V.cell? ⟨b, 4, none⟩ = some (.int .i64 (lk : Nat))) ((first | with_reducible assumption | (refine hKeep.out _ ?_; repeat (first | with_reducible assumption | refine Below.drew ?_)))) ((first | (go_at_call 52; with_reducible refine (CL.out _ (hb11'.out _ (by repeat (first | assumption | refine Below.drew ?_)))).mono ?_; rintro e w12 ⟨rfl, hv12⟩; have hw12 : Below w11.heap.size w11 w12 := hbA.trans (hv12.mono hbA.size)) | (go_at_call 43; with_reducible refine (CW.out _ (by repeat (first | assumption | refine Below.drew ?_))).mono ?_; rintro e w13 ⟨rfl, v', hT13, hgo, hq13⟩; have hc13 : w13.cell? ⟨b, 4, none⟩ = some (.int .i64 (lk : Nat)) := hT13.cells.2.2.1)))
    have Hlog := Lib.hid (show Lib.byteCells T.log ++ Lib.strCells ((line ++ ⟨tl.toArray⟩) ++ ⟨#[10]⟩) = Lib.byteCells (T.log ++ (sayT kn un fn 0 code ++ tl ++ [10])) by
      have e1 : ((line ++ ⟨tl.toArray⟩) ++ ⟨#[10]⟩ : ByteArray).data.toList = line.data.toList ++ tl ++ [10] := by simp
      show Lib.byteCells T.log ++ Lib.byteCells (((line ++ ⟨tl.toArray⟩) ++ ⟨#[10]⟩ : ByteArray).data.toList) = _
      rw [e1, Hline.out]
      simp [Lib.byteCells])
    rw [Hlog.out] at hT13
    clear CW CL hb11' hKeep Hstr Hlog
    have hT14 := Lib.hid (hT13.setK (.int .i64 ((T.many : Int) + 1)))
    obtain ⟨-, d3, -, f3, -⟩ := hT13.cells
    have hq3e := hq11.trans (QKeeps.of_below (S := fun _ => False) hw12) (fun _ h => h.elim)
    have hqA := Lib.hid ((hq3e.trans hq13 fun g hg => .inl hg).setCell (p := ⟨b, 3, none⟩) (.inl rfl) (.int .i64 ((T.many : Int) + 1)))
    have hs1 : IntKind.i64.wrap ((T.many : Int) + 1) = (T.many : Int) + 1 := (IntKind.wrap_i64 _).trans (by omega)
    go_wp2_with fail
    go_ret
    show AskPost _ _ _ _ _ _ _ _ _ _ _ _
    rw [H1.out]
    refine TrailAt.said h hbW.size hqw3 (Nat.le_refl _) hB3 ?_ hgo (Nat.le_trans hq11.size hw12.size) hqA.out
    show Trl ⟨_, .int .i64 ((T.many : Int) + 1), .int .i64 ((linkV T.chain (sayT kn un fn 0 code) : Nat) : Int)⟩ b v' (Lib.byteCells (T.log ++ (sayT kn un fn 0 code ++ Lib.itoa ((linkV T.chain (sayT kn un fn 0 code) : Nat) : Int) ++ [10]))) _
    rw [Hlke.out, Htl.out]
    exact hT14.out
end
end Go.Proofs.YtanlmfnhlldkeaaGreatDoor
