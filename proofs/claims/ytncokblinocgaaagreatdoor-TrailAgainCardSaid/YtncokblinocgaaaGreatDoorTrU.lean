/-
  The laws' own: told, alike, trailFact.
-/
import Derived.Test.YtncokblinocgaaaGreatDoorTrO
import Derived.Test.YtncokblinocgaaaGreatDoorTrL
namespace Go.Proofs.YtncokblinocgaaaGreatDoor
open Go.RowKit
set_option maxRecDepth 100000
set_option linter.unusedVariables false

theorem TrailAt.lower {lo lo' b m : Nat} {own : Nat → Prop} {v : Value} {A : LA} {U F : List Int} {T : TS} {w : World} (h : TrailAt lo own w b m v A U F T) (hl : lo' ≤ lo) : TrailAt lo' own w b m v A U F T :=
  ⟨h.trl, h.bell, h.ob, h.om, h.ov, h.oa, h.nb, h.nv, h.lt, fun k hk => Nat.le_trans hl (h.low k hk)⟩
/-- The lengths of a trail's sets. -/
structure TLen (m n : Nat) (U F : List Int) (T : TS) : Prop where
  inv : TInv U F T
  re : T.S.Re.length = m
  ho : T.S.Ho.length = n
theorem TLen.ask {m n : Nat} {U F : List Int} {T : TS} (h : TLen m n U F T) (k u f t : Int) : TLen m n U F (tAsk U F T k u f t).1 := by
  refine ⟨h.inv.ask k u f t, ?_, ?_⟩
  · unfold tAsk
    split
    · exact h.re
    · split
      · exact h.re
      · exact (lAsk_len k u f t).1.trans h.re
  · unfold tAsk
    split
    · exact h.ho
    · split
      · exact h.ho
      · exact (lAsk_len k u f t).2.trans h.ho
theorem TLen.start {m n : Nat} {U F : List Int} (hm : m ≤ 8) (hn : n ≤ 8) : TLen m n U F (tStart m n) := ⟨TInv.start hm hn, by simp [tStart, lStart], by simp [tStart, lStart, length_pows]⟩
theorem TLen.run {m n : Nat} {U F K : List Int} {T : TS} (h : TLen m n U F T) : ∀ k, TLen m n U F (tRun U F K T k)
  | 0 => h
  | k + 1 => (h.run k).ask _ _ _ _
/-- The labels of a pair of lists that are right. -/
structure LabsOk (m n : Nat) (U F : List Int) : Prop where
  cu : labsCode U m 8 = 0
  cf : labsCode F n 8 = 0
  lU : U.length = m * 2
  lF : F.length = n * 2
theorem LabsOk.m8 {m n : Nat} {U F : List Int} (h : LabsOk m n U F) : m ≤ 8 := (labsCode_ok h.cu).1
theorem LabsOk.n8 {m n : Nat} {U F : List Int} (h : LabsOk m n U F) : n ≤ 8 := (labsCode_ok h.cf).1
/-- Ask, by lengths. -/
theorem TAsk_len {W0 w : World} {b p m n : Nat} {own : Nat → Prop} {v : Value} {A : LA} {U F : List Int} {T : TS} (hL : LabsOk m n U F) (hG : Glob W0) (hbW : Below W0.heap.size W0 w) (h : TrailAt W0.heap.size own w b p v A U F T) (hI : TLen m n U F T) (k u f t : Int) :
    Calls Tryz.prog 32 #[.pointer (some ⟨b, 0, none⟩), .agg #[.int .i64 k, .int .i64 u, .int .i64 f, .int .i64 t]] w (AskPost W0.heap.size own w b p A U F (tAsk U F T k u f t).1 (tAsk U F T k u f t).2) :=
  TAsk_any hG hbW h hI.inv (fun i hi => (labsCode_ok hL.cu).2 i (by rw [hI.re] at hi; exact hi)) (fun i hi => (labsCode_ok hL.cf).2 i (by rw [hI.ho] at hi; exact hi)) k u f t
set_option maxHeartbeats 4000000 in
theorem Told_bad (U F : List Int) (m n : Nat) (hU : U.length = m * 2) (hF : F.length = n * 2) (Ua Fa : Option Addr) (c d : Nat) (Kv : Value) (w : World) (iU : IntsAt w Ua U) (iF : IntsAt w Fa F) (l1 : m < 2 ^ 60) (l2 : n < 2 ^ 60) (h : ¬ (labsCode U m 8 = 0 ∧ labsCode F n 8 = 0)) :
    Calls Tryz.prog 30 #[.slice Ua m c, .slice Fa n d, Kv] w fun e w' => e = .returned (.tuple #[.pointer none, .bool false]) ∧ Below w.heap.size w w' := by
  have CN := Lib.hid (TNew_bad U F m n hU hF Ua Fa c d w iU iF l1 l2 _ rfl (by split <;> omega))
  generalize (if labsCode U m 8 ≠ 0 then labsCode U m 8 else labsCode F n 8) = k at *
  clear h
  go_enter Tryz.func30, Tryz.ntmps30
  go_wp2_with (go_at_call 36; with_reducible refine CN.out.mono ?_; rintro e w1 ⟨rfl, hb1⟩)
  go_ret2
  exact ⟨rfl, hb1⟩
set_option maxHeartbeats 8000000 in
theorem Told_ok (U F : List Int) (m n : Nat) (hL : LabsOk m n U F) (Ua Fa : Option Addr) (c d : Nat) (w : World) (iU : IntsAt w Ua U) (iF : IntsAt w Fa F) (q : Nat) (K : List Int) (Ka : Option Addr) (Kc : Nat) (hn : K.length = q * 4) (hK : IntsAt w Ka K) (hG : Glob w) :
    Calls Tryz.prog 30 #[.slice Ua m c, .slice Fa n d, .slice Ka q Kc] w fun e w' => (∃ b p v A own, e = .returned (.tuple #[.pointer (some ⟨b, 0, none⟩), .bool true]) ∧ TrailAt w.heap.size own w' b p v A U F (tRun U F K (tStart m n) (min q 60))) ∧ Below w.heap.size w w' := by
  have CN := Lib.hid (TNew_ok U F m n hL.lU hL.lF Ua Fa c d w iU iF hL.cu hL.cf)
  go_enter Tryz.func30, Tryz.ntmps30
  go_wp2_with (go_at_call 36; with_reducible refine CN.out.mono ?_; rintro e w1 ⟨⟨b, p, v, A, own, rfl, hT⟩, hb1⟩)
  clear CN
  go_loopw [10] (fun i wr => ∃ (k : Nat) (v : Value) (own : Nat → Prop), k ≤ q ∧ k ≤ 60 ∧ i = .int .i64 k ∧ TrailAt w.heap.size own wr b p v A U F (tRun U F K (tStart m n) k) ∧ Below w.heap.size w wr) (fun i _ => q - (intOf i).toNat)
  case atStart => exact ⟨0, v, own, Nat.zero_le _, Nat.zero_le _, rfl, hT, hb1⟩
  case round =>
    clear hT hb1
    obtain ⟨k, v, own, hk, hk6, rfl, hT, hbr⟩ := hrel
    by_cases hlt : k < q ∧ k < 60
    · obtain ⟨hkn, hk60⟩ := hlt
      obtain ⟨bk, off, rfl, hc⟩ := hK (by intro e; simp [e] at hn; omega)
      have p0 := hc (k * 4) _ (get_gI (by omega))
      have hbw : bk < w.heap.size := block_lt p0
      have q0 := (hbr.cell (p := ⟨bk, _, none⟩) hbw).trans p0
      have q1 : wr.cell? ⟨bk, off + k * 4 + 1, none⟩ = some (.int .i64 (gI K (k * 4 + 1))) := (hbr.cell (p := ⟨bk, _, none⟩) hbw).trans (hc (k * 4 + 1) _ (get_gI (by omega)))
      have q2 : wr.cell? ⟨bk, off + k * 4 + 2, none⟩ = some (.int .i64 (gI K (k * 4 + 2))) := (hbr.cell (p := ⟨bk, _, none⟩) hbw).trans (hc (k * 4 + 2) _ (get_gI (by omega)))
      have q3 : wr.cell? ⟨bk, off + k * 4 + 3, none⟩ = some (.int .i64 (gI K (k * 4 + 3))) := (hbr.cell (p := ⟨bk, _, none⟩) hbw).trans (hc (k * 4 + 3) _ (get_gI (by omega)))
      have d60 : decide ((k : Int) < 60) = true := by simp; omega
      have HA := TAsk_len hL hG hbr hT ((TLen.start hL.m8 hL.n8).run (K := K) k) (gI K (k * 4)) (gI K (k * 4 + 1)) (gI K (k * 4 + 2)) (gI K (k * 4 + 3))
      rw [show tAsk U F (tRun U F K (tStart m n) k) (gI K (k * 4)) (gI K (k * 4 + 1)) (gI K (k * 4 + 2)) (gI K (k * 4 + 3)) = askAt U F K (tRun U F K (tStart m n) k) k from rfl] at HA
      obtain ⟨r, hr⟩ : ∃ r, askAt U F K (tRun U F K (tStart m n) k) k = r := ⟨_, rfl⟩
      have Hr := Lib.hid (show tRun U F K (tStart m n) (k + 1) = r.1 by rw [tRun_succ, hr])
      rw [hr] at HA
      have HA := Lib.hid HA
      have HT := Lib.hid hT
      clear p0 hr hT
      generalize gI K (k * 4) = ak at *
      generalize gI K (k * 4 + 1) = au at *
      generalize gI K (k * 4 + 2) = af at *
      generalize gI K (k * 4 + 3) = at_ at *
      go_wp2_with fail
      with_reducible refine HA.out.mono ?_
      rintro e w3 ⟨rfl, own', v', hT3, ho3, hq3⟩
      go_wp2_with fail
      have hb3 := hq3.to_below (fun g hg => HT.out.low g hg) hbr hbr.size
      refine ⟨⟨k + 1, v', own', ?ya, ?yb, ?yc, ?yd, hb3⟩, ?ye⟩
      case ya => omega
      case yb => omega
      case yc => go_num
      case yd => rw [Hr.out]; exact hT3
      case ye => simp [intOf]; omega
    · have Hmin := Lib.hid (show min q 60 = k by omega)
      by_cases hkq : k < q
      · have d60 : decide ((k : Int) < 60) = false := by simp; omega
        have hq' := hkq
        clear hlt
        have HT := Lib.hid hT
        clear hT
        go_wp2
        go_ret2
        exact ⟨⟨b, p, v, A, own, rfl, by rw [Hmin.out]; exact HT.out⟩, hbr⟩
      · obtain rfl : k = q := by omega
        clear hlt hkq
        have HT := Lib.hid hT
        clear hT
        go_wp2
        go_ret2
        exact ⟨⟨b, p, v, A, own, rfl, by rw [Hmin.out]; exact HT.out⟩, hbr⟩
/-- Two trails, apart. -/
structure Two (lo : Nat) (w : World) (bA pA : Nat) (vA : Value) (AA : LA) (oA : Nat → Prop) (bB pB : Nat) (vB : Value) (AB : LA) (oB : Nat → Prop) (U F : List Int) (TA TB : TS) : Prop where
  a : TrailAt lo oA w bA pA vA AA U F TA
  b : TrailAt lo oB w bB pB vB AB U F TB
  dis : ∀ k, oA k → ¬ oB k
section
variable {lo : Nat} {w w' : World} {bA pA : Nat} {vA : Value} {AA : LA} {oA : Nat → Prop} {bB pB : Nat} {vB : Value} {AB : LA} {oB : Nat → Prop} {U F : List Int} {TA TB : TS}
theorem Two.below (h : Two lo w bA pA vA AA oA bB pB vB AB oB U F TA TB) (hb : Below w.heap.size w w') : Two lo w' bA pA vA AA oA bB pB vB AB oB U F TA TB := ⟨h.a.below hb, h.b.below hb, h.dis⟩
theorem Two.askA (h : Two lo w bA pA vA AA oA bB pB vB AB oB U F TA TB) {T' : TS} {c : Nat} {e : Ending} (hq : AskPost lo oA w bA pA AA U F T' c e w') :
    e = .returned (errVal c) ∧ (∃ v' o', Two lo w' bA pA v' AA o' bB pB vB AB oB U F T' TB) ∧ QKeeps oA w w' := by
  obtain ⟨he, o', v', hT, ho, hk⟩ := hq
  exact ⟨he, ⟨v', o', hT, h.b.keeps hk fun k hb ha => h.dis k ha hb, fun k hk' hb => (ho k hk').elim (fun ha => h.dis k ha hb) (fun hs => by have := h.b.lt k hb; omega)⟩, hk⟩
theorem Two.askB (h : Two lo w bA pA vA AA oA bB pB vB AB oB U F TA TB) {T' : TS} {c : Nat} {e : Ending} (hq : AskPost lo oB w bB pB AB U F T' c e w') :
    e = .returned (errVal c) ∧ (∃ v' o', Two lo w' bA pA vA AA oA bB pB v' AB o' U F TA T') ∧ QKeeps oB w w' := by
  obtain ⟨he, o', v', hT, ho, hk⟩ := hq
  exact ⟨he, ⟨v', o', h.a.keeps hk fun k ha hb => h.dis k ha hb, hT, fun k ha hk' => (ho k hk').elim (fun hb => h.dis k ha hb) (fun hs => by have := h.a.lt k ha; omega)⟩, hk⟩
theorem Two.textA (h : Two lo w bA pA vA AA oA bB pB vB AB oB U F TA TB) :
    Calls Tryz.prog 28 #[.pointer (some ⟨bA, 0, none⟩)] w fun e w' => e = .returned (.string ⟨TA.log.toArray⟩) ∧ Two lo w' bA pA vA AA oA bB pB vB AB oB U F TA TB ∧ QKeeps (fun k => oA k ∨ oB k) w w' :=
  (TText_any h.a).mono fun e w' ⟨he, hT, hq⟩ => ⟨he, ⟨hT, h.b.keeps hq fun k hb ha => h.dis k ha hb, h.dis⟩, ⟨hq.os, hq.tape, hq.output, hq.size, fun g hg hn => hq.block g hg fun e => hn (.inl e)⟩⟩
theorem Two.textB (h : Two lo w bA pA vA AA oA bB pB vB AB oB U F TA TB) :
    Calls Tryz.prog 28 #[.pointer (some ⟨bB, 0, none⟩)] w fun e w' => e = .returned (.string ⟨TB.log.toArray⟩) ∧ Two lo w' bA pA vA AA oA bB pB vB AB oB U F TA TB ∧ QKeeps (fun k => oA k ∨ oB k) w w' :=
  (TText_any h.b).mono fun e w' ⟨he, hT, hq⟩ => ⟨he, ⟨h.a.keeps hq fun k ha hb => h.dis k ha hb, hT, h.dis⟩, ⟨hq.os, hq.tape, hq.output, hq.size, fun g hg hn => hq.block g hg fun e => hn (.inr e)⟩⟩
set_option maxHeartbeats 8000000 in
/-- Two trails that hold the same are alike. -/
theorem Alike_any {m n : Nat} (h : Two lo w bA pA vA AA oA bB pB vB AB oB U F TA TA) (hI : TLen m n U F TA) (hm : m ≤ 8) (hn : n ≤ 8) :
    Calls Tryz.prog 31 #[.pointer (some ⟨bA, 0, none⟩), .pointer (some ⟨bB, 0, none⟩), .int .i64 m, .int .i64 n] w fun e w' => e = .returned (.bool true) ∧ Two lo w' bA pA vA AA oA bB pB vB AB oB U F TA TA ∧ QKeeps (fun k => oA k ∨ oB k) w w' := by
  have R1 := Lib.hid (fun (V : World) (hV : Two lo V bA pA vA AA oA bB pB vB AB oB U F TA TA) (u : Int) => TReads_any hV.a (by rw [hI.re]; omega) u)
  have R2 := Lib.hid (fun (V : World) (hV : Two lo V bA pA vA AA oA bB pB vB AB oB U F TA TA) (u : Int) => TReads_any hV.b (by rw [hI.re]; omega) u)
  have W1 := Lib.hid (fun (V : World) (hV : Two lo V bA pA vA AA oA bB pB vB AB oB U F TA TA) (u : Int) => TWrites_any hV.a (by rw [hI.re]; omega) u)
  have W2 := Lib.hid (fun (V : World) (hV : Two lo V bA pA vA AA oA bB pB vB AB oB U F TA TA) (u : Int) => TWrites_any hV.b (by rw [hI.re]; omega) u)
  have H1 := Lib.hid (fun (V : World) (hV : Two lo V bA pA vA AA oA bB pB vB AB oB U F TA TA) (u : Int) => THolds_any hV.a (by rw [hI.ho]; omega) u)
  have H2 := Lib.hid (fun (V : World) (hV : Two lo V bA pA vA AA oA bB pB vB AB oB U F TA TA) (u : Int) => THolds_any hV.b (by rw [hI.ho]; omega) u)
  have HT1 := Lib.hid (fun (V : World) (hV : Two lo V bA pA vA AA oA bB pB vB AB oB U F TA TA) => hV.textA)
  have HT2 := Lib.hid (fun (V : World) (hV : Two lo V bA pA vA AA oA bB pB vB AB oB U F TA TA) => hV.textB)
  clear hI
  go_enter Tryz.func31, Tryz.ntmps31
  go_wp2_with fail
  go_loopw [9] (fun i wr => ∃ (k : Nat), k ≤ m ∧ i = .int .i64 k ∧ wr = w) (fun i _ => m - (intOf i).toNat)
  case atStart => exact ⟨0, Nat.zero_le _, rfl, rfl⟩
  case round =>
    obtain ⟨k, hk, rfl, rfl⟩ := hrel
    by_cases hlt : k < m
    · have C1 := Lib.hid (R1.out _ h (k : Int))
      have C2 := Lib.hid (R2.out _ h (k : Int))
      have C3 := Lib.hid (W1.out _ h (k : Int))
      have C4 := Lib.hid (W2.out _ h (k : Int))
      generalize told TA.S.Re (k : Int) = x at *
      generalize told TA.S.Wr (k : Int) = y at *
      have Hh := Lib.hid h
      clear h
      go_wp2_with (first | (go_at_call 65; with_reducible refine C1.out.mono ?_; rintro e w' ⟨rfl, rfl⟩) | (go_at_call 65; with_reducible refine C2.out.mono ?_; rintro e w' ⟨rfl, rfl⟩) | (go_at_call 66; with_reducible refine C3.out.mono ?_; rintro e w' ⟨rfl, rfl⟩) | (go_at_call 66; with_reducible refine C4.out.mono ?_; rintro e w' ⟨rfl, rfl⟩))
      refine ⟨⟨k + 1, ?ya, ?yb, ?yc⟩, ?yd⟩
      case ya => omega
      case yb => go_num
      case yc => trivial
      case yd => simp [intOf]; omega
    · obtain rfl : k = m := by omega
      clear hlt
      go_wp2_with fail
      go_loopw [10] (fun i wz => ∃ (f : Nat), f ≤ n ∧ i = .int .i64 f ∧ wz = wr) (fun i _ => n - (intOf i).toNat)
      case atStart => exact ⟨0, Nat.zero_le _, rfl, rfl⟩
      case round =>
        obtain ⟨f, hf, rfl, rfl⟩ := hrel
        by_cases hlt : f < n
        · have C1 := Lib.hid (H1.out _ h (f : Int))
          have C2 := Lib.hid (H2.out _ h (f : Int))
          generalize told TA.S.Ho (f : Int) = x at *
          have Hh := Lib.hid h
          clear h
          go_wp2_with (first | (go_at_call 37; with_reducible refine C1.out.mono ?_; rintro e w' ⟨rfl, rfl⟩) | (go_at_call 37; with_reducible refine C2.out.mono ?_; rintro e w' ⟨rfl, rfl⟩))
          refine ⟨⟨f + 1, ?ya, ?yb, ?yc⟩, ?yd⟩
          case ya => omega
          case yb => go_num
          case yc => trivial
          case yd => simp [intOf]; omega
        · obtain rfl : f = n := by omega
          have Hh := Lib.hid h
          clear h hlt
          go_wp2_with fail
          with_reducible refine (HT1.out _ Hh.out).mono ?_
          rintro e w5 ⟨rfl, h5, hq5⟩
          have C6 := Lib.hid (HT2.out _ h5)
          clear h5
          generalize (⟨TA.log.toArray⟩ : ByteArray) = str at *
          go_wp2_with fail
          with_reducible refine C6.out.mono ?_
          rintro e w6 ⟨rfl, h6, hq6⟩
          have H6 := Lib.hid h6
          clear h6
          go_wp2_with fail
          go_ret
          exact ⟨rfl, H6.out, hq5.trans hq6 fun k hk => .inl hk⟩
end
end Go.Proofs.YtncokblinocgaaaGreatDoor
