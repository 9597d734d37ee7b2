/-
  Contracts: a trail asked, made, read.
-/
import Derived.Test.YtanlmfnhlldkeaaGreatDoorTrD
namespace Go.Proofs.YtanlmfnhlldkeaaGreatDoor
open Go.RowKit
set_option maxRecDepth 100000
set_option linter.unusedVariables false

section
variable {lo : Nat} {W0 w : World} {b m : Nat} {own : Nat → Prop} {v : Value} {A : LA} {U F : List Int} {T : TS}
/-- Ask, of whatever kind. -/
theorem TAsk_any (hG : Glob W0) (hbW : Below W0.heap.size W0 w) (h : TrailAt W0.heap.size own w b m v A U F T) (hI : TInv U F T) (hU : ∀ i, i < T.S.Re.length → labOk (gI U (i * 2)) (gI U (i * 2 + 1))) (hF : ∀ i, i < T.S.Ho.length → labOk (gI F (i * 2)) (gI F (i * 2 + 1)))
    (k u f t : Int) :
    Calls Tryz.prog 91 #[.pointer (some ⟨b, 0, none⟩), .agg #[.int .i64 k, .int .i64 u, .int .i64 f, .int .i64 t]] w (AskPost W0.heap.size own w b m A U F (tAsk U F T k u f t).1 (tAsk U F T k u f t).2) := by
  by_cases hm : T.many = 100
  · have e : tAsk U F T k u f t = (T, 4) := by unfold tAsk; rw [if_pos hm]
    rw [e]
    exact TAsk_full h hm k u f t
  · by_cases hk : k = 3
    · exact TAsk_copy hG hbW h hI hU hF hm k u f t hk
    · exact TAsk_other hG hbW h hI hU hF hm k u f t hk
theorem TrailAt.cm (h : TrailAt lo own w b m v A U F T) : w.cell? ⟨b, 0, none⟩ = some (.pointer (some ⟨m, 0, none⟩)) := h.trl.cells.1
theorem TrailAt.ck (h : TrailAt lo own w b m v A U F T) : w.cell? ⟨b, 3, none⟩ = some (.int .i64 T.many) := h.trl.cells.2.1
theorem TrailAt.cc (h : TrailAt lo own w b m v A U F T) : w.cell? ⟨b, 4, none⟩ = some (.int .i64 T.chain) := h.trl.cells.2.2.1
theorem TReads_any (h : TrailAt lo own w b m v A U F T) (hl : T.S.Re.length < 2 ^ 60) (u : Int) :
    Calls Tryz.prog 84 #[.pointer (some ⟨b, 0, none⟩), .int .i64 u] w fun e w' => e = .returned (.int .i64 (told T.S.Re u : Nat)) ∧ w = w' := by
  have c0 := h.cm
  have C := Lib.hid (LReads_any h.bell hl u)
  clear h
  go_enter Tryz.func84, Tryz.ntmps84
  go_wp2_with (go_at_call 114; with_reducible refine C.out.mono ?_; rintro e w' ⟨rfl, rfl⟩)
  go_ret
  exact ⟨rfl, rfl⟩
theorem TWrites_any (h : TrailAt lo own w b m v A U F T) (hl : T.S.Re.length < 2 ^ 60) (u : Int) :
    Calls Tryz.prog 86 #[.pointer (some ⟨b, 0, none⟩), .int .i64 u] w fun e w' => e = .returned (.int .i64 (told T.S.Wr u : Nat)) ∧ w = w' := by
  have c0 := h.cm
  have C := Lib.hid (LWrites_any h.bell hl u)
  clear h
  go_enter Tryz.func86, Tryz.ntmps86
  go_wp2_with (go_at_call 115; with_reducible refine C.out.mono ?_; rintro e w' ⟨rfl, rfl⟩)
  go_ret
  exact ⟨rfl, rfl⟩
theorem THolds_any (h : TrailAt lo own w b m v A U F T) (hl : T.S.Ho.length < 2 ^ 60) (f : Int) :
    Calls Tryz.prog 88 #[.pointer (some ⟨b, 0, none⟩), .int .i64 f] w fun e w' => e = .returned (.int .i64 (told T.S.Ho f : Nat)) ∧ w = w' := by
  have c0 := h.cm
  have C := Lib.hid (LHolds_any h.bell hl f)
  clear h
  go_enter Tryz.func88, Tryz.ntmps88
  go_wp2_with (go_at_call 116; with_reducible refine C.out.mono ?_; rintro e w' ⟨rfl, rfl⟩)
  go_ret
  exact ⟨rfl, rfl⟩
/-- The text of a trail. -/
theorem TText_any (h : TrailAt lo own w b m v A U F T) :
    Calls Tryz.prog 117 #[.pointer (some ⟨b, 0, none⟩)] w fun e w' => e = .returned (.string ⟨T.log.toArray⟩) ∧ TrailAt lo own w' b m v A U F T ∧ QKeeps own w w' := by
  have C := Lib.hid (TrlText_any h.trl)
  have hf := Lib.hid h
  clear h
  go_enter Tryz.func117, Tryz.ntmps117
  go_wp2_with (go_at_call 35; with_reducible refine C.out.mono ?_; rintro e w' ⟨rfl, hT, hq⟩)
  go_ret
  have h := hf.out
  exact ⟨rfl, ⟨hT, h.bell.keepB (hq.block m (h.lt m h.om) h.vm) fun k hk => hq.block k (h.lt k (h.oa k hk)) (fun e => h.nv k e hk), h.ob, h.om, h.ov, h.oa, h.nb, h.nv, fun k hh => Nat.lt_of_lt_of_le (h.lt k hh) hq.size, h.low⟩, ⟨hq.os, hq.tape, hq.output, hq.size, fun g hg hn => hq.block g hg fun e => hn (h.ov g e)⟩⟩
end
theorem BellAt.base0 {w : World} {base p : Nat} {U F : List Int} {S : LS} {A : LA} (h : BellAt w base p U F S A) : BellAt w 0 p U F S A :=
  ⟨Nat.zero_le _, h.box, h.lu, h.lf, h.lw, h.iu, h.if_, h.ir, h.iw, h.ih, fun h1 h2 => by
    obtain ⟨gu, gf, gr, gw, gh, e1, e2, e3, e4, e5, ho⟩ := h.own h1 h2
    exact ⟨gu, gf, gr, gw, gh, e1, e2, e3, e4, e5, Nat.zero_le _, Nat.zero_le _, Nat.zero_le _, Nat.zero_le _, Nat.zero_le _, ho.ou, ho.of_, ho.or_, ho.ow, ho.oh, ho.rw, ho.rh, ho.wh⟩⟩
theorem ints_lt {w : World} {A : Option Addr} {l : List Int} (h : IntsAt w A l) (hl : l ≠ []) {k o : Nat} (e : A = some ⟨k, o, none⟩) : k < w.heap.size := by
  obtain ⟨b, off, e', hc⟩ := h hl
  rw [e] at e'
  injection e' with e'
  injection e' with e1 e2
  subst e1
  exact block_lt (hc 0 _ (get_gI (List.length_pos_iff.2 hl)))
theorem castL_ne' {l : List Nat} (h : l ≠ []) : castL l ≠ [] := fun e => h (List.map_eq_nil_iff.1 e)
theorem BellAt.has_lt {w : World} {base p : Nat} {U F : List Int} {S : LS} {A : LA} (h : BellAt w base p U F S A) {k : Nat} (hk : A.has U F k) : k < w.heap.size := by
  have hR : U ≠ [] → S.Re ≠ [] := fun hu e => hu (List.length_eq_zero_iff.1 (by rw [h.lu, e]; rfl))
  have hH : F ≠ [] → S.Ho ≠ [] := fun hu e => hu (List.length_eq_zero_iff.1 (by rw [h.lf, e]; rfl))
  have hW : U ≠ [] → S.Wr ≠ [] := fun hu e => hR hu (List.length_eq_zero_iff.1 (by rw [← h.lw, e]; rfl))
  rcases hk with ⟨hu, o, e⟩ | ⟨hu, o, e⟩ | ⟨hu, o, e⟩ | ⟨hu, o, e⟩ | ⟨hu, o, e⟩
  · exact ints_lt h.iu hu e
  · exact ints_lt h.if_ hu e
  · exact ints_lt h.ir (castL_ne' (hR hu)) e
  · exact ints_lt h.iw (castL_ne' (hW hu)) e
  · exact ints_lt h.ih (castL_ne' (hH hu)) e
set_option maxHeartbeats 4000000 in
/-- A new trail. -/
theorem TNew_ok (U F : List Int) (m n : Nat) (hU : U.length = m * 2) (hF : F.length = n * 2) (Ua Fa : Option Addr) (c d : Nat) (w : World) (iU : IntsAt w Ua U) (iF : IntsAt w Fa F) (h1 : labsCode U m 8 = 0) (h2 : labsCode F n 8 = 0) :
    Calls Tryz.prog 81 #[.slice Ua m c, .slice Fa n d] w fun e w' => (∃ b p v A own, e = .returned (.tuple #[.pointer (some ⟨b, 0, none⟩), .nilIface]) ∧ TrailAt w.heap.size own w' b p v A U F (tStart m n)) ∧ Below w.heap.size w w' := by
  have C := Lib.hid (LNew_low U F m n hU hF Ua Fa c d w iU iF h1 h2)
  go_enter Tryz.func81, Tryz.ntmps81
  go_wp2_with (go_at_call 112; with_reducible refine C.out.mono ?_; rintro e w1 ⟨⟨p, A, rfl, hB, hlow⟩, hb1⟩)
  go_ret2
  have hs := hb1.size
  have hbx : BoxN (w1.alloc (.cells #[.pointer (some ⟨p, 0, none⟩), .pointer none, .slice none 0 0, .int .i64 0, .int .i64 0] 193)) w1.heap.size 193 #[.pointer (some ⟨p, 0, none⟩), .pointer none, .slice none 0 0, .int .i64 0, .int .i64 0] := BoxN.new w1 _ _
  have hba : Below w1.heap.size w1 (w1.alloc (.cells #[.pointer (some ⟨p, 0, none⟩), .pointer none, .slice none 0 0, .int .i64 0, .int .i64 0] 193)) := (Below.refl _ _).alloc (Nat.le_refl _) _
  have hB2 := hB.all hba
  refine ⟨⟨w1.heap.size, p, .slice none 0 0, A, fun g => w.heap.size ≤ g ∧ g < (w1.alloc (.cells #[.pointer (some ⟨p, 0, none⟩), .pointer none, .slice none 0 0, .int .i64 0, .int .i64 0] 193)).heap.size, rfl, ⟨.inl ⟨hbx, ⟨rfl, .inl ⟨rfl, rfl⟩⟩⟩, hB2.base0, ⟨hs, hbx.lt⟩, ⟨hB2.bp, hB2.box.lt⟩, fun g hg => ?_, fun g hg => ⟨LA.low_has hlow hg, hB2.has_lt hg⟩, fun hh => ?_, fun g hg => ?_, fun k hk => hk.2, fun k hk => hk.1⟩⟩, hb1.trans (hba.mono hs)⟩
  · simp [Value.ownBlock] at hg
  · have := hB.has_lt hh
    omega
  · simp [Value.ownBlock] at hg
set_option maxHeartbeats 1000000 in
theorem TNew_bad (U F : List Int) (m n : Nat) (hU : U.length = m * 2) (hF : F.length = n * 2) (Ua Fa : Option Addr) (c d : Nat) (w : World) (iU : IntsAt w Ua U) (iF : IntsAt w Fa F) (l1 : m < 2 ^ 60) (l2 : n < 2 ^ 60) (k : Nat) (hk : k = if labsCode U m 8 ≠ 0 then labsCode U m 8 else labsCode F n 8) (hne : k ≠ 0) :
    Calls Tryz.prog 81 #[.slice Ua m c, .slice Fa n d] w fun e w' => e = .returned (.tuple #[.pointer none, .iface 63 (.int .i64 k)]) ∧ Below w.heap.size w w' := by
  have C := Lib.hid (LNew_bad U F m n hU hF Ua Fa c d w iU iF l1 l2 k hk hne)
  clear hk hne
  go_enter Tryz.func81, Tryz.ntmps81
  go_wp2_with (go_at_call 112; with_reducible refine C.out.mono ?_; rintro e w1 ⟨rfl, hb1⟩)
  go_ret2
  exact ⟨rfl, hb1⟩
end Go.Proofs.YtanlmfnhlldkeaaGreatDoor
