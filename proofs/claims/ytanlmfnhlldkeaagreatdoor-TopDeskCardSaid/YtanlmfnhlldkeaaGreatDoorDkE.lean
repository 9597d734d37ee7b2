/-
  Contracts: act's closures.
-/
import Derived.Test.YtanlmfnhlldkeaaGreatDoorDkD
import Derived.Test.YtanlmfnhlldkeaaGreatDoorDkM
namespace Go.Proofs.YtanlmfnhlldkeaaGreatDoor
open Go.RowKit
set_option maxRecDepth 100000
set_option linter.unusedVariables false

section
variable {b : Nat} {own : Nat → Prop} {W0 w : World} {D : DS}
theorem DkPost.said {lo : Nat} {r : DS × List UInt8} {e : Ending} {w' : World} (h : DkPost lo own w b r e w') : e = .returned (.string ⟨r.2.toArray⟩) ∧ DkPost lo own w b r (.returned (.string ⟨r.2.toArray⟩)) w' := ⟨h.1, rfl, h.2⟩
theorem told_lt {T : TS} {m n : Nat} {U F : List Int} (h : TLen m n U F T) (x : Int) : told T.S.Re x < 256 ∧ told T.S.Wr x < 256 ∧ told T.S.Ho x < 256 := by
  have hi := h.inv.inv
  unfold told
  refine ⟨?_, ?_, ?_⟩
  · split
    · exact hi.re_lt _
    · decide
  · split
    · exact hi.wr_lt _
    · decide
  · split
    · exact hi.ho_lt _
    · decide
set_option maxHeartbeats 4000000 in
theorem actReads_any {T : TS} {b3 b4 b5 g n c : Nat} {x : Int} (v : List UInt8) (hv : v.length ≤ 1000) (hG : Glob W0) (hbW : Below W0.heap.size W0 w) (h : DkAt W0.heap.size own w b D) (hT : D.T = some T) (hn : 0 < n)
    (k4 : w.cell? ⟨b4, 0, none⟩ = some (.string ⟨v.toArray⟩)) (k3 : w.cell? ⟨b3, 0, none⟩ = some (.pointer (some ⟨b, 0, none⟩))) (k5 : w.cell? ⟨b5, 0, none⟩ = some (.slice (some ⟨g, 0, none⟩) n c)) (kg : w.cell? ⟨g, 0, none⟩ = some (.int .i64 x)) :
    Calls Tryz.prog 82 #[.pointer (some ⟨b4, 0, none⟩), .pointer (some ⟨b3, 0, none⟩), .pointer (some ⟨b5, 0, none⟩)] w fun e w' => e = .returned (.string ⟨(setV v (told T.S.Re x)).toArray⟩) ∧ Below w.heap.size w w' := by
  obtain ⟨Uv, Fv, tp, tq, h⟩ := h
  obtain ⟨bt, p, vv, A, htp, hTr⟩ := h.trail hT
  subst htp
  have hl8 : T.S.Re.length < 2 ^ 60 := by
    have h1 := (h.tlen hT).re
    have h2 := (h.tlen hT).ho
    have := h.ok.m8
    have := h.ok.n8
    omega
  have ht := (told_lt (h.tlen hT) x)
  have CR := Lib.hid (fun V (hV : Below w.heap.size w V) => TReads_any (hTr.below hV) hl8 x)
  have CS := Lib.hid (fun V (hV : Below w.heap.size w V) => Set_any hG (hbW.trans (hV.mono hbW.size)) v hv (told T.S.Re x) ht.1)
  have c2 : w.cell? ⟨b, 2, none⟩ = some (.pointer (some ⟨bt, 0, none⟩)) := h.box.cell rfl
  have l2 := block_lt c2
  have HK := Lib.hid (fun V (hV : Below w.heap.size w V) => (⟨(hV.cell (p := ⟨b4, 0, none⟩) (block_lt k4)).trans k4, (hV.cell (p := ⟨b3, 0, none⟩) (block_lt k3)).trans k3, (hV.cell (p := ⟨b5, 0, none⟩) (block_lt k5)).trans k5, (hV.cell (p := ⟨g, 0, none⟩) (block_lt kg)).trans kg, (hV.cell (p := ⟨b, 2, none⟩) l2).trans c2⟩ : V.cell? ⟨b4, 0, none⟩ = some (.string ⟨v.toArray⟩) ∧ V.cell? ⟨b3, 0, none⟩ = some (.pointer (some ⟨b, 0, none⟩)) ∧ V.cell? ⟨b5, 0, none⟩ = some (.slice (some ⟨g, 0, none⟩) n c) ∧ V.cell? ⟨g, 0, none⟩ = some (.int .i64 x) ∧ V.cell? ⟨b, 2, none⟩ = some (.pointer (some ⟨bt, 0, none⟩))))
  have hbd : Below w.heap.size w w.drew := (Below.refl _ _).drew
  have hn0 : (0 : Int) < (n : Int) := by omega
  clear h hTr hT hl8 ht l2 c2
  generalize told T.S.Re x = r at *
  go_enter Tryz.func82, Tryz.ntmps82
  go_wp2_with fail
  go_region_held3 (fun V => V.cell? ⟨b4, 0, none⟩ = some (.string ⟨v.toArray⟩) ∧ V.cell? ⟨b3, 0, none⟩ = some (.pointer (some ⟨b, 0, none⟩)) ∧ V.cell? ⟨b5, 0, none⟩ = some (.slice (some ⟨g, 0, none⟩) n c) ∧ V.cell? ⟨g, 0, none⟩ = some (.int .i64 x) ∧ V.cell? ⟨b, 2, none⟩ = some (.pointer (some ⟨bt, 0, none⟩)))
    ((refine HK.out _ ?_; repeat (first | assumption | exact Below.refl _ _ | refine Below.drew ?_)))
    ((first | (go_at_call 84; with_reducible refine (CR.out _ (by repeat (first | assumption | exact Below.refl _ _ | refine Below.drew ?_))).mono ?_; rintro e w4 ⟨rfl, rfl⟩) | (go_at_call 83; with_reducible refine (CS.out _ (by repeat (first | assumption | exact Below.refl _ _ | refine Below.drew ?_))).mono ?_; rintro e w5 ⟨rfl, hb5⟩; have hb5' := hbd.trans (hb5.mono hbd.size))))
  all_goals
    go_wp2_with fail
    go_ret
    exact ⟨rfl, hb5'⟩
set_option maxHeartbeats 4000000 in
theorem actWrites_any {T : TS} {b3 b4 b5 g n c : Nat} {x : Int} (v : List UInt8) (hv : v.length ≤ 1000) (hG : Glob W0) (hbW : Below W0.heap.size W0 w) (h : DkAt W0.heap.size own w b D) (hT : D.T = some T) (hn : 0 < n)
    (k4 : w.cell? ⟨b4, 0, none⟩ = some (.string ⟨v.toArray⟩)) (k3 : w.cell? ⟨b3, 0, none⟩ = some (.pointer (some ⟨b, 0, none⟩))) (k5 : w.cell? ⟨b5, 0, none⟩ = some (.slice (some ⟨g, 0, none⟩) n c)) (kg : w.cell? ⟨g, 0, none⟩ = some (.int .i64 x)) :
    Calls Tryz.prog 85 #[.pointer (some ⟨b4, 0, none⟩), .pointer (some ⟨b3, 0, none⟩), .pointer (some ⟨b5, 0, none⟩)] w fun e w' => e = .returned (.string ⟨(setV v (told T.S.Wr x)).toArray⟩) ∧ Below w.heap.size w w' := by
  obtain ⟨Uv, Fv, tp, tq, h⟩ := h
  obtain ⟨bt, p, vv, A, htp, hTr⟩ := h.trail hT
  subst htp
  have hl8 : T.S.Re.length < 2 ^ 60 := by
    have h1 := (h.tlen hT).re
    have h2 := (h.tlen hT).ho
    have := h.ok.m8
    have := h.ok.n8
    omega
  have ht := (told_lt (h.tlen hT) x)
  have CR := Lib.hid (fun V (hV : Below w.heap.size w V) => TWrites_any (hTr.below hV) hl8 x)
  have CS := Lib.hid (fun V (hV : Below w.heap.size w V) => Set_any hG (hbW.trans (hV.mono hbW.size)) v hv (told T.S.Wr x) ht.2.1)
  have c2 : w.cell? ⟨b, 2, none⟩ = some (.pointer (some ⟨bt, 0, none⟩)) := h.box.cell rfl
  have l2 := block_lt c2
  have HK := Lib.hid (fun V (hV : Below w.heap.size w V) => (⟨(hV.cell (p := ⟨b4, 0, none⟩) (block_lt k4)).trans k4, (hV.cell (p := ⟨b3, 0, none⟩) (block_lt k3)).trans k3, (hV.cell (p := ⟨b5, 0, none⟩) (block_lt k5)).trans k5, (hV.cell (p := ⟨g, 0, none⟩) (block_lt kg)).trans kg, (hV.cell (p := ⟨b, 2, none⟩) l2).trans c2⟩ : V.cell? ⟨b4, 0, none⟩ = some (.string ⟨v.toArray⟩) ∧ V.cell? ⟨b3, 0, none⟩ = some (.pointer (some ⟨b, 0, none⟩)) ∧ V.cell? ⟨b5, 0, none⟩ = some (.slice (some ⟨g, 0, none⟩) n c) ∧ V.cell? ⟨g, 0, none⟩ = some (.int .i64 x) ∧ V.cell? ⟨b, 2, none⟩ = some (.pointer (some ⟨bt, 0, none⟩))))
  have hbd : Below w.heap.size w w.drew := (Below.refl _ _).drew
  have hn0 : (0 : Int) < (n : Int) := by omega
  clear h hTr hT hl8 ht l2 c2
  generalize told T.S.Wr x = r at *
  go_enter Tryz.func85, Tryz.ntmps85
  go_wp2_with fail
  go_region_held3 (fun V => V.cell? ⟨b4, 0, none⟩ = some (.string ⟨v.toArray⟩) ∧ V.cell? ⟨b3, 0, none⟩ = some (.pointer (some ⟨b, 0, none⟩)) ∧ V.cell? ⟨b5, 0, none⟩ = some (.slice (some ⟨g, 0, none⟩) n c) ∧ V.cell? ⟨g, 0, none⟩ = some (.int .i64 x) ∧ V.cell? ⟨b, 2, none⟩ = some (.pointer (some ⟨bt, 0, none⟩)))
    ((refine HK.out _ ?_; repeat (first | assumption | exact Below.refl _ _ | refine Below.drew ?_)))
    ((first | (go_at_call 86; with_reducible refine (CR.out _ (by repeat (first | assumption | exact Below.refl _ _ | refine Below.drew ?_))).mono ?_; rintro e w4 ⟨rfl, rfl⟩) | (go_at_call 83; with_reducible refine (CS.out _ (by repeat (first | assumption | exact Below.refl _ _ | refine Below.drew ?_))).mono ?_; rintro e w5 ⟨rfl, hb5⟩; have hb5' := hbd.trans (hb5.mono hbd.size))))
  all_goals
    go_wp2_with fail
    go_ret
    exact ⟨rfl, hb5'⟩
set_option maxHeartbeats 4000000 in
theorem actHolds_any {T : TS} {b3 b4 b5 g n c : Nat} {x : Int} (v : List UInt8) (hv : v.length ≤ 1000) (hG : Glob W0) (hbW : Below W0.heap.size W0 w) (h : DkAt W0.heap.size own w b D) (hT : D.T = some T) (hn : 0 < n)
    (k4 : w.cell? ⟨b4, 0, none⟩ = some (.string ⟨v.toArray⟩)) (k3 : w.cell? ⟨b3, 0, none⟩ = some (.pointer (some ⟨b, 0, none⟩))) (k5 : w.cell? ⟨b5, 0, none⟩ = some (.slice (some ⟨g, 0, none⟩) n c)) (kg : w.cell? ⟨g, 0, none⟩ = some (.int .i64 x)) :
    Calls Tryz.prog 87 #[.pointer (some ⟨b4, 0, none⟩), .pointer (some ⟨b3, 0, none⟩), .pointer (some ⟨b5, 0, none⟩)] w fun e w' => e = .returned (.string ⟨(setV v (told T.S.Ho x)).toArray⟩) ∧ Below w.heap.size w w' := by
  obtain ⟨Uv, Fv, tp, tq, h⟩ := h
  obtain ⟨bt, p, vv, A, htp, hTr⟩ := h.trail hT
  subst htp
  have hl8 : T.S.Ho.length < 2 ^ 60 := by
    have h1 := (h.tlen hT).re
    have h2 := (h.tlen hT).ho
    have := h.ok.m8
    have := h.ok.n8
    omega
  have ht := (told_lt (h.tlen hT) x)
  have CR := Lib.hid (fun V (hV : Below w.heap.size w V) => THolds_any (hTr.below hV) hl8 x)
  have CS := Lib.hid (fun V (hV : Below w.heap.size w V) => Set_any hG (hbW.trans (hV.mono hbW.size)) v hv (told T.S.Ho x) ht.2.2)
  have c2 : w.cell? ⟨b, 2, none⟩ = some (.pointer (some ⟨bt, 0, none⟩)) := h.box.cell rfl
  have l2 := block_lt c2
  have HK := Lib.hid (fun V (hV : Below w.heap.size w V) => (⟨(hV.cell (p := ⟨b4, 0, none⟩) (block_lt k4)).trans k4, (hV.cell (p := ⟨b3, 0, none⟩) (block_lt k3)).trans k3, (hV.cell (p := ⟨b5, 0, none⟩) (block_lt k5)).trans k5, (hV.cell (p := ⟨g, 0, none⟩) (block_lt kg)).trans kg, (hV.cell (p := ⟨b, 2, none⟩) l2).trans c2⟩ : V.cell? ⟨b4, 0, none⟩ = some (.string ⟨v.toArray⟩) ∧ V.cell? ⟨b3, 0, none⟩ = some (.pointer (some ⟨b, 0, none⟩)) ∧ V.cell? ⟨b5, 0, none⟩ = some (.slice (some ⟨g, 0, none⟩) n c) ∧ V.cell? ⟨g, 0, none⟩ = some (.int .i64 x) ∧ V.cell? ⟨b, 2, none⟩ = some (.pointer (some ⟨bt, 0, none⟩))))
  have hbd : Below w.heap.size w w.drew := (Below.refl _ _).drew
  have hn0 : (0 : Int) < (n : Int) := by omega
  clear h hTr hT hl8 ht l2 c2
  generalize told T.S.Ho x = r at *
  go_enter Tryz.func87, Tryz.ntmps87
  go_wp2_with fail
  go_region_held3 (fun V => V.cell? ⟨b4, 0, none⟩ = some (.string ⟨v.toArray⟩) ∧ V.cell? ⟨b3, 0, none⟩ = some (.pointer (some ⟨b, 0, none⟩)) ∧ V.cell? ⟨b5, 0, none⟩ = some (.slice (some ⟨g, 0, none⟩) n c) ∧ V.cell? ⟨g, 0, none⟩ = some (.int .i64 x) ∧ V.cell? ⟨b, 2, none⟩ = some (.pointer (some ⟨bt, 0, none⟩)))
    ((refine HK.out _ ?_; repeat (first | assumption | exact Below.refl _ _ | refine Below.drew ?_)))
    ((first | (go_at_call 88; with_reducible refine (CR.out _ (by repeat (first | assumption | exact Below.refl _ _ | refine Below.drew ?_))).mono ?_; rintro e w4 ⟨rfl, rfl⟩) | (go_at_call 83; with_reducible refine (CS.out _ (by repeat (first | assumption | exact Below.refl _ _ | refine Below.drew ?_))).mono ?_; rintro e w5 ⟨rfl, hb5⟩; have hb5' := hbd.trans (hb5.mono hbd.size))))
  all_goals
    go_wp2_with fail
    go_ret
    exact ⟨rfl, hb5'⟩
set_option maxHeartbeats 4000000 in
theorem actCrash_any {T : TS} {b3 b5 g n c k : Nat} (hG : Glob W0) (hbW : Below W0.heap.size W0 w) (h : DkAt W0.heap.size own w b D) (hT : D.T = some T) (hn : 0 < n)
    (k3 : w.cell? ⟨b3, 0, none⟩ = some (.pointer (some ⟨b, 0, none⟩))) (k5 : w.cell? ⟨b5, 0, none⟩ = some (.slice (some ⟨g, 0, none⟩) n c)) (kg : w.cell? ⟨g, 0, none⟩ = some (.int .i64 k)) :
    Calls Tryz.prog 89 #[.pointer (some ⟨b3, 0, none⟩), .pointer (some ⟨b5, 0, none⟩)] w (DkPost W0.heap.size own w b (dCrash D T k)) := by
  have CC := Lib.hid (fun V (hV : Below w.heap.size w V) => ((Crash_any hG (hbW.trans (hV.mono hbW.size)) (h.below hV) hT k).mono fun e w' hp => (DkPost.next h hV hp).said : Calls Tryz.prog 90 #[.pointer (some ⟨b, 0, none⟩), .int .i64 k] V fun e w' => e = .returned (.string ⟨(dCrash D T k).2.toArray⟩) ∧ DkPost W0.heap.size own w b (dCrash D T k) (.returned (.string ⟨(dCrash D T k).2.toArray⟩)) w'))
  have HK := Lib.hid (fun V (hV : Below w.heap.size w V) => (⟨(hV.cell (p := ⟨b3, 0, none⟩) (block_lt k3)).trans k3, (hV.cell (p := ⟨b5, 0, none⟩) (block_lt k5)).trans k5, (hV.cell (p := ⟨g, 0, none⟩) (block_lt kg)).trans kg⟩ : V.cell? ⟨b3, 0, none⟩ = some (.pointer (some ⟨b, 0, none⟩)) ∧ V.cell? ⟨b5, 0, none⟩ = some (.slice (some ⟨g, 0, none⟩) n c) ∧ V.cell? ⟨g, 0, none⟩ = some (.int .i64 k)))
  have hbd : Below w.heap.size w w.drew := (Below.refl _ _).drew
  have hn0 : (0 : Int) < (n : Int) := by omega
  clear h hT
  generalize dCrash D T k = r at *
  go_enter Tryz.func89, Tryz.ntmps89
  go_wp2_with fail
  go_region_with ((go_at_call 90; with_reducible refine (CC.out _ hbd).mono ?_; rintro e w4 ⟨rfl, hp2⟩))
  all_goals
    go_wp2_with fail
    go_ret
    exact hp2
end
end Go.Proofs.YtanlmfnhlldkeaaGreatDoor
