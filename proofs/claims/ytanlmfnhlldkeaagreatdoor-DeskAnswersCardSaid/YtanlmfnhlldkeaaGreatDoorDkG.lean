/-
  Contract: (*desk.desk).act.
-/
import Derived.Test.YtanlmfnhlldkeaaGreatDoorDkCA
import Derived.Deep.RegionLaw
import Derived.Deep.CutRange
import Derived.Deep.RegionHeld3
namespace Go.Proofs.YtanlmfnhlldkeaaGreatDoor
open Go.RowKit
attribute [local go_sem] run_makeFuncN
set_option maxRecDepth 100000
set_option linter.unusedVariables false
set_option linter.unusedSimpArgs false

section
variable {b : Nat} {own : Nat → Prop} {W0 w0 w : World} {D : DS}
theorem DkPost.glob {r : DS × List UInt8} {e : Ending} {V : World} (hp : DkPost W0.heap.size own w0 b r e V) (hG : Glob W0) (hbW : Below W0.heap.size W0 w0) (h : DkAt W0.heap.size own w0 b D) : ErrT V := by
  obtain ⟨_, own', h1, h2, h3⟩ := hp
  exact hG.err.next (h3.to_below (fun g hg => h.low hg) hbW hbW.size)
theorem castL_last3 {l : List Nat} (h : l.length = 3) : (castL l ++ [(0 : Int)])[2]? = some ((l.getD 2 0 : Nat) : Int) := by
  rw [List.getElem?_append_left (by rw [length_castL, h]; decide)]
  exact castL_nth (by omega)
theorem castL_last2 {l : List Nat} (h : l.length = 2) : (castL l ++ [(0 : Int)])[2]? = some ((l.getD 2 0 : Nat) : Int) := by
  match l, h with
  | [a, b], _ => rfl
theorem doesV_len {v : List UInt8} {j : Nat} (h : doesV v = some j) : v.length ≤ 1000 := by
  unfold doesV at h
  split at h
  · rename_i e; subst e; decide
  · split at h
    · rename_i e; subst e; decide
    · split at h
      · rename_i e; subst e; decide
      · split at h
        · rename_i e; subst e; decide
        · cases h
theorem Ask_dk (hG : Glob W0) {bt p : Nat} {vv Uv Fv : Value} {A : LA} {tq : Nat → Prop} {T : TS} (hbW : Below W0.heap.size W0 w) (h : DkSt W0.heap.size own w b D Uv Fv (.pointer (some ⟨bt, 0, none⟩)) tq) (hTr : TrailAt W0.heap.size tq w bt p vv A D.U D.F T) (hT : D.T = some T) (k : Nat) (l : List Nat) :
    Calls Tryz.prog 91 #[.pointer (some ⟨bt, 0, none⟩), .agg #[.int .i64 k, .int .i64 (l.getD 0 0 : Nat), .int .i64 (l.getD 1 0 : Nat), .int .i64 (l.getD 2 0 : Nat)]] w fun e w' =>
      e = .returned (errVal (tAsk D.U D.F T k (l.getD 0 0 : Nat) (l.getD 1 0 : Nat) (l.getD 2 0 : Nat)).2) ∧ DkPost W0.heap.size own w b (dAsk D T k l) (.returned (.string ⟨(dAsk D T k l).2.toArray⟩)) w' ∧ QKeeps tq w w' := by
  refine (TAsk_len h.ok.labs hG hbW hTr (h.tlen hT) k (l.getD 0 0 : Nat) (l.getD 1 0 : Nat) (l.getD 2 0 : Nat)).mono ?_
  rintro e w' ⟨he, own', v', hT', hsub, hq⟩
  exact ⟨he, DkSt.post (h.stay hq hT' hsub (h.ok.ask hT k l)) hq (fun g hg => (h.oT g hg).1) (fun g hg => (hsub g hg).imp (fun x => (h.oT g x).1) id), hq⟩
set_option maxHeartbeats 8000000 in
theorem Act_any (hG : Glob W0) (hbW : Below W0.heap.size W0 w0) (hb0 : Below w0.heap.size w0 w) (h : DkAt W0.heap.size own w0 b D) (v : List UInt8) (l : List Nat) (hl : l.length ≤ 3000) {c : Nat} {A : Option Addr} (hA : OwnI w w0.heap.size (.slice A l.length c) (castL l)) :
    Calls Tryz.prog 61 #[.pointer (some ⟨b, 0, none⟩), .string ⟨v.toArray⟩, .slice A l.length c] w (ActPost W0.heap.size own w0 b (dAct D v l)) := by
  obtain ⟨n, hn⟩ : ∃ n, l.length = n := ⟨_, rfl⟩
  rw [hn] at hl hA ⊢
  have HN := Lib.hid hn
  have H := Lib.hid h
  have HA := Lib.hid hA
  clear hA hn
  obtain ⟨Uv, Fv, tp, tq, h⟩ := h
  obtain ⟨vs, hvs⟩ : ∃ vs : ByteArray, (⟨v.toArray⟩ : ByteArray) = vs := ⟨_, rfl⟩
  rw [hvs]
  have hvl : vs.data.toList = v := by rw [← hvs]
  obtain ⟨w3, hw3⟩ : ∃ w3, (((w.alloc (.cells #[.pointer (some ⟨b, 0, none⟩)] 115)).alloc (.cells #[.string vs] 9)).alloc (.cells #[.slice A n c] 24)) = w3 := ⟨_, rfl⟩
  have hb3 : Below w.heap.size w w3 := by rw [← hw3]; exact (((Below.refl _ _).alloc (Nat.le_refl _) _).alloc (by simp) _).alloc (by simp; omega) _
  have x3 : BoxN w3 w.heap.size 115 #[.pointer (some ⟨b, 0, none⟩)] := by rw [← hw3]; exact ((BoxN.new w _ _).alloc _).alloc _
  have x4 : BoxN w3 (w.heap.size + 1) 9 #[.string vs] := by rw [← hw3]; exact (BoxN.new' _ _ _ _ (by simp)).alloc _
  have x5 : BoxN w3 (w.heap.size + 1 + 1) 24 #[.slice A n c] := by rw [← hw3]; exact BoxN.new' _ _ _ _ (by simp)
  obtain ⟨w4, hw4⟩ : ∃ w4, w3.alloc (.map kindM 4) = w4 := ⟨_, rfl⟩
  have h34 : Below w3.heap.size w3 w4 := by rw [← hw4]; exact (Below.refl _ _).alloc (Nat.le_refl _) _
  have m4 : w4.heap[w3.heap.size]? = some (.map kindM 4) := by rw [← hw4]; exact heap_alloc_new _ _
  obtain ⟨w5, hw5⟩ : ∃ w5, w4.alloc (.map (doesM (.pointer (some ⟨w.heap.size, 0, none⟩)) (.pointer (some ⟨w.heap.size + 1, 0, none⟩)) (.pointer (some ⟨w.heap.size + 1 + 1, 0, none⟩))) 4) = w5 := ⟨_, rfl⟩
  have h45 : Below w4.heap.size w4 w5 := by rw [← hw5]; exact (Below.refl _ _).alloc (Nat.le_refl _) _
  have m5 : w5.heap[w4.heap.size]? = some (.map (doesM (.pointer (some ⟨w.heap.size, 0, none⟩)) (.pointer (some ⟨w.heap.size + 1, 0, none⟩)) (.pointer (some ⟨w.heap.size + 1 + 1, 0, none⟩))) 4) := by rw [← hw5]; exact heap_alloc_new _ _
  have hb4 : Below w.heap.size w w4 := hb3.trans (h34.mono hb3.size)
  have hb5 : Below w.heap.size w w5 := hb4.trans (h45.mono hb4.size)
  have y4 : w4.cell? ⟨w.heap.size + 1, 0, none⟩ = some (.string vs) := (x4.all h34).cell rfl
  have y5 : w4.cell? ⟨w.heap.size + 1 + 1, 0, none⟩ = some (.slice A n c) := (x5.all h34).cell rfl
  have z3 : w5.cell? ⟨w.heap.size, 0, none⟩ = some (.pointer (some ⟨b, 0, none⟩)) := ((x3.all h34).all h45).cell rfl
  have z4 : w5.cell? ⟨w.heap.size + 1, 0, none⟩ = some (.string vs) := ((x4.all h34).all h45).cell rfl
  have z5 : w5.cell? ⟨w.heap.size + 1 + 1, 0, none⟩ = some (.slice A n c) := ((x5.all h34).all h45).cell rfl
  have hb05 : Below w0.heap.size w0 w5 := hb0.trans (hb5.mono hb0.size)
  have hb04 : Below w0.heap.size w0 w4 := hb0.trans (hb4.mono hb0.size)
  have z2 : w5.cell? ⟨b, 2, none⟩ = some tp := (h.box.all hb05).cell rfl
  have i0 := insK0 w3
  have i1 := insK1 w3
  have i2 := insK2 w3
  have i3 := insK3 w3
  unfold kindM at hw4
  rw [hw4] at i3
  have j0 := insD0 w4 (.pointer (some ⟨w.heap.size, 0, none⟩)) (.pointer (some ⟨w.heap.size + 1, 0, none⟩)) (.pointer (some ⟨w.heap.size + 1 + 1, 0, none⟩))
  have j1 := insD1 w4 (.pointer (some ⟨w.heap.size, 0, none⟩)) (.pointer (some ⟨w.heap.size + 1, 0, none⟩)) (.pointer (some ⟨w.heap.size + 1 + 1, 0, none⟩))
  have j2 := insD2 w4 (.pointer (some ⟨w.heap.size, 0, none⟩)) (.pointer (some ⟨w.heap.size + 1, 0, none⟩)) (.pointer (some ⟨w.heap.size + 1 + 1, 0, none⟩))
  have j3 := insD3 w4 (.pointer (some ⟨w.heap.size, 0, none⟩)) (.pointer (some ⟨w.heap.size + 1, 0, none⟩)) (.pointer (some ⟨w.heap.size + 1 + 1, 0, none⟩))
  unfold doesM at hw5
  rw [hw5] at j3
  have mk3 := run_makeMapN (P := Tryz.prog) 150 w3
  have mk4 := run_makeMapN (P := Tryz.prog) 153 w4
  have LK := Lib.hid (fun k (hk : kindV vs.data.toList = some k) => run_lookupS (P := Tryz.prog) Tryz.underlying150 Tryz.underlying9 m4 vs (kind_some hk).1)
  have LKn := Lib.hid (fun (hk : kindV vs.data.toList = none) => run_lookupN (P := Tryz.prog) Tryz.underlying150 Tryz.underlying9 m4 vs (zeroInt w4) (kind_none hk))
  have LD := Lib.hid (fun k (hk : doesV vs.data.toList = some k) => run_lookupS (P := Tryz.prog) Tryz.underlying153 Tryz.underlying9 m5 vs (does_some _ _ _ hk).1)
  have LDn := Lib.hid (fun (hk : doesV vs.data.toList = none) => run_lookupN (P := Tryz.prog) Tryz.underlying153 Tryz.underlying9 m5 vs (zeroFn w5) (does_none _ _ _ hk))
  have Hb4 := Lib.hid hb04
  have Hb5 := Lib.hid hb05
  have Hb55 := Lib.hid hb5
  have Hvl := Lib.hid hvl
  have HSt := Lib.hid h
  have Hx3 := Lib.hid x3
  have Hvs := Lib.hid hvs
  rw [← hvl]
  clear h hb3 hb4 hb5 hb04 hb05 x3 x4 x5 h34 h45 m4 m5 hw4 hw5 hvl hvs
  go_enter Tryz.func61, Tryz.ntmps61
  go_wp2_with fail
  clear hw3
  cases hk : kindV vs.data.toList with
  | some k =>
    have lk := LK.out k hk
    have ld := LDn.out (kind_does hk)
    clear LK LKn LD LDn
    have HE := Lib.hid (show dAct D vs.data.toList l = (if n ≠ needD k then none else match D.T with
        | none => some (D, stateL)
        | some T => some (dAsk D T k l)) by unfold dAct; rw [hk, HN.out]; rfl)
    by_cases h3 : k = 3
    · have HQ := Lib.hid (show needD k = 3 from if_pos h3)
      have g4 : ((k : Int) == 3) = true := by simp; omega
      clear h3 hk
      by_cases hnk : n = 3
      case neg =>
        have g1 : ((n : Int) == 3) = false := by simp; omega
        have g2 : ((n : Int) != 3) = true := by simp; omega
        have HE2 := Lib.hid (show dAct D vs.data.toList l = none by rw [HE.out, HQ.out, if_pos hnk])
        clear hnk HE
        rw [lk]
        simp only [Result.andThen]
        rw [Oper.upon_value]
        go_wp2_with fail
        go_ret2
        rw [HE2.out]
        exact ⟨rfl, Hb4.out⟩
      case pos =>
        have g1 : ((n : Int) == 3) = true := by simp; omega
        have g2 : ((n : Int) != 3) = false := by simp; omega
        have Hn := Lib.hid hnk
        clear hnk
        rcases HSt.out.tr with ⟨hT, htp, hto⟩ | ⟨T, bt, p, v1, A1, hT, htp, hTr⟩
        · subst htp
          have HE2 := Lib.hid (show dAct D vs.data.toList l = some (D, stateL) by rw [HE.out, HQ.out, if_neg (fun e => e Hn.out), hT])
          clear HE hT
          rw [lk]
          simp only [Result.andThen]
          rw [Oper.upon_value]
          go_wp2_with fail
          go_ret2
          rw [HE2.out]
          exact ⟨rfl, DkPost.same H.out Hb5.out _⟩
        · subst htp
          have HE2 := Lib.hid (show dAct D vs.data.toList l = some (dAsk D T k l) by rw [HE.out, HQ.out, if_neg (fun e => e Hn.out), hT])
          have HT := Lib.hid hT
          have HTr := Lib.hid hTr
          clear HE hT hTr
          rw [lk]
          simp only [Result.andThen]
          rw [Oper.upon_value]
          go_wp2_with fail
          obtain ⟨g, hAg, hg1, hg2, hgc⟩ := HA.out.head (by rw [length_castL, HN.out, Hn.out]; decide)
          subst hAg
          have Hg1 := Lib.hid hg1
          have hd5 : Below w5.heap.size w5 ((w5.alloc (.cells #[.int .i64 0] 3)).drew) := ((Below.refl _ _).alloc (Nat.le_refl _) _).drew
          have hgl : g < w5.heap.size := Nat.lt_of_lt_of_le hg2 Hb55.out.size
          have u0 : w5.cell? ⟨g, 0, none⟩ = some (.int .i64 ((l.getD 0 0 : Nat) : Int)) := (Hb55.out.cell (p := ⟨g, 0, none⟩) hg2).trans (hgc 0 _ (castL_nth (by rw [HN.out, Hn.out]; decide)))
          have u1 : w5.cell? ⟨g, 1, none⟩ = some (.int .i64 ((l.getD 1 0 : Nat) : Int)) := (Hb55.out.cell (p := ⟨g, 1, none⟩) hg2).trans (hgc 1 _ (castL_nth (by rw [HN.out, Hn.out]; decide)))
          have s3 := (hd5.cell (p := ⟨w.heap.size, 0, none⟩) (block_lt z3)).trans z3
          have s5 := (hd5.cell (p := ⟨w.heap.size + 1 + 1, 0, none⟩) (block_lt z5)).trans z5
          have s2 := (hd5.cell (p := ⟨b, 2, none⟩) (block_lt z2)).trans z2
          have s0 := (hd5.cell (p := ⟨g, 0, none⟩) hgl).trans u0
          have s1 := (hd5.cell (p := ⟨g, 1, none⟩) hgl).trans u1
          have HoA := Lib.hid ((HA.out.next Hb55.out).next hd5)
          have hpc : ((w5.alloc (.cells #[.int .i64 0] 3)).drew).cell? ⟨w5.heap.size, 0, none⟩ = some (.int .i64 0) := cell_of_row _ _ 0 _ _ _ (heap_alloc_new _ _)
          have hlen := Lib.hid (show (castL l).length = n by rw [length_castL, HN.out])
          have hbase : w0.heap.size ≤ ((w5.alloc (.cells #[.int .i64 0] 3)).drew).heap.size := Nat.le_trans Hb5.out.size hd5.size
          have ng3 : w.heap.size ≠ g := by omega
          have ng5 : w.heap.size + 1 + 1 ≠ g := by omega
          have ngb : b ≠ g := by have := H.out.lt H.out.ob; omega
          have Hc0 := Lib.hid (castL_nth (l := l) (j := 0) (by rw [HN.out, Hn.out]; decide))
          have Hc1 := Lib.hid (castL_nth (l := l) (j := 1) (by rw [HN.out, Hn.out]; decide))
          have Hlast := Lib.hid (show (castL l ++ [(0 : Int)])[2]? = some ((l.getD 2 0 : Nat) : Int) from castL_last3 (by rw [HN.out, Hn.out]))
          have q0 : (0 : Int) < (n : Int) := by rw [Hn.out]; decide
          have q1 : (1 : Int) < (n : Int) := by rw [Hn.out]; decide
          have q2 : (2 : Int) < (n : Int) + 1 := by rw [Hn.out]; decide
          have p0 : 0 < n := by rw [Hn.out]; decide
          have p1 : 1 < n := by rw [Hn.out]; decide
          have p2 : 2 < n + 1 := by rw [Hn.out]; decide
          have Hb6 := Lib.hid (Hb5.out.trans (hd5.mono Hb5.out.size))
          have CA := Lib.hid (fun V (hV : Below w0.heap.size w0 V) => (Ask_dk hG (hbW.trans (hV.mono hbW.size)) (HSt.out.keep (fun j hj => hV.block j (HSt.out.lt j hj)) hV.size) (HTr.out.below hV) HT.out k l).mono fun e w' ⟨he, hp, hq⟩ => (⟨he, DkPost.next H.out hV hp, hq⟩ : e = Ending.returned (errVal (tAsk D.U D.F T k (l.getD 0 0 : Nat) (l.getD 1 0 : Nat) (l.getD 2 0 : Nat)).2) ∧ DkPost W0.heap.size own w0 b (dAsk D T k l) (Ending.returned (.string ⟨(dAsk D T k l).2.toArray⟩)) w' ∧ QKeeps tq V w'))
          have HW := Lib.hid (fun V r e (hp : DkPost W0.heap.size own w0 b r e V) => hp.glob hG hbW H.out)
          have CT := Lib.hid (fun V (hV : ErrT V) => dkTold_any (tAsk D.U D.F T k (l.getD 0 0 : Nat) (l.getD 1 0 : Nat) (l.getD 2 0 : Nat)).2 V hV)
          have HE3 := Lib.hid (show (dAsk D T k l).2 = toldE (tAsk D.U D.F T k (l.getD 0 0 : Nat) (l.getD 1 0 : Nat) (l.getD 2 0 : Nat)).2 from rfl)
          generalize tAsk D.U D.F T k (l.getD 0 0 : Nat) (l.getD 1 0 : Nat) (l.getD 2 0 : Nat) = ta at *
          generalize l.getD 0 0 = x0 at *
          generalize l.getD 1 0 = x1 at *
          generalize l.getD 2 0 = x2 at *
          have HS5 := Lib.hid (show w5.drew.cell? ⟨w.heap.size, 0, none⟩ = some (.pointer (some ⟨b, 0, none⟩)) ∧ w5.drew.cell? ⟨w.heap.size + 1 + 1, 0, none⟩ = some (.slice (some ⟨g, 0, none⟩) n c) ∧ w5.drew.cell? ⟨b, 2, none⟩ = some (.pointer (some ⟨bt, 0, none⟩)) ∧ w5.drew.cell? ⟨g, 0, none⟩ = some (.int .i64 (x0 : Int)) ∧ w5.drew.cell? ⟨g, 1, none⟩ = some (.int .i64 (x1 : Int)) from ⟨z3, z5, z2, u0, u1⟩)
          have HS6 := Lib.hid (show ((w5.alloc (.cells #[.int .i64 0] 3)).drew).cell? ⟨w.heap.size, 0, none⟩ = some (.pointer (some ⟨b, 0, none⟩)) ∧ ((w5.alloc (.cells #[.int .i64 0] 3)).drew).cell? ⟨w.heap.size + 1 + 1, 0, none⟩ = some (.slice (some ⟨g, 0, none⟩) n c) ∧ ((w5.alloc (.cells #[.int .i64 0] 3)).drew).cell? ⟨b, 2, none⟩ = some (.pointer (some ⟨bt, 0, none⟩)) ∧ ((w5.alloc (.cells #[.int .i64 0] 3)).drew).cell? ⟨g, 0, none⟩ = some (.int .i64 (x0 : Int)) ∧ ((w5.alloc (.cells #[.int .i64 0] 3)).drew).cell? ⟨g, 1, none⟩ = some (.int .i64 (x1 : Int)) from ⟨s3, s5, s2, s0, s1⟩)
          have HnT := Lib.hid (show ¬ tq w.heap.size ∧ ¬ tq (w.heap.size + 1 + 1) ∧ ¬ tq b ∧ ¬ tq g from ⟨fun e => by have := HSt.out.lt _ (HSt.out.oT _ e).1; omega, fun e => by have := HSt.out.lt _ (HSt.out.oT _ e).1; omega, fun e => (HSt.out.oT _ e).2 rfl, fun e => by have := HSt.out.lt _ (HSt.out.oT _ e).1; omega⟩)
          clear hgc hg1 hg2 hgl hd5
          refine wp_region_held_drew (S := (fun V => V.cell? ⟨w.heap.size, 0, none⟩ = some (.pointer (some ⟨b, 0, none⟩)) ∧ V.cell? ⟨w.heap.size + 1 + 1, 0, none⟩ = some (.slice (some ⟨g, 0, none⟩) n c) ∧ V.cell? ⟨b, 2, none⟩ = some (.pointer (some ⟨bt, 0, none⟩)) ∧ V.cell? ⟨g, 0, none⟩ = some (.int .i64 (x0 : Int)) ∧ V.cell? ⟨g, 1, none⟩ = some (.int .i64 (x1 : Int)))) (by kernel_rfl) HS5.out (fun hHeld => ?_)
          refine wpAnyH_take (i := 0) (oi := _) (v := ?v0) rfl (by kernel_rfl) (by kernel_rfl) (by kernel_rfl) (fun _ _ _ h => h) (Or.inl ⟨by rfl, ?hy0⟩) (by assumption) ?rest0
          case hy0 => (intro w hSw; (try dsimp only at hSw); go_simp; (try with_reducible rfl))
          try simp only [Act.put, List.setIfInBounds_toArray, List.set_cons_zero, List.set_cons_succ]
          refine wpAnyH_take (i := 1) (oi := _) (v := ?v1) rfl (by kernel_rfl) (by kernel_rfl) (by kernel_rfl) (fun _ _ _ h => h) (Or.inl ⟨by rfl, ?hy1⟩) (by assumption) ?rest1
          case hy1 => (intro w hSw; (try dsimp only at hSw); go_simp; (try with_reducible rfl))
          try simp only [Act.put, List.setIfInBounds_toArray, List.set_cons_zero, List.set_cons_succ]
          refine wpAnyH_take (i := 2) (oi := _) (v := ?v2) rfl (by kernel_rfl) (by kernel_rfl) (by kernel_rfl) (fun _ _ _ h => h) (Or.inl ⟨by rfl, ?hy2⟩) (by assumption) ?rest2
          case hy2 => (intro w hSw; (try dsimp only at hSw); go_simp; (try with_reducible rfl))
          try simp only [Act.put, List.setIfInBounds_toArray, List.set_cons_zero, List.set_cons_succ]
          refine wpAnyH_take (i := 3) (oi := _) (v := ?v3) rfl (by kernel_rfl) (by kernel_rfl) (by kernel_rfl) (fun _ _ _ h => h) (Or.inl ⟨by rfl, ?hy3⟩) (by assumption) ?rest3
          case hy3 => (intro w hSw; (try dsimp only at hSw); go_simp; (try with_reducible rfl))
          try simp only [Act.put, List.setIfInBounds_toArray, List.set_cons_zero, List.set_cons_succ]
          refine wpAnyH_take (i := 4) (oi := _) (v := ?v4) rfl (by kernel_rfl) (by kernel_rfl) (by kernel_rfl) (fun _ _ _ h => h) (Or.inl ⟨by rfl, ?hy4⟩) (by assumption) ?rest4
          case hy4 => (intro w hSw; (try dsimp only at hSw); go_simp; (try with_reducible rfl))
          try simp only [Act.put, List.setIfInBounds_toArray, List.set_cons_zero, List.set_cons_succ]
          refine wpAnyH_take (i := 5) (oi := _) (v := ?v5) rfl (by kernel_rfl) (by kernel_rfl) (by kernel_rfl) (fun _ _ _ h => h) (Or.inl ⟨by rfl, ?hy5⟩) (by assumption) ?rest5
          case hy5 => (intro w hSw; (try dsimp only at hSw); go_simp; (try with_reducible rfl))
          try simp only [Act.put, List.setIfInBounds_toArray, List.set_cons_zero, List.set_cons_succ]
          refine wpAnyH_take (i := 6) (oi := _) (v := ?v6) rfl (by kernel_rfl) (by kernel_rfl) (by kernel_rfl) (fun _ _ _ h => h) (Or.inl ⟨by rfl, ?hy6⟩) (by assumption) ?rest6
          case hy6 => (intro w hSw; (try dsimp only at hSw); go_simp; (try with_reducible rfl))
          try simp only [Act.put, List.setIfInBounds_toArray, List.set_cons_zero, List.set_cons_succ]
          refine wpAnyH_take (i := 7) (oi := _) (v := ?v7) rfl (by kernel_rfl) (by kernel_rfl) (by kernel_rfl) (fun _ _ _ h => h) (Or.inl ⟨by rfl, ?hy7⟩) (by assumption) ?rest7
          case hy7 => (intro w hSw; (try dsimp only at hSw); go_simp; (try with_reducible rfl))
          try simp only [Act.put, List.setIfInBounds_toArray, List.set_cons_zero, List.set_cons_succ]
          refine wpAnyH_take (i := 8) (oi := _) (v := ?v8) rfl (by kernel_rfl) (by kernel_rfl) (by kernel_rfl) (fun _ _ _ h => h) (Or.inl ⟨by rfl, ?hy8⟩) (by assumption) ?rest8
          case hy8 => (intro w hSw; (try dsimp only at hSw); go_simp; (try with_reducible rfl))
          try simp only [Act.put, List.setIfInBounds_toArray, List.set_cons_zero, List.set_cons_succ]
          refine wpAnyH_take (i := 9) (oi := _) (v := ?v9) rfl (by kernel_rfl) (by kernel_rfl) (by kernel_rfl) (fun _ _ _ h => h) (Or.inl ⟨by rfl, ?hy9⟩) (by assumption) ?rest9
          case hy9 => (intro w hSw; (try dsimp only at hSw); go_simp; (try with_reducible rfl))
          try simp only [Act.put, List.setIfInBounds_toArray, List.set_cons_zero, List.set_cons_succ]
          refine wpAnyH_take (i := 10) (oi := _) (v := ?v10) rfl (by kernel_rfl) (by kernel_rfl) (by kernel_rfl) (fun _ _ _ h => h) (Or.inl ⟨by rfl, ?hy10⟩) (by assumption) ?rest10
          case hy10 => (intro w hSw; (try dsimp only at hSw); go_simp; (try with_reducible rfl))
          try simp only [Act.put, List.setIfInBounds_toArray, List.set_cons_zero, List.set_cons_succ]
          refine wpAnyH_take (i := 11) (oi := _) (v := ?v11) rfl (by kernel_rfl) (by kernel_rfl) (by kernel_rfl) (fun _ _ _ h => h) (Or.inl ⟨by rfl, ?hy11⟩) (by assumption) ?rest11
          case hy11 => (intro w hSw; (try dsimp only at hSw); go_simp; (try with_reducible rfl))
          try simp only [Act.put, List.setIfInBounds_toArray, List.set_cons_zero, List.set_cons_succ]
          refine wpAnyH_ready (rs := [12]) (by kernel_rfl) (by simp) ?_
          refine AllReadyH.cons (i := 12) (o := _) rfl (fun K hK => ?_) AllReadyH.nil
          go_simp
          refine hK.out _ _ HS6.out (fun hHeld => ?_)
          clear hK K
          try simp only [Act.put, List.setIfInBounds_toArray, List.set_cons_zero, List.set_cons_succ]
          refine wpAnyH_ready (rs := [13]) (by kernel_rfl) (by simp) ?_
          refine AllReadyH.cons (i := 13) (o := _) rfl (fun K hK => ?_) AllReadyH.nil
          refine step_push_keep (by rfl) _ _ (by rfl) (by rfl) hlen.out HoA.out w5.heap.size 0 (by rfl) hpc (by omega) hbase ?_
          intro B' cc' w7 hi7 hgr7 hk7 hlow7
          have HS7 := Lib.hid (show w7.cell? ⟨w.heap.size, 0, none⟩ = some (.pointer (some ⟨b, 0, none⟩)) ∧ w7.cell? ⟨w.heap.size + 1 + 1, 0, none⟩ = some (.slice (some ⟨g, 0, none⟩) n c) ∧ w7.cell? ⟨b, 2, none⟩ = some (.pointer (some ⟨bt, 0, none⟩)) ∧ w7.cell? ⟨g, 0, none⟩ = some (.int .i64 (x0 : Int)) ∧ w7.cell? ⟨g, 1, none⟩ = some (.int .i64 (x1 : Int)) from ⟨(cell_keepB (a := ⟨w.heap.size, 0, none⟩) (hgr7.block _ (block_lt s3) (fun e => ng3 (Option.some.inj e)))).trans s3, (cell_keepB (a := ⟨w.heap.size + 1 + 1, 0, none⟩) (hgr7.block _ (block_lt s5) (fun e => ng5 (Option.some.inj e)))).trans s5, (cell_keepB (a := ⟨b, 2, none⟩) (hgr7.block _ (block_lt s2) (fun e => ngb (Option.some.inj e)))).trans s2, hk7 0 _ Hc0.out, hk7 1 _ Hc1.out⟩)
          obtain ⟨b8, o8, rfl, hc8⟩ := hi7 (by simp)
          have e8 := hc8 2 _ Hlast.out
          have hb7 := Lib.hid (Hb6.out.grown hgr7 hbase (fun k hk => Nat.le_trans Hg1.out (Nat.le_of_eq (Option.some.inj hk))))
          refine hK.out _ _ HS7.out (fun hHeld => ?_)
          clear hK K
          try simp only [Act.put, List.setIfInBounds_toArray, List.set_cons_zero, List.set_cons_succ]
          have hLow := Lib.hid (hlow7 _ _ rfl)
          refine wpAnyH_mono (S' := (fun V => (V.cell? ⟨w.heap.size, 0, none⟩ = some (.pointer (some ⟨b, 0, none⟩)) ∧ V.cell? ⟨w.heap.size + 1 + 1, 0, none⟩ = some (.slice (some ⟨g, 0, none⟩) n c) ∧ V.cell? ⟨b, 2, none⟩ = some (.pointer (some ⟨bt, 0, none⟩)) ∧ V.cell? ⟨g, 0, none⟩ = some (.int .i64 (x0 : Int)) ∧ V.cell? ⟨g, 1, none⟩ = some (.int .i64 (x1 : Int))) ∧ V.cell? ⟨b8, o8 + 2, none⟩ = some (.int .i64 (x2 : Int)))) (fun _ h => h.1) _ _ _ _ ?_
          replace hHeld := (⟨HS7.out, e8⟩ : (fun V => (V.cell? ⟨w.heap.size, 0, none⟩ = some (.pointer (some ⟨b, 0, none⟩)) ∧ V.cell? ⟨w.heap.size + 1 + 1, 0, none⟩ = some (.slice (some ⟨g, 0, none⟩) n c) ∧ V.cell? ⟨b, 2, none⟩ = some (.pointer (some ⟨bt, 0, none⟩)) ∧ V.cell? ⟨g, 0, none⟩ = some (.int .i64 (x0 : Int)) ∧ V.cell? ⟨g, 1, none⟩ = some (.int .i64 (x1 : Int))) ∧ V.cell? ⟨b8, o8 + 2, none⟩ = some (.int .i64 (x2 : Int))) w7)
          refine wpAnyH_take (i := 14) (oi := _) (v := ?v14) rfl (by kernel_rfl) (by kernel_rfl) (by kernel_rfl) (fun _ _ _ h => h) (Or.inl ⟨by rfl, ?hy14⟩) (by assumption) ?rest14
          case hy14 => (intro w hSw; (try dsimp only at hSw); go_simp; (try with_reducible rfl))
          try simp only [Act.put, List.setIfInBounds_toArray, List.set_cons_zero, List.set_cons_succ]
          refine wpAnyH_take (i := 15) (oi := _) (v := ?v15) rfl (by kernel_rfl) (by kernel_rfl) (by kernel_rfl) (fun _ _ _ h => h) (Or.inl ⟨by rfl, ?hy15⟩) (by assumption) ?rest15
          case hy15 => (intro w hSw; (try dsimp only at hSw); go_simp; (try with_reducible rfl))
          try simp only [Act.put, List.setIfInBounds_toArray, List.set_cons_zero, List.set_cons_succ]
          refine wpAnyH_take (i := 16) (oi := _) (v := ?v16) rfl (by kernel_rfl) (by kernel_rfl) (by kernel_rfl) (fun _ _ _ h => h) (Or.inl ⟨by rfl, ?hy16⟩) (by assumption) ?rest16
          case hy16 => (intro w hSw; (try dsimp only at hSw); go_simp; (try with_reducible rfl))
          try simp only [Act.put, List.setIfInBounds_toArray, List.set_cons_zero, List.set_cons_succ]
          refine wpAnyH_ready (rs := [17]) (by kernel_rfl) (by simp) ?_
          refine AllReadyH.cons (i := 17) (o := _) rfl (fun K hK => ?_) AllReadyH.nil
          go_simp
          go_at_call 91
          with_reducible refine (CA.out _ hb7.out).mono ?_
          rintro e w8 ⟨rfl, hp8, hq8⟩
          have HS8 := Lib.hid (show w8.cell? ⟨w.heap.size, 0, none⟩ = some (.pointer (some ⟨b, 0, none⟩)) ∧ w8.cell? ⟨w.heap.size + 1 + 1, 0, none⟩ = some (.slice (some ⟨g, 0, none⟩) n c) ∧ w8.cell? ⟨b, 2, none⟩ = some (.pointer (some ⟨bt, 0, none⟩)) ∧ w8.cell? ⟨g, 0, none⟩ = some (.int .i64 (x0 : Int)) ∧ w8.cell? ⟨g, 1, none⟩ = some (.int .i64 (x1 : Int)) from ⟨(cell_keepB (a := ⟨w.heap.size, 0, none⟩) (hq8.block _ (block_lt HS7.out.1) HnT.out.1)).trans HS7.out.1, (cell_keepB (a := ⟨w.heap.size + 1 + 1, 0, none⟩) (hq8.block _ (block_lt HS7.out.2.1) HnT.out.2.1)).trans HS7.out.2.1, (cell_keepB (a := ⟨b, 2, none⟩) (hq8.block _ (block_lt HS7.out.2.2.1) HnT.out.2.2.1)).trans HS7.out.2.2.1, (cell_keepB (a := ⟨g, 0, none⟩) (hq8.block _ (block_lt HS7.out.2.2.2.1) HnT.out.2.2.2)).trans HS7.out.2.2.2.1, (cell_keepB (a := ⟨g, 1, none⟩) (hq8.block _ (block_lt HS7.out.2.2.2.2) HnT.out.2.2.2)).trans HS7.out.2.2.2.2⟩)
          have hE8 := HW.out _ _ _ hp8
          have e88 := (cell_keepB (a := ⟨b8, o8 + 2, none⟩) (hq8.block _ (block_lt e8) (fun e => by have h1 := HSt.out.lt _ (HSt.out.oT _ e).1; have h2 := hLow.out; dsimp only at h1; omega))).trans e8
          refine hK.out _ _ ⟨HS8.out, e88⟩ (fun hHeld => ?_)
          clear hK K
          try simp only [Act.put, List.setIfInBounds_toArray, List.set_cons_zero, List.set_cons_succ]
          refine wpAnyH_ready (rs := [18]) (by kernel_rfl) (by simp) ?_
          refine AllReadyH.cons (i := 18) (o := _) rfl (fun K hK => ?_) AllReadyH.nil
          go_simp
          go_at_call 80
          with_reducible refine (CT.out _ hE8).mono ?_
          rintro e w9 ⟨rfl, hb9⟩
          have HS9 := Lib.hid (show w9.cell? ⟨w.heap.size, 0, none⟩ = some (.pointer (some ⟨b, 0, none⟩)) ∧ w9.cell? ⟨w.heap.size + 1 + 1, 0, none⟩ = some (.slice (some ⟨g, 0, none⟩) n c) ∧ w9.cell? ⟨b, 2, none⟩ = some (.pointer (some ⟨bt, 0, none⟩)) ∧ w9.cell? ⟨g, 0, none⟩ = some (.int .i64 (x0 : Int)) ∧ w9.cell? ⟨g, 1, none⟩ = some (.int .i64 (x1 : Int)) from ⟨(hb9.cell (p := ⟨w.heap.size, 0, none⟩) (block_lt HS8.out.1)).trans HS8.out.1, (hb9.cell (p := ⟨w.heap.size + 1 + 1, 0, none⟩) (block_lt HS8.out.2.1)).trans HS8.out.2.1, (hb9.cell (p := ⟨b, 2, none⟩) (block_lt HS8.out.2.2.1)).trans HS8.out.2.2.1, (hb9.cell (p := ⟨g, 0, none⟩) (block_lt HS8.out.2.2.2.1)).trans HS8.out.2.2.2.1, (hb9.cell (p := ⟨g, 1, none⟩) (block_lt HS8.out.2.2.2.2)).trans HS8.out.2.2.2.2⟩)
          have e89 := (hb9.cell (p := ⟨b8, o8 + 2, none⟩) (block_lt e88)).trans e88
          refine hK.out _ _ ⟨HS9.out, e89⟩ (fun hHeld => ?_)
          clear hK K
          try simp only [Act.put, List.setIfInBounds_toArray, List.set_cons_zero, List.set_cons_succ]
          refine wpAnyH_take (i := 19) (oi := _) (v := ?v19) rfl (by kernel_rfl) (by kernel_rfl) (by kernel_rfl) (fun _ _ _ h => h) (Or.inl ⟨by rfl, ?hy19⟩) (by assumption) ?rest19
          case hy19 => (intro w hSw; (try dsimp only at hSw); go_simp; (try with_reducible rfl))
          try simp only [Act.put, List.setIfInBounds_toArray, List.set_cons_zero, List.set_cons_succ]
          refine wpAnyH_take (i := 20) (oi := _) (v := ?v20) rfl (by kernel_rfl) (by kernel_rfl) (by kernel_rfl) (fun _ _ _ h => h) (Or.inl ⟨by rfl, ?hy20⟩) (by assumption) ?rest20
          case hy20 => (intro w hSw; (try dsimp only at hSw); go_simp; (try with_reducible rfl))
          try simp only [Act.put, List.setIfInBounds_toArray, List.set_cons_zero, List.set_cons_succ]
          refine wpAnyH_done (by kernel_rfl) ?_ _
          simp only [List.getElem_toArray, List.getElem_cons_succ, List.getElem_cons_zero, List.set_cons_succ, List.set_cons_zero]
          go_wp2_with fail
          go_ret2
          rw [HE2.out]
          exact ⟨by rw [HE3.out]; rfl, hp8.back hb9⟩
    · have HQ := Lib.hid (show needD k = 2 from if_neg h3)
      have g4 : ((k : Int) == 3) = false := by simp; omega
      clear h3 hk
      by_cases hnk : n = 2
      case neg =>
        have g1 : ((n : Int) == 2) = false := by simp; omega
        have g2 : ((n : Int) != 2) = true := by simp; omega
        have HE2 := Lib.hid (show dAct D vs.data.toList l = none by rw [HE.out, HQ.out, if_pos hnk])
        clear hnk HE
        rw [lk]
        simp only [Result.andThen]
        rw [Oper.upon_value]
        go_wp2_with fail
        go_ret2
        rw [HE2.out]
        exact ⟨rfl, Hb4.out⟩
      case pos =>
        have g1 : ((n : Int) == 2) = true := by simp; omega
        have g2 : ((n : Int) != 2) = false := by simp; omega
        have Hn := Lib.hid hnk
        clear hnk
        rcases HSt.out.tr with ⟨hT, htp, hto⟩ | ⟨T, bt, p, v1, A1, hT, htp, hTr⟩
        · subst htp
          have HE2 := Lib.hid (show dAct D vs.data.toList l = some (D, stateL) by rw [HE.out, HQ.out, if_neg (fun e => e Hn.out), hT])
          clear HE hT
          rw [lk]
          simp only [Result.andThen]
          rw [Oper.upon_value]
          go_wp2_with fail
          go_ret2
          rw [HE2.out]
          exact ⟨rfl, DkPost.same H.out Hb5.out _⟩
        · subst htp
          have HE2 := Lib.hid (show dAct D vs.data.toList l = some (dAsk D T k l) by rw [HE.out, HQ.out, if_neg (fun e => e Hn.out), hT])
          have HT := Lib.hid hT
          have HTr := Lib.hid hTr
          clear HE hT hTr
          rw [lk]
          simp only [Result.andThen]
          rw [Oper.upon_value]
          go_wp2_with fail
          obtain ⟨g, hAg, hg1, hg2, hgc⟩ := HA.out.head (by rw [length_castL, HN.out, Hn.out]; decide)
          subst hAg
          have Hg1 := Lib.hid hg1
          have hd5 : Below w5.heap.size w5 ((w5.alloc (.cells #[.int .i64 0] 3)).drew) := ((Below.refl _ _).alloc (Nat.le_refl _) _).drew
          have hgl : g < w5.heap.size := Nat.lt_of_lt_of_le hg2 Hb55.out.size
          have u0 : w5.cell? ⟨g, 0, none⟩ = some (.int .i64 ((l.getD 0 0 : Nat) : Int)) := (Hb55.out.cell (p := ⟨g, 0, none⟩) hg2).trans (hgc 0 _ (castL_nth (by rw [HN.out, Hn.out]; decide)))
          have u1 : w5.cell? ⟨g, 1, none⟩ = some (.int .i64 ((l.getD 1 0 : Nat) : Int)) := (Hb55.out.cell (p := ⟨g, 1, none⟩) hg2).trans (hgc 1 _ (castL_nth (by rw [HN.out, Hn.out]; decide)))
          have s3 := (hd5.cell (p := ⟨w.heap.size, 0, none⟩) (block_lt z3)).trans z3
          have s5 := (hd5.cell (p := ⟨w.heap.size + 1 + 1, 0, none⟩) (block_lt z5)).trans z5
          have s2 := (hd5.cell (p := ⟨b, 2, none⟩) (block_lt z2)).trans z2
          have s0 := (hd5.cell (p := ⟨g, 0, none⟩) hgl).trans u0
          have s1 := (hd5.cell (p := ⟨g, 1, none⟩) hgl).trans u1
          have HoA := Lib.hid ((HA.out.next Hb55.out).next hd5)
          have hpc : ((w5.alloc (.cells #[.int .i64 0] 3)).drew).cell? ⟨w5.heap.size, 0, none⟩ = some (.int .i64 0) := cell_of_row _ _ 0 _ _ _ (heap_alloc_new _ _)
          have hlen := Lib.hid (show (castL l).length = n by rw [length_castL, HN.out])
          have hbase : w0.heap.size ≤ ((w5.alloc (.cells #[.int .i64 0] 3)).drew).heap.size := Nat.le_trans Hb5.out.size hd5.size
          have ng3 : w.heap.size ≠ g := by omega
          have ng5 : w.heap.size + 1 + 1 ≠ g := by omega
          have ngb : b ≠ g := by have := H.out.lt H.out.ob; omega
          have Hc0 := Lib.hid (castL_nth (l := l) (j := 0) (by rw [HN.out, Hn.out]; decide))
          have Hc1 := Lib.hid (castL_nth (l := l) (j := 1) (by rw [HN.out, Hn.out]; decide))
          have Hlast := Lib.hid (show (castL l ++ [(0 : Int)])[2]? = some ((l.getD 2 0 : Nat) : Int) from castL_last2 (by rw [HN.out, Hn.out]))
          have q0 : (0 : Int) < (n : Int) := by rw [Hn.out]; decide
          have q1 : (1 : Int) < (n : Int) := by rw [Hn.out]; decide
          have q2 : (2 : Int) < (n : Int) + 1 := by rw [Hn.out]; decide
          have p0 : 0 < n := by rw [Hn.out]; decide
          have p1 : 1 < n := by rw [Hn.out]; decide
          have p2 : 2 < n + 1 := by rw [Hn.out]; decide
          have Hb6 := Lib.hid (Hb5.out.trans (hd5.mono Hb5.out.size))
          have CA := Lib.hid (fun V (hV : Below w0.heap.size w0 V) => (Ask_dk hG (hbW.trans (hV.mono hbW.size)) (HSt.out.keep (fun j hj => hV.block j (HSt.out.lt j hj)) hV.size) (HTr.out.below hV) HT.out k l).mono fun e w' ⟨he, hp, hq⟩ => (⟨he, DkPost.next H.out hV hp, hq⟩ : e = Ending.returned (errVal (tAsk D.U D.F T k (l.getD 0 0 : Nat) (l.getD 1 0 : Nat) (l.getD 2 0 : Nat)).2) ∧ DkPost W0.heap.size own w0 b (dAsk D T k l) (Ending.returned (.string ⟨(dAsk D T k l).2.toArray⟩)) w' ∧ QKeeps tq V w'))
          have HW := Lib.hid (fun V r e (hp : DkPost W0.heap.size own w0 b r e V) => hp.glob hG hbW H.out)
          have CT := Lib.hid (fun V (hV : ErrT V) => dkTold_any (tAsk D.U D.F T k (l.getD 0 0 : Nat) (l.getD 1 0 : Nat) (l.getD 2 0 : Nat)).2 V hV)
          have HE3 := Lib.hid (show (dAsk D T k l).2 = toldE (tAsk D.U D.F T k (l.getD 0 0 : Nat) (l.getD 1 0 : Nat) (l.getD 2 0 : Nat)).2 from rfl)
          generalize tAsk D.U D.F T k (l.getD 0 0 : Nat) (l.getD 1 0 : Nat) (l.getD 2 0 : Nat) = ta at *
          generalize l.getD 0 0 = x0 at *
          generalize l.getD 1 0 = x1 at *
          generalize l.getD 2 0 = x2 at *
          have HS5 := Lib.hid (show w5.drew.cell? ⟨w.heap.size, 0, none⟩ = some (.pointer (some ⟨b, 0, none⟩)) ∧ w5.drew.cell? ⟨w.heap.size + 1 + 1, 0, none⟩ = some (.slice (some ⟨g, 0, none⟩) n c) ∧ w5.drew.cell? ⟨b, 2, none⟩ = some (.pointer (some ⟨bt, 0, none⟩)) ∧ w5.drew.cell? ⟨g, 0, none⟩ = some (.int .i64 (x0 : Int)) ∧ w5.drew.cell? ⟨g, 1, none⟩ = some (.int .i64 (x1 : Int)) from ⟨z3, z5, z2, u0, u1⟩)
          have HS6 := Lib.hid (show ((w5.alloc (.cells #[.int .i64 0] 3)).drew).cell? ⟨w.heap.size, 0, none⟩ = some (.pointer (some ⟨b, 0, none⟩)) ∧ ((w5.alloc (.cells #[.int .i64 0] 3)).drew).cell? ⟨w.heap.size + 1 + 1, 0, none⟩ = some (.slice (some ⟨g, 0, none⟩) n c) ∧ ((w5.alloc (.cells #[.int .i64 0] 3)).drew).cell? ⟨b, 2, none⟩ = some (.pointer (some ⟨bt, 0, none⟩)) ∧ ((w5.alloc (.cells #[.int .i64 0] 3)).drew).cell? ⟨g, 0, none⟩ = some (.int .i64 (x0 : Int)) ∧ ((w5.alloc (.cells #[.int .i64 0] 3)).drew).cell? ⟨g, 1, none⟩ = some (.int .i64 (x1 : Int)) from ⟨s3, s5, s2, s0, s1⟩)
          have HnT := Lib.hid (show ¬ tq w.heap.size ∧ ¬ tq (w.heap.size + 1 + 1) ∧ ¬ tq b ∧ ¬ tq g from ⟨fun e => by have := HSt.out.lt _ (HSt.out.oT _ e).1; omega, fun e => by have := HSt.out.lt _ (HSt.out.oT _ e).1; omega, fun e => (HSt.out.oT _ e).2 rfl, fun e => by have := HSt.out.lt _ (HSt.out.oT _ e).1; omega⟩)
          clear hgc hg1 hg2 hgl hd5
          refine wp_region_held_drew (S := (fun V => V.cell? ⟨w.heap.size, 0, none⟩ = some (.pointer (some ⟨b, 0, none⟩)) ∧ V.cell? ⟨w.heap.size + 1 + 1, 0, none⟩ = some (.slice (some ⟨g, 0, none⟩) n c) ∧ V.cell? ⟨b, 2, none⟩ = some (.pointer (some ⟨bt, 0, none⟩)) ∧ V.cell? ⟨g, 0, none⟩ = some (.int .i64 (x0 : Int)) ∧ V.cell? ⟨g, 1, none⟩ = some (.int .i64 (x1 : Int)))) (by kernel_rfl) HS5.out (fun hHeld => ?_)
          refine wpAnyH_take (i := 0) (oi := _) (v := ?vv0) rfl (by kernel_rfl) (by kernel_rfl) (by kernel_rfl) (fun _ _ _ h => h) (Or.inl ⟨by rfl, ?hyy0⟩) (by assumption) ?restt0
          case hyy0 => (intro w hSw; (try dsimp only at hSw); go_simp; (try with_reducible rfl))
          try simp only [Act.put, List.setIfInBounds_toArray, List.set_cons_zero, List.set_cons_succ]
          refine wpAnyH_take (i := 1) (oi := _) (v := ?vv1) rfl (by kernel_rfl) (by kernel_rfl) (by kernel_rfl) (fun _ _ _ h => h) (Or.inl ⟨by rfl, ?hyy1⟩) (by assumption) ?restt1
          case hyy1 => (intro w hSw; (try dsimp only at hSw); go_simp; (try with_reducible rfl))
          try simp only [Act.put, List.setIfInBounds_toArray, List.set_cons_zero, List.set_cons_succ]
          refine wpAnyH_take (i := 2) (oi := _) (v := ?vv2) rfl (by kernel_rfl) (by kernel_rfl) (by kernel_rfl) (fun _ _ _ h => h) (Or.inl ⟨by rfl, ?hyy2⟩) (by assumption) ?restt2
          case hyy2 => (intro w hSw; (try dsimp only at hSw); go_simp; (try with_reducible rfl))
          try simp only [Act.put, List.setIfInBounds_toArray, List.set_cons_zero, List.set_cons_succ]
          refine wpAnyH_take (i := 3) (oi := _) (v := ?vv3) rfl (by kernel_rfl) (by kernel_rfl) (by kernel_rfl) (fun _ _ _ h => h) (Or.inl ⟨by rfl, ?hyy3⟩) (by assumption) ?restt3
          case hyy3 => (intro w hSw; (try dsimp only at hSw); go_simp; (try with_reducible rfl))
          try simp only [Act.put, List.setIfInBounds_toArray, List.set_cons_zero, List.set_cons_succ]
          refine wpAnyH_take (i := 4) (oi := _) (v := ?vv4) rfl (by kernel_rfl) (by kernel_rfl) (by kernel_rfl) (fun _ _ _ h => h) (Or.inl ⟨by rfl, ?hyy4⟩) (by assumption) ?restt4
          case hyy4 => (intro w hSw; (try dsimp only at hSw); go_simp; (try with_reducible rfl))
          try simp only [Act.put, List.setIfInBounds_toArray, List.set_cons_zero, List.set_cons_succ]
          refine wpAnyH_take (i := 5) (oi := _) (v := ?vv5) rfl (by kernel_rfl) (by kernel_rfl) (by kernel_rfl) (fun _ _ _ h => h) (Or.inl ⟨by rfl, ?hyy5⟩) (by assumption) ?restt5
          case hyy5 => (intro w hSw; (try dsimp only at hSw); go_simp; (try with_reducible rfl))
          try simp only [Act.put, List.setIfInBounds_toArray, List.set_cons_zero, List.set_cons_succ]
          refine wpAnyH_take (i := 6) (oi := _) (v := ?vv6) rfl (by kernel_rfl) (by kernel_rfl) (by kernel_rfl) (fun _ _ _ h => h) (Or.inl ⟨by rfl, ?hyy6⟩) (by assumption) ?restt6
          case hyy6 => (intro w hSw; (try dsimp only at hSw); go_simp; (try with_reducible rfl))
          try simp only [Act.put, List.setIfInBounds_toArray, List.set_cons_zero, List.set_cons_succ]
          refine wpAnyH_take (i := 7) (oi := _) (v := ?vv7) rfl (by kernel_rfl) (by kernel_rfl) (by kernel_rfl) (fun _ _ _ h => h) (Or.inl ⟨by rfl, ?hyy7⟩) (by assumption) ?restt7
          case hyy7 => (intro w hSw; (try dsimp only at hSw); go_simp; (try with_reducible rfl))
          try simp only [Act.put, List.setIfInBounds_toArray, List.set_cons_zero, List.set_cons_succ]
          refine wpAnyH_take (i := 8) (oi := _) (v := ?vv8) rfl (by kernel_rfl) (by kernel_rfl) (by kernel_rfl) (fun _ _ _ h => h) (Or.inl ⟨by rfl, ?hyy8⟩) (by assumption) ?restt8
          case hyy8 => (intro w hSw; (try dsimp only at hSw); go_simp; (try with_reducible rfl))
          try simp only [Act.put, List.setIfInBounds_toArray, List.set_cons_zero, List.set_cons_succ]
          refine wpAnyH_take (i := 9) (oi := _) (v := ?vv9) rfl (by kernel_rfl) (by kernel_rfl) (by kernel_rfl) (fun _ _ _ h => h) (Or.inl ⟨by rfl, ?hyy9⟩) (by assumption) ?restt9
          case hyy9 => (intro w hSw; (try dsimp only at hSw); go_simp; (try with_reducible rfl))
          try simp only [Act.put, List.setIfInBounds_toArray, List.set_cons_zero, List.set_cons_succ]
          refine wpAnyH_take (i := 10) (oi := _) (v := ?vv10) rfl (by kernel_rfl) (by kernel_rfl) (by kernel_rfl) (fun _ _ _ h => h) (Or.inl ⟨by rfl, ?hyy10⟩) (by assumption) ?restt10
          case hyy10 => (intro w hSw; (try dsimp only at hSw); go_simp; (try with_reducible rfl))
          try simp only [Act.put, List.setIfInBounds_toArray, List.set_cons_zero, List.set_cons_succ]
          refine wpAnyH_take (i := 11) (oi := _) (v := ?vv11) rfl (by kernel_rfl) (by kernel_rfl) (by kernel_rfl) (fun _ _ _ h => h) (Or.inl ⟨by rfl, ?hyy11⟩) (by assumption) ?restt11
          case hyy11 => (intro w hSw; (try dsimp only at hSw); go_simp; (try with_reducible rfl))
          try simp only [Act.put, List.setIfInBounds_toArray, List.set_cons_zero, List.set_cons_succ]
          refine wpAnyH_ready (rs := [12]) (by kernel_rfl) (by simp) ?_
          refine AllReadyH.cons (i := 12) (o := _) rfl (fun K hK => ?_) AllReadyH.nil
          go_simp
          refine hK.out _ _ HS6.out (fun hHeld => ?_)
          clear hK K
          try simp only [Act.put, List.setIfInBounds_toArray, List.set_cons_zero, List.set_cons_succ]
          refine wpAnyH_ready (rs := [13]) (by kernel_rfl) (by simp) ?_
          refine AllReadyH.cons (i := 13) (o := _) rfl (fun K hK => ?_) AllReadyH.nil
          refine step_push_keep (by rfl) _ _ (by rfl) (by rfl) hlen.out HoA.out w5.heap.size 0 (by rfl) hpc (by omega) hbase ?_
          intro B' cc' w7 hi7 hgr7 hk7 hlow7
          have HS7 := Lib.hid (show w7.cell? ⟨w.heap.size, 0, none⟩ = some (.pointer (some ⟨b, 0, none⟩)) ∧ w7.cell? ⟨w.heap.size + 1 + 1, 0, none⟩ = some (.slice (some ⟨g, 0, none⟩) n c) ∧ w7.cell? ⟨b, 2, none⟩ = some (.pointer (some ⟨bt, 0, none⟩)) ∧ w7.cell? ⟨g, 0, none⟩ = some (.int .i64 (x0 : Int)) ∧ w7.cell? ⟨g, 1, none⟩ = some (.int .i64 (x1 : Int)) from ⟨(cell_keepB (a := ⟨w.heap.size, 0, none⟩) (hgr7.block _ (block_lt s3) (fun e => ng3 (Option.some.inj e)))).trans s3, (cell_keepB (a := ⟨w.heap.size + 1 + 1, 0, none⟩) (hgr7.block _ (block_lt s5) (fun e => ng5 (Option.some.inj e)))).trans s5, (cell_keepB (a := ⟨b, 2, none⟩) (hgr7.block _ (block_lt s2) (fun e => ngb (Option.some.inj e)))).trans s2, hk7 0 _ Hc0.out, hk7 1 _ Hc1.out⟩)
          obtain ⟨b8, o8, rfl, hc8⟩ := hi7 (by simp)
          have e8 := hc8 2 _ Hlast.out
          have hb7 := Lib.hid (Hb6.out.grown hgr7 hbase (fun k hk => Nat.le_trans Hg1.out (Nat.le_of_eq (Option.some.inj hk))))
          refine hK.out _ _ HS7.out (fun hHeld => ?_)
          clear hK K
          try simp only [Act.put, List.setIfInBounds_toArray, List.set_cons_zero, List.set_cons_succ]
          have hLow := Lib.hid (hlow7 _ _ rfl)
          refine wpAnyH_mono (S' := (fun V => (V.cell? ⟨w.heap.size, 0, none⟩ = some (.pointer (some ⟨b, 0, none⟩)) ∧ V.cell? ⟨w.heap.size + 1 + 1, 0, none⟩ = some (.slice (some ⟨g, 0, none⟩) n c) ∧ V.cell? ⟨b, 2, none⟩ = some (.pointer (some ⟨bt, 0, none⟩)) ∧ V.cell? ⟨g, 0, none⟩ = some (.int .i64 (x0 : Int)) ∧ V.cell? ⟨g, 1, none⟩ = some (.int .i64 (x1 : Int))) ∧ V.cell? ⟨b8, o8 + 2, none⟩ = some (.int .i64 (x2 : Int)))) (fun _ h => h.1) _ _ _ _ ?_
          replace hHeld := (⟨HS7.out, e8⟩ : (fun V => (V.cell? ⟨w.heap.size, 0, none⟩ = some (.pointer (some ⟨b, 0, none⟩)) ∧ V.cell? ⟨w.heap.size + 1 + 1, 0, none⟩ = some (.slice (some ⟨g, 0, none⟩) n c) ∧ V.cell? ⟨b, 2, none⟩ = some (.pointer (some ⟨bt, 0, none⟩)) ∧ V.cell? ⟨g, 0, none⟩ = some (.int .i64 (x0 : Int)) ∧ V.cell? ⟨g, 1, none⟩ = some (.int .i64 (x1 : Int))) ∧ V.cell? ⟨b8, o8 + 2, none⟩ = some (.int .i64 (x2 : Int))) w7)
          refine wpAnyH_take (i := 14) (oi := _) (v := ?vv14) rfl (by kernel_rfl) (by kernel_rfl) (by kernel_rfl) (fun _ _ _ h => h) (Or.inl ⟨by rfl, ?hyy14⟩) (by assumption) ?restt14
          case hyy14 => (intro w hSw; (try dsimp only at hSw); go_simp; (try with_reducible rfl))
          try simp only [Act.put, List.setIfInBounds_toArray, List.set_cons_zero, List.set_cons_succ]
          refine wpAnyH_take (i := 15) (oi := _) (v := ?vv15) rfl (by kernel_rfl) (by kernel_rfl) (by kernel_rfl) (fun _ _ _ h => h) (Or.inl ⟨by rfl, ?hyy15⟩) (by assumption) ?restt15
          case hyy15 => (intro w hSw; (try dsimp only at hSw); go_simp; (try with_reducible rfl))
          try simp only [Act.put, List.setIfInBounds_toArray, List.set_cons_zero, List.set_cons_succ]
          refine wpAnyH_take (i := 16) (oi := _) (v := ?vv16) rfl (by kernel_rfl) (by kernel_rfl) (by kernel_rfl) (fun _ _ _ h => h) (Or.inl ⟨by rfl, ?hyy16⟩) (by assumption) ?restt16
          case hyy16 => (intro w hSw; (try dsimp only at hSw); go_simp; (try with_reducible rfl))
          try simp only [Act.put, List.setIfInBounds_toArray, List.set_cons_zero, List.set_cons_succ]
          refine wpAnyH_ready (rs := [17]) (by kernel_rfl) (by simp) ?_
          refine AllReadyH.cons (i := 17) (o := _) rfl (fun K hK => ?_) AllReadyH.nil
          go_simp
          go_at_call 91
          with_reducible refine (CA.out _ hb7.out).mono ?_
          rintro e w8 ⟨rfl, hp8, hq8⟩
          have HS8 := Lib.hid (show w8.cell? ⟨w.heap.size, 0, none⟩ = some (.pointer (some ⟨b, 0, none⟩)) ∧ w8.cell? ⟨w.heap.size + 1 + 1, 0, none⟩ = some (.slice (some ⟨g, 0, none⟩) n c) ∧ w8.cell? ⟨b, 2, none⟩ = some (.pointer (some ⟨bt, 0, none⟩)) ∧ w8.cell? ⟨g, 0, none⟩ = some (.int .i64 (x0 : Int)) ∧ w8.cell? ⟨g, 1, none⟩ = some (.int .i64 (x1 : Int)) from ⟨(cell_keepB (a := ⟨w.heap.size, 0, none⟩) (hq8.block _ (block_lt HS7.out.1) HnT.out.1)).trans HS7.out.1, (cell_keepB (a := ⟨w.heap.size + 1 + 1, 0, none⟩) (hq8.block _ (block_lt HS7.out.2.1) HnT.out.2.1)).trans HS7.out.2.1, (cell_keepB (a := ⟨b, 2, none⟩) (hq8.block _ (block_lt HS7.out.2.2.1) HnT.out.2.2.1)).trans HS7.out.2.2.1, (cell_keepB (a := ⟨g, 0, none⟩) (hq8.block _ (block_lt HS7.out.2.2.2.1) HnT.out.2.2.2)).trans HS7.out.2.2.2.1, (cell_keepB (a := ⟨g, 1, none⟩) (hq8.block _ (block_lt HS7.out.2.2.2.2) HnT.out.2.2.2)).trans HS7.out.2.2.2.2⟩)
          have hE8 := HW.out _ _ _ hp8
          have e88 := (cell_keepB (a := ⟨b8, o8 + 2, none⟩) (hq8.block _ (block_lt e8) (fun e => by have h1 := HSt.out.lt _ (HSt.out.oT _ e).1; have h2 := hLow.out; dsimp only at h1; omega))).trans e8
          refine hK.out _ _ ⟨HS8.out, e88⟩ (fun hHeld => ?_)
          clear hK K
          try simp only [Act.put, List.setIfInBounds_toArray, List.set_cons_zero, List.set_cons_succ]
          refine wpAnyH_ready (rs := [18]) (by kernel_rfl) (by simp) ?_
          refine AllReadyH.cons (i := 18) (o := _) rfl (fun K hK => ?_) AllReadyH.nil
          go_simp
          go_at_call 80
          with_reducible refine (CT.out _ hE8).mono ?_
          rintro e w9 ⟨rfl, hb9⟩
          have HS9 := Lib.hid (show w9.cell? ⟨w.heap.size, 0, none⟩ = some (.pointer (some ⟨b, 0, none⟩)) ∧ w9.cell? ⟨w.heap.size + 1 + 1, 0, none⟩ = some (.slice (some ⟨g, 0, none⟩) n c) ∧ w9.cell? ⟨b, 2, none⟩ = some (.pointer (some ⟨bt, 0, none⟩)) ∧ w9.cell? ⟨g, 0, none⟩ = some (.int .i64 (x0 : Int)) ∧ w9.cell? ⟨g, 1, none⟩ = some (.int .i64 (x1 : Int)) from ⟨(hb9.cell (p := ⟨w.heap.size, 0, none⟩) (block_lt HS8.out.1)).trans HS8.out.1, (hb9.cell (p := ⟨w.heap.size + 1 + 1, 0, none⟩) (block_lt HS8.out.2.1)).trans HS8.out.2.1, (hb9.cell (p := ⟨b, 2, none⟩) (block_lt HS8.out.2.2.1)).trans HS8.out.2.2.1, (hb9.cell (p := ⟨g, 0, none⟩) (block_lt HS8.out.2.2.2.1)).trans HS8.out.2.2.2.1, (hb9.cell (p := ⟨g, 1, none⟩) (block_lt HS8.out.2.2.2.2)).trans HS8.out.2.2.2.2⟩)
          have e89 := (hb9.cell (p := ⟨b8, o8 + 2, none⟩) (block_lt e88)).trans e88
          refine hK.out _ _ ⟨HS9.out, e89⟩ (fun hHeld => ?_)
          clear hK K
          try simp only [Act.put, List.setIfInBounds_toArray, List.set_cons_zero, List.set_cons_succ]
          refine wpAnyH_take (i := 19) (oi := _) (v := ?vv19) rfl (by kernel_rfl) (by kernel_rfl) (by kernel_rfl) (fun _ _ _ h => h) (Or.inl ⟨by rfl, ?hyy19⟩) (by assumption) ?restt19
          case hyy19 => (intro w hSw; (try dsimp only at hSw); go_simp; (try with_reducible rfl))
          try simp only [Act.put, List.setIfInBounds_toArray, List.set_cons_zero, List.set_cons_succ]
          refine wpAnyH_take (i := 20) (oi := _) (v := ?vv20) rfl (by kernel_rfl) (by kernel_rfl) (by kernel_rfl) (fun _ _ _ h => h) (Or.inl ⟨by rfl, ?hyy20⟩) (by assumption) ?restt20
          case hyy20 => (intro w hSw; (try dsimp only at hSw); go_simp; (try with_reducible rfl))
          try simp only [Act.put, List.setIfInBounds_toArray, List.set_cons_zero, List.set_cons_succ]
          refine wpAnyH_done (by kernel_rfl) ?_ _
          simp only [List.getElem_toArray, List.getElem_cons_succ, List.getElem_cons_zero, List.set_cons_succ, List.set_cons_zero]
          go_wp2_with fail
          go_ret2
          rw [HE2.out]
          exact ⟨by rw [HE3.out]; rfl, hp8.back hb9⟩
  | none =>
    have lk := LKn.out hk
    have HE := Lib.hid (show dAct D vs.data.toList l = (if n ≠ 1 then none else match doesV vs.data.toList with
        | none => none
        | some j => match D.T with
          | none => some (D, stateL)
          | some T => some (dDo D T vs.data.toList j (l.getD 0 0))) by unfold dAct; rw [hk, HN.out]; rfl)
    clear LK LKn hk
    by_cases hnk : n = 1
    case neg =>
      have g1 : ((n : Int) == 1) = false := by simp; omega
      have g2 : ((n : Int) != 1) = true := by simp; omega
      have HE2 := Lib.hid (show dAct D vs.data.toList l = none by rw [HE.out, if_pos hnk])
      clear hnk HE
      rw [lk]
      simp only [Result.andThen]
      rw [Oper.upon_value]
      go_wp2_with fail
      go_ret2
      rw [HE2.out]
      exact ⟨rfl, Hb4.out⟩
    case pos =>
      have g1 : ((n : Int) == 1) = true := by simp; omega
      have g2 : ((n : Int) != 1) = false := by simp; omega
      have Hn := Lib.hid hnk
      clear hnk
      cases hj : doesV vs.data.toList with
      | none =>
        have ld := LDn.out hj
        have HE2 := Lib.hid (show dAct D vs.data.toList l = none by rw [HE.out, if_neg (fun e => e Hn.out), hj])
        clear HE hj LD LDn
        rw [lk]
        simp only [Result.andThen]
        rw [Oper.upon_value]
        go_wp2_with fail
        go_ret2
        rw [HE2.out]
        exact ⟨rfl, Hb5.out⟩
      | some j =>
        have ld := LD.out j hj
        have Hv6 := Lib.hid (doesV_len hj)
        have hj4 := (does_some (.pointer none) (.pointer none) (.pointer none) hj).2
        rcases HSt.out.tr with ⟨hT, htp, hto⟩ | ⟨T, bt, p, v1, A1, hT, htp, hTr⟩
        · subst htp
          have HE2 := Lib.hid (show dAct D vs.data.toList l = some (D, stateL) by rw [HE.out, if_neg (fun e => e Hn.out), hj, hT])
          clear HE hj LD LDn hT
          rw [lk]
          simp only [Result.andThen]
          rw [Oper.upon_value]
          go_wp2_with fail
          go_ret2
          rw [HE2.out]
          exact ⟨rfl, DkPost.same H.out Hb5.out _⟩
        · subst htp
          have HE2 := Lib.hid (show dAct D vs.data.toList l = some (dDo D T vs.data.toList j (l.getD 0 0)) by rw [HE.out, if_neg (fun e => e Hn.out), hj, hT])
          have HT := Lib.hid hT
          clear HE hj LD LDn hT hTr
          obtain ⟨g, hAg, hg1, hg2, hgc⟩ := HA.out.head (by rw [length_castL, HN.out, Hn.out]; decide)
          subst hAg
          have u0 : w5.cell? ⟨g, 0, none⟩ = some (.int .i64 ((l.getD 0 0 : Nat) : Int)) := (Hb55.out.cell (p := ⟨g, 0, none⟩) hg2).trans (hgc 0 _ (castL_nth (by rw [HN.out, Hn.out]; decide)))
          have hbW5 := hbW.trans (Hb5.out.mono hbW.size)
          have hD5 := H.out.below Hb5.out
          have hv := Hv6.out
          have C0 := Lib.hid (actReads_any vs.data.toList hv hG hbW5 hD5 HT.out (by rw [Hn.out]; decide) z4 z3 z5 u0)
          have C1 := Lib.hid (actWrites_any vs.data.toList hv hG hbW5 hD5 HT.out (by rw [Hn.out]; decide) z4 z3 z5 u0)
          have C2 := Lib.hid (actHolds_any vs.data.toList hv hG hbW5 hD5 HT.out (by rw [Hn.out]; decide) z4 z3 z5 u0)
          have C3 := Lib.hid ((actCrash_any hG hbW5 hD5 HT.out (by rw [Hn.out]; decide) z3 z5 u0).mono fun e w' hp => (DkPost.next H.out Hb5.out hp).said)
          clear hv u0 hD5 hbW5 hgc hg1 hg2
          match j, hj4 with
          | 0, _ =>
            unfold doF at ld
            rw [lk]
            simp only [Result.andThen]
            rw [Oper.upon_value]
            go_wp2_with fail
            with_reducible refine C0.out.mono ?_
            rintro e w7 ⟨rfl, hp7⟩
            go_wp2_with fail
            go_ret2
            rw [HE2.out]
            exact ⟨rfl, DkPost.same H.out (Hb5.out.trans (hp7.mono Hb5.out.size)) _⟩
          | 1, _ =>
            unfold doF at ld
            rw [lk]
            simp only [Result.andThen]
            rw [Oper.upon_value]
            go_wp2_with fail
            with_reducible refine C1.out.mono ?_
            rintro e w7 ⟨rfl, hp7⟩
            go_wp2_with fail
            go_ret2
            rw [HE2.out]
            exact ⟨rfl, DkPost.same H.out (Hb5.out.trans (hp7.mono Hb5.out.size)) _⟩
          | 2, _ =>
            unfold doF at ld
            rw [lk]
            simp only [Result.andThen]
            rw [Oper.upon_value]
            go_wp2_with fail
            with_reducible refine C2.out.mono ?_
            rintro e w7 ⟨rfl, hp7⟩
            go_wp2_with fail
            go_ret2
            rw [HE2.out]
            exact ⟨rfl, DkPost.same H.out (Hb5.out.trans (hp7.mono Hb5.out.size)) _⟩
          | 3, _ =>
            unfold doF at ld
            rw [lk]
            simp only [Result.andThen]
            rw [Oper.upon_value]
            go_wp2_with fail
            with_reducible refine C3.out.mono ?_
            rintro e w7 ⟨rfl, hp7⟩
            go_wp2_with fail
            go_ret2
            rw [HE2.out]
            exact ⟨rfl, hp7⟩
end
end Go.Proofs.YtanlmfnhlldkeaaGreatDoor
