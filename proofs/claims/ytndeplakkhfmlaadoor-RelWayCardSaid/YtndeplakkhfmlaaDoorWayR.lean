/-
  Contract: rel.Way: the least of the shortest ways.
-/
import Derived.Test.YtndeplakkhfmlaaDoorWayAt
namespace Go.Proofs.YtndeplakkhfmlaaDoor
open Go.RowKit
attribute [local go_sem] Oper.semAt_some
attribute [local simp, local go_sem] wide_fn
set_option maxRecDepth 100000
set_option linter.unusedVariables false

/-- The way back, as far as it is told. -/
def backW (ps : List (List Nat)) (k : Int) : List Nat := if k < 0 then [] else ps.getD k.toNat []

set_option maxHeartbeats 8000000 in
theorem Way_ok (r : List Nat) (hlen : r.length ≤ 12) (hb : Bd r.length r) (A : Option Addr) (c n a b : Nat) (hn : r.length = n) (ha : a < n) (hbn : b < n) (w : World) (h : IntsAt w A (castL r)) (hT : Tab w) :
    Calls Tryd.prog 27 #[.slice A n c, .int .i64 a, .int .i64 b] w fun e w' => RWayPost r a b e w' ∧ Below w.heap.size w w' := by
  refine (callsIn_wide (n := 8)).1 ?_
  have hg := hT.lt
  have hch := Check_any (castL r) A c w h (by rw [length_castL]; omega)
  rw [relCode_cast hlen hb, length_castL, hn, errVal_zero] at hch
  have Hch := Lib.hid hch
  have W1 := Lib.hid (fun V => Within3_is (a : Int) 0 ((n : Int) - 1) true V (by simp; omega))
  have W2 := Lib.hid (fun V => Within3_is (b : Int) 0 ((n : Int) - 1) true V (by simp; omega))
  have HI := Lib.hid h
  have Hb := Lib.hid (fun i => Nat.lt_of_lt_of_le (hb i) (Nat.pow_le_pow_right (by decide) hlen))
  have HbF := Lib.hid hb
  have HE := Lib.hid (show ∀ x y, rE r x y → y < n from fun x y e => by have := e.2.1; omega)
  have Hn := Lib.hid hn
  have hn12 : n ≤ 12 := by omega
  clear hch h hb hn hlen
  refine callsIn_of_wp_marks Tryd.func27 rfl trivial ?_ rfl
  simp only [Tryd.ntmps27, List.size_toArray, List.length_cons, List.length_nil, Nat.reduceAdd, Nat.reduceSub, Array.replicate_succ, Array.replicate_zero, List.push_toArray, List.append_toArray, List.nil_append, List.cons_append]
  gi_wp2_with (first | (gi_at_call 30; with_reducible refine (callsIn_wide.2 Hch.out).mono ?_; rintro e w' ⟨rfl, rfl⟩) | (gi_at_call 44; first | (with_reducible refine (callsIn_wide.2 (W1.out _)).mono ?_; rintro e w' ⟨rfl, rfl⟩) | (with_reducible refine (callsIn_wide.2 (W2.out _)).mono ?_; rintro e w' ⟨rfl, rfl⟩)))
  have hq0 := QAt.new (B := w.heap.size) w (Nat.le_refl _)
  refine (callsIn_wide.2 (QAdd_new hq0 (by simp) (by simp) a (by omega) (by simp))).mono ?_
  rintro e w1 ⟨⟨c1, rfl⟩, S1, hq1, hS1, hk1⟩
  have hb1 : Below w.heap.size w w1 := hk1.to_below (fun b hb => Nat.le_of_eq hb.symm) ((Below.refl _ w).alloc (Nat.le_refl _) _) (by simp)
  obtain ⟨mb, v1, hm1, _⟩ := hq1.qm (by simp)
  clear hq0 hq1 hS1 hk1 Hch W1 W2
  gi_wp2_with fail
  have hpf0 : BoxN (((w1.alloc (.cells #[.int .i64 (-1)] 3)).alloc (.cells #[.slice (some ⟨w1.heap.size, 0, none⟩) 1 1] 29)).alloc (.cells #[.int .i64 0] 3)) (w1.heap.size + 1) 29 #[.slice (some ⟨w1.heap.size, 0, none⟩) 1 1] := by
    have := (BoxN.new (w1.alloc (.cells #[.int .i64 (-1)] 3)) 29 #[.slice (some ⟨w1.heap.size, 0, none⟩) 1 1]).alloc (.cells #[.int .i64 0] 3)
    simpa using this
  have hpa0 : BoxN (((w1.alloc (.cells #[.int .i64 (-1)] 3)).alloc (.cells #[.slice (some ⟨w1.heap.size, 0, none⟩) 1 1] 29)).alloc (.cells #[.int .i64 0] 3)) (w1.heap.size + 1 + 1) 3 #[.int .i64 ((0 : Nat) : Int)] := by
    have := BoxN.new ((w1.alloc (.cells #[.int .i64 (-1)] 3)).alloc (.cells #[.slice (some ⟨w1.heap.size, 0, none⟩) 1 1] 29)) 3 #[.int .i64 0]
    simpa using this
  have hb11 := (Below.refl w1.heap.size w1).alloc (Nat.le_refl _) (.cells #[.int .i64 (-1)] 3)
  have hb12 := (hb11.alloc (by simp) (.cells #[.slice (some ⟨w1.heap.size, 0, none⟩) 1 1] 29)).alloc (by simp; omega) (.cells #[.int .i64 0] 3)
  have ho1 : OwnI (w1.alloc (.cells #[.int .i64 (-1)] 3)) w.heap.size (.slice (some ⟨w1.heap.size, 0, none⟩) 1 1) [-1] := ⟨by simp, .inr ⟨w1.heap.size, 1, #[.int .i64 (-1)], rfl, hb1.size, heap_alloc_new w1 _, by simp, by decide, rfl, by simp⟩⟩
  have ho0 : OwnI (((w1.alloc (.cells #[.int .i64 (-1)] 3)).alloc (.cells #[.slice (some ⟨w1.heap.size, 0, none⟩) 1 1] 29)).alloc (.cells #[.int .i64 0] 3)) w.heap.size (.slice (some ⟨w1.heap.size, 0, none⟩) 1 1) [-1] := own_block ho1 fun g hg => by
    have hg' : w1.heap.size = g := by simpa [Value.ownBlock] using hg
    rw [Below.heap_alloc _ _ g (by simp; omega), Below.heap_alloc _ _ g (by simp; omega)]
  have hW0 : WayAt w.heap.size mb (w1.heap.size + 1) (w1.heap.size + 1 + 1) 0 (((w1.alloc (.cells #[.int .i64 (-1)] 3)).alloc (.cells #[.slice (some ⟨w1.heap.size, 0, none⟩) 1 1] 29)).alloc (.cells #[.int .i64 0] 3)) [a] [-1] v1 (.slice (some ⟨w1.heap.size, 0, none⟩) 1 1) :=
    ⟨hm1.below hb12, hpf0, ho0, hpa0, fun g hg h' => by have := (hm1.lt h').2; simp [Value.ownBlock] at hg; omega, fun h' => by have := (hm1.lt h').2; omega, fun h' => by have := (hm1.lt h').2; omega, fun e => by simp [Value.ownBlock] at e <;> omega, fun e => by simp [Value.ownBlock] at e <;> omega, by omega, by have := hb1.size; omega⟩
  have hb4 := hb1.trans (hb12.mono hb1.size)
  have hmbl := (hm1.lt (b := mb) (.inr (.inl rfl))).2
  have hs4 : w1.heap.size + 3 = (((w1.alloc (.cells #[.int .i64 (-1)] 3)).alloc (.cells #[.slice (some ⟨w1.heap.size, 0, none⟩) 1 1] 29)).alloc (.cells #[.int .i64 0] 3)).heap.size := by simp
  have hB0 := Lib.hid (Bfs.start (rE r) a)
  clear hb11 hb12 ho1 ho0 hpf0 hpa0 hm1
  generalize (((w1.alloc (.cells #[.int .i64 (-1)] 3)).alloc (.cells #[.slice (some ⟨w1.heap.size, 0, none⟩) 1 1] 29)).alloc (.cells #[.int .i64 0] 3)) = w4 at *
  have hs1 := hb1.size
  have Hs1 := Lib.hid (show w.heap.size ≤ w1.heap.size ∧ w1.heap.size + 3 = w4.heap.size ∧ mb < w1.heap.size from ⟨hs1, hs4, hmbl⟩)
  clear hs4 hs1 hmbl hb1
  obtain ⟨pf, hpf⟩ : ∃ pf, w1.heap.size + 1 = pf := ⟨_, rfl⟩
  obtain ⟨pa0, hpa⟩ : ∃ pa0, pf + 1 = pa0 := ⟨_, rfl⟩
  rw [hpf, hpa] at hW0 ⊢
  have Hs2 := Lib.hid (show w.heap.size ≤ pf ∧ pa0 < w4.heap.size ∧ mb < pf ∧ pf < w4.heap.size by have := Hs1.out; omega)
  clear hpf hpa Hs1
  refine wpIn_loop_marks (Ds := []) [40, 41, 42, 45, 46, 47, 48, 64, 65, 66, 67, 68, 69, 81, 11, 43, 44]
    (fun v Ds W => ∃ (k pa : Nat) (q : List Nat) (fr : List Int) (ps : List (List Nat)) (lv fv : Value), v 11 = .pointer (some ⟨pa, 0, none⟩) ∧ k ≤ q.length ∧ WayAt w.heap.size mb pf pa k W q fr lv fv ∧ Hid (Bfs (rE r) a k 0 q fr ps) ∧ Hid (∀ j, j < k → q.getD j 0 ≠ b) ∧ Below w.heap.size w W ∧ MarksAt w4.heap.size W Ds ∧ w4.heap.size ≤ W.heap.size)
    (fun v W => wayMu n (v 11) W) ⟨0, pa0, [a], [-1], [[a]], v1, _, rfl, by simp, hW0, hB0, Lib.hid (fun j hj => by omega), hb4, MarksAt.nil, Nat.le_refl _⟩ ?_
  rintro us Ds W hus ⟨k, pa, q, fr, ps, lv, fv, hv11, hkq, hWA, hbf, hno, hbW, hM, hsW⟩
  obtain ⟨u0, us0, rfl, hus0⟩ := cons_of_len hus
  obtain ⟨u1, us1, rfl, hus1⟩ := cons_of_len hus0
  obtain ⟨u2, us2, rfl, hus2⟩ := cons_of_len hus1
  obtain ⟨u3, us3, rfl, hus3⟩ := cons_of_len hus2
  obtain ⟨u4, us4, rfl, hus4⟩ := cons_of_len hus3
  obtain ⟨u5, us5, rfl, hus5⟩ := cons_of_len hus4
  obtain ⟨u6, us6, rfl, hus6⟩ := cons_of_len hus5
  obtain ⟨u7, us7, rfl, hus7⟩ := cons_of_len hus6
  obtain ⟨u8, us8, rfl, hus8⟩ := cons_of_len hus7
  obtain ⟨u9, us9, rfl, hus9⟩ := cons_of_len hus8
  obtain ⟨u10, us10, rfl, hus10⟩ := cons_of_len hus9
  obtain ⟨u11, us11, rfl, hus11⟩ := cons_of_len hus10
  obtain ⟨u12, us12, rfl, hus12⟩ := cons_of_len hus11
  obtain ⟨u13, us13, rfl, hus13⟩ := cons_of_len hus12
  obtain ⟨u14, us14, rfl, hus14⟩ := cons_of_len hus13
  obtain ⟨u15, us15, rfl, hus15⟩ := cons_of_len hus14
  obtain ⟨u16, us16, rfl, hus16⟩ := cons_of_len hus15
  obtain rfl : us16 = [] := List.length_eq_zero_iff.1 hus16
  clear hus hus0 hus1 hus2 hus3 hus4 hus5 hus6 hus7 hus8 hus9 hus10 hus11 hus12 hus13 hus14 hus15 hus16
  simp only [patchL, List.set_cons_succ, List.set_cons_zero, valL, List.getD_cons_succ, List.getD_cons_zero] at hv11 ⊢
  subst hv11
  clear hW0 hB0 hb4
  have hq12 := hbf.out.le ha HE.out
  have hTW : Tab W := hT.next hbW
  have hck : W.cell? ⟨pa, 0, none⟩ = some (.int .i64 k) := hWA.at_.cell rfl
  have HQL := Lib.hid (fun t => QLen_any (hWA.drewN t).qm.at_)
  by_cases hlt : k < q.length
  · have hx : q.getD k 0 < n := hbf.out.lt ha HE.out _ (getD_mem hlt)
    have hltI : decide ((k : Int) < (q.length : Int)) = true := decide_eq_true (by omega)
    gi_wp2_with fail
    gi_quiet (exact callsIn_wide.2 (quiet1 (HQL.out _)))
    have hWA2 := hWA.drewN nq
    have hb2 := belowD hbW nq
    have hM2 : MarksAt w4.heap.size (W.drewN nq) Ds := hM.below (belowD (Below.refl _ W) nq)
    have hT2 : Tab (W.drewN nq) := hT.next hb2
    have hs2 : w4.heap.size ≤ (W.drewN nq).heap.size := hsW
    have Hmu := Lib.hid (wayMu_at (n := n) hck)
    clear HQL hWA hbW hM hTW hck hsW
    generalize W.drewN nq = X at *
    have HQA := Lib.hid (QAt_any hWA2.qm.at_ hlt (by omega))
    have hca : X.cell? ⟨pa, 0, none⟩ = some (.int .i64 k) := hWA2.at_.cell rfl
    obtain ⟨x, hxe⟩ : ∃ x, q.getD k 0 = x := ⟨_, rfl⟩
    rw [hxe] at hx HQA
    have Hxe := Lib.hid hxe
    clear hxe
    by_cases hgood : x = b
    · subst hgood
      have Hway := Lib.hid (hbf.out.way k hlt)
      rw [Hxe.out] at Hway
      have Hfirst := Lib.hid (fun p' (hwy : WayTo (rE r) a p' x) => hbf.out.first hlt (good := fun y => y = x) hno.out (p := p') (x := x) hwy rfl)
      have deq : ((x : Int) == (x : Int)) = true := by simp
      have HWA := Lib.hid hWA2
      have hfl := hbf.out.lf
      obtain ⟨A', c', rfl, hiF⟩ := hWA2.own.form
      obtain ⟨b5, off5, rfl, hcF⟩ := hiF (by intro e; rw [e] at hfl; simp at hfl; omega)
      have HcF := Lib.hid hcF
      have hcf : X.cell? ⟨pf, 0, none⟩ = some (.slice (some ⟨b5, off5, none⟩) fr.length c') := hWA2.box.cell rfl
      have Hcf := Lib.hid hcf
      clear hno hcF hiF hWA2 hcf
      gi_wp2_with (gi_at_call 52; with_reducible refine (callsIn_wide.2 HQA.out).mono ?_; rintro e w' ⟨rfl, rfl⟩)
      clear deq HQA hltI hca
      obtain ⟨wz, hwz⟩ : ∃ wz, wz = X := ⟨X, rfl⟩
      subst hwz
      have hq12' := hq12
      gi_loopw [12, 13] (fun o kk wo => ∃ (z : Int) (zs : List Nat), kk = .int .i64 z ∧ -1 ≤ z ∧ z < q.length ∧ OwnI wo wz.heap.size o (castL zs) ∧ Hid (zs ++ (backW ps z).reverse = (ps.getD k []).reverse) ∧ (zs.length : Int) + z ≤ k ∧ Below wz.heap.size wz wo) (fun _ kk _ => (intOf kk + 1).toNat)
      case atStart => exact ⟨k, [], rfl, by omega, by omega, OwnI.nil _ _, Lib.hid (by unfold backW; rw [if_neg (by omega)]; rfl), by simp, Below.refl _ _⟩
      case round =>
        obtain ⟨z, zs, rfl, hz1, hzq, hown, hzs, hlen, hbo⟩ := hrel
        by_cases hz : 0 ≤ z
        · obtain ⟨zn, rfl⟩ := Int.eq_ofNat_of_zero_le hz
          have hzn : zn < q.length := by omega
          have HQZ := Lib.hid (QAt_any (HWA.out.below hbo).qm.at_ hzn (by omega))
          have hback := hbf.out.back hzn
          have hfx : wz.cell? ⟨b5, off5 + zn, none⟩ = some (.int .i64 (fr.getD zn 0)) := HcF.out zn _ (by rw [List.getD_eq_getElem?_getD, List.getElem?_eq_getElem (by rw [hbf.out.lf]; exact hzn)]; rfl)
          have Hfx := Lib.hid hfx
          have Hfl := Lib.hid (block_lt hfx)
          have Hcl := Lib.hid (block_lt Hcf.out)
          have hlI : zn < fr.length := by rw [hbf.out.lf]; exact hzn
          have hbw : backW ps (zn : Int) = ps.getD zn [] := by unfold backW; rw [if_neg (by omega)]; simp
          rw [hbw] at hzs
          have hzlen : (castL zs).length < 2 ^ 40 := by rw [length_castL]; omega
          have Hnext := Lib.hid (show -1 ≤ fr.getD zn 0 ∧ fr.getD zn 0 < zn ∧ ((zs ++ [q.getD zn 0]) ++ (backW ps (fr.getD zn 0)).reverse = (ps.getD k []).reverse) from by
            rcases hback with ⟨h0, h1, h2⟩ | ⟨u, h0, h1, h2⟩
            · rw [h1, ← hzs.out, h2]
              refine ⟨by omega, by omega, ?_⟩
              unfold backW
              simp
            · rw [h1, ← hzs.out, h2]
              refine ⟨by omega, by omega, ?_⟩
              unfold backW
              rw [if_neg (by omega)]
              simp)
          have hbo2 := hbo.size
          clear hfx hback hbw hzs
          generalize fr.getD zn 0 = z2 at *
          generalize q.getD zn 0 = y2 at *
          gi_wp2_with (first | (gi_at_call 52; with_reducible refine (callsIn_wide.2 HQZ.out).mono ?_; rintro e w' ⟨rfl, rfl⟩) | (gi_at_builtin; refine wpListIn_push_int rfl _ _ rfl (base := wz.heap.size) rfl (hown.next ((Below.refl _ wr).alloc (Nat.le_refl _) _)) wr.heap.size (y2 : Int) rfl (cell_of_row _ _ 0 _ _ _ (heap_alloc_new wr _)) hzlen (by simp; omega) ?_; intro v2 w5 ho4 hg4 hv4 hbl4; have hb4 := hbl4 _ (hbo.alloc hbo2 (.cells #[.int .i64 (y2 : Int)] 3)); have hfy4 := (hb4.cell (p := ⟨b5, off5 + zn, none⟩) Hfl.out).trans Hfx.out; have hfc4 := (hb4.cell (p := ⟨pf, 0, none⟩) Hcl.out).trans Hcf.out))
          refine ⟨⟨z2, zs ++ [y2], rfl, ?ya, ?yb, ?yc, Lib.hid Hnext.out.2.2, ?ye, hb4⟩, ?yd⟩
          case ya => exact Hnext.out.1
          case yb => have := Hnext.out.2.1; omega
          case yc => rw [castL_push]; exact ho4
          case ye => have := Hnext.out.2.1; simp; omega
          case yd => have := Hnext.out; simp [intOf]; omega
        · obtain rfl : z = -1 := by omega
          have hzs2 : zs = (ps.getD k []).reverse := by
            have := hzs.out
            unfold backW at this
            simpa using this
          have hlz : zs.length = (ps.getD k []).length := by rw [hzs2]; simp
          have hle2 : castL (ps.getD k []) = (castL zs).reverse := by rw [← castL_reverse, hzs2, List.reverse_reverse]
          have hown' : wr.ownsRow wz.heap.size 3 1 u12 (castL zs).length ((castL zs).map (.int .i64)) := hown
          have hzne : 0 < (castL zs).length := by rw [length_castL, hlz]; exact Hway.out.pos
          obtain ⟨A9, c9, hv9, _⟩ := hown.form
          rw [hv9] at hown'
          obtain ⟨g9, hA9, hg9, hoa⟩ := OwnAt.of_owns hown' hzne
          subst hA9
          have HR := Lib.hid (Reverse_any (castL zs) g9 wz.heap.size c9 wr hoa hg9 (by rw [length_castL]; omega))
          obtain ⟨l9, hl9⟩ : ∃ l9, (castL zs).length = l9 := ⟨_, rfl⟩
          have Hl9 := Lib.hid (show l9 = (ps.getD k []).length by rw [← hl9, length_castL, hlz])
          rw [hl9] at HR hv9
          have Hle2 := Lib.hid hle2
          clear hzs hzs2 hlz hle2 hown' hoa hown hl9 hzne
          subst hv9
          gi_wp2_with fail
          refine (callsIn_wide.2 HR.out).mono ?_
          rintro e w5 ⟨rfl, ho5, hb5⟩
          have hb6 := hbo.trans hb5
          have hM5 := (hM2.below hb6)
          gi_wp2_with fail
          refine leaves_marks (B := w4.heap.size) Ds _ hM5 fun w' hsc hb' _ => ?_
          refine ⟨_, results_tmp2 rfl _ _ _, .inl ⟨ps.getD k [], l9, some ⟨g9, 0, none⟩, c9, Hl9.out, rfl, ?_, Hway.out, Hfirst.out⟩, ?_⟩
          · rw [Hle2.out]; exact ho5.ints.keep (fun a _ => hsc.cell a)
          · exact (hb2.trans (hb6.mono hb2.size)).trans (hb'.mono (by have := Hs2.out; omega))
    · have dne : ((x : Int) == (b : Int)) = false := by simp; omega
      have Hno2 := Lib.hid (show ∀ j, j < k + 1 → q.getD j 0 ≠ b from fun j hj => by
        rcases Nat.lt_or_ge j k with h1 | h1
        · exact hno.out j h1
        · obtain rfl : j = k := by omega
          rw [Hxe.out]; exact hgood)
      obtain ⟨b1, off1, rfl, hcr⟩ := (HI.out.below hb2).row (k := x) (by have := Hn.out; omega)
      have hxl : x < n := hx
      have hbr := Hb.out x
      have HB1 := Lib.hid (fun V => Bits_any ((row r x : Nat) : Int) V)
      clear hno hgood
      gi_wp2_with (first | (gi_at_call 52; with_reducible refine (callsIn_wide.2 HQA.out).mono ?_; rintro e w' ⟨rfl, rfl⟩) | (gi_at_call 38; with_reducible refine (callsIn_wide.2 (HB1.out _)).mono ?_; rintro e w' ⟨rfl, rfl⟩))
      have hZb := (Below.refl X.heap.size X).alloc (Nat.le_refl _) (.cells #[.int .i64 (row r x : Nat)] 3)
      have hWZ := hWA2.below hZb
      have hbZ := hb2.trans (hZb.mono hb2.size)
      have hMZ := hM2.below hZb
      have hTZ : Tab (X.alloc (.cells #[.int .i64 (row r x : Nat)] 3)) := Tab.next hT2 hZb
      have hbs : BoxN (X.alloc (.cells #[.int .i64 (row r x : Nat)] 3)) X.heap.size 3 #[.int .i64 (row r x : Nat)] := BoxN.new X _ _
      have hMlt : ∀ D ∈ Ds, D < X.heap.size := fun D hD => hM2.lt hD
      have hZs : X.heap.size + 1 = (X.alloc (.cells #[.int .i64 (row r x : Nat)] 3)).heap.size := by simp
      have hlq : fr.length = q.length := hbf.out.lf
      have Hgap := Lib.hid (fun (pre : List Nat) (y : Nat) => dn_gap (s := row r x) (by omega) (pre := pre) (x := y))
      have Hend := Lib.hid (dn_end (s := row r x) (by omega))
      have Hrs := Lib.hid (show ∀ y, y < n → ((row r x).testBit y = true ↔ rE r x y) from fun y hy => ⟨fun h => ⟨by have := Hn.out; omega, by have := Hn.out; omega, h⟩, fun h => h.2.2⟩)
      have Hbn := Lib.hid (show ∀ y, (row r x).testBit y = true → y < n from fun y hy => by have := bit_below (HbF.out x) hy; have := Hn.out; omega)
      clear hZb hWA2 hb2 hM2 hT2 hca HQA HB1 hcr
      generalize hZ : X.alloc (.cells #[.int .i64 (row r x : Nat)] 3) = Z at *
      clear hZ
      generalize row r x = sx at *
      refine wp_bits1 (by decide) 14 (B := X.heap.size) (s := sx) rfl (hbs.cell rfl) (by omega) hTZ
        (fun pre Y => ∃ (q' : List Nat) (fr' : List Int) (ps' : List (List Nat)) (lv' fv' : Value), WayAt w.heap.size mb pf pa k Y q' fr' lv' fv' ∧ Hid (q <+: q') ∧ Hid (q'.length ≤ n + pre.length ∧ fr'.length ≤ n + pre.length) ∧ Hid (pre <+: bitsOf sx → Bfs (rE r) a k (dnOf pre) q' fr' ps') ∧ Below w.heap.size w Y ∧ MarksAt w4.heap.size Y Ds ∧ Z.heap.size ≤ Y.heap.size)
        (fun _ _ _ => False)
        (fun _ Y Y' _ hs hg hr => by
          obtain ⟨q', fr', ps', lv', fv', g1, g2, g3, g4, g5, g6, g7⟩ := hs
          exact ⟨q', fr', ps', lv', fv', g1.turned (n := Z.heap.size) (by have := Hs2.out; omega) hg hr, g2, g3, g4, g5.grown hg (by have := Hs2.out; omega) (fun r e => by have := (hr r e).1; have := Hs2.out; omega), g6.own (fun D hD => by have := hMlt D hD; omega) hg hr, Nat.le_trans g7 hg.size⟩)
        (fun _ _ _ _ _ hs _ _ => hs)
        ⟨q, fr, ps, lv, fv, hWZ, Lib.hid (List.prefix_refl _), Lib.hid (by simp; omega), Lib.hid (fun _ => hbf.out), hbZ, hMZ, Nat.le_refl _⟩ ?assign ?body ?done ?stop
      case assign =>
        intro l x Y K hK
        gi_wp2
        exact hK
      case body =>
        clear hWZ hbZ hMZ hTZ hbs
        rintro l pre y Y hy hlen' ⟨q', fr', ps', lv', fv', hWY, hpq, hlens, hbfY, hbY, hMY, hsY⟩
        have hyn := Hbn.out y hy
        have HQM := Lib.hid (hWY.qm)
        have Hgy := Lib.hid (Hgap.out pre y)
        have hl1 := hlens.out.1
        have hl2 := hlens.out.2
        have hkl : k < q'.length := Nat.lt_of_lt_of_le hlt hpq.out.length_le
        have Hxq := Lib.hid (show q'.getD k 0 = x by
          obtain ⟨t, rfl⟩ := hpq.out
          rw [List.getD_eq_getElem?_getD, List.getElem?_append_left hlt, ← List.getD_eq_getElem?_getD]; exact Hxe.out)
        have Hskip := Lib.hid (show pre ++ [y] <+: bitsOf sx → Bfs (rE r) a k y q' fr' ps' from fun hp => by
          obtain ⟨h1, h2⟩ := Hgy.out hp
          refine (hbfY.out ((List.prefix_append _ _).trans hp)).skips h1 fun z hz1 hz2 he => ?_
          rw [Hxq.out] at he
          have := (Hrs.out z (by omega)).2 he
          rw [h2 z hz1 hz2] at this; cases this)
        have He := Lib.hid (show rE r (q'.getD k 0) y by rw [Hxq.out]; exact (Hrs.out y hyn).1 hy)
        have hcp : Y.cell? ⟨pf, 0, none⟩ = some fv' := hWY.box.cell rfl
        simp only [List.setIfInBounds_toArray, List.set_cons_succ, List.set_cons_zero]
        by_cases hm : y ∈ q'
        · have HA := Lib.hid (QMAdd_had HQM.out y (by omega) hm)
          have Hbf := Lib.hid (show pre ++ [y] <+: bitsOf sx → Bfs (rE r) a k (dnOf (pre ++ [y])) q' fr' ps' from fun hp => by rw [dnOf_snoc]; exact (Hskip.out hp).had hkl hm)
          clear hy hm
          gi_wp2_with fail
          refine (CallsIn.inRound l (callsIn_wide.2 HA.out)).mono ?_
          rintro e w' ⟨⟨cc, rfl⟩, rfl⟩
          gi_wp2_with fail
          exact ⟨KeepsFrom.refl _ _, Below.refl _ _, q', fr', ps', lv', fv', hWY, hpq, Lib.hid (by simp; omega), Hbf, hbY, hMY, hsY⟩
        · have HA := Lib.hid (QMAdd_more HQM.out (by have := hWY.at_.lt; have := Hs2.out; omega) (by omega) y (by omega) hm)
          have Hbf := Lib.hid (show pre ++ [y] <+: bitsOf sx → Bfs (rE r) a k (dnOf (pre ++ [y])) (q' ++ [y]) (fr' ++ [(k : Int)]) (ps' ++ [ps'.getD k [] ++ [y]]) from fun hp => by rw [dnOf_snoc]; exact (Hskip.out hp).found hkl hm He.out)
          clear hy hm
          gi_wp2_with fail
          refine (CallsIn.inRound l (callsIn_wide.2 HA.out)).mono ?_
          rintro e Y3 ⟨⟨cc, rfl⟩, lv2, hqm2, hown2, hk2⟩
          have hW3 := hWY.added hqm2 hown2 hk2
          have hb3 : Below w.heap.size Y Y3 := hk2.to_below (fun b hb => (HQM.out.lt hb).1) (Below.refl _ _) (by have := hbY.size; omega)
          have hkf3 : KeepsFrom Z.heap.size Y Y3 := HQM.out.keepsFrom (by have := Hs2.out; omega) hk2
          have hM3 := hMY.queue HQM.out hk2
          have hs3 := hk2.size
          have hbY3 := hbY.trans hb3
          have hsz3 := hbY3.size
          have hcp3 : Y3.cell? ⟨pf, 0, none⟩ = some fv' := hW3.box.cell rfl
          have hca3 : Y3.cell? ⟨pa, 0, none⟩ = some (.int .i64 k) := hW3.at_.cell rfl
          have hlf : fr'.length < 2 ^ 40 := by omega
          obtain ⟨Af, cf, hfe, _⟩ := hW3.own.form
          clear HA hown2 hk2 hcp
          subst hfe
          have hpl : (fr' ++ [(k : Int)]).length = fr'.length + 1 := by simp
          have Hbx := Lib.hid (fun (w5 : World) (hg5 : (Y3.alloc (.cells #[.int .i64 (k : Int)] 3)).grownBy w5 (Value.ownBlock (.slice Af fr'.length cf))) => show BoxN w5 pf 29 #[.slice Af fr'.length cf] from
            (hg5.block pf (by have := hW3.box.lt; simp; omega) (fun e => hW3.ownf e.symm)).trans (hW3.box.alloc _))
          gi_wp2_with (gi_at_builtin; refine wpListIn_push_int rfl _ _ rfl (base := w.heap.size) (v := .slice Af fr'.length cf) rfl (hW3.own.next ((Below.refl _ Y3).alloc (Nat.le_refl _) _)) Y3.heap.size (k : Int) rfl (cell_of_row _ _ 0 _ _ _ (heap_alloc_new Y3 _)) hlf (by simp; omega) ?_; intro v2 w5 ho5 hg5 hv5 hbl5; have hx5 := Hbx.out w5 hg5; have hf5 := hx5.free 0; have hc5 := hx5.cell (k := 0) rfl; obtain ⟨A2, c2, hv2e, _⟩ := ho5.form; rw [hpl] at hv2e; subst hv2e)
          have hW6 := hW3.pushed (pa := pa) hg5 hv5 ho5
          have hks5 : KeepsOthers (Y3.alloc (.cells #[.int .i64 (k : Int)] 3)) w5 := KeepsOthers.grownBy hg5 (fun r' e => by
            obtain ⟨ct, cc', cf', h1⟩ := hW3.cells (b := r') (.inr (.inr (.inr e))) (by
              rintro rfl
              exact hW3.sep _ e (.inr (.inl rfl)))
            have := (Array.getElem?_eq_some_iff.1 h1).1
            exact ⟨ct, cc', cf', (Below.heap_alloc Y3 _ _ this).trans h1⟩)
          have hks6 := ((KeepsOthers.alloc Y3 (.cells #[.int .i64 (k : Int)] 3)).trans hks5).trans (KeepsOthers.setCell w5 ⟨pf, 0, none⟩ (.slice A2 (fr'.length + 1) c2))
          have hb6 : Below w.heap.size Y (w5.setCell ⟨pf, 0, none⟩ (.slice A2 (fr'.length + 1) c2)) := (hbl5 Y (hb3.alloc hsz3 _)).setCell (by have := Hs2.out; show w.heap.size ≤ pf; omega) _
          refine ⟨hkf3.trans (hks6.from _), hb6.mono (by omega), q' ++ [y], fr' ++ [(k : Int)], _, lv2, _, hW6, Lib.hid (hpq.out.trans (List.prefix_append _ _)), Lib.hid (by simp; omega), Hbf, hbY.trans hb6, hM3.keep hks6, ?_⟩
          have := hb6.size
          have := hks6.size
          omega
      case done =>
        rintro D V hD ⟨q', fr', ps', lv', fv', hWV, hpq, hlens, hbfV, hbV, hMV, hsV⟩ hK
        have hcV : V.cell? ⟨pa, 0, none⟩ = some (.int .i64 k) := hWV.at_.cell rfl
        have hpaV := hWV.at_.lt
        have hkl : k < q'.length := Nat.lt_of_lt_of_le hlt hpq.out.length_le
        have hgd : ∀ j, j < q.length → q'.getD j 0 = q.getD j 0 := fun j hj => by
          obtain ⟨t, rfl⟩ := hpq.out
          rw [List.getD_eq_getElem?_getD, List.getElem?_append_left hj, ← List.getD_eq_getElem?_getD]
        have Hbf2 := Lib.hid ((hbfV.out (List.prefix_refl _)).next fun y hy he => by
          rw [hgd k hlt, Hxe.out] at he
          have h1 : y < n := HE.out _ _ he
          have := (Hrs.out y h1).2 he
          rw [Hend.out y hy] at this; cases this)
        have Hno3 := Lib.hid (show ∀ j, j < k + 1 → q'.getD j 0 ≠ b from fun j hj => by rw [hgd j (by omega)]; exact Hno2.out j hj)
        have hWN := hWV.next (k + 1)
        have hbN : Below w.heap.size w (V.alloc (.cells #[.int .i64 ((k + 1 : Nat) : Int)] 3)) := hbV.alloc hbV.size _
        have hMN : MarksAt w4.heap.size (V.alloc (.cells #[.int .i64 ((k + 1 : Nat) : Int)] 3)) (D :: Ds) := (hMV.cons (by omega) (fun h => by have := hMlt D h; omega) hK).below ((Below.refl _ V).alloc (Nat.le_refl _) _)
        have hsN : w4.heap.size ≤ (V.alloc (.cells #[.int .i64 ((k + 1 : Nat) : Int)] 3)).heap.size := by simp; omega
        have HmN := Lib.hid (wayMu_at (n := n) (hWN.at_.cell (k := 0) rfl))
        clear hbfV hgd hWV hbV hMV
        gi_wp2_with fail
        refine ⟨_, D :: Ds, rfl, ?pt, ⟨k + 1, V.heap.size, q', fr', ps', lv', fv', ?pv, hkl, hWN, Hbf2, Hno3, hbN, hMN, hsN⟩, ?pm⟩
        case pt => simp only [patchL, valL, List.map_cons, List.map_nil, List.set_cons_succ, List.set_cons_zero, List.getD_cons_succ, List.getD_cons_zero]
        case pv => simp only [valL, List.getD_cons_succ, List.getD_cons_zero]
        case pm =>
          simp only [valL, List.getD_cons_succ, List.getD_cons_zero]
          have h1 := HmN.out
          push_cast at h1 ⊢
          have h2 := Hmu.out
          rw [h1, h2]; omega
      case stop =>
        intros
        rename_i h _
        exact h.elim
  · obtain rfl : k = q.length := by omega
    have Hnone := Lib.hid (fun p' hwy => hbf.out.none (good := fun y => y = b) hno.out (p := p') (x := b) hwy rfl)
    have hltI : decide ((q.length : Int) < (q.length : Int)) = false := by simp
    clear hbf hno hWA
    generalize q.length = m at *
    gi_wp2_with fail
    gi_quiet (exact callsIn_wide.2 (quiet1 (HQL.out _)))
    have hM2 : MarksAt w4.heap.size (W.drewN nq) Ds := hM.below (belowD (Below.refl _ W) nq)
    have hb2 := belowD hbW nq
    gi_wp2_with fail
    refine leaves_marks (B := w4.heap.size) Ds _ hM2 fun w' hsc hb' _ => ?_
    exact ⟨_, results_tmp2 rfl _ _ _, .inr ⟨rfl, Hnone.out⟩, hb2.trans (hb'.mono (by have := Hs2.out; omega))⟩

/-- What is wrong with what is asked. -/
def wayCode (l : List Int) (a b : Int) : Nat := if relCode l ≠ 0 then relCode l else if (0 ≤ a ∧ a < l.length) ∧ (0 ≤ b ∧ b < l.length) then 0 else 1
theorem Way_bad (l : List Int) (A : Option Addr) (c n : Nat) (a b : Int) (hn : l.length = n) (w : World) (h : IntsAt w A l) (hl : n < 2 ^ 60) (hbad : wayCode l a b ≠ 0) :
    Calls Tryd.prog 27 #[.slice A n c, .int .i64 a, .int .i64 b] w fun e w' => e = .returned (.tuple #[.slice none 0 0, .iface 69 (.int .i64 (wayCode l a b))]) ∧ w = w' := by
  have hch := Check_any l A c w h (by omega)
  rw [hn] at hch
  unfold wayCode at *
  by_cases hr : relCode l = 0
  · rw [hr, errVal_zero] at hch
    rw [if_neg (by simpa using hr), hn] at hbad ⊢
    rw [if_neg (by intro e; rw [if_pos e] at hbad; exact hbad rfl)]
    have hab : ¬ ((0 ≤ a ∧ a < n) ∧ (0 ≤ b ∧ b < n)) := fun e => hbad (by rw [if_pos e])
    have Hch := Lib.hid hch
    by_cases ha : 0 ≤ a ∧ a < n
    · have hb : ¬ (0 ≤ b ∧ b < n) := fun e => hab ⟨ha, e⟩
      have W1 := Lib.hid (fun V => Within3_is a 0 ((n : Int) - 1) true V (by simp; omega))
      have W2 := Lib.hid (fun V => Within3_is b 0 ((n : Int) - 1) false V (by simp; omega))
      clear hch hbad hab hr h ha hb
      go_enter Tryd.func27, Tryd.ntmps27
      go_wp2_with (first | (go_at_call 30; with_reducible refine Hch.out.mono ?_; rintro e w' ⟨rfl, rfl⟩) | (go_at_call 44; first | (with_reducible refine (W1.out _).mono ?_; rintro e w' ⟨rfl, rfl⟩) | (with_reducible refine (W2.out _).mono ?_; rintro e w' ⟨rfl, rfl⟩)))
      go_ret2
      exact ⟨rfl, rfl⟩
    · have W1 := Lib.hid (fun V => Within3_is a 0 ((n : Int) - 1) false V (by simp; omega))
      clear hch hbad hab hr h ha
      go_enter Tryd.func27, Tryd.ntmps27
      go_wp2_with (first | (go_at_call 30; with_reducible refine Hch.out.mono ?_; rintro e w' ⟨rfl, rfl⟩) | (go_at_call 44; with_reducible refine (W1.out _).mono ?_; rintro e w' ⟨rfl, rfl⟩))
      go_ret2
      exact ⟨rfl, rfl⟩
  · rw [if_pos hr]
    rw [errVal, if_neg hr] at hch
    have Hch := Lib.hid hch
    clear hch hbad hr h
    generalize relCode l = m at *
    go_enter Tryd.func27, Tryd.ntmps27
    go_wp2_with (go_at_call 30; with_reducible refine Hch.out.mono ?_; rintro e w' ⟨rfl, rfl⟩)
    go_ret2
    exact ⟨rfl, rfl⟩
end Go.Proofs.YtndeplakkhfmlaaDoor
