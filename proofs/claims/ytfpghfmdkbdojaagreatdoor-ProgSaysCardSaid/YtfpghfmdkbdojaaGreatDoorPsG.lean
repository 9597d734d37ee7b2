/-
  The document's reader of programs: readList.
-/
import Derived.Test.YtfpghfmdkbdojaaGreatDoorPsF
namespace Go.Proofs.YtfpghfmdkbdojaaGreatDoor
open Go.RowKit
set_option maxRecDepth 100000
set_option linter.unusedVariables false

/- printed by tools/psgen.py -/
set_option maxHeartbeats 16000000 in
theorem RList_any {s : ByteArray} {f : Nat} (hs : s.size ≤ 300) (H1 : ∀ g, g ≤ f → 1 ≤ g → PsC s 35 (pOne (pValue g) (pList g)) (g + 1)) : PsC s 24 (pList (f + 1)) (f + 1) := by
  intro w p e n c A o hp ho hn hfu
  obtain ⟨total, htot⟩ : ∃ x, at0 e (pList (f + 1) (s.data.toList.drop p) o) = x := ⟨_, rfl⟩
  have Htot := Lib.hid htot
  have Hfu := Lib.hid hfu
  rw [htot]
  clear htot hfu
  obtain ⟨bt, br, hb0⟩ := two_boxes w (svA s p A n c e) svZ 57
  replace ho := ho.below0 hb0
  have hF := PsF.of_below hb0 (.slice A n c)
  have lt_ : w.heap.size ≤ w.heap.size := Nat.le_refl _
  have lr_ : w.heap.size ≤ w.heap.size + 1 := Nat.le_succ _
  have hs0 := hb0.size
  clear hb0
  go_enter Tryz.func24, Tryz.ntmps24
  go_wp2_with fail
  generalize ((w.alloc (.cells #[.string s, .int .i64 (p : Nat), .slice A n c, .int .i64 (e : Nat)] 57)).alloc (.cells #[.string ⟨#[]⟩, .int .i64 0, .slice none 0 0, .int .i64 0] 57)) = w0 at *
  go_loopg [4] 302 (fun m lv wr => ∃ (L : List Int) (X : Option Addr) (k p1 e1 n1 c1 : Nat) (A1 : Option Addr) (o1 : List Int), lv = .slice X L.length k ∧ muL s p1 e1 < m ∧ L.length + muL s p1 e1 ≤ 301 ∧ p1 ≤ s.size ∧ n1 ≤ 80 ∧ BoxN wr w.heap.size 57 (svA s p1 A1 n1 c1 e1) ∧ BoxN wr (w.heap.size + 1) 57 svZ ∧ OwnN wr 0 (.slice A1 n1 c1) n1 o1 ∧ PsF w wr (.slice A n c) (.slice A1 n1 c1) ∧ OwnI wr w.heap.size (.slice X L.length k) L ∧ Hid (ListInv s f total L p1 e1 o1))
  case atStart => exact ⟨[], none, 0, p, e, n, c, A, o, rfl, by have := muL_le s p e hs; omega, by have := muL_le s p e hs; simpa using this, hp, hn, bt, br, ho, hF, World.ownsRow_nil _ _ _ 1, Lib.hid (listInv_start Htot.out Hfu.out)⟩
  case round =>
    clear bt br ho hF hp hn
    obtain ⟨L, X, k, p1, e1, n1, c1, A1, o1, rfl, hmu, hlen, hp, hn, bt, br, ho, hF, hl, hinv⟩ := hrel
    cases hend : (decide (e1 ≠ 0) || endsL (s.data.toList.drop p1)) with
    | false =>
      have Hend := Lib.hid (ends_not hend)
      have hps := Hend.out.2.2
      have hq0 := hp
      have CE := Lib.hid (REnds_any (A := A1) (n := n1) (cc := c1) (w := wr) hs hp hend)
      clear hend
      obtain ⟨⟨x0t, x1t, x2t, x3t⟩, f0t, f1t, f2t, f3t⟩ := BoxN.st4 bt
      go_wp2_with fail
      clear x0t x1t x2t x3t f0t f1t f2t f3t
      with_reducible refine CE.out.mono ?_
      rintro r w1 ⟨rfl, hb1⟩
      clear CE
      replace bt := bt.all hb1
      replace br := br.all hb1
      replace hl := hl.below1 hb1
      replace ho := ho.below0 hb1
      replace hF := hF.trans (PsF.of_below hb1 _)
      clear hb1
      obtain ⟨⟨x0t, x1t, x2t, x3t⟩, f0t, f1t, f2t, f3t⟩ := BoxN.st4 bt
      go_wp2_with fail
      have hfu1 : e1 = 0 → s.size - p1 < (f - L.length) + 1 := fun h => by have := (hinv.out.good h).1; omega
      have hg1 : 1 ≤ f - L.length := by have := (hinv.out.good Hend.out.1).1; omega
      clear x0t x1t x2t x3t f0t f1t f2t f3t
      have CR := Lib.hid ((H1 (f - L.length) (Nat.sub_le _ _) hg1) w1 p1 e1 n1 c1 A1 _ hp ho hn hfu1)
      with_reducible refine CR.out.mono ?_
      rintro r w2 ⟨p2, A2, n2, c2, e2, i2, o2, rfl, hp2, ho2, hn2, hf2, hr2⟩
      clear CR
      have hq2 := hp
      replace bt := hf2.st ho bt
      replace br := hf2.st ho br
      replace hl := hl.psF ho hf2
      replace hF := hF.trans hf2
      clear ho hn hp hf2
      have hp := hp2
      have ho := ho2
      have hn := hn2
      clear hp2 ho2 hn2
      have hlt2 : e2 = 0 → p1 < p2 := fun h => (psR_shorter (V := pOne (pValue (f - L.length)) (pList (f - L.length))) (fun h => pOne_short (fun h => pList_short h) h) hq2 hp hr2 h).2
      have hms := muL_step (s := s) Hend.out.1 hlt2 hps
      have hinv2 := Lib.hid (hinv.out.step Hend.out.1 Hend.out.2.1 hps hr2 hlt2)
      have btA := bt.alloc (.cells #[.string s, .int .i64 (p2 : Nat), .slice A2 n2 c2, .int .i64 (e2 : Nat)] 57)
      have brA := br.alloc (.cells #[.string s, .int .i64 (p2 : Nat), .slice A2 n2 c2, .int .i64 (e2 : Nat)] 57)
      have hal := (Below.refl w2.heap.size w2).alloc (Nat.le_refl _) (.cells #[.string s, .int .i64 (p2 : Nat), .slice A2 n2 c2, .int .i64 (e2 : Nat)] 57)
      have hoA := ho.below0 hal
      have hlA := hl.below1 hal
      have hFA := hF.alloc (.cells #[.string s, .int .i64 (p2 : Nat), .slice A2 n2 c2, .int .i64 (e2 : Nat)] 57)
      have hne := bt.lt
      have hne2 := br.lt
      have btS := btA.put4 rfl s p2 A2 n2 c2 e2
      have brS := brA.far4 (g := w.heap.size) (by omega) (.string s) (.int .i64 (p2 : Nat)) (.slice A2 n2 c2) (.int .i64 (e2 : Nat))
      have hoS := hoA.put4 btA st_ne_node (.string s) (.int .i64 (p2 : Nat)) (.slice A2 n2 c2) (.int .i64 (e2 : Nat))
      have hlS := hlA.put4 btA st_ne_int (.string s) (.int .i64 (p2 : Nat)) (.slice A2 n2 c2) (.int .i64 (e2 : Nat))
      have hFS := hFA.put4 (g := w.heap.size) (Nat.le_refl _) (.string s) (.int .i64 (p2 : Nat)) (.slice A2 n2 c2) (.int .i64 (e2 : Nat))
      have btX := btS.alloc (.cells #[.int .i64 i2] 3)
      have brX := brS.alloc (.cells #[.int .i64 i2] 3)
      have hoX := hoS.below0 ((Below.refl _ _).alloc (Nat.le_refl _) (.cells #[.int .i64 i2] 3))
      have hlX := hlS.below1 ((Below.refl _ _).alloc (Nat.le_refl _) (.cells #[.int .i64 i2] 3))
      have hFX := hFS.alloc (.cells #[.int .i64 i2] 3)
      have hgX := boxAt' ((((((w2.alloc (.cells #[.string s, .int .i64 (p2 : Nat), .slice A2 n2 c2, .int .i64 (e2 : Nat)] 57)).setCell ⟨w.heap.size, 0, none⟩ (.string s)).setCell ⟨w.heap.size, 1, none⟩ (.int .i64 (p2 : Nat))).setCell ⟨w.heap.size, 2, none⟩ (.slice A2 n2 c2)).setCell ⟨w.heap.size, 3, none⟩ (.int .i64 (e2 : Nat)))) 3 #[.int .i64 i2] (w2.heap.size + 1) (by simp)
      have hgc := hgX.cell (k := 0) rfl
      have hL40 : L.length < 2 ^ 40 := by omega
      have hbase := hFX.keep.size
      obtain ⟨⟨x0, x1, x2, x3⟩, f0, f1, f2, f3⟩ := BoxN.st4 btA
      clear hal hne hne2 hgX hoA hlA hFA hoS hlS hFS btS brS brA btA
      go_wp2_with (at_builtin; refine wpList_push_int rfl _ _ rfl rfl hlX (w2.heap.size + 1) i2 rfl hgc hL40 hbase ?_; intro v' w3 hl3 hgr hblk hbel)
      have bt3 := (hgr.block _ btX.lt (Ne.symm (hlX.not_box btX st_ne_int))).trans btX
      have br3 := (hgr.block _ brX.lt (Ne.symm (hlX.not_box brX st_ne_int))).trans brX
      have ho3 := hoX.grownI hlX hgr
      have hF3 := hFX.grownI hlX hgr
      obtain ⟨X', k', rfl, -⟩ := hl3.form
      go_roundg (muL s p1 e1)
      case measure => omega
      case rel => exact ⟨L ++ [i2], X', k', p2, e2, n2, c2, A2, o2, rfl, by omega, by rw [List.length_append]; show L.length + 1 + _ ≤ _; omega, hp, hn, bt3, br3, ho3, hF3, hl3, hinv2⟩
    | true =>
      have Hend := Lib.hid hend
      have CE := Lib.hid (REnds_any (A := A1) (n := n1) (cc := c1) (w := wr) hs hp hend)
      clear hend
      have lt_ : w.heap.size ≤ w.heap.size := Nat.le_refl _
      have lr_ : w.heap.size ≤ w.heap.size + 1 := Nat.le_succ _
      obtain ⟨⟨x0t, x1t, x2t, x3t⟩, f0t, f1t, f2t, f3t⟩ := BoxN.st4 bt
      go_wp2_with fail
      clear x0t x1t x2t x3t f0t f1t f2t f3t
      with_reducible refine CE.out.mono ?_
      rintro r w1 ⟨rfl, hb1⟩
      clear CE
      replace bt := bt.all hb1
      replace br := br.all hb1
      replace hl := hl.below1 hb1
      replace ho := ho.below0 hb1
      replace hF := hF.trans (PsF.of_below hb1 _)
      clear hb1
      rcases List.eq_nil_or_concat L with rfl | ⟨rest, z, rfl⟩
      · have hl4 := ho.1
        simp only [List.length_nil]
        obtain ⟨⟨x0t, x1t, x2t, x3t⟩, f0t, f1t, f2t, f3t⟩ := BoxN.st4 bt
        go_wp2_with fail
        clear x0t x1t x2t x3t f0t f1t f2t f3t
        have CD := Lib.hid (RMade_any (w := w1) (p := p1) (e := e1) hs hp ho hn (5) (0) (0) (0) (0))
        with_reducible refine CD.out.mono ?_
        rintro r w2 ⟨A2, n2, c2, e2, o2, rfl, ho2, hn2, hf2, hd2⟩
        clear CD
        replace bt := hf2.st ho bt
        replace br := hf2.st ho br
        replace hF := hF.trans hf2
        clear ho hn hf2
        have ho := ho2
        have hn := hn2
        clear ho2 hn2
        obtain ⟨⟨x0t, x1t, x2t, x3t⟩, f0t, f1t, f2t, f3t⟩ := BoxN.st4 bt
        go_wp2_with fail
        clear x0t x1t x2t x3t f0t f1t f2t f3t
        replace ho := ho.put4 bt st_ne_node (.string s) (.int .i64 (p1 : Nat)) (.slice A2 n2 c2) (.int .i64 (e2 : Nat))
        replace br := br.far4 (g := w.heap.size) (by omega) (.string s) (.int .i64 (p1 : Nat)) (.slice A2 n2 c2) (.int .i64 (e2 : Nat))
        replace bt := bt.put4 rfl s p1 A2 n2 c2 e2
        replace hF := hF.put4 (g := w.heap.size) lt_ (.string s) (.int .i64 (p1 : Nat)) (.slice A2 n2 c2) (.int .i64 (e2 : Nat))
        generalize (((((w2).setCell ⟨w.heap.size, 0, none⟩ (.string s)).setCell ⟨w.heap.size, 1, none⟩ (.int .i64 (p1 : Nat))).setCell ⟨w.heap.size, 2, none⟩ (.slice A2 n2 c2)).setCell ⟨w.heap.size, 3, none⟩ (.int .i64 (e2 : Nat))) = w2s at *
        obtain ⟨⟨x0t, x1t, x2t, x3t⟩, f0t, f1t, f2t, f3t⟩ := BoxN.st4 bt
        obtain ⟨⟨x0r, x1r, x2r, x3r⟩, f0r, f1r, f2r, f3r⟩ := BoxN.stZ br
        have hni : (n2 : Int) ≤ 80 := by omega
        go_wp2_with fail
        go_region
        go_wp2_with fail
        clear x0r x1r x2r x3r f0r f1r f2r f3r
        clear x0t x1t x2t x3t f0t f1t f2t f3t
        replace ho := ho.put4 br st_ne_node (.string s) (.int .i64 (p1 : Nat)) (.slice A2 n2 c2) (.int .i64 (e2 : Nat))
        replace bt := bt.far4 (g := w.heap.size + 1) (by omega) (.string s) (.int .i64 (p1 : Nat)) (.slice A2 n2 c2) (.int .i64 (e2 : Nat))
        replace br := br.put4 rfl s p1 A2 n2 c2 e2
        replace hF := hF.put4 (g := w.heap.size + 1) lr_ (.string s) (.int .i64 (p1 : Nat)) (.slice A2 n2 c2) (.int .i64 (e2 : Nat))
        generalize (((((w2s).setCell ⟨w.heap.size + 1, 0, none⟩ (.string s)).setCell ⟨w.heap.size + 1, 1, none⟩ (.int .i64 (p1 : Nat))).setCell ⟨w.heap.size + 1, 2, none⟩ (.slice A2 n2 c2)).setCell ⟨w.heap.size + 1, 3, none⟩ (.int .i64 (e2 : Nat))) = w2ss at *
        refine bodyPost_ret (resRowTmp rfl _ _ (w.heap.size + 1) 57 (svA s p1 A2 n2 c2 e2) (0, 0) _ rfl br Tryz.underlying57 rfl (by kernel_rfl)) rfl ?_
        exact ⟨p1, A2, n2, c2, e2, _, o2, rfl, hp, ho, hn, ⟨⟨hF.keep.os, hF.keep.tape, hF.keep.output, hF.keep.size, hF.keep.block⟩, hF.blk⟩, hinv.out.none Hend.out hl4 hd2.1 hd2.2⟩
      · rw [List.concat_eq_append] at *
        have Hfold := Lib.hid (hinv.out.fold Hend.out)
        have hLl : (rest ++ [z]).length = rest.length + 1 := by simp
        have hm4 : (rest.length : Int) ≤ 400 := by rw [hLl] at hlen; omega
        clear hinv hmu hlen
        have hgl : (rest ++ [z])[rest.length]? = some z := by simp
        obtain ⟨g, rfl⟩ := hl.addr (by simp)
        obtain ⟨m, hm⟩ : ∃ m, rest.length = m := ⟨_, rfl⟩
        rw [hm] at hLl hgl Hfold hm4
        generalize rest ++ [z] = L at *
        rw [hLl] at hl ⊢
        have hcz := hl.at_ hgl
        have Hll := Lib.hid hLl
        clear hLl hgl hm
        have dl : ((m : Int) + 1 == 0) = false := by simp; omega
        go_wp2_with fail
        clear hcz
        go_loopg [7, 8] (m + 1) (fun mm lv kv wr => ∃ (j : Nat) (z : Int) (e2 n2 c2 : Nat) (A2 : Option Addr) (o2 : List Int), j ≤ m ∧ lv = .int .i64 z ∧ kv = .int .i64 ((j : Int) - 1) ∧ j < mm ∧ n2 ≤ 80 ∧ BoxN wr w.heap.size 57 (svA s p1 A2 n2 c2 e2) ∧ BoxN wr (w.heap.size + 1) 57 svZ ∧ OwnN wr 0 (.slice A2 n2 c2) n2 o2 ∧ PsF w wr (.slice A n c) (.slice A2 n2 c2) ∧ OwnI wr w.heap.size (.slice (some ⟨g, 0, none⟩) (m + 1) k) L ∧ Hid (FoldInv s total L j z p1 e2 o2))
        case atStart => exact ⟨m, z, e1, n1, c1, A1, o1, Nat.le_refl _, rfl, congrArg (fun x : Int => Value.int .i64 x) (by omega : (m : Int) + 1 - 2 = (m : Int) - 1), by omega, hn, bt, br, ho, hF, hl, Hfold⟩
        case round =>
          clear bt br ho hF hn hl Hfold
          obtain ⟨j, z, e2, n2, c2, A2, o2, hjm, rfl, rfl, hjmm, hn, bt, br, ho, hF, hl, hfold⟩ := hrel
          cases j with
          | zero =>
            obtain ⟨⟨x0t, x1t, x2t, x3t⟩, f0t, f1t, f2t, f3t⟩ := BoxN.st4 bt
            obtain ⟨⟨x0r, x1r, x2r, x3r⟩, f0r, f1r, f2r, f3r⟩ := BoxN.stZ br
            go_wp2_with fail
            clear x0r x1r x2r x3r f0r f1r f2r f3r
            clear x0t x1t x2t x3t f0t f1t f2t f3t
            replace ho := ho.put4 br st_ne_node (.string s) (.int .i64 (p1 : Nat)) (.slice A2 n2 c2) (.int .i64 (e2 : Nat))
            replace bt := bt.far4 (g := w.heap.size + 1) (by omega) (.string s) (.int .i64 (p1 : Nat)) (.slice A2 n2 c2) (.int .i64 (e2 : Nat))
            replace br := br.put4 rfl s p1 A2 n2 c2 e2
            replace hF := hF.put4 (g := w.heap.size + 1) lr_ (.string s) (.int .i64 (p1 : Nat)) (.slice A2 n2 c2) (.int .i64 (e2 : Nat))
            generalize (((((wr).setCell ⟨w.heap.size + 1, 0, none⟩ (.string s)).setCell ⟨w.heap.size + 1, 1, none⟩ (.int .i64 (p1 : Nat))).setCell ⟨w.heap.size + 1, 2, none⟩ (.slice A2 n2 c2)).setCell ⟨w.heap.size + 1, 3, none⟩ (.int .i64 (e2 : Nat))) = wrs at *
            refine bodyPost_ret (resRowTmp rfl _ _ (w.heap.size + 1) 57 (svA s p1 A2 n2 c2 e2) (0, 0) _ rfl br Tryz.underlying57 rfl (by kernel_rfl)) rfl ?_
            exact ⟨p1, A2, n2, c2, e2, z, o2, rfl, hp, ho, hn, hF, hfold.out.done⟩
          | succ j =>
            obtain ⟨x, hx⟩ : ∃ x, L[j]? = some x := ⟨L[j]'(by have := Hll.out; omega), List.getElem?_eq_getElem _⟩
            have hcx := hl.at_ hx
            have Hx := Lib.hid hx
            clear hx
            have hjk : ((j + 1 : Nat) : Int) - 1 = (j : Int) := by omega
            rw [hjk]
            have hj0 : (0 : Int) ≤ (j : Int) := by omega
            have hjm1 : (j : Int) < (m : Int) + 1 := by omega
            have hjm2 : j < m + 1 := by omega
            have hl4 := ho.1
            obtain ⟨⟨x0t, x1t, x2t, x3t⟩, f0t, f1t, f2t, f3t⟩ := BoxN.st4 bt
            go_wp2_with fail
            refine wp_still_tailD 7 (by kernel_rfl) (by kernel_rfl) ?_
            simp only [List.take_succ_cons, List.take_zero, List.drop_succ_cons, List.drop_zero]
            repeat still_step
            refine wpStill_nil ?_
            go_wp2_with fail
            clear x0t x1t x2t x3t f0t f1t f2t f3t
            replace bt := bt.drewN 1
            replace br := br.drewN 1
            replace ho := ho.below0 (belowD (Below.refl _ _) 1)
            replace hF := hF.drewN 1
            replace hl := hl.below1 (belowD (Below.refl _ _) 1)
            clear hcx
            generalize wr.drewN 1 = w4 at *
            have CD := Lib.hid (RMade_any (w := w4) (p := p1) (e := e2) hs hp ho hn (7) (0) (x) (z) (0))
            with_reducible refine CD.out.mono ?_
            rintro r w5 ⟨A5, n5, c5, e5, o5, rfl, ho5, hn5, hf5, hd5⟩
            clear CD
            replace bt := hf5.st ho bt
            replace br := hf5.st ho br
            replace hl := hl.psF ho hf5
            replace hF := hF.trans hf5
            clear ho hn hf5
            have ho := ho5
            have hn := hn5
            clear ho5 hn5
            have hfold2 := Lib.hid (hfold.out.step Hx.out hl4 hd5.1 hd5.2)
            have hni : (n5 : Int) ≤ 80 := by omega
            obtain ⟨⟨x0t, x1t, x2t, x3t⟩, f0t, f1t, f2t, f3t⟩ := BoxN.st4 bt
            go_wp2_with fail
            replace hl := hl.put4 bt st_ne_int (.string s) (.int .i64 (p1 : Nat)) (.slice A5 n5 c5) (.int .i64 (e5 : Nat))
            clear x0t x1t x2t x3t f0t f1t f2t f3t
            replace ho := ho.put4 bt st_ne_node (.string s) (.int .i64 (p1 : Nat)) (.slice A5 n5 c5) (.int .i64 (e5 : Nat))
            replace br := br.far4 (g := w.heap.size) (by omega) (.string s) (.int .i64 (p1 : Nat)) (.slice A5 n5 c5) (.int .i64 (e5 : Nat))
            replace bt := bt.put4 rfl s p1 A5 n5 c5 e5
            replace hF := hF.put4 (g := w.heap.size) lt_ (.string s) (.int .i64 (p1 : Nat)) (.slice A5 n5 c5) (.int .i64 (e5 : Nat))
            generalize (((((w5).setCell ⟨w.heap.size, 0, none⟩ (.string s)).setCell ⟨w.heap.size, 1, none⟩ (.int .i64 (p1 : Nat))).setCell ⟨w.heap.size, 2, none⟩ (.slice A5 n5 c5)).setCell ⟨w.heap.size, 3, none⟩ (.int .i64 (e5 : Nat))) = w5s at *
            go_roundg (j + 1)
            case measure => omega
            case rel => exact ⟨j, (n5 : Int) - 1, e5, n5, c5, A5, o5, by omega, rfl, rfl, by omega, hn, bt, br, ho, hF, hl, hfold2⟩
end Go.Proofs.YtfpghfmdkbdojaaGreatDoor
