/-
  Contract: quietwingref5.Again: a line of the document's trail.
-/
import Derived.Test.YtanlmfnhlldkeaaGreatDoorRCuA
import Derived.Test.YtanlmfnhlldkeaaGreatDoorTrG
import Derived.Deep.RegionHeld3
import Derived.Deep.Cut
import Derived.BigQuiet
namespace Go.Proofs.YtanlmfnhlldkeaaGreatDoor
open Go.RowKit
set_option maxRecDepth 100000
set_option linter.unusedVariables false

/-- What Again hands on: the trail behind the line where nothing is wrong. -/
def AgainPost (ok : Nat → Prop) (U F : List Int) (r : TS × Nat) (e : Ending) (w' : World) : Prop := ∃ v' T', e = .returned (.tuple #[v', .int .i64 r.2]) ∧ RT ok w' v' U F T' ∧ (r.2 = 0 → T' = r.1)
theorem two_boxes8 (w : World) (vs zs : Array Value) (t : TypeId) :
    BoxN ((w.alloc (.cells vs t)).alloc (.cells zs t)) w.heap.size t vs ∧ BoxN ((w.alloc (.cells vs t)).alloc (.cells zs t)) (w.heap.size + 1) t zs ∧ Below w.heap.size w ((w.alloc (.cells vs t)).alloc (.cells zs t)) ∧ ((w.alloc (.cells vs t)).alloc (.cells zs t)).heap.size = w.heap.size + 2 :=
  ⟨(BoxN.new w _ _).alloc _, BoxN.new' _ _ _ _ (by simp), ((Below.refl _ _).alloc (Nat.le_refl _) _).alloc (by simp) _, by simp⟩
section
variable {ok : Nat → Prop} {w : World} {U F : List Int} {T : TS} {a1 a2 a3 a4 a5 : Option Addr} {c1 c2 c3 c4 c5 : Nat}
set_option maxHeartbeats 16000000 in
theorem RAgain_six (h : RT ok w (.agg (rtV a1 a2 a3 a4 a5 c1 c2 c3 c4 c5 T)) U F T) (hI : TInv U F T) (hU : ∀ i, i < T.S.Re.length → labOk (gI U (i * 2)) (gI U (i * 2 + 1))) (hF : ∀ i, i < T.S.Ho.length → labOk (gI F (i * 2)) (gI F (i * 2 + 1))) (lU : U.length = T.S.Re.length * 2) (lF : F.length = T.S.Ho.length * 2) (hok : ∀ b, w.heap.size ≤ b → ok b) (s : ByteArray) (hs : s.size ≤ 2000000) :
    Calls Tryz.prog 93 #[.agg (rtV a1 a2 a3 a4 a5 c1 c2 c3 c4 c5 T), .string s] w fun e w' => AgainPost ok U F (tLine U F T s.data.toList) e w' ∧ Below w.heap.size w w' := by
  obtain ⟨hx, hz, hb, hsz⟩ := two_boxes8 w (rtV a1 a2 a3 a4 a5 c1 c2 c3 c4 c5 T) #[.slice none 0 0, .slice none 0 0, .slice none 0 0, .slice none 0 0, .slice none 0 0, .string ⟨#[]⟩, .int .i64 0, .int .i64 0] 101
  have CC := RCut_any 32 s hs ((w.alloc (.cells (rtV a1 a2 a3 a4 a5 c1 c2 c3 c4 c5 T) 101)).alloc (.cells #[.slice none 0 0, .slice none 0 0, .slice none 0 0, .slice none 0 0, .slice none 0 0, .string ⟨#[]⟩, .int .i64 0, .int .i64 0] 101))
  rw [show (((32 : UInt8).toNat : Nat) : Int) = 32 from rfl] at CC
  have CC := Lib.hid CC
  have HX := Lib.hid hx
  have HZ := Lib.hid hz
  have Hb := Lib.hid hb
  have H := Lib.hid h
  have Hok := Lib.hid hok
  have HI := Lib.hid hI
  have HUF := Lib.hid (And.intro hU (And.intro hF (And.intro lU lF)))
  clear hx hz hb h hok hI hU hF lU lF
  unfold rtV at *
  go_enter Tryz.func93, Tryz.ntmps93
  go_wp2_with fail
  with_reducible refine CC.out.mono ?_
  rintro e w2 ⟨⟨vc, ls, rfl, hls, hlc⟩, hb2⟩
  obtain ⟨Ac, cc, rfl, hcc⟩ := hls.form
  have hX2 := HX.out.all hb2
  have hZ2 := HZ.out.all hb2
  have hb02 := Hb.out.trans (hb2.mono Hb.out.size)
  have hlen : ls.length = (cutL 32 s.data.toList).length := by rw [← hlc, List.length_map]
  have hs2 := hb2.size
  clear CC HX HZ Hb hls
  by_cases h6 : ls.length = 6
  · have d6 : ((ls.length : Int) != 6) = false := by rw [h6]; rfl
    obtain ⟨cb, co, rfl, hcell⟩ := hcc (by intro e; have := congrArg List.length e; rw [List.length_map, h6] at this; cases this)
    have Hls := Lib.hid (show ∀ k (hk : k < 6), ∃ x, ls[k]? = some x ∧ w2.cell? ⟨cb, co + k, none⟩ = some (.string x) ∧ (cutL 32 s.data.toList).getD k [] = x.data.toList ∧ x.size ≤ s.size from fun k hk => by
      obtain ⟨x, hx⟩ : ∃ x, ls[k]? = some x := ⟨_, List.getElem?_eq_getElem (by omega)⟩
      refine ⟨x, hx, hcell k _ (by rw [List.getElem?_map, hx]; rfl), by rw [← hlc]; simp [List.getD, hx], ?_⟩
      have h1 := cutL_le 32 s.data.toList x.data.toList (by rw [← hlc]; exact List.mem_map.2 ⟨x, List.mem_of_getElem? hx, rfl⟩)
      rw [← rt_size, ← rt_size] at h1
      exact h1)
    have hc6 : (cutL 32 s.data.toList).length = 6 := by rw [← hlen, h6]
    have hcb : cb < w2.heap.size := block_lt (hcell 0 (ls.map Value.string)[0]! (by
      obtain ⟨x, hx, _⟩ := Hls.out 0 (by decide)
      simp [hx]))
    rw [h6]
    have HX2 := Lib.hid hX2
    have HZ2 := Lib.hid hZ2
    have Hb2 := Lib.hid hb02
    have Hc6 := Lib.hid hc6
    have Hlc := Lib.hid hlc
    clear hX2 hZ2 hb02 hcell hcc hc6 hlc hlen hb2 h6
    go_wp2_with fail
    go_loopw [7, 8] (fun v i wr => ∃ (k : Nat) (a : Nat → Nat), k ≤ 6 ∧ i = .int .i64 k ∧ Hid (∀ x, x < k → numV ((cutL 32 s.data.toList).getD x []) = some (a x) ∧ a x ≤ 999999) ∧ OwnI wr w2.heap.size v ((List.range k).map fun x => (a x : Int)) ∧ Hid (Below w2.heap.size w2 wr)) (fun _ i _ => 6 - (intOf i).toNat)
    case atStart => exact ⟨0, fun _ => 0, Nat.zero_le _, rfl, Lib.hid (fun x hx => by omega), OwnI.nil _ _, Lib.hid (Below.refl _ _)⟩
    case round =>
      obtain ⟨k, a, hk, rfl, hall, hown, hbr⟩ := hrel
      have HX := Lib.hid (HX2.out.all hbr.out)
      have HZ := Lib.hid (HZ2.out.all hbr.out)
      have Hb := Lib.hid (Hb2.out.trans (hbr.out.mono Hb2.out.size))
      obtain ⟨xs, hxs⟩ : ∃ xs : List Int, (List.range k).map (fun x => (a x : Int)) = xs := ⟨_, rfl⟩
      have hxl : xs.length = k := by rw [← hxs]; simp
      rw [hxs] at hown
      replace hxs := Lib.hid hxs
      obtain ⟨A, cp, rfl, hints⟩ := hown.form
      rw [hxl] at hown ⊢
      by_cases hlt : k < 6
      · obtain ⟨xk, hxk, hck, hgk, hxsz⟩ := Hls.out k hlt
        have ck : wr.cell? ⟨cb, co + k, none⟩ = some (.string xk) := (hbr.out.cell (p := ⟨cb, co + k, none⟩) hcb).trans hck
        have Hgk := Lib.hid hgk
        have CN := Lib.hid (RNumber_any xk wr)
        have hklen : k < (cutL 32 s.data.toList).length := by rw [Hc6.out]; exact hlt
        clear hck hgk hxk
        obtain ⟨⟨x0, x1, x2, x3, x4, x5, x6, x7⟩, -⟩ := BoxN.st8 HX.out
        obtain ⟨⟨z0, z1, z2, z3, z4, z5, z6, z7⟩, f0, f1, f2, f3, f4, f5, f6, f7⟩ := BoxN.st8 HZ.out
        cases hn : numV xk.data.toList with
        | none =>
          have Htl := Lib.hid (show tLine U F T s.data.toList = (T, 2) from tLine_bad (numsV_bad hklen (fun m hm => by rw [Hgk.out, hn] at hm; cases hm)))
          go_wp2_with fail
          with_reducible refine CN.out.mono ?_
          rintro e w5 ⟨⟨xv, bv, rfl, -, h2⟩, rfl⟩
          obtain rfl : bv = false := h2 hn
          clear hn h2 hints hown hall
          go_wp2_with fail
          have hbz := below_put8 Hb.out (show w.heap.size ≤ w.heap.size + 1 by omega) (.slice a1 T.S.Re.length c1) (.slice a2 T.S.Ho.length c2) (.slice a3 T.S.Re.length c3) (.slice a4 T.S.Re.length c4) (.slice a5 T.S.Ho.length c5) (.string ⟨T.log.toArray⟩) (.int .i64 T.many) (.int .i64 T.chain)
          refine bodyPost_ret (results_row_tmp rfl _ _ (w.heap.size + 1) 101 #[.slice a1 T.S.Re.length c1, .slice a2 T.S.Ho.length c2, .slice a3 T.S.Re.length c3, .slice a4 T.S.Re.length c4, .slice a5 T.S.Ho.length c5, .string ⟨T.log.toArray⟩, .int .i64 T.many, .int .i64 T.chain] (0, 0) _ rfl (HZ.out.put8 _ _ _ _ _ _ _ _) Tryz.underlying101 rfl (by kernel_rfl)) rfl ?_
          show AgainPost _ _ _ _ _ _ ∧ _
          rw [Htl.out]
          exact ⟨⟨_, T, rfl, H.out.below hbz, fun e => by cases e⟩, hbz⟩
        | some n =>
          have hn63 := (numV_some hn).1
          by_cases hgt : n ≤ 999999
          · have f9 : decide ((n : Int) > 999999) = false := by simp; omega
            have Hall := Lib.hid (show ∀ y, y < k + 1 → numV ((cutL 32 s.data.toList).getD y []) = some ((fun j => if j = k then n else a j) y) ∧ (fun j => if j = k then n else a j) y ≤ 999999 from fun y hy => by
              rcases Nat.lt_or_ge y k with h1 | h1
              · dsimp only; rw [if_neg (by omega)]; exact hall.out y h1
              · obtain rfl : y = k := by omega
                dsimp only; rw [if_pos rfl, Hgk.out]; exact ⟨hn, hgt⟩)
            have Hmap := Lib.hid (show (List.range (k + 1)).map (fun x => (((fun j => if j = k then n else a j) x : Nat) : Int)) = (List.range k).map (fun x => (a x : Int)) ++ [(n : Int)] by
              rw [List.range_succ, List.map_append]
              congr 1
              · apply List.map_congr_left
                intro x hx
                dsimp only
                rw [if_neg (by have := List.mem_range.1 hx; omega)]
              · simp)
            have hl40 : xs.length < 2 ^ 40 := by omega
            rw [hxs.out] at Hmap
            replace hxl := Lib.hid hxl
            go_wp2_with fail
            with_reducible refine CN.out.mono ?_
            rintro e w5 ⟨⟨xv, bv, rfl, h1, -⟩, rfl⟩
            obtain ⟨rfl, rfl⟩ := h1 n hn
            clear hn h1
            go_wp2_with (at_builtin; refine wpList_push_int rfl _ _ rfl rfl (hown.next ((Below.refl _ _).alloc (Nat.le_refl _) _)) _ (n : Int) rfl (cell_of_row _ _ 0 _ _ _ (heap_alloc_new _ _)) hl40 (by have := hbr.out.size; simp; omega) ?_; intro v2 w6 hown2 hgr hblk hbl)
            obtain ⟨A2, cp2, rfl, -⟩ := hown2.form
            rw [List.length_append, List.length_singleton, hxl.out] at hown2 ⊢
            have hb6 := Lib.hid (hbl _ (hbr.out.alloc hbr.out.size _))
            go_wp2_with fail
            refine ⟨⟨k + 1, fun j => if j = k then n else a j, ?ya, ?yb, Hall, ?yc, hb6⟩, ?yd⟩
            case ya => omega
            case yb => go_num
            case yc => rw [Hmap.out]; exact hown2
            case yd => simp [intOf]; omega
          · have f9 : decide ((n : Int) > 999999) = true := by simp; omega
            have Htl := Lib.hid (show tLine U F T s.data.toList = (T, 2) from tLine_bad (numsV_bad hklen (fun m hm => by rw [Hgk.out, hn] at hm; injection hm with hm; omega)))
            go_wp2_with fail
            with_reducible refine CN.out.mono ?_
            rintro e w5 ⟨⟨xv, bv, rfl, h1, -⟩, rfl⟩
            obtain ⟨rfl, rfl⟩ := h1 n hn
            clear hn h1 hints hown hall
            go_wp2_with fail
            have hbz := below_put8 Hb.out (show w.heap.size ≤ w.heap.size + 1 by omega) (.slice a1 T.S.Re.length c1) (.slice a2 T.S.Ho.length c2) (.slice a3 T.S.Re.length c3) (.slice a4 T.S.Re.length c4) (.slice a5 T.S.Ho.length c5) (.string ⟨T.log.toArray⟩) (.int .i64 T.many) (.int .i64 T.chain)
            refine bodyPost_ret (results_row_tmp rfl _ _ (w.heap.size + 1) 101 #[.slice a1 T.S.Re.length c1, .slice a2 T.S.Ho.length c2, .slice a3 T.S.Re.length c3, .slice a4 T.S.Re.length c4, .slice a5 T.S.Ho.length c5, .string ⟨T.log.toArray⟩, .int .i64 T.many, .int .i64 T.chain] (0, 0) _ rfl (HZ.out.put8 _ _ _ _ _ _ _ _) Tryz.underlying101 rfl (by kernel_rfl)) rfl ?_
            show AgainPost _ _ _ _ _ _ ∧ _
            rw [Htl.out]
            exact ⟨⟨_, T, rfl, H.out.below hbz, fun e => by cases e⟩, hbz⟩
      · obtain rfl : k = 6 := by omega
        have h9 := hall.out
        have Hn := Lib.hid (show numsV (cutL 32 s.data.toList) = some [a 0, a 1, a 2, a 3, a 4, a 5] by
          rw [numsV_all (a := a) (fun x hx => h9 x (by rw [Hc6.out] at hx; exact hx)), Hc6.out]
          rfl)
        obtain ⟨x5, -, hc5, hg5, hz1⟩ := Hls.out 5 (by decide)
        have hxs6 : xs = [(a 0 : Int), (a 1 : Int), (a 2 : Int), (a 3 : Int), (a 4 : Int), (a 5 : Int)] := by rw [← hxs.out]; rfl
        rw [hxs6] at hints
        obtain ⟨lb, lo, rfl, hi⟩ := hints (by simp)
        have l0 : wr.cell? ⟨lb, lo, none⟩ = some (.int .i64 (a 0 : Nat)) := hi 0 _ rfl
        have l1 : wr.cell? ⟨lb, lo + 1, none⟩ = some (.int .i64 (a 1 : Nat)) := hi 1 _ rfl
        have l2 : wr.cell? ⟨lb, lo + 2, none⟩ = some (.int .i64 (a 2 : Nat)) := hi 2 _ rfl
        have l3 : wr.cell? ⟨lb, lo + 3, none⟩ = some (.int .i64 (a 3 : Nat)) := hi 3 _ rfl
        have l4 : wr.cell? ⟨lb, lo + 4, none⟩ = some (.int .i64 (a 4 : Nat)) := hi 4 _ rfl
        have l5 : wr.cell? ⟨lb, lo + 5, none⟩ = some (.int .i64 (a 5 : Nat)) := hi 5 _ rfl
        have c5_ : wr.cell? ⟨cb, co + 5, none⟩ = some (.string x5) := (hbr.out.cell (p := ⟨cb, co + 5, none⟩) hcb).trans hc5
        have hall19 : ∀ y ∈ cutL 32 s.data.toList, y.length ≤ 19 := fun y hy => by
          obtain ⟨j, hj, rfl⟩ := List.getElem_of_mem hy
          have h1 := (h9 j (by rw [Hc6.out] at hj; exact hj)).1
          rw [show (cutL 32 s.data.toList).getD j [] = (cutL 32 s.data.toList)[j] by simp [List.getD, List.getElem?_eq_getElem hj]] at h1
          obtain ⟨h2, h3⟩ := numV_some h1
          rw [← h3]
          exact itoa_len19 h2
        have hz2 : s.size ≤ 119 := by
          have h2 := cutL_sum 32 s.data.toList
          have h3 := sum_le20 _ hall19
          have h4 := Hc6.out
          rw [← rt_size] at h2
          omega
        obtain ⟨n, hn⟩ : ∃ n, n = s.size - x5.size := ⟨_, rfl⟩
        have hwn : IntKind.i64.wrap ((s.size : Int) - (x5.size : Int)) = (n : Int) := (IntKind.wrap_i64 _).trans (by omega)
        have n0 : (0 : Int) ≤ (n : Int) := by omega
        have n1 : (n : Int) ≤ (s.size : Int) := by omega
        have hext : (s.extract 0 (s.size - x5.size)).data.toList = s.data.toList.take n := by rw [← hn]; simp
        have Hd5 := Lib.hid hg5
        have Htl := Lib.hid (show tLine U F T s.data.toList = if linkV T.chain (s.data.toList.take n) ≠ a 5 then (T, 6) else if a 0 ≠ 3 ∧ a 3 ≠ 0 then (T, 3) else if T.many = 100 then (T, 4) else (if (tAsk U F T (a 0 : Nat) (a 1 : Nat) (a 2 : Nat) (a 3 : Nat)).2 = 1 then ((tAsk U F T (a 0 : Nat) (a 1 : Nat) (a 2 : Nat) (a 3 : Nat)).1, 1) else if (tAsk U F T (a 0 : Nat) (a 1 : Nat) (a 2 : Nat) (a 3 : Nat)).2 ≠ a 4 then ((tAsk U F T (a 0 : Nat) (a 1 : Nat) (a 2 : Nat) (a 3 : Nat)).1, 8) else ((tAsk U F T (a 0 : Nat) (a 1 : Nat) (a 2 : Nat) (a 3 : Nat)).1, 0)) by
          unfold tLine
          dsimp only
          rw [if_neg (by rw [Hc6.out]; decide), Hn.out, Hd5.out, ← rt_size, ← rt_size, ← hn]
          rfl)
        have CL := fun V => RLink_any (c := T.chain) (s := s.extract 0 (s.size - x5.size)) HI.out.chain (by rw [ByteArray.size_extract]; omega) V
        rw [hext] at CL
        obtain ⟨lk, hlk⟩ : ∃ lk, linkV T.chain (s.data.toList.take n) = lk := ⟨_, rfl⟩
        rw [hlk] at Htl
        simp only [hlk] at CL
        have CL := Lib.hid CL
        obtain ⟨-, -, -, -, -, -, -, x7⟩ := (BoxN.st8 HX.out).1
        clear hlk hext hall19 hall h9 hints hown hxs6 hi hc5 hxs Hn Hls
        go_wp2_with fail
        go_quiet (with_reducible exact quiet1 (CL.out _))
        have HX5 := Lib.hid (HX.out.drewN nq)
        have HZ5 := Lib.hid (HZ.out.drewN nq)
        have HB5 := Lib.hid (belowD Hb.out nq)
        have l0 : (wr.drewN nq).cell? ⟨lb, lo, none⟩ = some (.int .i64 (a 0 : Nat)) := l0
        have l1 : (wr.drewN nq).cell? ⟨lb, lo + 1, none⟩ = some (.int .i64 (a 1 : Nat)) := l1
        have l2 : (wr.drewN nq).cell? ⟨lb, lo + 2, none⟩ = some (.int .i64 (a 2 : Nat)) := l2
        have l3 : (wr.drewN nq).cell? ⟨lb, lo + 3, none⟩ = some (.int .i64 (a 3 : Nat)) := l3
        have l4 : (wr.drewN nq).cell? ⟨lb, lo + 4, none⟩ = some (.int .i64 (a 4 : Nat)) := l4
        clear CL x7 c5_ l5 hwn n0 n1 HX HZ Hb
        generalize wr.drewN nq = w5 at *
        have hlb5 : lb < w5.heap.size := block_lt l0
        have hZl5 := HZ5.out.lt
        obtain ⟨⟨x0, x1, x2, x3, x4, x5_, x6, x7⟩, -⟩ := BoxN.st8 HX5.out
        obtain ⟨⟨z0, z1, z2, z3, z4, z5, z6, z7⟩, f0, f1, f2, f3, f4, f5, f6, f7⟩ := BoxN.st8 HZ5.out
        by_cases hk5 : lk = a 5
        · have d5 : ((lk : Int) != (a 5 : Int)) = false := by simp; omega
          rw [if_neg (fun hn => hn hk5)] at Htl
          clear hk5
          rcases (by omega : (a 0 ≠ 3 ∧ a 3 ≠ 0) ∨ (a 0 = 3) ∨ (a 0 ≠ 3 ∧ a 3 = 0)) with ⟨e0, e3⟩ | e0 | ⟨e0, e3⟩
          · have d0 : ((a 0 : Int) != 3) = true := by simp; omega
            have d3 : ((a 3 : Int) != 0) = true := by simp; omega
            rw [if_pos ⟨e0, e3⟩] at Htl
            clear e0 e3
            go_wp2_with fail
            have hbz := below_put8 HB5.out (show w.heap.size ≤ w.heap.size + 1 by omega) (.slice a1 T.S.Re.length c1) (.slice a2 T.S.Ho.length c2) (.slice a3 T.S.Re.length c3) (.slice a4 T.S.Re.length c4) (.slice a5 T.S.Ho.length c5) (.string ⟨T.log.toArray⟩) (.int .i64 T.many) (.int .i64 T.chain)
            refine bodyPost_ret (results_row_tmp rfl _ _ (w.heap.size + 1) 101 #[.slice a1 T.S.Re.length c1, .slice a2 T.S.Ho.length c2, .slice a3 T.S.Re.length c3, .slice a4 T.S.Re.length c4, .slice a5 T.S.Ho.length c5, .string ⟨T.log.toArray⟩, .int .i64 T.many, .int .i64 T.chain] (0, 0) _ rfl (HZ5.out.put8 _ _ _ _ _ _ _ _) Tryz.underlying101 rfl (by kernel_rfl)) rfl ?_
            show AgainPost _ _ _ _ _ _ ∧ _
            rw [Htl.out]
            exact ⟨⟨_, T, rfl, H.out.below hbz, fun e => by cases e⟩, hbz⟩
          · have d0 : ((a 0 : Int) != 3) = false := by simp; omega
            rw [if_neg (fun hh => hh.1 e0)] at Htl
            clear e0
            have CQ := Lib.hid (fun V (hV : Below w5.heap.size w5 V) => (RTAsk_any (ok := fun g => ok g ∧ (g < w.heap.size ∨ V.heap.size ≤ g)) (RT.below (w := w) (H.out.to (w' := w) (fun _ _ _ => rfl) (fun g hg ho => ⟨ho, .inl hg⟩)) (HB5.out.trans (hV.mono HB5.out.size))) HI.out HUF.out.1 HUF.out.2.1 HUF.out.2.2.1 HUF.out.2.2.2 (fun g hg => ⟨Hok.out g (Nat.le_trans (HB5.out.trans (hV.mono HB5.out.size)).size hg), .inr hg⟩) (a 0 : Nat) (a 1 : Nat) (a 2 : Nat) (a 3 : Nat)).mono fun e w' ⟨he, hb⟩ => (⟨he, hV.trans (hb.mono hV.size), hb⟩ : _ ∧ Below w5.heap.size w5 w' ∧ Below V.heap.size V w'))
            obtain ⟨r, hr⟩ : ∃ r, tAsk U F T (a 0 : Nat) (a 1 : Nat) (a 2 : Nat) (a 3 : Nat) = r := ⟨_, rfl⟩
            have Hr := Lib.hid hr
            rw [hr] at CQ Htl
            clear hr
            obtain ⟨T1, code⟩ := r
            have hbA : Below w5.heap.size w5 w5.drew := (Below.refl _ _).drew
            have hbB : Below w5.heap.size w5 ((w5.alloc (.cells #[.slice none 0 0, .slice none 0 0, .slice none 0 0, .slice none 0 0, .slice none 0 0, .string ⟨#[]⟩, .int .i64 0, .int .i64 0] 101)).drew) := ((Below.refl _ _).alloc (Nat.le_refl _) _).drew
            have hZn : BoxN ((w5.alloc (.cells #[.slice none 0 0, .slice none 0 0, .slice none 0 0, .slice none 0 0, .slice none 0 0, .string ⟨#[]⟩, .int .i64 0, .int .i64 0] 101)).drew) w5.heap.size 101 #[.slice none 0 0, .slice none 0 0, .slice none 0 0, .slice none 0 0, .slice none 0 0, .string ⟨#[]⟩, .int .i64 0, .int .i64 0] := (BoxN.new w5 _ _).drew
            have hXl := HX5.out.lt
            have hKeep := Lib.hid (fun V (hV : Below w5.heap.size w5 V) => (⟨(hV.cell (p := ⟨w.heap.size, 0, none⟩) hXl).trans x0, (hV.cell (p := ⟨w.heap.size, 1, none⟩) hXl).trans x1, (hV.cell (p := ⟨w.heap.size, 2, none⟩) hXl).trans x2, (hV.cell (p := ⟨w.heap.size, 3, none⟩) hXl).trans x3, (hV.cell (p := ⟨w.heap.size, 4, none⟩) hXl).trans x4, (hV.cell (p := ⟨w.heap.size, 5, none⟩) hXl).trans x5_, (hV.cell (p := ⟨w.heap.size, 6, none⟩) hXl).trans x6, (hV.cell (p := ⟨w.heap.size, 7, none⟩) hXl).trans x7, (hV.cell (p := ⟨lb, lo, none⟩) hlb5).trans l0, (hV.cell (p := ⟨lb, lo + 1, none⟩) hlb5).trans l1, (hV.cell (p := ⟨lb, lo + 2, none⟩) hlb5).trans l2, (hV.cell (p := ⟨lb, lo + 3, none⟩) hlb5).trans l3⟩ : V.cell? ⟨w.heap.size, 0, none⟩ = some (.slice a1 T.S.Re.length c1) ∧ V.cell? ⟨w.heap.size, 1, none⟩ = some (.slice a2 T.S.Ho.length c2) ∧ V.cell? ⟨w.heap.size, 2, none⟩ = some (.slice a3 T.S.Re.length c3) ∧ V.cell? ⟨w.heap.size, 3, none⟩ = some (.slice a4 T.S.Re.length c4) ∧ V.cell? ⟨w.heap.size, 4, none⟩ = some (.slice a5 T.S.Ho.length c5) ∧ V.cell? ⟨w.heap.size, 5, none⟩ = some (.string ⟨T.log.toArray⟩) ∧ V.cell? ⟨w.heap.size, 6, none⟩ = some (.int .i64 T.many) ∧ V.cell? ⟨w.heap.size, 7, none⟩ = some (.int .i64 T.chain) ∧ V.cell? ⟨lb, lo, none⟩ = some (.int .i64 (a 0 : Nat)) ∧ V.cell? ⟨lb, lo + 1, none⟩ = some (.int .i64 (a 1 : Nat)) ∧ V.cell? ⟨lb, lo + 2, none⟩ = some (.int .i64 (a 2 : Nat)) ∧ V.cell? ⟨lb, lo + 3, none⟩ = some (.int .i64 (a 3 : Nat))))
            go_wp2_with fail
            go_cut [11, 12] from 13 (fun x11 x12 wx => ∃ (xc : Nat) (vs : Array Value), x11 = .pointer (some ⟨xc, 0, none⟩) ∧ x12 = .int .i64 code ∧ BoxN wx xc 101 vs ∧ RT (fun g => ok g ∧ (g < w.heap.size ∨ w5.heap.size ≤ g)) wx (.agg vs) U F T1 ∧ Below w5.heap.size w5 wx)
            case first =>
              go_region_held3 (fun V => V.cell? ⟨w.heap.size, 0, none⟩ = some (.slice a1 T.S.Re.length c1) ∧ V.cell? ⟨w.heap.size, 1, none⟩ = some (.slice a2 T.S.Ho.length c2) ∧ V.cell? ⟨w.heap.size, 2, none⟩ = some (.slice a3 T.S.Re.length c3) ∧ V.cell? ⟨w.heap.size, 3, none⟩ = some (.slice a4 T.S.Re.length c4) ∧ V.cell? ⟨w.heap.size, 4, none⟩ = some (.slice a5 T.S.Ho.length c5) ∧ V.cell? ⟨w.heap.size, 5, none⟩ = some (.string ⟨T.log.toArray⟩) ∧ V.cell? ⟨w.heap.size, 6, none⟩ = some (.int .i64 T.many) ∧ V.cell? ⟨w.heap.size, 7, none⟩ = some (.int .i64 T.chain) ∧ V.cell? ⟨lb, lo, none⟩ = some (.int .i64 (a 0 : Nat)) ∧ V.cell? ⟨lb, lo + 1, none⟩ = some (.int .i64 (a 1 : Nat)) ∧ V.cell? ⟨lb, lo + 2, none⟩ = some (.int .i64 (a 2 : Nat)) ∧ V.cell? ⟨lb, lo + 3, none⟩ = some (.int .i64 (a 3 : Nat)))
                ((refine hKeep.out _ ?_; repeat (first | with_reducible assumption | with_reducible exact hbA | with_reducible exact hbB | with_reducible refine Below.setCell ?_ (by simp) _ | with_reducible refine Below.alloc ?_ (by first | exact Nat.le_refl _ | exact Below.size (by assumption)) _ | with_reducible refine Below.drew ?_)))
                ((go_at_call 98; with_reducible refine (CQ.out _ (by first | with_reducible exact hbA | with_reducible exact hbB)).mono ?_; rintro e w6 ⟨⟨v', rfl, hR6⟩, hb6, hbv⟩; obtain ⟨s1, s2, s3, s4, s5, e1, e2, e3, e4, e5, hv6, -⟩ := hR6.is; subst hv6; try (have hz6 := BoxN.all hZn hbv; obtain ⟨⟨z0, z1, z2, z3, z4, z5, z6, z7⟩, fz0, fz1, fz2, fz3, fz4, fz5, fz6, fz7⟩ := BoxN.st8 hz6)))
              all_goals (go_wp2_with fail; go_meet)
              · exact ⟨w6.heap.size, _, rfl, rfl, BoxN.new _ _ _, (hR6.to (w' := w6) (fun _ _ _ => rfl) (fun g _ ho => ⟨ho.1, by have h1 := ho.2; simp at h1; omega⟩)).below ((Below.refl _ _).alloc (Nat.le_refl _) _), hb6.alloc hb6.size _⟩
              · exact ⟨w5.heap.size, _, rfl, rfl, hz6.put8 _ _ _ _ _ _ _ _, hR6.to (fun g hg _ => put8_block (by have h1 := hg.2; have h2 := HB5.out.size; simp at h1; omega) _ _ _ _ _ _ _ _) (fun g _ ho => ⟨ho.1, by have h1 := ho.2; simp at h1; omega⟩), below_put8 hb6 (Nat.le_refl _) _ _ _ _ _ _ _ _⟩
            case rest =>
              obtain ⟨xc, vs, rfl, rfl, hC, hR6, hb6⟩ := hcut
              clear CQ hbA hbB hZn hKeep x0 x1 x2 x3 x4 x5_ x6 x7 z0 z1 z2 z3 z4 z5 z6 z7 f0 f1 f2 f3 f4 f5 f6 f7
              have HX6 := Lib.hid (HX5.out.all hb6)
              have HZ6 := Lib.hid (HZ5.out.all hb6)
              have HB6 := Lib.hid (HB5.out.trans (hb6.mono HB5.out.size))
              obtain ⟨s1, s2, s3, s4, s5, e1, e2, e3, e4, e5, hv6, -⟩ := hR6.is
              injection hv6 with hv6
              subst hv6
              obtain ⟨⟨y0, y1, y2, y3, y4, y5, y6, y7⟩, -⟩ := BoxN.st8 hC
              have l4 := (hb6.cell (p := ⟨lb, lo + 4, none⟩) hlb5).trans l4
              obtain ⟨⟨x0, x1, x2, x3, x4, x5_, x6, x7⟩, -⟩ := BoxN.st8 HX6.out
              obtain ⟨⟨z0, z1, z2, z3, z4, z5, z6, z7⟩, f0, f1, f2, f3, f4, f5, f6, f7⟩ := BoxN.st8 HZ6.out
              have HR6 := Lib.hid hR6
              have HC6 := Lib.hid hC
              clear hR6 hC hb6
              by_cases hm : T.many = 100
              · rw [if_pos hm] at Htl
                obtain rfl : code = 4 := by
                  have := Hr.out
                  unfold tAsk at this
                  rw [if_pos hm] at this
                  exact (Prod.mk.inj this).2.symm
                clear hm
                go_wp2_with fail
                have hbz := below_put8 HB6.out (show w.heap.size ≤ w.heap.size + 1 by omega) (.slice a1 T.S.Re.length c1) (.slice a2 T.S.Ho.length c2) (.slice a3 T.S.Re.length c3) (.slice a4 T.S.Re.length c4) (.slice a5 T.S.Ho.length c5) (.string ⟨T.log.toArray⟩) (.int .i64 T.many) (.int .i64 T.chain)
                refine bodyPost_ret (results_row_tmp rfl _ _ (w.heap.size + 1) 101 #[.slice a1 T.S.Re.length c1, .slice a2 T.S.Ho.length c2, .slice a3 T.S.Re.length c3, .slice a4 T.S.Re.length c4, .slice a5 T.S.Ho.length c5, .string ⟨T.log.toArray⟩, .int .i64 T.many, .int .i64 T.chain] (0, 0) _ rfl (HZ6.out.put8 _ _ _ _ _ _ _ _) Tryz.underlying101 rfl (by kernel_rfl)) rfl ?_
                show AgainPost _ _ _ _ _ _ ∧ _
                rw [Htl.out]
                exact ⟨⟨_, T, rfl, H.out.below hbz, fun e => by cases e⟩, hbz⟩
              · rw [if_neg hm] at Htl
                by_cases hc1 : code = 1
                · subst hc1
                  rw [if_pos rfl] at Htl
                  clear hm
                  go_wp2_with fail
                  have hbz := below_put8 HB6.out (show w.heap.size ≤ w.heap.size + 1 by omega) (.slice a1 T.S.Re.length c1) (.slice a2 T.S.Ho.length c2) (.slice a3 T.S.Re.length c3) (.slice a4 T.S.Re.length c4) (.slice a5 T.S.Ho.length c5) (.string ⟨T.log.toArray⟩) (.int .i64 T.many) (.int .i64 T.chain)
                  refine bodyPost_ret (results_row_tmp rfl _ _ (w.heap.size + 1) 101 #[.slice a1 T.S.Re.length c1, .slice a2 T.S.Ho.length c2, .slice a3 T.S.Re.length c3, .slice a4 T.S.Re.length c4, .slice a5 T.S.Ho.length c5, .string ⟨T.log.toArray⟩, .int .i64 T.many, .int .i64 T.chain] (0, 0) _ rfl (HZ6.out.put8 _ _ _ _ _ _ _ _) Tryz.underlying101 rfl (by kernel_rfl)) rfl ?_
                  show AgainPost _ _ _ _ _ _ ∧ _
                  rw [Htl.out]
                  exact ⟨⟨_, T, rfl, H.out.below hbz, fun e => by cases e⟩, hbz⟩
                · have hc4 : code ≠ 4 := fun e => by
                    have h1 := Hr.out
                    unfold tAsk at h1
                    have h2 := lAsk_code U F T.S (a 0 : Nat) (a 1 : Nat) (a 2 : Nat) (a 3 : Nat)
                    rw [if_neg hm] at h1
                    split at h1
                    · exact hc1 (Prod.mk.inj h1).2.symm
                    · have h3 := (Prod.mk.inj h1).2
                      omega
                  rw [if_neg hc1] at Htl
                  have g1 : ((code : Int) == 1) = false := beq_eq_false_iff_ne.2 (by omega)
                  have g4 : ((code : Int) == 4) = false := beq_eq_false_iff_ne.2 (by omega)
                  clear hm hc1 hc4
                  by_cases h4 : code = a 4
                  · rw [if_neg (fun hn => hn h4)] at Htl
                    have g5 : ((code : Int) != (a 4 : Int)) = false := by simp; omega
                    clear h4
                    go_wp2_with fail
                    have hbz := below_put8 HB6.out (show w.heap.size ≤ w.heap.size + 1 by omega) (.slice s1 T1.S.Re.length e1) (.slice s2 T1.S.Ho.length e2) (.slice s3 T1.S.Re.length e3) (.slice s4 T1.S.Re.length e4) (.slice s5 T1.S.Ho.length e5) (.string ⟨T1.log.toArray⟩) (.int .i64 T1.many) (.int .i64 T1.chain)
                    have hrz := RT.to (ok' := ok) HR6.out (fun g hg _ => put8_block (show g ≠ w.heap.size + 1 by have h1 := hg.2; have h2 := hZl5; omega) (.slice s1 T1.S.Re.length e1) (.slice s2 T1.S.Ho.length e2) (.slice s3 T1.S.Re.length e3) (.slice s4 T1.S.Re.length e4) (.slice s5 T1.S.Ho.length e5) (.string ⟨T1.log.toArray⟩) (.int .i64 T1.many) (.int .i64 T1.chain)) (fun g _ hg => hg.1)
                    refine bodyPost_ret (results_row_tmp rfl _ _ (w.heap.size + 1) 101 #[.slice s1 T1.S.Re.length e1, .slice s2 T1.S.Ho.length e2, .slice s3 T1.S.Re.length e3, .slice s4 T1.S.Re.length e4, .slice s5 T1.S.Ho.length e5, .string ⟨T1.log.toArray⟩, .int .i64 T1.many, .int .i64 T1.chain] (0, 0) _ rfl (HZ6.out.put8 _ _ _ _ _ _ _ _) Tryz.underlying101 rfl (by kernel_rfl)) rfl ?_
                    show AgainPost _ _ _ _ _ _ ∧ _
                    rw [Htl.out]
                    exact ⟨⟨_, T1, rfl, hrz, fun _ => rfl⟩, hbz⟩
                  · rw [if_pos h4] at Htl
                    have g5 : ((code : Int) != (a 4 : Int)) = true := by simp; omega
                    clear h4
                    go_wp2_with fail
                    have hbz := below_put8 HB6.out (show w.heap.size ≤ w.heap.size + 1 by omega) (.slice a1 T.S.Re.length c1) (.slice a2 T.S.Ho.length c2) (.slice a3 T.S.Re.length c3) (.slice a4 T.S.Re.length c4) (.slice a5 T.S.Ho.length c5) (.string ⟨T.log.toArray⟩) (.int .i64 T.many) (.int .i64 T.chain)
                    refine bodyPost_ret (results_row_tmp rfl _ _ (w.heap.size + 1) 101 #[.slice a1 T.S.Re.length c1, .slice a2 T.S.Ho.length c2, .slice a3 T.S.Re.length c3, .slice a4 T.S.Re.length c4, .slice a5 T.S.Ho.length c5, .string ⟨T.log.toArray⟩, .int .i64 T.many, .int .i64 T.chain] (0, 0) _ rfl (HZ6.out.put8 _ _ _ _ _ _ _ _) Tryz.underlying101 rfl (by kernel_rfl)) rfl ?_
                    show AgainPost _ _ _ _ _ _ ∧ _
                    rw [Htl.out]
                    exact ⟨⟨_, T, rfl, H.out.below hbz, fun e => by cases e⟩, hbz⟩
          · have d0 : ((a 0 : Int) != 3) = true := by simp; omega
            have d3 : ((a 3 : Int) != 0) = false := by simp; omega
            rw [if_neg (fun hh => hh.2 e3)] at Htl
            clear e0 e3
            have CQ := Lib.hid (fun V (hV : Below w5.heap.size w5 V) => (RTAsk_any (ok := fun g => ok g ∧ (g < w.heap.size ∨ V.heap.size ≤ g)) (RT.below (w := w) (H.out.to (w' := w) (fun _ _ _ => rfl) (fun g hg ho => ⟨ho, .inl hg⟩)) (HB5.out.trans (hV.mono HB5.out.size))) HI.out HUF.out.1 HUF.out.2.1 HUF.out.2.2.1 HUF.out.2.2.2 (fun g hg => ⟨Hok.out g (Nat.le_trans (HB5.out.trans (hV.mono HB5.out.size)).size hg), .inr hg⟩) (a 0 : Nat) (a 1 : Nat) (a 2 : Nat) (a 3 : Nat)).mono fun e w' ⟨he, hb⟩ => (⟨he, hV.trans (hb.mono hV.size), hb⟩ : _ ∧ Below w5.heap.size w5 w' ∧ Below V.heap.size V w'))
            obtain ⟨r, hr⟩ : ∃ r, tAsk U F T (a 0 : Nat) (a 1 : Nat) (a 2 : Nat) (a 3 : Nat) = r := ⟨_, rfl⟩
            have Hr := Lib.hid hr
            rw [hr] at CQ Htl
            clear hr
            obtain ⟨T1, code⟩ := r
            have hbA : Below w5.heap.size w5 w5.drew := (Below.refl _ _).drew
            have hbB : Below w5.heap.size w5 ((w5.alloc (.cells #[.slice none 0 0, .slice none 0 0, .slice none 0 0, .slice none 0 0, .slice none 0 0, .string ⟨#[]⟩, .int .i64 0, .int .i64 0] 101)).drew) := ((Below.refl _ _).alloc (Nat.le_refl _) _).drew
            have hZn : BoxN ((w5.alloc (.cells #[.slice none 0 0, .slice none 0 0, .slice none 0 0, .slice none 0 0, .slice none 0 0, .string ⟨#[]⟩, .int .i64 0, .int .i64 0] 101)).drew) w5.heap.size 101 #[.slice none 0 0, .slice none 0 0, .slice none 0 0, .slice none 0 0, .slice none 0 0, .string ⟨#[]⟩, .int .i64 0, .int .i64 0] := (BoxN.new w5 _ _).drew
            have hXl := HX5.out.lt
            have hKeep := Lib.hid (fun V (hV : Below w5.heap.size w5 V) => (⟨(hV.cell (p := ⟨w.heap.size, 0, none⟩) hXl).trans x0, (hV.cell (p := ⟨w.heap.size, 1, none⟩) hXl).trans x1, (hV.cell (p := ⟨w.heap.size, 2, none⟩) hXl).trans x2, (hV.cell (p := ⟨w.heap.size, 3, none⟩) hXl).trans x3, (hV.cell (p := ⟨w.heap.size, 4, none⟩) hXl).trans x4, (hV.cell (p := ⟨w.heap.size, 5, none⟩) hXl).trans x5_, (hV.cell (p := ⟨w.heap.size, 6, none⟩) hXl).trans x6, (hV.cell (p := ⟨w.heap.size, 7, none⟩) hXl).trans x7, (hV.cell (p := ⟨lb, lo, none⟩) hlb5).trans l0, (hV.cell (p := ⟨lb, lo + 1, none⟩) hlb5).trans l1, (hV.cell (p := ⟨lb, lo + 2, none⟩) hlb5).trans l2, (hV.cell (p := ⟨lb, lo + 3, none⟩) hlb5).trans l3⟩ : V.cell? ⟨w.heap.size, 0, none⟩ = some (.slice a1 T.S.Re.length c1) ∧ V.cell? ⟨w.heap.size, 1, none⟩ = some (.slice a2 T.S.Ho.length c2) ∧ V.cell? ⟨w.heap.size, 2, none⟩ = some (.slice a3 T.S.Re.length c3) ∧ V.cell? ⟨w.heap.size, 3, none⟩ = some (.slice a4 T.S.Re.length c4) ∧ V.cell? ⟨w.heap.size, 4, none⟩ = some (.slice a5 T.S.Ho.length c5) ∧ V.cell? ⟨w.heap.size, 5, none⟩ = some (.string ⟨T.log.toArray⟩) ∧ V.cell? ⟨w.heap.size, 6, none⟩ = some (.int .i64 T.many) ∧ V.cell? ⟨w.heap.size, 7, none⟩ = some (.int .i64 T.chain) ∧ V.cell? ⟨lb, lo, none⟩ = some (.int .i64 (a 0 : Nat)) ∧ V.cell? ⟨lb, lo + 1, none⟩ = some (.int .i64 (a 1 : Nat)) ∧ V.cell? ⟨lb, lo + 2, none⟩ = some (.int .i64 (a 2 : Nat)) ∧ V.cell? ⟨lb, lo + 3, none⟩ = some (.int .i64 (a 3 : Nat))))
            go_wp2_with fail
            go_cut [11, 12] from 13 (fun x11 x12 wx => ∃ (xc : Nat) (vs : Array Value), x11 = .pointer (some ⟨xc, 0, none⟩) ∧ x12 = .int .i64 code ∧ BoxN wx xc 101 vs ∧ RT (fun g => ok g ∧ (g < w.heap.size ∨ w5.heap.size ≤ g)) wx (.agg vs) U F T1 ∧ Below w5.heap.size w5 wx)
            case first =>
              go_region_held3 (fun V => V.cell? ⟨w.heap.size, 0, none⟩ = some (.slice a1 T.S.Re.length c1) ∧ V.cell? ⟨w.heap.size, 1, none⟩ = some (.slice a2 T.S.Ho.length c2) ∧ V.cell? ⟨w.heap.size, 2, none⟩ = some (.slice a3 T.S.Re.length c3) ∧ V.cell? ⟨w.heap.size, 3, none⟩ = some (.slice a4 T.S.Re.length c4) ∧ V.cell? ⟨w.heap.size, 4, none⟩ = some (.slice a5 T.S.Ho.length c5) ∧ V.cell? ⟨w.heap.size, 5, none⟩ = some (.string ⟨T.log.toArray⟩) ∧ V.cell? ⟨w.heap.size, 6, none⟩ = some (.int .i64 T.many) ∧ V.cell? ⟨w.heap.size, 7, none⟩ = some (.int .i64 T.chain) ∧ V.cell? ⟨lb, lo, none⟩ = some (.int .i64 (a 0 : Nat)) ∧ V.cell? ⟨lb, lo + 1, none⟩ = some (.int .i64 (a 1 : Nat)) ∧ V.cell? ⟨lb, lo + 2, none⟩ = some (.int .i64 (a 2 : Nat)) ∧ V.cell? ⟨lb, lo + 3, none⟩ = some (.int .i64 (a 3 : Nat)))
                ((refine hKeep.out _ ?_; repeat (first | with_reducible assumption | with_reducible exact hbA | with_reducible exact hbB | with_reducible refine Below.setCell ?_ (by simp) _ | with_reducible refine Below.alloc ?_ (by first | exact Nat.le_refl _ | exact Below.size (by assumption)) _ | with_reducible refine Below.drew ?_)))
                ((go_at_call 98; with_reducible refine (CQ.out _ (by first | with_reducible exact hbA | with_reducible exact hbB)).mono ?_; rintro e w6 ⟨⟨v', rfl, hR6⟩, hb6, hbv⟩; obtain ⟨s1, s2, s3, s4, s5, e1, e2, e3, e4, e5, hv6, -⟩ := hR6.is; subst hv6; try (have hz6 := BoxN.all hZn hbv; obtain ⟨⟨z0, z1, z2, z3, z4, z5, z6, z7⟩, fz0, fz1, fz2, fz3, fz4, fz5, fz6, fz7⟩ := BoxN.st8 hz6)))
              all_goals (go_wp2_with fail; go_meet)
              · exact ⟨w6.heap.size, _, rfl, rfl, BoxN.new _ _ _, (hR6.to (w' := w6) (fun _ _ _ => rfl) (fun g _ ho => ⟨ho.1, by have h1 := ho.2; simp at h1; omega⟩)).below ((Below.refl _ _).alloc (Nat.le_refl _) _), hb6.alloc hb6.size _⟩
              · exact ⟨w5.heap.size, _, rfl, rfl, hz6.put8 _ _ _ _ _ _ _ _, hR6.to (fun g hg _ => put8_block (by have h1 := hg.2; have h2 := HB5.out.size; simp at h1; omega) _ _ _ _ _ _ _ _) (fun g _ ho => ⟨ho.1, by have h1 := ho.2; simp at h1; omega⟩), below_put8 hb6 (Nat.le_refl _) _ _ _ _ _ _ _ _⟩
            case rest =>
              obtain ⟨xc, vs, rfl, rfl, hC, hR6, hb6⟩ := hcut
              clear CQ hbA hbB hZn hKeep x0 x1 x2 x3 x4 x5_ x6 x7 z0 z1 z2 z3 z4 z5 z6 z7 f0 f1 f2 f3 f4 f5 f6 f7
              have HX6 := Lib.hid (HX5.out.all hb6)
              have HZ6 := Lib.hid (HZ5.out.all hb6)
              have HB6 := Lib.hid (HB5.out.trans (hb6.mono HB5.out.size))
              obtain ⟨s1, s2, s3, s4, s5, e1, e2, e3, e4, e5, hv6, -⟩ := hR6.is
              injection hv6 with hv6
              subst hv6
              obtain ⟨⟨y0, y1, y2, y3, y4, y5, y6, y7⟩, -⟩ := BoxN.st8 hC
              have l4 := (hb6.cell (p := ⟨lb, lo + 4, none⟩) hlb5).trans l4
              obtain ⟨⟨x0, x1, x2, x3, x4, x5_, x6, x7⟩, -⟩ := BoxN.st8 HX6.out
              obtain ⟨⟨z0, z1, z2, z3, z4, z5, z6, z7⟩, f0, f1, f2, f3, f4, f5, f6, f7⟩ := BoxN.st8 HZ6.out
              have HR6 := Lib.hid hR6
              have HC6 := Lib.hid hC
              clear hR6 hC hb6
              by_cases hm : T.many = 100
              · rw [if_pos hm] at Htl
                obtain rfl : code = 4 := by
                  have := Hr.out
                  unfold tAsk at this
                  rw [if_pos hm] at this
                  exact (Prod.mk.inj this).2.symm
                clear hm
                go_wp2_with fail
                have hbz := below_put8 HB6.out (show w.heap.size ≤ w.heap.size + 1 by omega) (.slice a1 T.S.Re.length c1) (.slice a2 T.S.Ho.length c2) (.slice a3 T.S.Re.length c3) (.slice a4 T.S.Re.length c4) (.slice a5 T.S.Ho.length c5) (.string ⟨T.log.toArray⟩) (.int .i64 T.many) (.int .i64 T.chain)
                refine bodyPost_ret (results_row_tmp rfl _ _ (w.heap.size + 1) 101 #[.slice a1 T.S.Re.length c1, .slice a2 T.S.Ho.length c2, .slice a3 T.S.Re.length c3, .slice a4 T.S.Re.length c4, .slice a5 T.S.Ho.length c5, .string ⟨T.log.toArray⟩, .int .i64 T.many, .int .i64 T.chain] (0, 0) _ rfl (HZ6.out.put8 _ _ _ _ _ _ _ _) Tryz.underlying101 rfl (by kernel_rfl)) rfl ?_
                show AgainPost _ _ _ _ _ _ ∧ _
                rw [Htl.out]
                exact ⟨⟨_, T, rfl, H.out.below hbz, fun e => by cases e⟩, hbz⟩
              · rw [if_neg hm] at Htl
                by_cases hc1 : code = 1
                · subst hc1
                  rw [if_pos rfl] at Htl
                  clear hm
                  go_wp2_with fail
                  have hbz := below_put8 HB6.out (show w.heap.size ≤ w.heap.size + 1 by omega) (.slice a1 T.S.Re.length c1) (.slice a2 T.S.Ho.length c2) (.slice a3 T.S.Re.length c3) (.slice a4 T.S.Re.length c4) (.slice a5 T.S.Ho.length c5) (.string ⟨T.log.toArray⟩) (.int .i64 T.many) (.int .i64 T.chain)
                  refine bodyPost_ret (results_row_tmp rfl _ _ (w.heap.size + 1) 101 #[.slice a1 T.S.Re.length c1, .slice a2 T.S.Ho.length c2, .slice a3 T.S.Re.length c3, .slice a4 T.S.Re.length c4, .slice a5 T.S.Ho.length c5, .string ⟨T.log.toArray⟩, .int .i64 T.many, .int .i64 T.chain] (0, 0) _ rfl (HZ6.out.put8 _ _ _ _ _ _ _ _) Tryz.underlying101 rfl (by kernel_rfl)) rfl ?_
                  show AgainPost _ _ _ _ _ _ ∧ _
                  rw [Htl.out]
                  exact ⟨⟨_, T, rfl, H.out.below hbz, fun e => by cases e⟩, hbz⟩
                · have hc4 : code ≠ 4 := fun e => by
                    have h1 := Hr.out
                    unfold tAsk at h1
                    have h2 := lAsk_code U F T.S (a 0 : Nat) (a 1 : Nat) (a 2 : Nat) (a 3 : Nat)
                    rw [if_neg hm] at h1
                    split at h1
                    · exact hc1 (Prod.mk.inj h1).2.symm
                    · have h3 := (Prod.mk.inj h1).2
                      omega
                  rw [if_neg hc1] at Htl
                  have g1 : ((code : Int) == 1) = false := beq_eq_false_iff_ne.2 (by omega)
                  have g4 : ((code : Int) == 4) = false := beq_eq_false_iff_ne.2 (by omega)
                  clear hm hc1 hc4
                  by_cases h4 : code = a 4
                  · rw [if_neg (fun hn => hn h4)] at Htl
                    have g5 : ((code : Int) != (a 4 : Int)) = false := by simp; omega
                    clear h4
                    go_wp2_with fail
                    have hbz := below_put8 HB6.out (show w.heap.size ≤ w.heap.size + 1 by omega) (.slice s1 T1.S.Re.length e1) (.slice s2 T1.S.Ho.length e2) (.slice s3 T1.S.Re.length e3) (.slice s4 T1.S.Re.length e4) (.slice s5 T1.S.Ho.length e5) (.string ⟨T1.log.toArray⟩) (.int .i64 T1.many) (.int .i64 T1.chain)
                    have hrz := RT.to (ok' := ok) HR6.out (fun g hg _ => put8_block (show g ≠ w.heap.size + 1 by have h1 := hg.2; have h2 := hZl5; omega) (.slice s1 T1.S.Re.length e1) (.slice s2 T1.S.Ho.length e2) (.slice s3 T1.S.Re.length e3) (.slice s4 T1.S.Re.length e4) (.slice s5 T1.S.Ho.length e5) (.string ⟨T1.log.toArray⟩) (.int .i64 T1.many) (.int .i64 T1.chain)) (fun g _ hg => hg.1)
                    refine bodyPost_ret (results_row_tmp rfl _ _ (w.heap.size + 1) 101 #[.slice s1 T1.S.Re.length e1, .slice s2 T1.S.Ho.length e2, .slice s3 T1.S.Re.length e3, .slice s4 T1.S.Re.length e4, .slice s5 T1.S.Ho.length e5, .string ⟨T1.log.toArray⟩, .int .i64 T1.many, .int .i64 T1.chain] (0, 0) _ rfl (HZ6.out.put8 _ _ _ _ _ _ _ _) Tryz.underlying101 rfl (by kernel_rfl)) rfl ?_
                    show AgainPost _ _ _ _ _ _ ∧ _
                    rw [Htl.out]
                    exact ⟨⟨_, T1, rfl, hrz, fun _ => rfl⟩, hbz⟩
                  · rw [if_pos h4] at Htl
                    have g5 : ((code : Int) != (a 4 : Int)) = true := by simp; omega
                    clear h4
                    go_wp2_with fail
                    have hbz := below_put8 HB6.out (show w.heap.size ≤ w.heap.size + 1 by omega) (.slice a1 T.S.Re.length c1) (.slice a2 T.S.Ho.length c2) (.slice a3 T.S.Re.length c3) (.slice a4 T.S.Re.length c4) (.slice a5 T.S.Ho.length c5) (.string ⟨T.log.toArray⟩) (.int .i64 T.many) (.int .i64 T.chain)
                    refine bodyPost_ret (results_row_tmp rfl _ _ (w.heap.size + 1) 101 #[.slice a1 T.S.Re.length c1, .slice a2 T.S.Ho.length c2, .slice a3 T.S.Re.length c3, .slice a4 T.S.Re.length c4, .slice a5 T.S.Ho.length c5, .string ⟨T.log.toArray⟩, .int .i64 T.many, .int .i64 T.chain] (0, 0) _ rfl (HZ6.out.put8 _ _ _ _ _ _ _ _) Tryz.underlying101 rfl (by kernel_rfl)) rfl ?_
                    show AgainPost _ _ _ _ _ _ ∧ _
                    rw [Htl.out]
                    exact ⟨⟨_, T, rfl, H.out.below hbz, fun e => by cases e⟩, hbz⟩
        · have d5 : ((lk : Int) != (a 5 : Int)) = true := by simp; omega
          rw [if_pos hk5] at Htl
          clear hk5
          go_wp2_with fail
          have hbz := below_put8 HB5.out (show w.heap.size ≤ w.heap.size + 1 by omega) (.slice a1 T.S.Re.length c1) (.slice a2 T.S.Ho.length c2) (.slice a3 T.S.Re.length c3) (.slice a4 T.S.Re.length c4) (.slice a5 T.S.Ho.length c5) (.string ⟨T.log.toArray⟩) (.int .i64 T.many) (.int .i64 T.chain)
          refine bodyPost_ret (results_row_tmp rfl _ _ (w.heap.size + 1) 101 #[.slice a1 T.S.Re.length c1, .slice a2 T.S.Ho.length c2, .slice a3 T.S.Re.length c3, .slice a4 T.S.Re.length c4, .slice a5 T.S.Ho.length c5, .string ⟨T.log.toArray⟩, .int .i64 T.many, .int .i64 T.chain] (0, 0) _ rfl (HZ5.out.put8 _ _ _ _ _ _ _ _) Tryz.underlying101 rfl (by kernel_rfl)) rfl ?_
          show AgainPost _ _ _ _ _ _ ∧ _
          rw [Htl.out]
          exact ⟨⟨_, T, rfl, H.out.below hbz, fun e => by cases e⟩, hbz⟩
  · have d6 : ((ls.length : Int) != 6) = true := by simp; omega
    have Htl := Lib.hid (show tLine U F T s.data.toList = (T, 2) by
      unfold tLine
      dsimp only
      rw [if_pos (by rw [← hlen]; exact h6)])
    obtain ⟨⟨x0, x1, x2, x3, x4, x5, x6, x7⟩, -⟩ := BoxN.st8 hX2
    obtain ⟨⟨z0, z1, z2, z3, z4, z5, z6, z7⟩, f0, f1, f2, f3, f4, f5, f6, f7⟩ := BoxN.st8 hZ2
    have HZ := Lib.hid hZ2
    have Hb := Lib.hid hb02
    clear hX2 hZ2 hb02 hcc hb2 h6 hlen hlc
    go_wp2_with fail
    have hbz := below_put8 Hb.out (show w.heap.size ≤ w.heap.size + 1 by omega) (.slice a1 T.S.Re.length c1) (.slice a2 T.S.Ho.length c2) (.slice a3 T.S.Re.length c3) (.slice a4 T.S.Re.length c4) (.slice a5 T.S.Ho.length c5) (.string ⟨T.log.toArray⟩) (.int .i64 T.many) (.int .i64 T.chain)
    refine bodyPost_ret (results_row_tmp rfl _ _ (w.heap.size + 1) 101 #[.slice a1 T.S.Re.length c1, .slice a2 T.S.Ho.length c2, .slice a3 T.S.Re.length c3, .slice a4 T.S.Re.length c4, .slice a5 T.S.Ho.length c5, .string ⟨T.log.toArray⟩, .int .i64 T.many, .int .i64 T.chain] (0, 0) _ rfl (HZ.out.put8 _ _ _ _ _ _ _ _) Tryz.underlying101 rfl (by kernel_rfl)) rfl ?_
    rw [Htl.out]
    exact ⟨⟨_, T, rfl, H.out.below hbz, fun e => by cases e⟩, hbz⟩
end
end Go.Proofs.YtanlmfnhlldkeaaGreatDoor
