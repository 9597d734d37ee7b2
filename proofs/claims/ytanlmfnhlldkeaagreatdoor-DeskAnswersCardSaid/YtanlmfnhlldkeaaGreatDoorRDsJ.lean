/-
  Contract: quietwingref5.answer, the rest.
-/
import Derived.Test.YtanlmfnhlldkeaaGreatDoorRDsI
namespace Go.Proofs.YtanlmfnhlldkeaaGreatDoor
open Go.RowKit
set_option maxRecDepth 100000
set_option linter.unusedVariables false

theorem numsD_snoc : ∀ {a : List (List UInt8)} {l : List Nat} {x : List UInt8} {n : Nat}, numsD a = some l → numD x = some n → numsD (a ++ [x]) = some (l ++ [n])
  | [], l, x, n, h, hx => by injection h with h; subst h; rw [List.nil_append, numsD, hx]; rfl
  | y :: a, l, x, n, h, hx => by
    rw [numsD] at h
    rw [List.cons_append, numsD]
    split at h
    · cases h
    · rename_i k hk
      cases hl : numsD a with
      | none => rw [hl] at h; cases h
      | some l' =>
        rw [hl] at h
        injection h with h
        subst h
        try rw [hk]
        try dsimp only
        rw [numsD_snoc hl hx]
        rfl
theorem numsD_bad : ∀ {a : List (List UInt8)} {l : List Nat} {x : List UInt8} (r : List (List UInt8)), numsD a = some l → numD x = none → numsD (a ++ x :: r) = none
  | [], l, x, r, h, hx => by rw [List.nil_append, numsD, hx]
  | y :: a, l, x, r, h, hx => by
    rw [numsD] at h
    rw [List.cons_append, numsD]
    split at h
    · cases h
    · rename_i k hk
      cases hl : numsD a with
      | none => rw [hl] at h; cases h
      | some l' =>
        try rw [hk]
        try dsimp only
        rw [numsD_bad r hl hx]
        rfl
theorem dRest_none {D : DS} {w : List (List UInt8)} (h : numsD (w.drop 1) = none) : dRest D w = (D, badL) := by unfold dRest; rw [h]
theorem dRest_some {D : DS} {w : List (List UInt8)} {l : List Nat} (h : numsD (w.drop 1) = some l) : dRest D w = dActR D (w.getD 0 []) l := by unfold dRest; rw [h]; rfl
theorem RDAt.to {ok ok' : Nat → Prop} {w w' : World} {v : Value} {D : DS} (h : RDAt ok w v D) (hw : ∀ g, ok g → g < w.heap.size → w'.heap[g]? = w.heap[g]?) (ho : ∀ g, g < w.heap.size → ok g → ok' g) : RDAt ok' w' v D := by
  obtain ⟨a1, a2, c1, c2, b1, b2, b3, b4, b5, k1, d1, k2, d2, k3, d3, k4, d4, k5, d5, ts, mn, ch, e, i1, i2, i3⟩ := h.is
  exact ⟨a1, a2, c1, c2, b1, b2, b3, b4, b5, k1, d1, k2, d2, k3, d3, k4, d4, k5, d5, ts, mn, ch, e, i1.to hw ho, i2.to hw ho, fun T hT => (i3 T hT).to hw ho⟩
theorem take_succD {α : Type} {l : List α} {k : Nat} {x : α} (h : l[k]? = some x) : l.take (k + 1) = l.take k ++ [x] := by
  rw [List.take_add_one, h]; rfl
theorem split_atD {α : Type} : ∀ {l : List α} {k : Nat} {x : α}, l[k]? = some x → l = l.take k ++ x :: l.drop (k + 1)
  | y :: l, 0, x, h => by injection h with h; subst h; rfl
  | y :: l, k + 1, x, h => by
    have := split_atD (l := l) (k := k) (by simpa using h)
    rw [List.take_succ_cons, List.cons_append, List.drop_succ_cons, ← this]
theorem castL_snoc (l : List Nat) (n : Nat) : castL (l ++ [n]) = castL l ++ [(n : Int)] := by rw [castL_append]; rfl
section
variable {ok : Nat → Prop} {w : World} {D : DS} {T : TS} {a1 a2 : Option Addr} {c1 c2 m n : Nat} {b1 b2 b3 b4 b5 : Option Addr} {k1 d1 k2 d2 k3 d3 k4 d4 k5 d5 : Nat} {ts : ByteArray} {mn ch : Int}
set_option maxHeartbeats 16000000 in
theorem ansRest_two {up : Bool} (hok : ∀ g, w.heap.size ≤ g → ok g) (hD : DOk D) (hR : RDAt ok w (.agg #[.slice a1 m c1, .slice a2 n c2, .slice b1 k1 d1, .slice b2 k2 d2, .slice b3 k3 d3, .slice b4 k4 d4, .slice b5 k5 d5, .string ts, .int .i64 mn, .int .i64 ch, .bool up]) D) (s : ByteArray) (hs : s.size ≤ 3000) (hns : s.data.toList ≠ vStart) (h2 : (cutL 32 s.data.toList).length = 2) (hnu : (cutL 32 s.data.toList).getD 0 [] ≠ vUser) (hnf : (cutL 32 s.data.toList).getD 0 [] ≠ vFile) :
    Calls Tryz.prog 46 #[.agg #[.slice a1 m c1, .slice a2 n c2, .slice b1 k1 d1, .slice b2 k2 d2, .slice b3 k3 d3, .slice b4 k4 d4, .slice b5 k5 d5, .string ts, .int .i64 mn, .int .i64 ch, .bool up], .string s] w fun e w' => RDPost ok w (dRest D (cutL 32 s.data.toList)) e w' := by
  have e0 : ¬ s.toList = [115, 116, 97, 114, 116] := fun e => hns (by rw [← Lib.toList_data]; exact e)
  have g0 : (s.toList == [115, 116, 97, 114, 116]) = false := beq_eq_false_iff_ne.2 e0
  obtain ⟨W, hW⟩ : ∃ W, (w.alloc (.cells #[.slice a1 m c1, .slice a2 n c2, .slice b1 k1 d1, .slice b2 k2 d2, .slice b3 k3 d3, .slice b4 k4 d4, .slice b5 k5 d5, .string ts, .int .i64 mn, .int .i64 ch, .bool up] 103)).alloc (.cells #[.slice none 0 0, .slice none 0 0, .slice none 0 0, .slice none 0 0, .slice none 0 0, .slice none 0 0, .slice none 0 0, .string ⟨#[]⟩, .int .i64 0, .int .i64 0, .bool false] 103) = W := ⟨_, rfl⟩
  have hxb : BoxN W w.heap.size 103 #[.slice a1 m c1, .slice a2 n c2, .slice b1 k1 d1, .slice b2 k2 d2, .slice b3 k3 d3, .slice b4 k4 d4, .slice b5 k5 d5, .string ts, .int .i64 mn, .int .i64 ch, .bool up] := by rw [← hW]; exact (BoxN.new _ _ _).alloc _
  have hzb : BoxN W (w.heap.size + 1) 103 #[.slice none 0 0, .slice none 0 0, .slice none 0 0, .slice none 0 0, .slice none 0 0, .slice none 0 0, .slice none 0 0, .string ⟨#[]⟩, .int .i64 0, .int .i64 0, .bool false] := by rw [← hW]; exact BoxN.new' _ _ _ _ (by simp)
  have hbb : Below w.heap.size w W := by rw [← hW]; exact act_boxes (Below.refl _ _) _ _ _
  have Hs := Lib.hid (show W.heap.size = w.heap.size + 2 by rw [← hW]; simp)
  have CC := RCut_any 32 s (by omega) W
  rw [show (((32 : UInt8).toNat : Nat) : Int) = 32 from rfl] at CC
  have HCC := Lib.hid CC
  clear CC
  have HD := Lib.hid hD
  have HR := Lib.hid hR
  have HN := Lib.hid (fun x V => RNumber_any x V)
  clear hR hD
  go_enter Tryz.func46, Tryz.ntmps46
  go_wp2_with fail
  try rw [hW]
  clear hW
  with_reducible refine HCC.out.mono ?_
  rintro e w1 ⟨⟨vw, ls, rfl, hown, hls⟩, hb1⟩
  have hlen : ls.length ≤ 3001 ∧ 1 ≤ ls.length := by
    have h1 := congrArg List.length hls
    rw [List.length_map, cutL_length] at h1
    have h3 := List.count_le_length (a := (32 : UInt8)) (l := s.data.toList)
    rw [← ba_size] at h3
    omega
  have hwsz : ∀ x ∈ ls, x.size ≤ 3000 := fun x hx => by
    have h1 := cutL_le 32 s.data.toList x.data.toList (by rw [← hls]; exact List.mem_map.2 ⟨x, hx, rfl⟩)
    rw [← ba_size, ← ba_size] at h1
    omega
  rw [← hls] at h2 hnu hnf
  obtain ⟨u, rs, rfl⟩ : ∃ u rs, ls = u :: rs := by
    cases ls with
    | nil => simp at hlen
    | cons u rs => exact ⟨u, rs, rfl⟩
  have hu0 : u.data.toList = (((u :: rs).map (·.data.toList)).getD 0 [] : List UInt8) := rfl
  obtain ⟨nl, hnl⟩ : ∃ nl, (u :: rs).length = nl := ⟨_, rfl⟩
  have hrn : rs.length + 1 = nl := hnl
  have Hls := Lib.hid hls
  rw [List.length_map, hnl] at h2
  have dl : ((nl : Int) == 2) = true := by rw [beq_iff_eq]; omega
  have eu : ¬ u.toList = [117, 115, 101, 114] := fun e => hnu (by rw [← hu0, ← Lib.toList_data]; exact e)
  have eu2 : (u.toList == [117, 115, 101, 114]) = false := beq_eq_false_iff_ne.2 eu
  have ef : ¬ u.toList = [102, 105, 108, 101] := fun e => hnf (by rw [← hu0, ← Lib.toList_data]; exact e)
  have ef2 : (u.toList == [102, 105, 108, 101]) = false := beq_eq_false_iff_ne.2 ef
  obtain ⟨Aw, cw, rfl, hcw⟩ := hown.form
  obtain ⟨gw, ow, rfl, hcc⟩ := hcw (by simp)
  have Hgw := Lib.hid (show w.heap.size + 2 ≤ gw by rw [← Hs.out]; exact (World.ownsRow.lt (show w1.ownsRow W.heap.size 9 1 _ _ _ from hown) gw rfl).1)
  have l0 := hcc 0 _ rfl
  rw [Nat.add_zero] at l0
  have Hcell := Lib.hid (show ∀ j x, rs[j]? = some x → w1.cell? ⟨gw, ow + (j + 1), none⟩ = some (.string x) from fun j x hj => hcc (j + 1) _ (by rw [List.map_cons, List.getElem?_cons_succ, List.getElem?_map, hj]; rfl))
  rw [hnl]
  have Hrn := Lib.hid hrn
  have Hlen := Lib.hid hlen
  rw [hnl] at hlen
  have hl1 : nl ≤ 3001 := hlen.1
  have hl2 : 1 ≤ nl := hlen.2
  have Hwsz := Lib.hid hwsz
  have hX1 := hxb.all hb1
  have hZ1 := hzb.all hb1
  have hbw1 := hbb.trans (hb1.mono hbb.size)
  have Hs1 := Lib.hid (show w.heap.size + 2 ≤ w1.heap.size by rw [← Hs.out]; exact hb1.size)
  obtain ⟨⟨x0, x1, x2, x3, x4, x5, x6, x7, x8, x9, x10⟩, fx⟩ := BoxN.st11 hX1
  obtain ⟨⟨z0, z1, z2, z3, z4, z5, z6, z7, z8, z9, z10⟩, f0, f1, f2, f3, f4, f5, f6, f7, f8, f9, f10⟩ := BoxN.st11 hZ1
  have HX1 := Lib.hid hX1
  have HZ1 := Lib.hid hZ1
  have Hbw1 := Lib.hid hbw1
  have hlw := block_lt l0
  have hlx := hX1.lt
  have HS := Lib.hid (fun V (hV : Below w1.heap.size w1 V) => (⟨(hV.cell (p := ⟨w.heap.size, 0, none⟩) hlx).trans x0, (hV.cell (p := ⟨w.heap.size, 1, none⟩) hlx).trans x1, (hV.cell (p := ⟨w.heap.size, 2, none⟩) hlx).trans x2, (hV.cell (p := ⟨w.heap.size, 3, none⟩) hlx).trans x3, (hV.cell (p := ⟨w.heap.size, 4, none⟩) hlx).trans x4, (hV.cell (p := ⟨w.heap.size, 5, none⟩) hlx).trans x5, (hV.cell (p := ⟨w.heap.size, 6, none⟩) hlx).trans x6, (hV.cell (p := ⟨w.heap.size, 7, none⟩) hlx).trans x7, (hV.cell (p := ⟨w.heap.size, 8, none⟩) hlx).trans x8, (hV.cell (p := ⟨w.heap.size, 9, none⟩) hlx).trans x9, (hV.cell (p := ⟨w.heap.size, 10, none⟩) hlx).trans x10, (hV.cell (p := ⟨gw, ow, none⟩) hlw).trans l0⟩ : V.cell? ⟨w.heap.size, 0, none⟩ = some (.slice a1 m c1) ∧ V.cell? ⟨w.heap.size, 1, none⟩ = some (.slice a2 n c2) ∧ V.cell? ⟨w.heap.size, 2, none⟩ = some (.slice b1 k1 d1) ∧ V.cell? ⟨w.heap.size, 3, none⟩ = some (.slice b2 k2 d2) ∧ V.cell? ⟨w.heap.size, 4, none⟩ = some (.slice b3 k3 d3) ∧ V.cell? ⟨w.heap.size, 5, none⟩ = some (.slice b4 k4 d4) ∧ V.cell? ⟨w.heap.size, 6, none⟩ = some (.slice b5 k5 d5) ∧ V.cell? ⟨w.heap.size, 7, none⟩ = some (.string ts) ∧ V.cell? ⟨w.heap.size, 8, none⟩ = some (.int .i64 mn) ∧ V.cell? ⟨w.heap.size, 9, none⟩ = some (.int .i64 ch) ∧ V.cell? ⟨w.heap.size, 10, none⟩ = some (.bool up) ∧ V.cell? ⟨gw, ow, none⟩ = some (.string u)))
  have HR1 := Lib.hid (HR.out.to (ok' := fun g => (ok g ∧ g < w.heap.size) ∨ w1.heap.size ≤ g) (fun g _ hlt => hbw1.block g hlt) (fun g hg ho => .inl ⟨ho, hg⟩))
  clear hown hls hcw hxb hzb hbb hb1 hX1 hZ1 hbw1 HCC hcc hlx hnl hrn hlen hwsz hu0 h2 hns fx hnu hnf
  go_wp2_with fail
  clear e0 g0 f0 f1 f2 f3 f4 f5 f6 f7 f8 f9 f10 z0 z1 z2 z3 z4 z5 z6 z7 z8 z9 z10 x0 x1 x2 x3 x4 x5 x6 x7 x8 x9 x10
  go_loopw [14, 15, 16, 17] (fun v14 kk _ _ wi => ∃ (j : Nat) (l : List Nat) (A9 : Option Addr) (c9 : Nat), j + 1 ≤ nl ∧ l.length = j ∧ kk = .int .i64 ((j + 1 : Nat) : Int) ∧ v14 = .slice A9 j c9 ∧ Hid (numsD ((rs.map (·.data.toList)).take j) = some l) ∧ Hid (OwnI wi w1.heap.size (.slice A9 j c9) (castL l)) ∧ Hid (Below w1.heap.size w1 wi)) (fun _ kk _ _ _ => nl - (intOf kk).toNat)
  case atStart => exact ⟨0, [], none, 0, hl2, rfl, rfl, rfl, Lib.hid rfl, Lib.hid (OwnI.nil _ _), Lib.hid (Below.refl _ _)⟩
  case round =>
    obtain ⟨wi, rfl⟩ : ∃ wi : World, wi = wr := ⟨_, rfl⟩
    obtain ⟨j, l, A9, c9, hj, hlj, rfl, rfl, Hnk, Hown, Hbi⟩ := hrel
    have HZi := Lib.hid (HZ1.out.all Hbi.out)
    have hs1 := Hs1.out
    have Hbf := Lib.hid (fun y0 y1 y2 y3 y4 y5 y6 y7 y8 y9 y10 => below_put11 (Hbw1.out.trans (Hbi.out.mono (by omega))) (g := w.heap.size + 1) (by omega) y0 y1 y2 y3 y4 y5 y6 y7 y8 y9 y10)
    obtain ⟨⟨x0, x1, x2, x3, x4, x5, x6, x7, x8, x9, x10⟩, -⟩ := BoxN.st11 (HX1.out.all Hbi.out)
    obtain ⟨⟨z0, z1, z2, z3, z4, z5, z6, z7, z8, z9, z10⟩, f0, f1, f2, f3, f4, f5, f6, f7, f8, f9, f10⟩ := BoxN.st11 HZi.out
    by_cases hjn : j + 1 < nl
    · obtain ⟨y, hy⟩ : ∃ y, rs[j]? = some y := ⟨_, List.getElem?_eq_getElem (i := j) (by have := Hrn.out; omega)⟩
      have hM : (rs.map (·.data.toList))[j]? = some y.data.toList := by rw [List.getElem?_map, hy]; rfl
      have cy := (Hbi.out.cell (p := ⟨gw, ow + (j + 1), none⟩) (block_lt (Hcell.out j y hy))).trans (Hcell.out j y hy)
      have hys : y.size ≤ 3000 := Hwsz.out y (List.mem_cons_of_mem _ (List.mem_of_getElem? hy))
      have Hsp := Lib.hid (split_atD hM)
      have Htk := Lib.hid (take_succD hM)
      have HBad := Lib.hid (fun (hc : numD y.data.toList = none) => show dRest D (cutL 32 s.data.toList) = (D, badL) by rw [← Hls.out]; exact dRest_none (by show numsD (rs.map (·.data.toList)) = none; rw [Hsp.out]; exact numsD_bad _ Hnk.out hc))
      have dj : decide (((j + 1 : Nat) : Int) < (nl : Int)) = true := by simp; omega
      have kj1 : (0 : Int) ≤ ((j + 1 : Nat) : Int) := by omega
      have kj2 : ((j + 1 : Nat) : Int) < (nl : Int) := by omega
      have CY := Lib.hid (HN.out y)
      clear hy hM
      go_wp2_with fail
      with_reducible refine (CY.out _).mono ?_
      rintro e w5 ⟨⟨nv, bv, rfl, hno1, hno⟩, hw5⟩
      have hw5' : wi = w5 := hw5
      subst hw5'
      clear hw5 CY
      cases hnv : numV y.data.toList with
      | none =>
        obtain rfl := hno hnv
        have hE := HBad.out (numD_no hnv)
        clear hno1 hno hnv
        go_wp2_with fail
        refine bodyPost_ret (results_row_tmpD rfl _ _ (w.heap.size + 1) 103 #[.slice a1 m c1, .slice a2 n c2, .slice b1 k1 d1, .slice b2 k2 d2, .slice b3 k3 d3, .slice b4 k4 d4, .slice b5 k5 d5, .string ts, .int .i64 mn, .int .i64 ch, .bool up] (0, 0) _ rfl (HZi.out.put11 _ _ _ _ _ _ _ _ _ _ _) Tryz.underlying103 rfl (by kernel_rfl)) rfl ?_
        rw [hE]
        exact ⟨⟨_, rfl, HR.out.below (Hbf.out _ _ _ _ _ _ _ _ _ _ _)⟩, Hbf.out _ _ _ _ _ _ _ _ _ _ _⟩
      | some nn =>
        obtain ⟨rfl, rfl⟩ := hno1 nn hnv
        by_cases h4 : 4 < y.size
        · have f6 : decide ((y.size : Int) > 4) = true := by simp; omega
          have hE := HBad.out (numD_long h4)
          clear hno1 hno hnv
          go_wp2_with fail
          refine bodyPost_ret (results_row_tmpD rfl _ _ (w.heap.size + 1) 103 #[.slice a1 m c1, .slice a2 n c2, .slice b1 k1 d1, .slice b2 k2 d2, .slice b3 k3 d3, .slice b4 k4 d4, .slice b5 k5 d5, .string ts, .int .i64 mn, .int .i64 ch, .bool up] (0, 0) _ rfl (HZi.out.put11 _ _ _ _ _ _ _ _ _ _ _) Tryz.underlying103 rfl (by kernel_rfl)) rfl ?_
          rw [hE]
          exact ⟨⟨_, rfl, HR.out.below (Hbf.out _ _ _ _ _ _ _ _ _ _ _)⟩, Hbf.out _ _ _ _ _ _ _ _ _ _ _⟩
        · have f6 : decide ((y.size : Int) > 4) = false := by simp; omega
          have Hall := Lib.hid (show numsD ((rs.map (·.data.toList)).take (j + 1)) = some (l ++ [nn]) by rw [Htk.out]; exact numsD_snoc Hnk.out (numD_num hnv (by omega)))
          have hl40 : (castL l).length < 2 ^ 40 := by rw [length_castL]; omega
          have hlk : (castL l ++ [(nn : Int)]).length = j + 1 := by rw [List.length_append, length_castL, hlj]; rfl
          have hs6 := Hbi.out.size
          clear hno1 hno hnv x0 x1 x2 x3 x4 x5 x6 x7 x8 x9 x10 f0 f1 f2 f3 f4 f5 f6 f7 f8 f9 f10 z0 z1 z2 z3 z4 z5 z6 z7 z8 z9 z10
          have Hlk := Lib.hid hlk
          have f6 : decide ((y.size : Int) > 4) = false := by simp; omega
          clear hlk
          go_wp2_with (at_builtin; refine wpList_push_int rfl _ _ rfl rfl (Hown.out.next ((Below.refl _ _).alloc (Nat.le_refl _) _)) _ (nn : Int) rfl (cell_of_row _ _ 0 _ _ _ (heap_alloc_new _ _)) hl40 (by simp; omega) ?_; intro u1 w7 hown7 hgr7 hblk7 hbl7; obtain ⟨A1, k1', rfl, -⟩ := hown7.form; rw [Hlk.out] at hown7 ⊢; have hb17 := hbl7 w1 (Hbi.out.alloc hs6 _))
          refine ⟨⟨j + 1, l ++ [nn], A1, k1', ?ya, ?yc, ?yb, rfl, Hall, Lib.hid (by rw [castL_snoc]; exact hown7), Lib.hid hb17⟩, ?yd⟩
          case ya => omega
          case yc => rw [List.length_append, hlj]; rfl
          case yb => go_num
          case yd => simp [intOf]; omega
    · have hjn2 : j + 1 = nl := by omega
      have dj : decide (((j + 1 : Nat) : Int) < (nl : Int)) = false := by simp; omega
      have hE : dRest D (cutL 32 s.data.toList) = dActR D u.data.toList l := by
        rw [← Hls.out]
        exact dRest_some (by show numsD (rs.map (·.data.toList)) = some l; rw [← Hnk.out, List.take_of_length_le (by rw [List.length_map]; have := Hrn.out; omega)])
      have hpd : Below w1.heap.size w1 wi.drew := Hbi.out.trans ((Below.refl _ _).drew.mono Hbi.out.size)
      have CA : Hid (Calls Tryz.prog 66 #[.agg #[.slice a1 m c1, .slice a2 n c2, .slice b1 k1 d1, .slice b2 k2 d2, .slice b3 k3 d3, .slice b4 k4 d4, .slice b5 k5 d5, .string ts, .int .i64 mn, .int .i64 ch, .bool up], .string s, .string u, .slice A9 j c9] wi.drew fun e w' => RDPost (fun g => (ok g ∧ g < w.heap.size) ∨ w1.heap.size ≤ g) w1 (dActR D u.data.toList l) e w') := Lib.hid (by
        have h1 := RAct_any (W0 := w1) (w := wi.drew) (fun g hg => .inr hg) HD.out HR1.out hpd s u l (A := A9) (c := c9) (by rw [hlj]; exact Hown.out.drew)
        rw [hlj] at h1
        exact h1)
      have HE := Lib.hid hE
      have Hjn := Lib.hid hjn2
      have hj0 : (0 : Int) < (nl : Int) := by omega
      have hj1 : 0 < nl := by omega
      have dj2 : decide ((j : Int) + 1 < (nl : Int)) = false := by simp; omega
      clear hE hjn2 Hown
      obtain ⟨rr, hrr⟩ : ∃ rr, dActR D u.data.toList l = rr := ⟨_, rfl⟩
      rw [hrr] at CA HE
      have hgw := Hgw.out
      have HSt := Lib.hid (fun (V : World) (hV : Below w1.heap.size w1 V) (y0 y1 y2 y3 y4 y5 y6 y7 y8 y9 y10 : Value) => (show (((((((((((V.setCell ⟨w.heap.size + 1, 0, none⟩ y0).setCell ⟨w.heap.size + 1, 1, none⟩ y1).setCell ⟨w.heap.size + 1, 2, none⟩ y2).setCell ⟨w.heap.size + 1, 3, none⟩ y3).setCell ⟨w.heap.size + 1, 4, none⟩ y4).setCell ⟨w.heap.size + 1, 5, none⟩ y5).setCell ⟨w.heap.size + 1, 6, none⟩ y6).setCell ⟨w.heap.size + 1, 7, none⟩ y7).setCell ⟨w.heap.size + 1, 8, none⟩ y8).setCell ⟨w.heap.size + 1, 9, none⟩ y9).setCell ⟨w.heap.size + 1, 10, none⟩ y10).cell? ⟨w.heap.size, 0, none⟩ = some (.slice a1 m c1) ∧ (((((((((((V.setCell ⟨w.heap.size + 1, 0, none⟩ y0).setCell ⟨w.heap.size + 1, 1, none⟩ y1).setCell ⟨w.heap.size + 1, 2, none⟩ y2).setCell ⟨w.heap.size + 1, 3, none⟩ y3).setCell ⟨w.heap.size + 1, 4, none⟩ y4).setCell ⟨w.heap.size + 1, 5, none⟩ y5).setCell ⟨w.heap.size + 1, 6, none⟩ y6).setCell ⟨w.heap.size + 1, 7, none⟩ y7).setCell ⟨w.heap.size + 1, 8, none⟩ y8).setCell ⟨w.heap.size + 1, 9, none⟩ y9).setCell ⟨w.heap.size + 1, 10, none⟩ y10).cell? ⟨w.heap.size, 1, none⟩ = some (.slice a2 n c2) ∧ (((((((((((V.setCell ⟨w.heap.size + 1, 0, none⟩ y0).setCell ⟨w.heap.size + 1, 1, none⟩ y1).setCell ⟨w.heap.size + 1, 2, none⟩ y2).setCell ⟨w.heap.size + 1, 3, none⟩ y3).setCell ⟨w.heap.size + 1, 4, none⟩ y4).setCell ⟨w.heap.size + 1, 5, none⟩ y5).setCell ⟨w.heap.size + 1, 6, none⟩ y6).setCell ⟨w.heap.size + 1, 7, none⟩ y7).setCell ⟨w.heap.size + 1, 8, none⟩ y8).setCell ⟨w.heap.size + 1, 9, none⟩ y9).setCell ⟨w.heap.size + 1, 10, none⟩ y10).cell? ⟨w.heap.size, 2, none⟩ = some (.slice b1 k1 d1) ∧ (((((((((((V.setCell ⟨w.heap.size + 1, 0, none⟩ y0).setCell ⟨w.heap.size + 1, 1, none⟩ y1).setCell ⟨w.heap.size + 1, 2, none⟩ y2).setCell ⟨w.heap.size + 1, 3, none⟩ y3).setCell ⟨w.heap.size + 1, 4, none⟩ y4).setCell ⟨w.heap.size + 1, 5, none⟩ y5).setCell ⟨w.heap.size + 1, 6, none⟩ y6).setCell ⟨w.heap.size + 1, 7, none⟩ y7).setCell ⟨w.heap.size + 1, 8, none⟩ y8).setCell ⟨w.heap.size + 1, 9, none⟩ y9).setCell ⟨w.heap.size + 1, 10, none⟩ y10).cell? ⟨w.heap.size, 3, none⟩ = some (.slice b2 k2 d2) ∧ (((((((((((V.setCell ⟨w.heap.size + 1, 0, none⟩ y0).setCell ⟨w.heap.size + 1, 1, none⟩ y1).setCell ⟨w.heap.size + 1, 2, none⟩ y2).setCell ⟨w.heap.size + 1, 3, none⟩ y3).setCell ⟨w.heap.size + 1, 4, none⟩ y4).setCell ⟨w.heap.size + 1, 5, none⟩ y5).setCell ⟨w.heap.size + 1, 6, none⟩ y6).setCell ⟨w.heap.size + 1, 7, none⟩ y7).setCell ⟨w.heap.size + 1, 8, none⟩ y8).setCell ⟨w.heap.size + 1, 9, none⟩ y9).setCell ⟨w.heap.size + 1, 10, none⟩ y10).cell? ⟨w.heap.size, 4, none⟩ = some (.slice b3 k3 d3) ∧ (((((((((((V.setCell ⟨w.heap.size + 1, 0, none⟩ y0).setCell ⟨w.heap.size + 1, 1, none⟩ y1).setCell ⟨w.heap.size + 1, 2, none⟩ y2).setCell ⟨w.heap.size + 1, 3, none⟩ y3).setCell ⟨w.heap.size + 1, 4, none⟩ y4).setCell ⟨w.heap.size + 1, 5, none⟩ y5).setCell ⟨w.heap.size + 1, 6, none⟩ y6).setCell ⟨w.heap.size + 1, 7, none⟩ y7).setCell ⟨w.heap.size + 1, 8, none⟩ y8).setCell ⟨w.heap.size + 1, 9, none⟩ y9).setCell ⟨w.heap.size + 1, 10, none⟩ y10).cell? ⟨w.heap.size, 5, none⟩ = some (.slice b4 k4 d4) ∧ (((((((((((V.setCell ⟨w.heap.size + 1, 0, none⟩ y0).setCell ⟨w.heap.size + 1, 1, none⟩ y1).setCell ⟨w.heap.size + 1, 2, none⟩ y2).setCell ⟨w.heap.size + 1, 3, none⟩ y3).setCell ⟨w.heap.size + 1, 4, none⟩ y4).setCell ⟨w.heap.size + 1, 5, none⟩ y5).setCell ⟨w.heap.size + 1, 6, none⟩ y6).setCell ⟨w.heap.size + 1, 7, none⟩ y7).setCell ⟨w.heap.size + 1, 8, none⟩ y8).setCell ⟨w.heap.size + 1, 9, none⟩ y9).setCell ⟨w.heap.size + 1, 10, none⟩ y10).cell? ⟨w.heap.size, 6, none⟩ = some (.slice b5 k5 d5) ∧ (((((((((((V.setCell ⟨w.heap.size + 1, 0, none⟩ y0).setCell ⟨w.heap.size + 1, 1, none⟩ y1).setCell ⟨w.heap.size + 1, 2, none⟩ y2).setCell ⟨w.heap.size + 1, 3, none⟩ y3).setCell ⟨w.heap.size + 1, 4, none⟩ y4).setCell ⟨w.heap.size + 1, 5, none⟩ y5).setCell ⟨w.heap.size + 1, 6, none⟩ y6).setCell ⟨w.heap.size + 1, 7, none⟩ y7).setCell ⟨w.heap.size + 1, 8, none⟩ y8).setCell ⟨w.heap.size + 1, 9, none⟩ y9).setCell ⟨w.heap.size + 1, 10, none⟩ y10).cell? ⟨w.heap.size, 7, none⟩ = some (.string ts) ∧ (((((((((((V.setCell ⟨w.heap.size + 1, 0, none⟩ y0).setCell ⟨w.heap.size + 1, 1, none⟩ y1).setCell ⟨w.heap.size + 1, 2, none⟩ y2).setCell ⟨w.heap.size + 1, 3, none⟩ y3).setCell ⟨w.heap.size + 1, 4, none⟩ y4).setCell ⟨w.heap.size + 1, 5, none⟩ y5).setCell ⟨w.heap.size + 1, 6, none⟩ y6).setCell ⟨w.heap.size + 1, 7, none⟩ y7).setCell ⟨w.heap.size + 1, 8, none⟩ y8).setCell ⟨w.heap.size + 1, 9, none⟩ y9).setCell ⟨w.heap.size + 1, 10, none⟩ y10).cell? ⟨w.heap.size, 8, none⟩ = some (.int .i64 mn) ∧ (((((((((((V.setCell ⟨w.heap.size + 1, 0, none⟩ y0).setCell ⟨w.heap.size + 1, 1, none⟩ y1).setCell ⟨w.heap.size + 1, 2, none⟩ y2).setCell ⟨w.heap.size + 1, 3, none⟩ y3).setCell ⟨w.heap.size + 1, 4, none⟩ y4).setCell ⟨w.heap.size + 1, 5, none⟩ y5).setCell ⟨w.heap.size + 1, 6, none⟩ y6).setCell ⟨w.heap.size + 1, 7, none⟩ y7).setCell ⟨w.heap.size + 1, 8, none⟩ y8).setCell ⟨w.heap.size + 1, 9, none⟩ y9).setCell ⟨w.heap.size + 1, 10, none⟩ y10).cell? ⟨w.heap.size, 9, none⟩ = some (.int .i64 ch) ∧ (((((((((((V.setCell ⟨w.heap.size + 1, 0, none⟩ y0).setCell ⟨w.heap.size + 1, 1, none⟩ y1).setCell ⟨w.heap.size + 1, 2, none⟩ y2).setCell ⟨w.heap.size + 1, 3, none⟩ y3).setCell ⟨w.heap.size + 1, 4, none⟩ y4).setCell ⟨w.heap.size + 1, 5, none⟩ y5).setCell ⟨w.heap.size + 1, 6, none⟩ y6).setCell ⟨w.heap.size + 1, 7, none⟩ y7).setCell ⟨w.heap.size + 1, 8, none⟩ y8).setCell ⟨w.heap.size + 1, 9, none⟩ y9).setCell ⟨w.heap.size + 1, 10, none⟩ y10).cell? ⟨w.heap.size, 10, none⟩ = some (.bool up) ∧ (((((((((((V.setCell ⟨w.heap.size + 1, 0, none⟩ y0).setCell ⟨w.heap.size + 1, 1, none⟩ y1).setCell ⟨w.heap.size + 1, 2, none⟩ y2).setCell ⟨w.heap.size + 1, 3, none⟩ y3).setCell ⟨w.heap.size + 1, 4, none⟩ y4).setCell ⟨w.heap.size + 1, 5, none⟩ y5).setCell ⟨w.heap.size + 1, 6, none⟩ y6).setCell ⟨w.heap.size + 1, 7, none⟩ y7).setCell ⟨w.heap.size + 1, 8, none⟩ y8).setCell ⟨w.heap.size + 1, 9, none⟩ y9).setCell ⟨w.heap.size + 1, 10, none⟩ y10).cell? ⟨gw, ow, none⟩ = some (.string u) from by
        obtain ⟨x0, x1, x2, x3, x4, x5, x6, x7, x8, x9, x10, l0⟩ := HS.out V hV
        exact And.intro (cell_put11n (V := V) (g := w.heap.size + 1) y0 y1 y2 y3 y4 y5 y6 y7 y8 y9 y10 (by show w.heap.size ≠ _; omega) x0) (And.intro (cell_put11n (V := V) (g := w.heap.size + 1) y0 y1 y2 y3 y4 y5 y6 y7 y8 y9 y10 (by show w.heap.size ≠ _; omega) x1) (And.intro (cell_put11n (V := V) (g := w.heap.size + 1) y0 y1 y2 y3 y4 y5 y6 y7 y8 y9 y10 (by show w.heap.size ≠ _; omega) x2) (And.intro (cell_put11n (V := V) (g := w.heap.size + 1) y0 y1 y2 y3 y4 y5 y6 y7 y8 y9 y10 (by show w.heap.size ≠ _; omega) x3) (And.intro (cell_put11n (V := V) (g := w.heap.size + 1) y0 y1 y2 y3 y4 y5 y6 y7 y8 y9 y10 (by show w.heap.size ≠ _; omega) x4) (And.intro (cell_put11n (V := V) (g := w.heap.size + 1) y0 y1 y2 y3 y4 y5 y6 y7 y8 y9 y10 (by show w.heap.size ≠ _; omega) x5) (And.intro (cell_put11n (V := V) (g := w.heap.size + 1) y0 y1 y2 y3 y4 y5 y6 y7 y8 y9 y10 (by show w.heap.size ≠ _; omega) x6) (And.intro (cell_put11n (V := V) (g := w.heap.size + 1) y0 y1 y2 y3 y4 y5 y6 y7 y8 y9 y10 (by show w.heap.size ≠ _; omega) x7) (And.intro (cell_put11n (V := V) (g := w.heap.size + 1) y0 y1 y2 y3 y4 y5 y6 y7 y8 y9 y10 (by show w.heap.size ≠ _; omega) x8) (And.intro (cell_put11n (V := V) (g := w.heap.size + 1) y0 y1 y2 y3 y4 y5 y6 y7 y8 y9 y10 (by show w.heap.size ≠ _; omega) x9) (And.intro (cell_put11n (V := V) (g := w.heap.size + 1) y0 y1 y2 y3 y4 y5 y6 y7 y8 y9 y10 (by show w.heap.size ≠ _; omega) x10) (cell_put11n (V := V) (g := w.heap.size + 1) y0 y1 y2 y3 y4 y5 y6 y7 y8 y9 y10 (by show gw ≠ _; omega) l0)))))))))))))
      have l0 := (HS.out _ Hbi.out).2.2.2.2.2.2.2.2.2.2.2
      clear hrr f0 f1 f2 f3 f4 f5 f6 f7 f8 f9 f10 z0 z1 z2 z3 z4 z5 z6 z7 z8 z9 z10 HZi Hbf
      go_wp2_with fail
      go_region_held3 (fun V => V.cell? ⟨w.heap.size, 0, none⟩ = some (.slice a1 m c1) ∧ V.cell? ⟨w.heap.size, 1, none⟩ = some (.slice a2 n c2) ∧ V.cell? ⟨w.heap.size, 2, none⟩ = some (.slice b1 k1 d1) ∧ V.cell? ⟨w.heap.size, 3, none⟩ = some (.slice b2 k2 d2) ∧ V.cell? ⟨w.heap.size, 4, none⟩ = some (.slice b3 k3 d3) ∧ V.cell? ⟨w.heap.size, 5, none⟩ = some (.slice b4 k4 d4) ∧ V.cell? ⟨w.heap.size, 6, none⟩ = some (.slice b5 k5 d5) ∧ V.cell? ⟨w.heap.size, 7, none⟩ = some (.string ts) ∧ V.cell? ⟨w.heap.size, 8, none⟩ = some (.int .i64 mn) ∧ V.cell? ⟨w.heap.size, 9, none⟩ = some (.int .i64 ch) ∧ V.cell? ⟨w.heap.size, 10, none⟩ = some (.bool up) ∧ V.cell? ⟨gw, ow, none⟩ = some (.string u))
        ((first | with_reducible exact HS.out _ hpd | with_reducible exact HS.out _ hb3 | exact HSt.out _ hb3 _ _ _ _ _ _ _ _ _ _ _))
        ((first
          | (go_at_call 66; with_reducible refine CA.out.mono ?_; intro e w3 hpq; unfold RDPost at hpq; obtain ⟨⟨v', he, hR3⟩, hb3⟩ := hpq; subst he; obtain ⟨p1, p2, g1, g2, b1', b2', b3', b4', b5', s1, t1, s2, t2, s3, t3, s4, t4, s5, t5, us, mu, cu, he2, -⟩ := hR3.is; subst he2; have hZ3 := HZ1.out.all hb3; obtain ⟨⟨z0, z1, z2, z3, z4, z5, z6, z7, z8, z9, z10⟩, f0, f1, f2, f3, f4, f5, f6, f7, f8, f9, f10⟩ := BoxN.st11 hZ3)
          | fail))
      have HR3 := Lib.hid hR3
      have HZ3 := Lib.hid hZ3
      have Hb3 := Lib.hid hb3
      clear hR3 hZ3 hb3
      go_wp2_with fail
      refine bodyPost_ret (results_row_tmpD rfl _ _ (w.heap.size + 1) 103 #[.slice p1 rr.1.m g1, .slice p2 rr.1.n g2, .slice b1' s1 t1, .slice b2' s2 t2, .slice b3' s3 t3, .slice b4' s4 t4, .slice b5' s5 t5, .string us, .int .i64 mu, .int .i64 cu, .bool rr.1.T.isSome] (0, 0) _ rfl (HZ3.out.put11 _ _ _ _ _ _ _ _ _ _ _) Tryz.underlying103 rfl (by kernel_rfl)) rfl ?_
      rw [HE.out]
      exact ⟨⟨_, rfl, HR3.out.to (ok' := ok) (w' := (((((((((((w3.setCell ⟨w.heap.size + 1, 0, none⟩ (.slice p1 rr.1.m g1)).setCell ⟨w.heap.size + 1, 1, none⟩ (.slice p2 rr.1.n g2)).setCell ⟨w.heap.size + 1, 2, none⟩ (.slice b1' s1 t1)).setCell ⟨w.heap.size + 1, 3, none⟩ (.slice b2' s2 t2)).setCell ⟨w.heap.size + 1, 4, none⟩ (.slice b3' s3 t3)).setCell ⟨w.heap.size + 1, 5, none⟩ (.slice b4' s4 t4)).setCell ⟨w.heap.size + 1, 6, none⟩ (.slice b5' s5 t5)).setCell ⟨w.heap.size + 1, 7, none⟩ (.string us)).setCell ⟨w.heap.size + 1, 8, none⟩ (.int .i64 mu)).setCell ⟨w.heap.size + 1, 9, none⟩ (.int .i64 cu)).setCell ⟨w.heap.size + 1, 10, none⟩ (.bool rr.1.T.isSome))) (fun x hx _ => heap_put11 (V := w3) (g := w.heap.size + 1) (b := x) (.slice p1 rr.1.m g1) (.slice p2 rr.1.n g2) (.slice b1' s1 t1) (.slice b2' s2 t2) (.slice b3' s3 t3) (.slice b4' s4 t4) (.slice b5' s5 t5) (.string us) (.int .i64 mu) (.int .i64 cu) (.bool rr.1.T.isSome) (by have h9 : (ok x ∧ x < w.heap.size) ∨ w1.heap.size ≤ x := hx; rcases h9 with ⟨_, h9⟩ | h9 <;> omega)) (fun g _ ho => by rcases ho with ⟨h, _⟩ | h; exact h; exact hok g (by omega))⟩, below_put11 (Hbw1.out.trans (Hb3.out.mono (by omega))) (g := w.heap.size + 1) (by omega) (.slice p1 rr.1.m g1) (.slice p2 rr.1.n g2) (.slice b1' s1 t1) (.slice b2' s2 t2) (.slice b3' s3 t3) (.slice b4' s4 t4) (.slice b5' s5 t5) (.string us) (.int .i64 mu) (.int .i64 cu) (.bool rr.1.T.isSome)⟩
set_option maxHeartbeats 16000000 in
theorem ansRest_more {up : Bool} (hok : ∀ g, w.heap.size ≤ g → ok g) (hD : DOk D) (hR : RDAt ok w (.agg #[.slice a1 m c1, .slice a2 n c2, .slice b1 k1 d1, .slice b2 k2 d2, .slice b3 k3 d3, .slice b4 k4 d4, .slice b5 k5 d5, .string ts, .int .i64 mn, .int .i64 ch, .bool up]) D) (s : ByteArray) (hs : s.size ≤ 3000) (hns : s.data.toList ≠ vStart) (h2 : (cutL 32 s.data.toList).length ≠ 2) :
    Calls Tryz.prog 46 #[.agg #[.slice a1 m c1, .slice a2 n c2, .slice b1 k1 d1, .slice b2 k2 d2, .slice b3 k3 d3, .slice b4 k4 d4, .slice b5 k5 d5, .string ts, .int .i64 mn, .int .i64 ch, .bool up], .string s] w fun e w' => RDPost ok w (dRest D (cutL 32 s.data.toList)) e w' := by
  have e0 : ¬ s.toList = [115, 116, 97, 114, 116] := fun e => hns (by rw [← Lib.toList_data]; exact e)
  have g0 : (s.toList == [115, 116, 97, 114, 116]) = false := beq_eq_false_iff_ne.2 e0
  obtain ⟨W, hW⟩ : ∃ W, (w.alloc (.cells #[.slice a1 m c1, .slice a2 n c2, .slice b1 k1 d1, .slice b2 k2 d2, .slice b3 k3 d3, .slice b4 k4 d4, .slice b5 k5 d5, .string ts, .int .i64 mn, .int .i64 ch, .bool up] 103)).alloc (.cells #[.slice none 0 0, .slice none 0 0, .slice none 0 0, .slice none 0 0, .slice none 0 0, .slice none 0 0, .slice none 0 0, .string ⟨#[]⟩, .int .i64 0, .int .i64 0, .bool false] 103) = W := ⟨_, rfl⟩
  have hxb : BoxN W w.heap.size 103 #[.slice a1 m c1, .slice a2 n c2, .slice b1 k1 d1, .slice b2 k2 d2, .slice b3 k3 d3, .slice b4 k4 d4, .slice b5 k5 d5, .string ts, .int .i64 mn, .int .i64 ch, .bool up] := by rw [← hW]; exact (BoxN.new _ _ _).alloc _
  have hzb : BoxN W (w.heap.size + 1) 103 #[.slice none 0 0, .slice none 0 0, .slice none 0 0, .slice none 0 0, .slice none 0 0, .slice none 0 0, .slice none 0 0, .string ⟨#[]⟩, .int .i64 0, .int .i64 0, .bool false] := by rw [← hW]; exact BoxN.new' _ _ _ _ (by simp)
  have hbb : Below w.heap.size w W := by rw [← hW]; exact act_boxes (Below.refl _ _) _ _ _
  have Hs := Lib.hid (show W.heap.size = w.heap.size + 2 by rw [← hW]; simp)
  have CC := RCut_any 32 s (by omega) W
  rw [show (((32 : UInt8).toNat : Nat) : Int) = 32 from rfl] at CC
  have HCC := Lib.hid CC
  clear CC
  have HD := Lib.hid hD
  have HR := Lib.hid hR
  have HN := Lib.hid (fun x V => RNumber_any x V)
  clear hR hD
  go_enter Tryz.func46, Tryz.ntmps46
  go_wp2_with fail
  try rw [hW]
  clear hW
  with_reducible refine HCC.out.mono ?_
  rintro e w1 ⟨⟨vw, ls, rfl, hown, hls⟩, hb1⟩
  have hlen : ls.length ≤ 3001 ∧ 1 ≤ ls.length := by
    have h1 := congrArg List.length hls
    rw [List.length_map, cutL_length] at h1
    have h3 := List.count_le_length (a := (32 : UInt8)) (l := s.data.toList)
    rw [← ba_size] at h3
    omega
  have hwsz : ∀ x ∈ ls, x.size ≤ 3000 := fun x hx => by
    have h1 := cutL_le 32 s.data.toList x.data.toList (by rw [← hls]; exact List.mem_map.2 ⟨x, hx, rfl⟩)
    rw [← ba_size, ← ba_size] at h1
    omega
  rw [← hls] at h2
  obtain ⟨u, rs, rfl⟩ : ∃ u rs, ls = u :: rs := by
    cases ls with
    | nil => simp at hlen
    | cons u rs => exact ⟨u, rs, rfl⟩
  have hu0 : u.data.toList = (((u :: rs).map (·.data.toList)).getD 0 [] : List UInt8) := rfl
  obtain ⟨nl, hnl⟩ : ∃ nl, (u :: rs).length = nl := ⟨_, rfl⟩
  have hrn : rs.length + 1 = nl := hnl
  have Hls := Lib.hid hls
  rw [List.length_map, hnl] at h2
  have dl : ((nl : Int) == 2) = false := by rw [beq_eq_false_iff_ne]; omega
  obtain ⟨Aw, cw, rfl, hcw⟩ := hown.form
  obtain ⟨gw, ow, rfl, hcc⟩ := hcw (by simp)
  have Hgw := Lib.hid (show w.heap.size + 2 ≤ gw by rw [← Hs.out]; exact (World.ownsRow.lt (show w1.ownsRow W.heap.size 9 1 _ _ _ from hown) gw rfl).1)
  have l0 := hcc 0 _ rfl
  rw [Nat.add_zero] at l0
  have Hcell := Lib.hid (show ∀ j x, rs[j]? = some x → w1.cell? ⟨gw, ow + (j + 1), none⟩ = some (.string x) from fun j x hj => hcc (j + 1) _ (by rw [List.map_cons, List.getElem?_cons_succ, List.getElem?_map, hj]; rfl))
  rw [hnl]
  have Hrn := Lib.hid hrn
  have Hlen := Lib.hid hlen
  rw [hnl] at hlen
  have hl1 : nl ≤ 3001 := hlen.1
  have hl2 : 1 ≤ nl := hlen.2
  have Hwsz := Lib.hid hwsz
  have hX1 := hxb.all hb1
  have hZ1 := hzb.all hb1
  have hbw1 := hbb.trans (hb1.mono hbb.size)
  have Hs1 := Lib.hid (show w.heap.size + 2 ≤ w1.heap.size by rw [← Hs.out]; exact hb1.size)
  obtain ⟨⟨x0, x1, x2, x3, x4, x5, x6, x7, x8, x9, x10⟩, fx⟩ := BoxN.st11 hX1
  obtain ⟨⟨z0, z1, z2, z3, z4, z5, z6, z7, z8, z9, z10⟩, f0, f1, f2, f3, f4, f5, f6, f7, f8, f9, f10⟩ := BoxN.st11 hZ1
  have HX1 := Lib.hid hX1
  have HZ1 := Lib.hid hZ1
  have Hbw1 := Lib.hid hbw1
  have hlw := block_lt l0
  have hlx := hX1.lt
  have HS := Lib.hid (fun V (hV : Below w1.heap.size w1 V) => (⟨(hV.cell (p := ⟨w.heap.size, 0, none⟩) hlx).trans x0, (hV.cell (p := ⟨w.heap.size, 1, none⟩) hlx).trans x1, (hV.cell (p := ⟨w.heap.size, 2, none⟩) hlx).trans x2, (hV.cell (p := ⟨w.heap.size, 3, none⟩) hlx).trans x3, (hV.cell (p := ⟨w.heap.size, 4, none⟩) hlx).trans x4, (hV.cell (p := ⟨w.heap.size, 5, none⟩) hlx).trans x5, (hV.cell (p := ⟨w.heap.size, 6, none⟩) hlx).trans x6, (hV.cell (p := ⟨w.heap.size, 7, none⟩) hlx).trans x7, (hV.cell (p := ⟨w.heap.size, 8, none⟩) hlx).trans x8, (hV.cell (p := ⟨w.heap.size, 9, none⟩) hlx).trans x9, (hV.cell (p := ⟨w.heap.size, 10, none⟩) hlx).trans x10, (hV.cell (p := ⟨gw, ow, none⟩) hlw).trans l0⟩ : V.cell? ⟨w.heap.size, 0, none⟩ = some (.slice a1 m c1) ∧ V.cell? ⟨w.heap.size, 1, none⟩ = some (.slice a2 n c2) ∧ V.cell? ⟨w.heap.size, 2, none⟩ = some (.slice b1 k1 d1) ∧ V.cell? ⟨w.heap.size, 3, none⟩ = some (.slice b2 k2 d2) ∧ V.cell? ⟨w.heap.size, 4, none⟩ = some (.slice b3 k3 d3) ∧ V.cell? ⟨w.heap.size, 5, none⟩ = some (.slice b4 k4 d4) ∧ V.cell? ⟨w.heap.size, 6, none⟩ = some (.slice b5 k5 d5) ∧ V.cell? ⟨w.heap.size, 7, none⟩ = some (.string ts) ∧ V.cell? ⟨w.heap.size, 8, none⟩ = some (.int .i64 mn) ∧ V.cell? ⟨w.heap.size, 9, none⟩ = some (.int .i64 ch) ∧ V.cell? ⟨w.heap.size, 10, none⟩ = some (.bool up) ∧ V.cell? ⟨gw, ow, none⟩ = some (.string u)))
  have HR1 := Lib.hid (HR.out.to (ok' := fun g => (ok g ∧ g < w.heap.size) ∨ w1.heap.size ≤ g) (fun g _ hlt => hbw1.block g hlt) (fun g hg ho => .inl ⟨ho, hg⟩))
  clear hown hls hcw hxb hzb hbb hb1 hX1 hZ1 hbw1 HCC hcc hlx hnl hrn hlen hwsz hu0 h2 hns fx 
  go_wp2_with fail
  clear e0 g0 f0 f1 f2 f3 f4 f5 f6 f7 f8 f9 f10 z0 z1 z2 z3 z4 z5 z6 z7 z8 z9 z10 x0 x1 x2 x3 x4 x5 x6 x7 x8 x9 x10
  go_loopw [14, 15, 16, 17] (fun v14 kk _ _ wi => ∃ (j : Nat) (l : List Nat) (A9 : Option Addr) (c9 : Nat), j + 1 ≤ nl ∧ l.length = j ∧ kk = .int .i64 ((j + 1 : Nat) : Int) ∧ v14 = .slice A9 j c9 ∧ Hid (numsD ((rs.map (·.data.toList)).take j) = some l) ∧ Hid (OwnI wi w1.heap.size (.slice A9 j c9) (castL l)) ∧ Hid (Below w1.heap.size w1 wi)) (fun _ kk _ _ _ => nl - (intOf kk).toNat)
  case atStart => exact ⟨0, [], none, 0, hl2, rfl, rfl, rfl, Lib.hid rfl, Lib.hid (OwnI.nil _ _), Lib.hid (Below.refl _ _)⟩
  case round =>
    obtain ⟨wi, rfl⟩ : ∃ wi : World, wi = wr := ⟨_, rfl⟩
    obtain ⟨j, l, A9, c9, hj, hlj, rfl, rfl, Hnk, Hown, Hbi⟩ := hrel
    have HZi := Lib.hid (HZ1.out.all Hbi.out)
    have hs1 := Hs1.out
    have Hbf := Lib.hid (fun y0 y1 y2 y3 y4 y5 y6 y7 y8 y9 y10 => below_put11 (Hbw1.out.trans (Hbi.out.mono (by omega))) (g := w.heap.size + 1) (by omega) y0 y1 y2 y3 y4 y5 y6 y7 y8 y9 y10)
    obtain ⟨⟨x0, x1, x2, x3, x4, x5, x6, x7, x8, x9, x10⟩, -⟩ := BoxN.st11 (HX1.out.all Hbi.out)
    obtain ⟨⟨z0, z1, z2, z3, z4, z5, z6, z7, z8, z9, z10⟩, f0, f1, f2, f3, f4, f5, f6, f7, f8, f9, f10⟩ := BoxN.st11 HZi.out
    by_cases hjn : j + 1 < nl
    · obtain ⟨y, hy⟩ : ∃ y, rs[j]? = some y := ⟨_, List.getElem?_eq_getElem (i := j) (by have := Hrn.out; omega)⟩
      have hM : (rs.map (·.data.toList))[j]? = some y.data.toList := by rw [List.getElem?_map, hy]; rfl
      have cy := (Hbi.out.cell (p := ⟨gw, ow + (j + 1), none⟩) (block_lt (Hcell.out j y hy))).trans (Hcell.out j y hy)
      have hys : y.size ≤ 3000 := Hwsz.out y (List.mem_cons_of_mem _ (List.mem_of_getElem? hy))
      have Hsp := Lib.hid (split_atD hM)
      have Htk := Lib.hid (take_succD hM)
      have HBad := Lib.hid (fun (hc : numD y.data.toList = none) => show dRest D (cutL 32 s.data.toList) = (D, badL) by rw [← Hls.out]; exact dRest_none (by show numsD (rs.map (·.data.toList)) = none; rw [Hsp.out]; exact numsD_bad _ Hnk.out hc))
      have dj : decide (((j + 1 : Nat) : Int) < (nl : Int)) = true := by simp; omega
      have kj1 : (0 : Int) ≤ ((j + 1 : Nat) : Int) := by omega
      have kj2 : ((j + 1 : Nat) : Int) < (nl : Int) := by omega
      have CY := Lib.hid (HN.out y)
      clear hy hM
      go_wp2_with fail
      with_reducible refine (CY.out _).mono ?_
      rintro e w5 ⟨⟨nv, bv, rfl, hno1, hno⟩, hw5⟩
      have hw5' : wi = w5 := hw5
      subst hw5'
      clear hw5 CY
      cases hnv : numV y.data.toList with
      | none =>
        obtain rfl := hno hnv
        have hE := HBad.out (numD_no hnv)
        clear hno1 hno hnv
        go_wp2_with fail
        refine bodyPost_ret (results_row_tmpD rfl _ _ (w.heap.size + 1) 103 #[.slice a1 m c1, .slice a2 n c2, .slice b1 k1 d1, .slice b2 k2 d2, .slice b3 k3 d3, .slice b4 k4 d4, .slice b5 k5 d5, .string ts, .int .i64 mn, .int .i64 ch, .bool up] (0, 0) _ rfl (HZi.out.put11 _ _ _ _ _ _ _ _ _ _ _) Tryz.underlying103 rfl (by kernel_rfl)) rfl ?_
        rw [hE]
        exact ⟨⟨_, rfl, HR.out.below (Hbf.out _ _ _ _ _ _ _ _ _ _ _)⟩, Hbf.out _ _ _ _ _ _ _ _ _ _ _⟩
      | some nn =>
        obtain ⟨rfl, rfl⟩ := hno1 nn hnv
        by_cases h4 : 4 < y.size
        · have f6 : decide ((y.size : Int) > 4) = true := by simp; omega
          have hE := HBad.out (numD_long h4)
          clear hno1 hno hnv
          go_wp2_with fail
          refine bodyPost_ret (results_row_tmpD rfl _ _ (w.heap.size + 1) 103 #[.slice a1 m c1, .slice a2 n c2, .slice b1 k1 d1, .slice b2 k2 d2, .slice b3 k3 d3, .slice b4 k4 d4, .slice b5 k5 d5, .string ts, .int .i64 mn, .int .i64 ch, .bool up] (0, 0) _ rfl (HZi.out.put11 _ _ _ _ _ _ _ _ _ _ _) Tryz.underlying103 rfl (by kernel_rfl)) rfl ?_
          rw [hE]
          exact ⟨⟨_, rfl, HR.out.below (Hbf.out _ _ _ _ _ _ _ _ _ _ _)⟩, Hbf.out _ _ _ _ _ _ _ _ _ _ _⟩
        · have f6 : decide ((y.size : Int) > 4) = false := by simp; omega
          have Hall := Lib.hid (show numsD ((rs.map (·.data.toList)).take (j + 1)) = some (l ++ [nn]) by rw [Htk.out]; exact numsD_snoc Hnk.out (numD_num hnv (by omega)))
          have hl40 : (castL l).length < 2 ^ 40 := by rw [length_castL]; omega
          have hlk : (castL l ++ [(nn : Int)]).length = j + 1 := by rw [List.length_append, length_castL, hlj]; rfl
          have hs6 := Hbi.out.size
          clear hno1 hno hnv x0 x1 x2 x3 x4 x5 x6 x7 x8 x9 x10 f0 f1 f2 f3 f4 f5 f6 f7 f8 f9 f10 z0 z1 z2 z3 z4 z5 z6 z7 z8 z9 z10
          have Hlk := Lib.hid hlk
          have f6 : decide ((y.size : Int) > 4) = false := by simp; omega
          clear hlk
          go_wp2_with (at_builtin; refine wpList_push_int rfl _ _ rfl rfl (Hown.out.next ((Below.refl _ _).alloc (Nat.le_refl _) _)) _ (nn : Int) rfl (cell_of_row _ _ 0 _ _ _ (heap_alloc_new _ _)) hl40 (by simp; omega) ?_; intro u1 w7 hown7 hgr7 hblk7 hbl7; obtain ⟨A1, k1', rfl, -⟩ := hown7.form; rw [Hlk.out] at hown7 ⊢; have hb17 := hbl7 w1 (Hbi.out.alloc hs6 _))
          refine ⟨⟨j + 1, l ++ [nn], A1, k1', ?ya, ?yc, ?yb, rfl, Hall, Lib.hid (by rw [castL_snoc]; exact hown7), Lib.hid hb17⟩, ?yd⟩
          case ya => omega
          case yc => rw [List.length_append, hlj]; rfl
          case yb => go_num
          case yd => simp [intOf]; omega
    · have hjn2 : j + 1 = nl := by omega
      have dj : decide (((j + 1 : Nat) : Int) < (nl : Int)) = false := by simp; omega
      have hE : dRest D (cutL 32 s.data.toList) = dActR D u.data.toList l := by
        rw [← Hls.out]
        exact dRest_some (by show numsD (rs.map (·.data.toList)) = some l; rw [← Hnk.out, List.take_of_length_le (by rw [List.length_map]; have := Hrn.out; omega)])
      have hpd : Below w1.heap.size w1 wi.drew := Hbi.out.trans ((Below.refl _ _).drew.mono Hbi.out.size)
      have CA : Hid (Calls Tryz.prog 66 #[.agg #[.slice a1 m c1, .slice a2 n c2, .slice b1 k1 d1, .slice b2 k2 d2, .slice b3 k3 d3, .slice b4 k4 d4, .slice b5 k5 d5, .string ts, .int .i64 mn, .int .i64 ch, .bool up], .string s, .string u, .slice A9 j c9] wi.drew fun e w' => RDPost (fun g => (ok g ∧ g < w.heap.size) ∨ w1.heap.size ≤ g) w1 (dActR D u.data.toList l) e w') := Lib.hid (by
        have h1 := RAct_any (W0 := w1) (w := wi.drew) (fun g hg => .inr hg) HD.out HR1.out hpd s u l (A := A9) (c := c9) (by rw [hlj]; exact Hown.out.drew)
        rw [hlj] at h1
        exact h1)
      have HE := Lib.hid hE
      have Hjn := Lib.hid hjn2
      have hj0 : (0 : Int) < (nl : Int) := by omega
      have hj1 : 0 < nl := by omega
      have dj2 : decide ((j : Int) + 1 < (nl : Int)) = false := by simp; omega
      clear hE hjn2 Hown
      obtain ⟨rr, hrr⟩ : ∃ rr, dActR D u.data.toList l = rr := ⟨_, rfl⟩
      rw [hrr] at CA HE
      have hgw := Hgw.out
      have HSt := Lib.hid (fun (V : World) (hV : Below w1.heap.size w1 V) (y0 y1 y2 y3 y4 y5 y6 y7 y8 y9 y10 : Value) => (show (((((((((((V.setCell ⟨w.heap.size + 1, 0, none⟩ y0).setCell ⟨w.heap.size + 1, 1, none⟩ y1).setCell ⟨w.heap.size + 1, 2, none⟩ y2).setCell ⟨w.heap.size + 1, 3, none⟩ y3).setCell ⟨w.heap.size + 1, 4, none⟩ y4).setCell ⟨w.heap.size + 1, 5, none⟩ y5).setCell ⟨w.heap.size + 1, 6, none⟩ y6).setCell ⟨w.heap.size + 1, 7, none⟩ y7).setCell ⟨w.heap.size + 1, 8, none⟩ y8).setCell ⟨w.heap.size + 1, 9, none⟩ y9).setCell ⟨w.heap.size + 1, 10, none⟩ y10).cell? ⟨w.heap.size, 0, none⟩ = some (.slice a1 m c1) ∧ (((((((((((V.setCell ⟨w.heap.size + 1, 0, none⟩ y0).setCell ⟨w.heap.size + 1, 1, none⟩ y1).setCell ⟨w.heap.size + 1, 2, none⟩ y2).setCell ⟨w.heap.size + 1, 3, none⟩ y3).setCell ⟨w.heap.size + 1, 4, none⟩ y4).setCell ⟨w.heap.size + 1, 5, none⟩ y5).setCell ⟨w.heap.size + 1, 6, none⟩ y6).setCell ⟨w.heap.size + 1, 7, none⟩ y7).setCell ⟨w.heap.size + 1, 8, none⟩ y8).setCell ⟨w.heap.size + 1, 9, none⟩ y9).setCell ⟨w.heap.size + 1, 10, none⟩ y10).cell? ⟨w.heap.size, 1, none⟩ = some (.slice a2 n c2) ∧ (((((((((((V.setCell ⟨w.heap.size + 1, 0, none⟩ y0).setCell ⟨w.heap.size + 1, 1, none⟩ y1).setCell ⟨w.heap.size + 1, 2, none⟩ y2).setCell ⟨w.heap.size + 1, 3, none⟩ y3).setCell ⟨w.heap.size + 1, 4, none⟩ y4).setCell ⟨w.heap.size + 1, 5, none⟩ y5).setCell ⟨w.heap.size + 1, 6, none⟩ y6).setCell ⟨w.heap.size + 1, 7, none⟩ y7).setCell ⟨w.heap.size + 1, 8, none⟩ y8).setCell ⟨w.heap.size + 1, 9, none⟩ y9).setCell ⟨w.heap.size + 1, 10, none⟩ y10).cell? ⟨w.heap.size, 2, none⟩ = some (.slice b1 k1 d1) ∧ (((((((((((V.setCell ⟨w.heap.size + 1, 0, none⟩ y0).setCell ⟨w.heap.size + 1, 1, none⟩ y1).setCell ⟨w.heap.size + 1, 2, none⟩ y2).setCell ⟨w.heap.size + 1, 3, none⟩ y3).setCell ⟨w.heap.size + 1, 4, none⟩ y4).setCell ⟨w.heap.size + 1, 5, none⟩ y5).setCell ⟨w.heap.size + 1, 6, none⟩ y6).setCell ⟨w.heap.size + 1, 7, none⟩ y7).setCell ⟨w.heap.size + 1, 8, none⟩ y8).setCell ⟨w.heap.size + 1, 9, none⟩ y9).setCell ⟨w.heap.size + 1, 10, none⟩ y10).cell? ⟨w.heap.size, 3, none⟩ = some (.slice b2 k2 d2) ∧ (((((((((((V.setCell ⟨w.heap.size + 1, 0, none⟩ y0).setCell ⟨w.heap.size + 1, 1, none⟩ y1).setCell ⟨w.heap.size + 1, 2, none⟩ y2).setCell ⟨w.heap.size + 1, 3, none⟩ y3).setCell ⟨w.heap.size + 1, 4, none⟩ y4).setCell ⟨w.heap.size + 1, 5, none⟩ y5).setCell ⟨w.heap.size + 1, 6, none⟩ y6).setCell ⟨w.heap.size + 1, 7, none⟩ y7).setCell ⟨w.heap.size + 1, 8, none⟩ y8).setCell ⟨w.heap.size + 1, 9, none⟩ y9).setCell ⟨w.heap.size + 1, 10, none⟩ y10).cell? ⟨w.heap.size, 4, none⟩ = some (.slice b3 k3 d3) ∧ (((((((((((V.setCell ⟨w.heap.size + 1, 0, none⟩ y0).setCell ⟨w.heap.size + 1, 1, none⟩ y1).setCell ⟨w.heap.size + 1, 2, none⟩ y2).setCell ⟨w.heap.size + 1, 3, none⟩ y3).setCell ⟨w.heap.size + 1, 4, none⟩ y4).setCell ⟨w.heap.size + 1, 5, none⟩ y5).setCell ⟨w.heap.size + 1, 6, none⟩ y6).setCell ⟨w.heap.size + 1, 7, none⟩ y7).setCell ⟨w.heap.size + 1, 8, none⟩ y8).setCell ⟨w.heap.size + 1, 9, none⟩ y9).setCell ⟨w.heap.size + 1, 10, none⟩ y10).cell? ⟨w.heap.size, 5, none⟩ = some (.slice b4 k4 d4) ∧ (((((((((((V.setCell ⟨w.heap.size + 1, 0, none⟩ y0).setCell ⟨w.heap.size + 1, 1, none⟩ y1).setCell ⟨w.heap.size + 1, 2, none⟩ y2).setCell ⟨w.heap.size + 1, 3, none⟩ y3).setCell ⟨w.heap.size + 1, 4, none⟩ y4).setCell ⟨w.heap.size + 1, 5, none⟩ y5).setCell ⟨w.heap.size + 1, 6, none⟩ y6).setCell ⟨w.heap.size + 1, 7, none⟩ y7).setCell ⟨w.heap.size + 1, 8, none⟩ y8).setCell ⟨w.heap.size + 1, 9, none⟩ y9).setCell ⟨w.heap.size + 1, 10, none⟩ y10).cell? ⟨w.heap.size, 6, none⟩ = some (.slice b5 k5 d5) ∧ (((((((((((V.setCell ⟨w.heap.size + 1, 0, none⟩ y0).setCell ⟨w.heap.size + 1, 1, none⟩ y1).setCell ⟨w.heap.size + 1, 2, none⟩ y2).setCell ⟨w.heap.size + 1, 3, none⟩ y3).setCell ⟨w.heap.size + 1, 4, none⟩ y4).setCell ⟨w.heap.size + 1, 5, none⟩ y5).setCell ⟨w.heap.size + 1, 6, none⟩ y6).setCell ⟨w.heap.size + 1, 7, none⟩ y7).setCell ⟨w.heap.size + 1, 8, none⟩ y8).setCell ⟨w.heap.size + 1, 9, none⟩ y9).setCell ⟨w.heap.size + 1, 10, none⟩ y10).cell? ⟨w.heap.size, 7, none⟩ = some (.string ts) ∧ (((((((((((V.setCell ⟨w.heap.size + 1, 0, none⟩ y0).setCell ⟨w.heap.size + 1, 1, none⟩ y1).setCell ⟨w.heap.size + 1, 2, none⟩ y2).setCell ⟨w.heap.size + 1, 3, none⟩ y3).setCell ⟨w.heap.size + 1, 4, none⟩ y4).setCell ⟨w.heap.size + 1, 5, none⟩ y5).setCell ⟨w.heap.size + 1, 6, none⟩ y6).setCell ⟨w.heap.size + 1, 7, none⟩ y7).setCell ⟨w.heap.size + 1, 8, none⟩ y8).setCell ⟨w.heap.size + 1, 9, none⟩ y9).setCell ⟨w.heap.size + 1, 10, none⟩ y10).cell? ⟨w.heap.size, 8, none⟩ = some (.int .i64 mn) ∧ (((((((((((V.setCell ⟨w.heap.size + 1, 0, none⟩ y0).setCell ⟨w.heap.size + 1, 1, none⟩ y1).setCell ⟨w.heap.size + 1, 2, none⟩ y2).setCell ⟨w.heap.size + 1, 3, none⟩ y3).setCell ⟨w.heap.size + 1, 4, none⟩ y4).setCell ⟨w.heap.size + 1, 5, none⟩ y5).setCell ⟨w.heap.size + 1, 6, none⟩ y6).setCell ⟨w.heap.size + 1, 7, none⟩ y7).setCell ⟨w.heap.size + 1, 8, none⟩ y8).setCell ⟨w.heap.size + 1, 9, none⟩ y9).setCell ⟨w.heap.size + 1, 10, none⟩ y10).cell? ⟨w.heap.size, 9, none⟩ = some (.int .i64 ch) ∧ (((((((((((V.setCell ⟨w.heap.size + 1, 0, none⟩ y0).setCell ⟨w.heap.size + 1, 1, none⟩ y1).setCell ⟨w.heap.size + 1, 2, none⟩ y2).setCell ⟨w.heap.size + 1, 3, none⟩ y3).setCell ⟨w.heap.size + 1, 4, none⟩ y4).setCell ⟨w.heap.size + 1, 5, none⟩ y5).setCell ⟨w.heap.size + 1, 6, none⟩ y6).setCell ⟨w.heap.size + 1, 7, none⟩ y7).setCell ⟨w.heap.size + 1, 8, none⟩ y8).setCell ⟨w.heap.size + 1, 9, none⟩ y9).setCell ⟨w.heap.size + 1, 10, none⟩ y10).cell? ⟨w.heap.size, 10, none⟩ = some (.bool up) ∧ (((((((((((V.setCell ⟨w.heap.size + 1, 0, none⟩ y0).setCell ⟨w.heap.size + 1, 1, none⟩ y1).setCell ⟨w.heap.size + 1, 2, none⟩ y2).setCell ⟨w.heap.size + 1, 3, none⟩ y3).setCell ⟨w.heap.size + 1, 4, none⟩ y4).setCell ⟨w.heap.size + 1, 5, none⟩ y5).setCell ⟨w.heap.size + 1, 6, none⟩ y6).setCell ⟨w.heap.size + 1, 7, none⟩ y7).setCell ⟨w.heap.size + 1, 8, none⟩ y8).setCell ⟨w.heap.size + 1, 9, none⟩ y9).setCell ⟨w.heap.size + 1, 10, none⟩ y10).cell? ⟨gw, ow, none⟩ = some (.string u) from by
        obtain ⟨x0, x1, x2, x3, x4, x5, x6, x7, x8, x9, x10, l0⟩ := HS.out V hV
        exact And.intro (cell_put11n (V := V) (g := w.heap.size + 1) y0 y1 y2 y3 y4 y5 y6 y7 y8 y9 y10 (by show w.heap.size ≠ _; omega) x0) (And.intro (cell_put11n (V := V) (g := w.heap.size + 1) y0 y1 y2 y3 y4 y5 y6 y7 y8 y9 y10 (by show w.heap.size ≠ _; omega) x1) (And.intro (cell_put11n (V := V) (g := w.heap.size + 1) y0 y1 y2 y3 y4 y5 y6 y7 y8 y9 y10 (by show w.heap.size ≠ _; omega) x2) (And.intro (cell_put11n (V := V) (g := w.heap.size + 1) y0 y1 y2 y3 y4 y5 y6 y7 y8 y9 y10 (by show w.heap.size ≠ _; omega) x3) (And.intro (cell_put11n (V := V) (g := w.heap.size + 1) y0 y1 y2 y3 y4 y5 y6 y7 y8 y9 y10 (by show w.heap.size ≠ _; omega) x4) (And.intro (cell_put11n (V := V) (g := w.heap.size + 1) y0 y1 y2 y3 y4 y5 y6 y7 y8 y9 y10 (by show w.heap.size ≠ _; omega) x5) (And.intro (cell_put11n (V := V) (g := w.heap.size + 1) y0 y1 y2 y3 y4 y5 y6 y7 y8 y9 y10 (by show w.heap.size ≠ _; omega) x6) (And.intro (cell_put11n (V := V) (g := w.heap.size + 1) y0 y1 y2 y3 y4 y5 y6 y7 y8 y9 y10 (by show w.heap.size ≠ _; omega) x7) (And.intro (cell_put11n (V := V) (g := w.heap.size + 1) y0 y1 y2 y3 y4 y5 y6 y7 y8 y9 y10 (by show w.heap.size ≠ _; omega) x8) (And.intro (cell_put11n (V := V) (g := w.heap.size + 1) y0 y1 y2 y3 y4 y5 y6 y7 y8 y9 y10 (by show w.heap.size ≠ _; omega) x9) (And.intro (cell_put11n (V := V) (g := w.heap.size + 1) y0 y1 y2 y3 y4 y5 y6 y7 y8 y9 y10 (by show w.heap.size ≠ _; omega) x10) (cell_put11n (V := V) (g := w.heap.size + 1) y0 y1 y2 y3 y4 y5 y6 y7 y8 y9 y10 (by show gw ≠ _; omega) l0)))))))))))))
      have l0 := (HS.out _ Hbi.out).2.2.2.2.2.2.2.2.2.2.2
      clear hrr f0 f1 f2 f3 f4 f5 f6 f7 f8 f9 f10 z0 z1 z2 z3 z4 z5 z6 z7 z8 z9 z10 HZi Hbf
      go_wp2_with fail
      go_region_held3 (fun V => V.cell? ⟨w.heap.size, 0, none⟩ = some (.slice a1 m c1) ∧ V.cell? ⟨w.heap.size, 1, none⟩ = some (.slice a2 n c2) ∧ V.cell? ⟨w.heap.size, 2, none⟩ = some (.slice b1 k1 d1) ∧ V.cell? ⟨w.heap.size, 3, none⟩ = some (.slice b2 k2 d2) ∧ V.cell? ⟨w.heap.size, 4, none⟩ = some (.slice b3 k3 d3) ∧ V.cell? ⟨w.heap.size, 5, none⟩ = some (.slice b4 k4 d4) ∧ V.cell? ⟨w.heap.size, 6, none⟩ = some (.slice b5 k5 d5) ∧ V.cell? ⟨w.heap.size, 7, none⟩ = some (.string ts) ∧ V.cell? ⟨w.heap.size, 8, none⟩ = some (.int .i64 mn) ∧ V.cell? ⟨w.heap.size, 9, none⟩ = some (.int .i64 ch) ∧ V.cell? ⟨w.heap.size, 10, none⟩ = some (.bool up) ∧ V.cell? ⟨gw, ow, none⟩ = some (.string u))
        ((first | with_reducible exact HS.out _ hpd | with_reducible exact HS.out _ hb3 | exact HSt.out _ hb3 _ _ _ _ _ _ _ _ _ _ _))
        ((first
          | (go_at_call 66; with_reducible refine CA.out.mono ?_; intro e w3 hpq; unfold RDPost at hpq; obtain ⟨⟨v', he, hR3⟩, hb3⟩ := hpq; subst he; obtain ⟨p1, p2, g1, g2, b1', b2', b3', b4', b5', s1, t1, s2, t2, s3, t3, s4, t4, s5, t5, us, mu, cu, he2, -⟩ := hR3.is; subst he2; have hZ3 := HZ1.out.all hb3; obtain ⟨⟨z0, z1, z2, z3, z4, z5, z6, z7, z8, z9, z10⟩, f0, f1, f2, f3, f4, f5, f6, f7, f8, f9, f10⟩ := BoxN.st11 hZ3)
          | fail))
      have HR3 := Lib.hid hR3
      have HZ3 := Lib.hid hZ3
      have Hb3 := Lib.hid hb3
      clear hR3 hZ3 hb3
      go_wp2_with fail
      refine bodyPost_ret (results_row_tmpD rfl _ _ (w.heap.size + 1) 103 #[.slice p1 rr.1.m g1, .slice p2 rr.1.n g2, .slice b1' s1 t1, .slice b2' s2 t2, .slice b3' s3 t3, .slice b4' s4 t4, .slice b5' s5 t5, .string us, .int .i64 mu, .int .i64 cu, .bool rr.1.T.isSome] (0, 0) _ rfl (HZ3.out.put11 _ _ _ _ _ _ _ _ _ _ _) Tryz.underlying103 rfl (by kernel_rfl)) rfl ?_
      rw [HE.out]
      exact ⟨⟨_, rfl, HR3.out.to (ok' := ok) (w' := (((((((((((w3.setCell ⟨w.heap.size + 1, 0, none⟩ (.slice p1 rr.1.m g1)).setCell ⟨w.heap.size + 1, 1, none⟩ (.slice p2 rr.1.n g2)).setCell ⟨w.heap.size + 1, 2, none⟩ (.slice b1' s1 t1)).setCell ⟨w.heap.size + 1, 3, none⟩ (.slice b2' s2 t2)).setCell ⟨w.heap.size + 1, 4, none⟩ (.slice b3' s3 t3)).setCell ⟨w.heap.size + 1, 5, none⟩ (.slice b4' s4 t4)).setCell ⟨w.heap.size + 1, 6, none⟩ (.slice b5' s5 t5)).setCell ⟨w.heap.size + 1, 7, none⟩ (.string us)).setCell ⟨w.heap.size + 1, 8, none⟩ (.int .i64 mu)).setCell ⟨w.heap.size + 1, 9, none⟩ (.int .i64 cu)).setCell ⟨w.heap.size + 1, 10, none⟩ (.bool rr.1.T.isSome))) (fun x hx _ => heap_put11 (V := w3) (g := w.heap.size + 1) (b := x) (.slice p1 rr.1.m g1) (.slice p2 rr.1.n g2) (.slice b1' s1 t1) (.slice b2' s2 t2) (.slice b3' s3 t3) (.slice b4' s4 t4) (.slice b5' s5 t5) (.string us) (.int .i64 mu) (.int .i64 cu) (.bool rr.1.T.isSome) (by have h9 : (ok x ∧ x < w.heap.size) ∨ w1.heap.size ≤ x := hx; rcases h9 with ⟨_, h9⟩ | h9 <;> omega)) (fun g _ ho => by rcases ho with ⟨h, _⟩ | h; exact h; exact hok g (by omega))⟩, below_put11 (Hbw1.out.trans (Hb3.out.mono (by omega))) (g := w.heap.size + 1) (by omega) (.slice p1 rr.1.m g1) (.slice p2 rr.1.n g2) (.slice b1' s1 t1) (.slice b2' s2 t2) (.slice b3' s3 t3) (.slice b4' s4 t4) (.slice b5' s5 t5) (.string us) (.int .i64 mu) (.int .i64 cu) (.bool rr.1.T.isSome)⟩
end
end Go.Proofs.YtanlmfnhlldkeaaGreatDoor
