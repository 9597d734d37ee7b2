/-
  Contract: quietwingref5.Open, with where its rows lie.
-/
import Derived.Test.YtanlmfnhlldkeaaGreatDoorROpen
namespace Go.Proofs.YtanlmfnhlldkeaaGreatDoor
open Go.RowKit
set_option maxRecDepth 100000
set_option linter.unusedVariables false

set_option maxHeartbeats 16000000 in
theorem ROpen_in {ok0 : Nat → Prop} (U F : List Int) (m n : Nat) (hU : U.length = m * 2) (hF : F.length = n * 2) (Ua Fa : Option Addr) (c d : Nat) (s : ByteArray) (hs : s.size ≤ 2000000) (w : World) (iU : IntsAt w Ua U) (iF : IntsAt w Fa F) (h1 : labsCode U m 8 = 0) (h2 : labsCode F n 8 = 0) (hU0 : ∀ b off, Ua = some ⟨b, off, none⟩ → U ≠ [] → ok0 b) (hF0 : ∀ b off, Fa = some ⟨b, off, none⟩ → F ≠ [] → ok0 b) (hok0 : ∀ b, w.heap.size ≤ b → ok0 b) :
    Calls Tryz.prog 63 #[.slice Ua m c, .slice Fa n d, .string s] w fun e w' => ROpenPost ok0 U F (tOpen U F (tStart m n) s.data.toList) e w' ∧ Below w.heap.size w w' := by
  have hL : LabsOk m n U F := ⟨h1, h2, hU, hF⟩
  have hz := BoxN.new w 101 rtZ
  have hb : Below w.heap.size w (w.alloc (.cells rtZ 101)) := (Below.refl _ _).alloc (Nat.le_refl _) _
  have HN := Lib.hid (RNewBell_low U F m n hU hF Ua Fa c d (w.alloc (.cells rtZ 101)) (iU.below hb) (iF.below hb) h1 h2)
  have hl0 : TLen m n U F (tStart m n) := TLen.start hL.m8 hL.n8
  have Hl0 := Lib.hid hl0
  have hre : (lStart m n).Re.length = m := hl0.re
  have hho : (lStart m n).Ho.length = n := hl0.ho
  have CC := fun V => RCut_any 10 s hs V
  simp only [show (((10 : UInt8).toNat : Nat) : Int) = 10 from rfl] at CC
  have CC := Lib.hid CC
  have hsW : (w.alloc (.cells rtZ 101)).heap.size = w.heap.size + 1 := by simp
  have HZ := Lib.hid hz
  have Hb := Lib.hid hb
  have HUlt := Lib.hid (show ∀ b off, Ua = some ⟨b, off, none⟩ → U ≠ [] → b < w.heap.size from fun b off e hl => iU.lt e hl)
  have HFlt := Lib.hid (show ∀ b off, Fa = some ⟨b, off, none⟩ → F ≠ [] → b < w.heap.size from fun b off e hl => iF.lt e hl)
  clear hz hb iU iF h1 h2 hl0
  unfold rtZ at *
  go_enter Tryz.func63, Tryz.ntmps63
  go_wp2_with fail
  with_reducible refine HN.out.mono ?_
  rintro e w2 ⟨⟨v, rfl, hRL⟩, hb2⟩
  obtain ⟨a1, a2, a3, a4, a5, c1, c2, c3, c4, c5, rfl, i1, i2, i3, i4, i5⟩ := hRL.is
  rw [hre, hho]
  have hZ2 := HZ.out.all hb2
  have hb02 := Hb.out.trans (hb2.mono Hb.out.size)
  have hs2 := hb2.size
  rw [hsW] at hs2
  have hba : Below w2.heap.size w2 (w2.alloc (.cells #[.slice a1 m c1, .slice a2 n c2, .slice a3 m c3, .slice a4 m c4, .slice a5 n c5] 99)) := (Below.refl _ _).alloc (Nat.le_refl _) _
  have hs3 : (w2.alloc (.cells #[.slice a1 m c1, .slice a2 n c2, .slice a3 m c3, .slice a4 m c4, .slice a5 n c5] 99)).heap.size = w2.heap.size + 1 := by simp
  have hB3 : BoxN (w2.alloc (.cells #[.slice a1 m c1, .slice a2 n c2, .slice a3 m c3, .slice a4 m c4, .slice a5 n c5] 99)) w2.heap.size 99 #[.slice a1 m c1, .slice a2 n c2, .slice a3 m c3, .slice a4 m c4, .slice a5 n c5] := BoxN.new _ _ _
  have v0 := hB3.cell (k := 0) rfl
  have v1 := hB3.cell (k := 1) rfl
  have v2 := hB3.cell (k := 2) rfl
  have v3 := hB3.cell (k := 3) rfl
  have v4 := hB3.cell (k := 4) rfl
  obtain ⟨w3, hw3⟩ : ∃ w3, w2.alloc (.cells #[.slice a1 m c1, .slice a2 n c2, .slice a3 m c3, .slice a4 m c4, .slice a5 n c5] 99) = w3 := ⟨_, rfl⟩
  have hZ3 := hZ2.all hba
  have hb03 := hb02.trans (hba.mono hb02.size)
  have hbd : Below w3.heap.size w3 (w3.alloc (.cells #[.slice a1 m c1, .slice a2 n c2, .slice a3 m c3, .slice a4 m c4, .slice a5 n c5, .string ⟨#[]⟩, .int .i64 0, .int .i64 0] 101)) := (Below.refl _ _).alloc (Nat.le_refl _) _
  rw [hw3] at hba hs3 hB3 hZ3 hb03 v0 v1 v2 v3 v4
  have hnw : ∀ {Aa : Option Addr} {l : List Int}, IntsIn (newOk U F Ua Fa (w.alloc (.cells #[.slice none 0 0, .slice none 0 0, .slice none 0 0, .slice none 0 0, .slice none 0 0, .string ⟨#[]⟩, .int .i64 0, .int .i64 0] 101)).heap.size) w2 Aa l → IntsIn (fun g => g ≠ w.heap.size ∧ g ≠ w3.heap.size ∧ ok0 g) w3 Aa l := fun {Aa l} h => ⟨h.1.below hba, fun b off e hl => by
    have hlt := h.1.lt e hl
    rcases h.2 b off e hl with ⟨hu, off', e'⟩ | ⟨hf, off', e'⟩ | h3
    · have := HUlt.out b off' e' hu
      exact ⟨by omega, by omega, hU0 b off' e' hu⟩
    · have := HFlt.out b off' e' hf
      exact ⟨by omega, by omega, hF0 b off' e' hf⟩
    · rw [hsW] at h3
      exact ⟨by omega, by omega, hok0 b (by omega)⟩⟩
  have hP0 : RT (fun g => g ≠ w.heap.size ∧ g ≠ w3.heap.size ∧ ok0 g) (w3.alloc (.cells #[.slice a1 m c1, .slice a2 n c2, .slice a3 m c3, .slice a4 m c4, .slice a5 n c5, .string ⟨#[]⟩, .int .i64 0, .int .i64 0] 101)) (.agg #[.slice a1 m c1, .slice a2 n c2, .slice a3 m c3, .slice a4 m c4, .slice a5 n c5, .string ⟨#[]⟩, .int .i64 0, .int .i64 0]) U F (tStart m n) := by
    refine RT.below (w := w3) ⟨a1, a2, a3, a4, a5, c1, c2, c3, c4, c5, ?_, hnw i1, hnw i2, hnw i3, hnw i4, hnw i5⟩ hbd
    show Value.agg _ = Value.agg #[.slice a1 (lStart m n).Re.length c1, .slice a2 (lStart m n).Ho.length c2, .slice a3 (lStart m n).Re.length c3, .slice a4 (lStart m n).Re.length c4, .slice a5 (lStart m n).Ho.length c5, .string ⟨#[]⟩, .int .i64 0, .int .i64 0]
    rw [hre, hho]
  have hx4 : BoxN (w3.alloc (.cells #[.slice a1 m c1, .slice a2 n c2, .slice a3 m c3, .slice a4 m c4, .slice a5 n c5, .string ⟨#[]⟩, .int .i64 0, .int .i64 0] 101)) w3.heap.size 101 #[.slice a1 m c1, .slice a2 n c2, .slice a3 m c3, .slice a4 m c4, .slice a5 n c5, .string ⟨#[]⟩, .int .i64 0, .int .i64 0] := BoxN.new _ _ _
  have hs4 : (w3.alloc (.cells #[.slice a1 m c1, .slice a2 n c2, .slice a3 m c3, .slice a4 m c4, .slice a5 n c5, .string ⟨#[]⟩, .int .i64 0, .int .i64 0] 101)).heap.size = w3.heap.size + 1 := by simp
  have HP0 := Lib.hid hP0
  have HX4 := Lib.hid hx4
  have HR4 := Lib.hid (hZ3.all hbd)
  have Hb4 := Lib.hid (hb03.trans (hbd.mono hb03.size))
  have hRx : w.heap.size ≠ w3.heap.size := by omega
  have hwx : w.heap.size ≤ w3.heap.size := hb03.size
  clear hs3 hnw hP0 hx4 hZ3 hb03 hbd hba hB3 hZ2 hb02 hb2 HN HZ Hb i1 i2 i3 i4 i5 hRL HUlt HFlt hsW hs2
  go_wp2_with fail
  try rw [hw3]
  generalize w3.alloc (.cells #[.slice a1 m c1, .slice a2 n c2, .slice a3 m c3, .slice a4 m c4, .slice a5 n c5, .string ⟨#[]⟩, .int .i64 0, .int .i64 0] 101) = w4 at *
  clear v0 v1 v2 v3 v4 hw3
  generalize w3.heap.size = xb at *
  with_reducible refine (CC.out w4).mono ?_
  rintro e w5 ⟨⟨vc, ls, rfl, hls, hlc⟩, hb5⟩
  have hlc0 : ls ≠ [] := fun e => by rw [e] at hlc; exact cutL_ne _ _ hlc.symm
  have hl0 := List.length_pos_iff.2 hlc0
  obtain ⟨Ac, cc, rfl, hcc⟩ := hls.form
  obtain ⟨cb, co, rfl, hcell⟩ := hcc (by simpa using hlc0)
  have hcbx : cb ≠ xb := by have := (World.ownsRow.lt hls cb rfl).1; omega
  obtain ⟨L, hL⟩ : ∃ L, (cutL 10 s.data.toList).dropLast = L := ⟨_, rfl⟩
  have hLl : ls.length = L.length + 1 := by
    have := congrArg List.length hlc
    rw [List.length_map] at this
    rw [← hL, List.length_dropLast, ← this]
    omega
  have Hword := Lib.hid (show ∀ k, k < L.length → ∃ x, ls[k]? = some x ∧ L.drop k = x.data.toList :: L.drop (k + 1) ∧ x.size ≤ 2000000 from fun k hk => by
    obtain ⟨x, hx⟩ : ∃ x, ls[k]? = some x := ⟨_, List.getElem?_eq_getElem (by omega)⟩
    have h3 : L[k]? = some x.data.toList := by
      rw [← hL, List.getElem?_dropLast, if_pos (by rw [← hlc, List.length_map]; omega), ← hlc, List.getElem?_map, hx]
      rfl
    refine ⟨x, hx, ?_, ?_⟩
    · rw [List.drop_eq_getElem_cons hk]
      rw [List.getElem?_eq_getElem hk] at h3
      injection h3 with h3
      rw [h3]
    · have h4 := cutL_le 10 s.data.toList x.data.toList (by rw [← hlc]; exact List.mem_map.2 ⟨x, List.mem_of_getElem? hx, rfl⟩)
      rw [← rt_size, ← rt_size] at h4
      omega)
  have HtO := Lib.hid (show tOpen U F (tStart m n) s.data.toList = tLines U F (tStart m n) L by rw [← hL]; rfl)
  have HX5 := Lib.hid (HX4.out.all hb5)
  have HR5 := Lib.hid (HR4.out.all hb5)
  have HP5 := Lib.hid (HP0.out.below hb5)
  have Hb5 := Lib.hid (Hb4.out.trans (hb5.mono Hb4.out.size))
  have Hcell := Lib.hid (show ∀ j u, (ls.map Value.string)[j]? = some u → w5.cell? ⟨cb, co + j, none⟩ = some u from hcell)
  clear HX4 HR4 HP0 Hb4 hb5 hcell hcc hls hlc hL CC hlc0
  rw [hLl]
  go_wp2_with fail
  go_loopw [13, 14, 15] (fun i _ _ wr => ∃ (k : Nat) (T : TS) (vs : Array Value), k ≤ L.length ∧ i = .int .i64 k ∧ Hid (T.many = k) ∧ Hid (tLines U F (tStart m n) L = tLines U F T (L.drop k)) ∧ Hid (TLen m n U F T) ∧ Hid (BoxN wr xb 101 vs) ∧ Hid (RT (fun g => g ≠ w.heap.size ∧ g ≠ xb ∧ ok0 g) wr (.agg vs) U F T) ∧ Hid (Below w.heap.size w wr) ∧ Hid (BoxN wr w.heap.size 101 #[.slice none 0 0, .slice none 0 0, .slice none 0 0, .slice none 0 0, .slice none 0 0, .string ⟨#[]⟩, .int .i64 0, .int .i64 0]) ∧ Hid (∀ j u, (ls.map Value.string)[j]? = some u → wr.cell? ⟨cb, co + j, none⟩ = some u)) (fun i _ _ _ => L.length - (intOf i).toNat)
  case atStart => exact ⟨0, _, _, Nat.zero_le _, rfl, Lib.hid rfl, Lib.hid rfl, Hl0, HX5, HP5, Hb5, HR5, Hcell⟩
  case round =>
    clear HX5 HR5 HP5 Hb5 Hcell Hl0
    obtain ⟨k, T, vs, hk, rfl, hmk, Hst, HL, HX, HP, Hb, HR, Hcell⟩ := hrel
    obtain ⟨a1, a2, a3, a4, a5, c1, c2, c3, c4, c5, hvs, -⟩ := HP.out.is
    injection hvs with hvs
    subst hvs
    have hXl := HX.out.lt
    obtain ⟨⟨x0, x1, x2, x3, x4, x5, x6, x7⟩, fx0, fx1, fx2, fx3, fx4, fx5, fx6, fx7⟩ := BoxN.st8 HX.out
    by_cases hlt : k < L.length
    · obtain ⟨x, hx, hdrop, hxs⟩ := Hword.out k hlt
      have cx : wr.cell? ⟨cb, co + k, none⟩ = some (.string x) := Hcell.out k _ (by rw [List.getElem?_map, hx]; rfl)
      have hcl : cb < wr.heap.size := block_lt cx
      have hst := Hst.out
      rw [hdrop, tLines] at hst
      have hmany := HL.out.inv.many
      have hw1 : IntKind.i64.wrap ((k : Int) + 1) = (k : Int) + 1 := (IntKind.wrap_i64 _).trans (by have := hmk.out; omega)
      have dk : decide ((k : Int) + 1 < (L.length : Int) + 1) = true := by simp; omega
      have kx0 : (0 : Int) ≤ (k : Int) := by omega
      have kx1 : (k : Int) < (L.length : Int) + 1 := by omega
      have kx2 : (k : Int) ≤ (L.length : Int) := by omega
      have hre := HL.out.re
      have hho := HL.out.ho
      have CQ := Lib.hid (fun V (hV : Below wr.heap.size wr V) => (RAgain_six (ok := fun g => (g ≠ w.heap.size ∧ g ≠ xb ∧ ok0 g) ∧ (g < wr.heap.size ∨ V.heap.size ≤ g)) (RT.below (w := wr) (HP.out.to (w' := wr) (fun _ _ _ => rfl) (fun g hg ho => ⟨ho, .inl hg⟩)) hV) HL.out.inv (fun i hi => (labsCode_ok hL.cu).2 i (by omega)) (fun i hi => (labsCode_ok hL.cf).2 i (by omega)) (by rw [hU, hre]) (by rw [hF, hho]) (fun g hg => ⟨⟨by have := hV.size; have := HR.out.lt; omega, by have := hV.size; omega, hok0 g (by have := hV.size; have := HR.out.lt; omega)⟩, .inr hg⟩) x hxs).mono fun e w' ⟨⟨v', T', he, hr, ht⟩, hb⟩ => (⟨⟨v', T', he, hr, ht⟩, hV.trans (hb.mono hV.size), hb⟩ : (∃ v' T', e = Ending.returned (.tuple #[v', .int .i64 (tLine U F T x.data.toList).2]) ∧ RT (fun g => (g ≠ w.heap.size ∧ g ≠ xb ∧ ok0 g) ∧ (g < wr.heap.size ∨ V.heap.size ≤ g)) w' v' U F T' ∧ ((tLine U F T x.data.toList).2 = 0 → T' = (tLine U F T x.data.toList).1)) ∧ Below wr.heap.size wr w' ∧ Below V.heap.size V w'))
      have HTm := Lib.hid (tLine_many (U := U) (F := F) (T := T) (s := x.data.toList))
      have HTl := Lib.hid (show (tLine U F T x.data.toList).2 = 0 → TLen m n U F (tLine U F T x.data.toList).1 from fun h0 => HL.out.line x.data.toList)
      obtain ⟨r, hr⟩ : ∃ r, tLine U F T x.data.toList = r := ⟨_, rfl⟩
      rw [hr] at hst HTm HTl
      simp only [hr] at CQ
      clear hr
      obtain ⟨T1, code⟩ := r
      have Hst1 := Lib.hid hst
      have hbA : Below wr.heap.size wr wr.drew := (Below.refl _ _).drew
      have hbB : Below wr.heap.size wr ((wr.alloc (.cells #[.slice none 0 0, .slice none 0 0, .slice none 0 0, .slice none 0 0, .slice none 0 0, .string ⟨#[]⟩, .int .i64 0, .int .i64 0] 101)).drew) := ((Below.refl _ _).alloc (Nat.le_refl _) _).drew
      have hZn : BoxN ((wr.alloc (.cells #[.slice none 0 0, .slice none 0 0, .slice none 0 0, .slice none 0 0, .slice none 0 0, .string ⟨#[]⟩, .int .i64 0, .int .i64 0] 101)).drew) wr.heap.size 101 #[.slice none 0 0, .slice none 0 0, .slice none 0 0, .slice none 0 0, .slice none 0 0, .string ⟨#[]⟩, .int .i64 0, .int .i64 0] := (BoxN.new wr _ _).drew
      have hKeep := Lib.hid (fun V (hV : Below wr.heap.size wr V) => (⟨(hV.cell (p := ⟨xb, 0, none⟩) hXl).trans x0, (hV.cell (p := ⟨xb, 1, none⟩) hXl).trans x1, (hV.cell (p := ⟨xb, 2, none⟩) hXl).trans x2, (hV.cell (p := ⟨xb, 3, none⟩) hXl).trans x3, (hV.cell (p := ⟨xb, 4, none⟩) hXl).trans x4, (hV.cell (p := ⟨xb, 5, none⟩) hXl).trans x5, (hV.cell (p := ⟨xb, 6, none⟩) hXl).trans x6, (hV.cell (p := ⟨xb, 7, none⟩) hXl).trans x7, (hV.cell (p := ⟨cb, co + k, none⟩) hcl).trans cx⟩ : V.cell? ⟨xb, 0, none⟩ = some (.slice a1 T.S.Re.length c1) ∧ V.cell? ⟨xb, 1, none⟩ = some (.slice a2 T.S.Ho.length c2) ∧ V.cell? ⟨xb, 2, none⟩ = some (.slice a3 T.S.Re.length c3) ∧ V.cell? ⟨xb, 3, none⟩ = some (.slice a4 T.S.Re.length c4) ∧ V.cell? ⟨xb, 4, none⟩ = some (.slice a5 T.S.Ho.length c5) ∧ V.cell? ⟨xb, 5, none⟩ = some (.string ⟨T.log.toArray⟩) ∧ V.cell? ⟨xb, 6, none⟩ = some (.int .i64 T.many) ∧ V.cell? ⟨xb, 7, none⟩ = some (.int .i64 T.chain) ∧ V.cell? ⟨cb, co + k, none⟩ = some (.string x)))
      clear hst hdrop hre hho
      go_wp2_with fail
      go_cut [14, 15] from 30 to 52 (fun x14 x15 wx => ∃ (xc : Nat) (vs : Array Value) (T' : TS), x14 = .pointer (some ⟨xc, 0, none⟩) ∧ x15 = .int .i64 code ∧ BoxN wx xc 101 vs ∧ RT (fun g => g ≠ w.heap.size ∧ g ≠ xb ∧ ok0 g) wx (.agg vs) U F T' ∧ (code = 0 → T' = T1) ∧ Below wr.heap.size wr wx)
      case first =>
        go_region_held3 (fun V => V.cell? ⟨xb, 0, none⟩ = some (.slice a1 T.S.Re.length c1) ∧ V.cell? ⟨xb, 1, none⟩ = some (.slice a2 T.S.Ho.length c2) ∧ V.cell? ⟨xb, 2, none⟩ = some (.slice a3 T.S.Re.length c3) ∧ V.cell? ⟨xb, 3, none⟩ = some (.slice a4 T.S.Re.length c4) ∧ V.cell? ⟨xb, 4, none⟩ = some (.slice a5 T.S.Ho.length c5) ∧ V.cell? ⟨xb, 5, none⟩ = some (.string ⟨T.log.toArray⟩) ∧ V.cell? ⟨xb, 6, none⟩ = some (.int .i64 T.many) ∧ V.cell? ⟨xb, 7, none⟩ = some (.int .i64 T.chain) ∧ V.cell? ⟨cb, co + k, none⟩ = some (.string x))
          ((refine hKeep.out _ ?_; repeat (first | with_reducible assumption | with_reducible exact hbA | with_reducible exact hbB | with_reducible refine Below.setCell ?_ (by simp) _ | with_reducible refine Below.alloc ?_ (by first | exact Nat.le_refl _ | exact Below.size (by assumption)) _ | with_reducible refine Below.drew ?_)))
          ((go_at_call 93; with_reducible refine (CQ.out _ (by first | with_reducible exact hbA | with_reducible exact hbB)).mono ?_; rintro e w6 ⟨⟨v', T', rfl, hR6, hT6⟩, hb6, hbv⟩; obtain ⟨s1, s2, s3, s4, s5, e1, e2, e3, e4, e5, hv6, -⟩ := hR6.is; subst hv6; try (have hz6 := BoxN.all hZn hbv; obtain ⟨⟨z0, z1, z2, z3, z4, z5, z6, z7⟩, fz0, fz1, fz2, fz3, fz4, fz5, fz6, fz7⟩ := BoxN.st8 hz6)))
        all_goals (go_wp2_with fail; go_meet)
        · exact ⟨w6.heap.size, _, T', rfl, rfl, BoxN.new _ _ _, (hR6.to (w' := w6) (fun _ _ _ => rfl) (fun g _ ho => ho.1)).below ((Below.refl _ _).alloc (Nat.le_refl _) _), hT6, hb6.alloc hb6.size _⟩
        · exact ⟨wr.heap.size, _, T', rfl, rfl, hz6.put8 _ _ _ _ _ _ _ _, hR6.to (fun g hg _ => put8_block (by have h1 := hg.2; simp at h1; omega) _ _ _ _ _ _ _ _) (fun g _ ho => ho.1), hT6, below_put8 hb6 (Nat.le_refl _) _ _ _ _ _ _ _ _⟩
      case rest =>
        obtain ⟨xc, vs, T', rfl, rfl, hC, hR6, hT6, hb6⟩ := hcut
        clear CQ hbA hbB hZn hKeep x0 x1 x2 x3 x4 x5 x6 x7 cx fx0 fx1 fx2 fx3 fx4 fx5 fx6 fx7
        have HR6b := Lib.hid (HR.out.all hb6)
        have HX6 := Lib.hid (HX.out.all hb6)
        have Hb6 := Lib.hid (Hb.out.trans (hb6.mono Hb.out.size))
        have Hcell6 := Lib.hid (show ∀ j u, (ls.map Value.string)[j]? = some u → wc.cell? ⟨cb, co + j, none⟩ = some u from fun j u hj => (hb6.cell (p := ⟨cb, co + j, none⟩) hcl).trans (Hcell.out j u hj))
        by_cases h0 : code = 0
        · obtain rfl : T' = T1 := hT6 h0
          obtain ⟨s1, s2, s3, s4, s5, e1, e2, e3, e4, e5, hv6, -⟩ := hR6.is
          injection hv6 with hv6
          subst hv6
          obtain ⟨⟨y0, y1, y2, y3, y4, y5, y6, y7⟩, -⟩ := BoxN.st8 hC
          obtain ⟨⟨x0, x1, x2, x3, x4, x5, x6, x7⟩, fx0, fx1, fx2, fx3, fx4, fx5, fx6, fx7⟩ := BoxN.st8 HX6.out
          have Hnext := Lib.hid (show tLines U F (tStart m n) L = tLines U F T' (L.drop (k + 1)) by
            have h3 := Hst1.out
            rw [if_neg (by intro h4; exact h4 h0)] at h3
            exact h3)
          have hm1 := Lib.hid (HTm.out h0)
          have hl1 := Lib.hid (HTl.out h0)
          have g0 : ((code : Int) != 0) = false := by simp; omega
          have HX7 := Lib.hid (HX6.out.put8 (.slice s1 T'.S.Re.length e1) (.slice s2 T'.S.Ho.length e2) (.slice s3 T'.S.Re.length e3) (.slice s4 T'.S.Re.length e4) (.slice s5 T'.S.Ho.length e5) (.string ⟨T'.log.toArray⟩) (.int .i64 T'.many) (.int .i64 T'.chain))
          have HR7 := Lib.hid (show BoxN ((((((((wc.setCell ⟨xb, 0, none⟩ (.slice s1 T'.S.Re.length e1)).setCell ⟨xb, 1, none⟩ (.slice s2 T'.S.Ho.length e2)).setCell ⟨xb, 2, none⟩ (.slice s3 T'.S.Re.length e3)).setCell ⟨xb, 3, none⟩ (.slice s4 T'.S.Re.length e4)).setCell ⟨xb, 4, none⟩ (.slice s5 T'.S.Ho.length e5)).setCell ⟨xb, 5, none⟩ (.string ⟨T'.log.toArray⟩)).setCell ⟨xb, 6, none⟩ (.int .i64 T'.many)).setCell ⟨xb, 7, none⟩ (.int .i64 T'.chain)) w.heap.size 101 #[.slice none 0 0, .slice none 0 0, .slice none 0 0, .slice none 0 0, .slice none 0 0, .string ⟨#[]⟩, .int .i64 0, .int .i64 0] from (put8_block hRx (.slice s1 T'.S.Re.length e1) (.slice s2 T'.S.Ho.length e2) (.slice s3 T'.S.Re.length e3) (.slice s4 T'.S.Re.length e4) (.slice s5 T'.S.Ho.length e5) (.string ⟨T'.log.toArray⟩) (.int .i64 T'.many) (.int .i64 T'.chain)).trans HR6b.out)
          have HP7 := Lib.hid (RT.to (ok' := fun g => g ≠ w.heap.size ∧ g ≠ xb ∧ ok0 g) hR6 (fun g hg _ => put8_block hg.2.1 (.slice s1 T'.S.Re.length e1) (.slice s2 T'.S.Ho.length e2) (.slice s3 T'.S.Re.length e3) (.slice s4 T'.S.Re.length e4) (.slice s5 T'.S.Ho.length e5) (.string ⟨T'.log.toArray⟩) (.int .i64 T'.many) (.int .i64 T'.chain)) (fun g _ hg => hg))
          have Hb7 := Lib.hid (below_put8 Hb6.out hwx (.slice s1 T'.S.Re.length e1) (.slice s2 T'.S.Ho.length e2) (.slice s3 T'.S.Re.length e3) (.slice s4 T'.S.Re.length e4) (.slice s5 T'.S.Ho.length e5) (.string ⟨T'.log.toArray⟩) (.int .i64 T'.many) (.int .i64 T'.chain))
          have Hcell7 := Lib.hid (show ∀ j u, (ls.map Value.string)[j]? = some u → ((((((((wc.setCell ⟨xb, 0, none⟩ (.slice s1 T'.S.Re.length e1)).setCell ⟨xb, 1, none⟩ (.slice s2 T'.S.Ho.length e2)).setCell ⟨xb, 2, none⟩ (.slice s3 T'.S.Re.length e3)).setCell ⟨xb, 3, none⟩ (.slice s4 T'.S.Re.length e4)).setCell ⟨xb, 4, none⟩ (.slice s5 T'.S.Ho.length e5)).setCell ⟨xb, 5, none⟩ (.string ⟨T'.log.toArray⟩)).setCell ⟨xb, 6, none⟩ (.int .i64 T'.many)).setCell ⟨xb, 7, none⟩ (.int .i64 T'.chain)).cell? ⟨cb, co + j, none⟩ = some u from fun j u hj => by
            rw [← Hcell6.out j u hj]
            simp only [World.cell?]
            rw [put8_block hcbx (.slice s1 T'.S.Re.length e1) (.slice s2 T'.S.Ho.length e2) (.slice s3 T'.S.Re.length e3) (.slice s4 T'.S.Re.length e4) (.slice s5 T'.S.Ho.length e5) (.string ⟨T'.log.toArray⟩) (.int .i64 T'.many) (.int .i64 T'.chain)])
          clear hT6 hR6 hC hb6 Hst Hst1 HTm HTl
          go_wp2_with fail
          with_reducible refine ⟨⟨k + 1, T', _, ?ya, ?yb, ?yc, Hnext, hl1, HX7, HP7, Hb7, HR7, Hcell7⟩, ?yd⟩
          case ya => omega
          case yb => go_num
          case yc => exact Lib.hid (by rw [hm1.out, hmk.out])
          case yd => simp [intOf]; omega
        · have Hbad := Lib.hid (show tLines U F (tStart m n) L = (T, T.many + 1, code) by
            have h3 := Hst1.out
            rw [if_pos h0] at h3
            exact h3)
          have g0 : ((code : Int) != 0) = true := by simp; omega
          obtain ⟨⟨z0, z1, z2, z3, z4, z5, z6, z7⟩, f0, f1, f2, f3, f4, f5, f6, f7⟩ := BoxN.st8 HR6b.out
          clear hT6 hR6 hC hb6 Hst Hst1 HTm HTl Hcell6 HX6
          go_wp2_with fail
          refine bodyPost_ret (results_row_tmp2 rfl _ _ w.heap.size 101 #[.slice none 0 0, .slice none 0 0, .slice none 0 0, .slice none 0 0, .slice none 0 0, .string ⟨#[]⟩, .int .i64 0, .int .i64 0] (0, 0) _ rfl (HR6b.out.put8 _ _ _ _ _ _ _ _) Tryz.underlying101 rfl (by kernel_rfl)) rfl ?_
          show ROpenPost _ _ _ _ _ _ ∧ _
          rw [HtO.out, Hbad.out, hmk.out]
          exact ⟨⟨_, by first | rfl | simp, fun h => absurd h h0, fun _ => rfl⟩, below_put8 Hb6.out (Nat.le_refl _) _ _ _ _ _ _ _ _⟩
    · obtain rfl : k = L.length := by omega
      have Hend := Lib.hid (show tLines U F (tStart m n) L = (T, T.many, 0) by rw [Hst.out, List.drop_length, tLines])
      have dk : decide ((L.length : Int) + 1 < (L.length : Int) + 1) = false := by simp
      have hw1 : IntKind.i64.wrap ((L.length : Int) + 1) = (L.length : Int) + 1 := (IntKind.wrap_i64 _).trans (by have := HL.out.inv.many; have := hmk.out; omega)
      obtain ⟨⟨z0, z1, z2, z3, z4, z5, z6, z7⟩, f0, f1, f2, f3, f4, f5, f6, f7⟩ := BoxN.st8 HR.out
      clear hlt Hst Hword fx0 fx1 fx2 fx3 fx4 fx5 fx6 fx7
      go_wp2_with fail
      go_region
      all_goals
        go_wp2_with fail
        refine bodyPost_ret (results_row_tmp2 rfl _ _ w.heap.size 101 #[.slice a1 T.S.Re.length c1, .slice a2 T.S.Ho.length c2, .slice a3 T.S.Re.length c3, .slice a4 T.S.Re.length c4, .slice a5 T.S.Ho.length c5, .string ⟨T.log.toArray⟩, .int .i64 T.many, .int .i64 T.chain] (0, 0) _ rfl (HR.out.put8 _ _ _ _ _ _ _ _).drew Tryz.underlying101 rfl (by kernel_rfl)) rfl ?_
        show ROpenPost _ _ _ _ _ _ ∧ _
        rw [HtO.out, Hend.out]
        exact ⟨⟨_, by first | rfl | simp, fun _ => (HP.out.to (fun g hg _ => put8_block hg.1 _ _ _ _ _ _ _ _) (fun _ _ ho => ho.2.2)).below ((Below.refl _ _).drew), fun h => absurd rfl h⟩, (below_put8 Hb.out (Nat.le_refl _) _ _ _ _ _ _ _ _).drew⟩
end Go.Proofs.YtanlmfnhlldkeaaGreatDoor
