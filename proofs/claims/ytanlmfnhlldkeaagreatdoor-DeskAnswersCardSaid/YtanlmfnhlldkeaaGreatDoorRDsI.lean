/-
  Contract: quietwingref5.answer, where a label is added.
-/
import Derived.Test.YtanlmfnhlldkeaaGreatDoorRDsGH
namespace Go.Proofs.YtanlmfnhlldkeaaGreatDoor
open Go.RowKit
set_option maxRecDepth 100000
set_option linter.unusedVariables false

theorem addR_up (n : Nat) (L : List Int) (s : List UInt8) : (addR true n L s).1 = L := by
  unfold addR
  split
  · rfl
  · rw [if_pos rfl]
theorem addU_eq (D : DS) (x : List UInt8) : dAddU D x = ({ D with U := (addR D.T.isSome D.m D.U x).1 }, (addR D.T.isSome D.m D.U x).2) := by
  unfold dAddU addR
  cases parseV x with
  | none => rfl
  | some lx =>
    obtain ⟨l, y⟩ := lx
    dsimp only
    by_cases h : D.T.isSome = true
    · rw [if_pos h, if_pos h]
    · rw [if_neg h, if_neg h]
      by_cases h8 : D.m = 8
      · rw [if_pos h8, if_pos h8]
      · rw [if_neg h8, if_neg h8]
theorem addF_eq (D : DS) (x : List UInt8) : dAddF D x = ({ D with F := (addR D.T.isSome D.n D.F x).1 }, (addR D.T.isSome D.n D.F x).2) := by
  unfold dAddF addR
  cases parseV x with
  | none => rfl
  | some lx =>
    obtain ⟨l, y⟩ := lx
    dsimp only
    by_cases h : D.T.isSome = true
    · rw [if_pos h, if_pos h]
    · rw [if_neg h, if_neg h]
      by_cases h8 : D.n = 8
      · rw [if_pos h8, if_pos h8]
      · rw [if_neg h8, if_neg h8]
theorem two_words {u xb : ByteArray} : ∀ {ls : List ByteArray}, ls.map (·.data.toList) = [u.data.toList, xb.data.toList] → ls = [u, xb]
  | [], h => by cases h
  | [_], h => by simp at h
  | [p, r], h => by
    rw [List.map_cons, List.map_cons, List.map_nil] at h
    injection h with h1 h2
    injection h2 with h2 _
    rw [ba_ext h1, ba_ext h2]
  | p :: r :: t :: ls, h => by simp at h
theorem cut_start : cutL 32 vStart = [vStart] := by decide
theorem cell_put11n {V : World} {g : Nat} {a : Addr} {v : Value} (y0 y1 y2 y3 y4 y5 y6 y7 y8 y9 y10 : Value) (ha : a.block ≠ g) (h : V.cell? a = some v) : (((((((((((V.setCell ⟨g, 0, none⟩ y0).setCell ⟨g, 1, none⟩ y1).setCell ⟨g, 2, none⟩ y2).setCell ⟨g, 3, none⟩ y3).setCell ⟨g, 4, none⟩ y4).setCell ⟨g, 5, none⟩ y5).setCell ⟨g, 6, none⟩ y6).setCell ⟨g, 7, none⟩ y7).setCell ⟨g, 8, none⟩ y8).setCell ⟨g, 9, none⟩ y9).setCell ⟨g, 10, none⟩ y10).cell? a = some v :=
  (World.cell?_of_block (a := a) (heap_put11 _ _ _ _ _ _ _ _ _ _ _ ha)).trans h
section
variable {ok : Nat → Prop} {w : World} {D : DS} {T : TS} {a1 a2 : Option Addr} {c1 c2 m n : Nat} {b1 b2 b3 b4 b5 : Option Addr} {k1 d1 k2 d2 k3 d3 k4 d4 k5 d5 : Nat} {ts : ByteArray} {mn ch : Int}
set_option maxHeartbeats 8000000 in
theorem ansUser {up : Bool} (hok : ∀ g, w.heap.size ≤ g → ok g) (hD : DOk D) (hR : RDAt ok w (.agg #[.slice a1 m c1, .slice a2 n c2, .slice b1 k1 d1, .slice b2 k2 d2, .slice b3 k3 d3, .slice b4 k4 d4, .slice b5 k5 d5, .string ts, .int .i64 mn, .int .i64 ch, .bool up]) D) (s : ByteArray) (hs : s.size ≤ 3000) (xb : ByteArray) (hxs : xb.size < 2 ^ 48) (hcut : cutL 32 s.data.toList = [vUser, xb.data.toList]) :
    Calls Tryz.prog 46 #[.agg #[.slice a1 m c1, .slice a2 n c2, .slice b1 k1 d1, .slice b2 k2 d2, .slice b3 k3 d3, .slice b4 k4 d4, .slice b5 k5 d5, .string ts, .int .i64 mn, .int .i64 ch, .bool up], .string s] w fun e w' => RDPost ok w (dAddU D xb.data.toList) e w' := by
  obtain ⟨⟨hm, hn, hup⟩, iU, iF, hrt⟩ := hR.opened
  have e0 : ¬ s.toList = [115, 116, 97, 114, 116] := fun e => by
    rw [Lib.toList_data] at e
    rw [show s.data.toList = vStart from e, cut_start] at hcut
    cases hcut
  have g0 : (s.toList == [115, 116, 97, 114, 116]) = false := beq_eq_false_iff_ne.2 e0
  obtain ⟨W, hW⟩ : ∃ W, (w.alloc (.cells #[.slice a1 m c1, .slice a2 n c2, .slice b1 k1 d1, .slice b2 k2 d2, .slice b3 k3 d3, .slice b4 k4 d4, .slice b5 k5 d5, .string ts, .int .i64 mn, .int .i64 ch, .bool up] 103)).alloc (.cells #[.slice none 0 0, .slice none 0 0, .slice none 0 0, .slice none 0 0, .slice none 0 0, .slice none 0 0, .slice none 0 0, .string ⟨#[]⟩, .int .i64 0, .int .i64 0, .bool false] 103) = W := ⟨_, rfl⟩
  have hxb : BoxN W w.heap.size 103 #[.slice a1 m c1, .slice a2 n c2, .slice b1 k1 d1, .slice b2 k2 d2, .slice b3 k3 d3, .slice b4 k4 d4, .slice b5 k5 d5, .string ts, .int .i64 mn, .int .i64 ch, .bool up] := by rw [← hW]; exact (BoxN.new _ _ _).alloc _
  have hzb : BoxN W (w.heap.size + 1) 103 #[.slice none 0 0, .slice none 0 0, .slice none 0 0, .slice none 0 0, .slice none 0 0, .slice none 0 0, .slice none 0 0, .string ⟨#[]⟩, .int .i64 0, .int .i64 0, .bool false] := by rw [← hW]; exact BoxN.new' _ _ _ _ (by simp)
  have hbb : Below w.heap.size w W := by rw [← hW]; exact act_boxes (Below.refl _ _) _ _ _
  have Hs := Lib.hid (show W.heap.size = w.heap.size + 2 by rw [← hW]; simp)
  have CC := RCut_any 32 s (by omega) W
  rw [show (((32 : UInt8).toNat : Nat) : Int) = 32 from rfl] at CC
  have HCC := Lib.hid CC
  clear CC
  have HD := Lib.hid hD
  have Hm := Lib.hid hm
  have Hn := Lib.hid hn
  have Hup := Lib.hid hup
  have IU := Lib.hid iU
  have IF := Lib.hid iF
  have Hrt := Lib.hid hrt
  have Hcut := Lib.hid hcut
  clear hm hn hup iU iF hrt hcut hR hD
  go_enter Tryz.func46, Tryz.ntmps46
  go_wp2_with fail
  try rw [hW]
  clear hW
  with_reducible refine HCC.out.mono ?_
  rintro e w1 ⟨⟨vw, ls, rfl, hown, hls⟩, hb1⟩
  rw [Hcut.out] at hls
  obtain rfl : ls = [⟨#[117, 115, 101, 114]⟩, xb] := two_words hls
  obtain ⟨Aw, cw, rfl, hcw⟩ := hown.form
  obtain ⟨gw, ow, rfl, hcc⟩ := hcw (by simp)
  have l0 := hcc 0 _ rfl
  have l1 := hcc 1 _ rfl
  rw [Nat.add_zero] at l0
  rw [show ([⟨#[117, 115, 101, 114]⟩, xb] : List ByteArray).length = 2 from rfl]
  have hX1 := hxb.all hb1
  have hZ1 := hzb.all hb1
  have hbw1 := hbb.trans (hb1.mono hbb.size)
  have Hs1 := Lib.hid (show w.heap.size + 2 ≤ w1.heap.size by rw [← Hs.out]; exact hb1.size)
  obtain ⟨⟨x0, x1, x2, x3, x4, x5, x6, x7, x8, x9, x10⟩, fx⟩ := BoxN.st11 hX1
  obtain ⟨⟨z0, z1, z2, z3, z4, z5, z6, z7, z8, z9, z10⟩, f0, f1, f2, f3, f4, f5, f6, f7, f8, f9, f10⟩ := BoxN.st11 hZ1
  have CA : Hid (Calls Tryz.prog 65 #[.agg #[.slice a1 m c1, .slice a2 n c2, .slice b1 k1 d1, .slice b2 k2 d2, .slice b3 k3 d3, .slice b4 k4 d4, .slice b5 k5 d5, .string ts, .int .i64 mn, .int .i64 ch, .bool up], .slice a1 m c1, .string xb] w1.drew fun e w' => RAddPost w1.heap.size a1 D.U (addR up m D.U xb.data.toList) e w' ∧ Below w1.heap.size w1 w') := Lib.hid ((RAdd_any up (drew_ints ((IU.out.1).below hbw1)) (by rw [Hm.out]; exact HD.out.lU) (by rw [Hm.out]; exact HD.out.m8) xb hxs).mono fun e w' ⟨h1, h2⟩ => ⟨h1, ((Below.refl w1.heap.size w1).drew).trans h2⟩)
  have HX1 := Lib.hid hX1
  have HZ1 := Lib.hid hZ1
  have Hbw1 := Lib.hid hbw1
  have hlw := block_lt l1
  have hlx := hX1.lt
  have HS := Lib.hid (fun V (hV : Below w1.heap.size w1 V) => (⟨(hV.cell (p := ⟨w.heap.size, 0, none⟩) hlx).trans x0, (hV.cell (p := ⟨w.heap.size, 1, none⟩) hlx).trans x1, (hV.cell (p := ⟨w.heap.size, 2, none⟩) hlx).trans x2, (hV.cell (p := ⟨w.heap.size, 3, none⟩) hlx).trans x3, (hV.cell (p := ⟨w.heap.size, 4, none⟩) hlx).trans x4, (hV.cell (p := ⟨w.heap.size, 5, none⟩) hlx).trans x5, (hV.cell (p := ⟨w.heap.size, 6, none⟩) hlx).trans x6, (hV.cell (p := ⟨w.heap.size, 7, none⟩) hlx).trans x7, (hV.cell (p := ⟨w.heap.size, 8, none⟩) hlx).trans x8, (hV.cell (p := ⟨w.heap.size, 9, none⟩) hlx).trans x9, (hV.cell (p := ⟨w.heap.size, 10, none⟩) hlx).trans x10, (hV.cell (p := ⟨gw, ow + 1, none⟩) hlw).trans l1⟩ : V.cell? ⟨w.heap.size, 0, none⟩ = some (.slice a1 m c1) ∧ V.cell? ⟨w.heap.size, 1, none⟩ = some (.slice a2 n c2) ∧ V.cell? ⟨w.heap.size, 2, none⟩ = some (.slice b1 k1 d1) ∧ V.cell? ⟨w.heap.size, 3, none⟩ = some (.slice b2 k2 d2) ∧ V.cell? ⟨w.heap.size, 4, none⟩ = some (.slice b3 k3 d3) ∧ V.cell? ⟨w.heap.size, 5, none⟩ = some (.slice b4 k4 d4) ∧ V.cell? ⟨w.heap.size, 6, none⟩ = some (.slice b5 k5 d5) ∧ V.cell? ⟨w.heap.size, 7, none⟩ = some (.string ts) ∧ V.cell? ⟨w.heap.size, 8, none⟩ = some (.int .i64 mn) ∧ V.cell? ⟨w.heap.size, 9, none⟩ = some (.int .i64 ch) ∧ V.cell? ⟨w.heap.size, 10, none⟩ = some (.bool up) ∧ V.cell? ⟨gw, ow + 1, none⟩ = some (.string xb)))
  have hpd : Below w1.heap.size w1 w1.drew := (Below.refl _ _).drew
  clear hown hls hcw hxb hzb hbb hb1 hX1 hZ1 hbw1 HCC hcc hlw hlx fx
  go_wp2_with fail
  go_region_held3 (fun V => V.cell? ⟨w.heap.size, 0, none⟩ = some (.slice a1 m c1) ∧ V.cell? ⟨w.heap.size, 1, none⟩ = some (.slice a2 n c2) ∧ V.cell? ⟨w.heap.size, 2, none⟩ = some (.slice b1 k1 d1) ∧ V.cell? ⟨w.heap.size, 3, none⟩ = some (.slice b2 k2 d2) ∧ V.cell? ⟨w.heap.size, 4, none⟩ = some (.slice b3 k3 d3) ∧ V.cell? ⟨w.heap.size, 5, none⟩ = some (.slice b4 k4 d4) ∧ V.cell? ⟨w.heap.size, 6, none⟩ = some (.slice b5 k5 d5) ∧ V.cell? ⟨w.heap.size, 7, none⟩ = some (.string ts) ∧ V.cell? ⟨w.heap.size, 8, none⟩ = some (.int .i64 mn) ∧ V.cell? ⟨w.heap.size, 9, none⟩ = some (.int .i64 ch) ∧ V.cell? ⟨w.heap.size, 10, none⟩ = some (.bool up) ∧ V.cell? ⟨gw, ow + 1, none⟩ = some (.string xb))
    ((first | with_reducible exact HS.out _ hpd | with_reducible exact HS.out _ hb3))
    ((first
      | (go_at_call 65; with_reducible refine CA.out.mono ?_; intro e w3 hpq; obtain ⟨hq, hb3⟩ := hpq; unfold RAddPost at hq; obtain ⟨A', n', c', he, hi, hl, hpl⟩ := hq; subst he)
      | fail))
  have hX3 := HX1.out.all hb3
  have hZ3 := HZ1.out.all hb3
  have hbw3 := Hbw1.out.trans (hb3.mono (by have := Hs1.out; omega))
  clear x0 x1 x2 x3 x4 x5 x6 x7 x8 x9 x10 f0 f1 f2 f3 f4 f5 f6 f7 f8 f9 f10 z0 z1 z2 z3 z4 z5 z6 z7 z8 z9 z10 l0 l1
  obtain ⟨⟨x0, x1, x2, x3, x4, x5, x6, x7, x8, x9, x10⟩, fx0, fx1, fx2, fx3, fx4, fx5, fx6, fx7, fx8, fx9, fx10⟩ := BoxN.st11 hX3
  obtain ⟨⟨z0, z1, z2, z3, z4, z5, z6, z7, z8, z9, z10⟩, f0, f1, f2, f3, f4, f5, f6, f7, f8, f9, f10⟩ := BoxN.st11 hZ3
  have hs1 := Hs1.out
  have hi2 : IntsIn (fun g => (ok g ∧ g < w.heap.size) ∨ w1.heap.size ≤ g) w3 A' (addR up m D.U xb.data.toList).1 := ⟨hi, fun b off e hne => by
    rcases hpl with ⟨ha, hL⟩ | hp
    · rw [ha] at e
      rw [hL] at hne
      exact .inl ⟨IU.out.2 b off e hne, IU.out.1.has e hne⟩
    · exact .inr (hp b off e)⟩
  have HI2 := Lib.hid hi2
  have Hl := Lib.hid hl
  have HZ4 := Lib.hid (hZ3.other (a := ⟨w.heap.size, 0, none⟩) (by show w.heap.size + 1 ≠ w.heap.size; omega) (.slice A' n' c'))
  have Hkp := Lib.hid (fun (x : Nat) (hx : (ok x ∧ x < w.heap.size) ∨ w1.heap.size ≤ x) (y0 y1 y2 y3 y4 y5 y6 y7 y8 y9 y10 : Value) => (heap_put11 (V := w3.setCell ⟨w.heap.size, 0, none⟩ (.slice A' n' c')) (g := w.heap.size + 1) (b := x) y0 y1 y2 y3 y4 y5 y6 y7 y8 y9 y10 (by rcases hx with ⟨_, hx⟩ | hx <;> omega)).trans (Below.heap_setCell w3 ⟨w.heap.size, 0, none⟩ (.slice A' n' c') x (by show x ≠ w.heap.size; rcases hx with ⟨_, hx⟩ | hx <;> omega)))
  have Hbf := Lib.hid (fun y0 y1 y2 y3 y4 y5 y6 y7 y8 y9 y10 => below_put11 (hbw3.setCell (p := ⟨w.heap.size, 0, none⟩) (Nat.le_refl _) (.slice A' n' c')) (g := w.heap.size + 1) (by omega) y0 y1 y2 y3 y4 y5 y6 y7 y8 y9 y10)
  have Hbw3 := Lib.hid hbw3
  clear hX3 hZ3 hbw3 hi hi2 hl hpl CA hb3 HS hpd
  go_wp2_with fail
  refine bodyPost_ret (results_row_tmpD rfl _ _ (w.heap.size + 1) 103 #[.slice A' n' c', .slice a2 n c2, .slice b1 k1 d1, .slice b2 k2 d2, .slice b3 k3 d3, .slice b4 k4 d4, .slice b5 k5 d5, .string ts, .int .i64 mn, .int .i64 ch, .bool up] (0, 0) _ rfl (HZ4.out.put11 _ _ _ _ _ _ _ _ _ _ _) Tryz.underlying103 rfl (by kernel_rfl)) rfl ?_
  rw [addU_eq, ← Hup.out, ← Hm.out]
  have hbf := Hbf.out (.slice A' n' c') (.slice a2 n c2) (.slice b1 k1 d1) (.slice b2 k2 d2) (.slice b3 k3 d3) (.slice b4 k4 d4) (.slice b5 k5 d5) (.string ts) (.int .i64 mn) (.int .i64 ch) (.bool up)
  have hkp := fun x hx => Hkp.out x hx (.slice A' n' c') (.slice a2 n c2) (.slice b1 k1 d1) (.slice b2 k2 d2) (.slice b3 k3 d3) (.slice b4 k4 d4) (.slice b5 k5 d5) (.string ts) (.int .i64 mn) (.int .i64 ch) (.bool up)
  refine ⟨⟨_, rfl, ⟨A', a2, c', c2, b1, b2, b3, b4, b5, k1, d1, k2, d2, k3, d3, k4, d4, k5, d5, ts, mn, ch, ?_, ?_, ?_, fun T2 h2 => ?_⟩⟩, hbf⟩
  · show Value.agg _ = Value.agg _
    rw [show ({ D with U := (addR up m D.U xb.data.toList).1 } : DS).m = n' by show (addR up m D.U xb.data.toList).1.length / 2 = n'; have := Hl.out; omega, Hn.out, Hup.out]
    rfl
  · show IntsIn ok _ A' (addR up m D.U xb.data.toList).1
    exact HI2.out.to (ok' := ok) (fun x hx _ => hkp x hx) (fun g _ ho => by rcases ho with ⟨h, _⟩ | h; exact h; exact hok g (by omega))
  · show IntsIn ok _ a2 D.F
    exact IF.out.below hbf
  · have h3 : D.T = some T2 := h2
    have h4 : up = true := by rw [Hup.out, h3]; rfl
    have h5 : (addR up m D.U xb.data.toList).1 = D.U := by rw [h4]; exact addR_up _ _ _
    show RT ok _ _ (addR up m D.U xb.data.toList).1 D.F T2
    rw [h5]
    exact (Hrt.out T2 h3).below hbf
set_option maxHeartbeats 8000000 in
theorem ansFile {up : Bool} (hok : ∀ g, w.heap.size ≤ g → ok g) (hD : DOk D) (hR : RDAt ok w (.agg #[.slice a1 m c1, .slice a2 n c2, .slice b1 k1 d1, .slice b2 k2 d2, .slice b3 k3 d3, .slice b4 k4 d4, .slice b5 k5 d5, .string ts, .int .i64 mn, .int .i64 ch, .bool up]) D) (s : ByteArray) (hs : s.size ≤ 3000) (xb : ByteArray) (hxs : xb.size < 2 ^ 48) (hcut : cutL 32 s.data.toList = [vFile, xb.data.toList]) :
    Calls Tryz.prog 46 #[.agg #[.slice a1 m c1, .slice a2 n c2, .slice b1 k1 d1, .slice b2 k2 d2, .slice b3 k3 d3, .slice b4 k4 d4, .slice b5 k5 d5, .string ts, .int .i64 mn, .int .i64 ch, .bool up], .string s] w fun e w' => RDPost ok w (dAddF D xb.data.toList) e w' := by
  obtain ⟨⟨hm, hn, hup⟩, iU, iF, hrt⟩ := hR.opened
  have e0 : ¬ s.toList = [115, 116, 97, 114, 116] := fun e => by
    rw [Lib.toList_data] at e
    rw [show s.data.toList = vStart from e, cut_start] at hcut
    cases hcut
  have g0 : (s.toList == [115, 116, 97, 114, 116]) = false := beq_eq_false_iff_ne.2 e0
  obtain ⟨W, hW⟩ : ∃ W, (w.alloc (.cells #[.slice a1 m c1, .slice a2 n c2, .slice b1 k1 d1, .slice b2 k2 d2, .slice b3 k3 d3, .slice b4 k4 d4, .slice b5 k5 d5, .string ts, .int .i64 mn, .int .i64 ch, .bool up] 103)).alloc (.cells #[.slice none 0 0, .slice none 0 0, .slice none 0 0, .slice none 0 0, .slice none 0 0, .slice none 0 0, .slice none 0 0, .string ⟨#[]⟩, .int .i64 0, .int .i64 0, .bool false] 103) = W := ⟨_, rfl⟩
  have hxb : BoxN W w.heap.size 103 #[.slice a1 m c1, .slice a2 n c2, .slice b1 k1 d1, .slice b2 k2 d2, .slice b3 k3 d3, .slice b4 k4 d4, .slice b5 k5 d5, .string ts, .int .i64 mn, .int .i64 ch, .bool up] := by rw [← hW]; exact (BoxN.new _ _ _).alloc _
  have hzb : BoxN W (w.heap.size + 1) 103 #[.slice none 0 0, .slice none 0 0, .slice none 0 0, .slice none 0 0, .slice none 0 0, .slice none 0 0, .slice none 0 0, .string ⟨#[]⟩, .int .i64 0, .int .i64 0, .bool false] := by rw [← hW]; exact BoxN.new' _ _ _ _ (by simp)
  have hbb : Below w.heap.size w W := by rw [← hW]; exact act_boxes (Below.refl _ _) _ _ _
  have Hs := Lib.hid (show W.heap.size = w.heap.size + 2 by rw [← hW]; simp)
  have CC := RCut_any 32 s (by omega) W
  rw [show (((32 : UInt8).toNat : Nat) : Int) = 32 from rfl] at CC
  have HCC := Lib.hid CC
  clear CC
  have HD := Lib.hid hD
  have Hm := Lib.hid hm
  have Hn := Lib.hid hn
  have Hup := Lib.hid hup
  have IU := Lib.hid iU
  have IF := Lib.hid iF
  have Hrt := Lib.hid hrt
  have Hcut := Lib.hid hcut
  clear hm hn hup iU iF hrt hcut hR hD
  go_enter Tryz.func46, Tryz.ntmps46
  go_wp2_with fail
  try rw [hW]
  clear hW
  with_reducible refine HCC.out.mono ?_
  rintro e w1 ⟨⟨vw, ls, rfl, hown, hls⟩, hb1⟩
  rw [Hcut.out] at hls
  obtain rfl : ls = [⟨#[102, 105, 108, 101]⟩, xb] := two_words hls
  obtain ⟨Aw, cw, rfl, hcw⟩ := hown.form
  obtain ⟨gw, ow, rfl, hcc⟩ := hcw (by simp)
  have l0 := hcc 0 _ rfl
  have l1 := hcc 1 _ rfl
  rw [Nat.add_zero] at l0
  rw [show ([⟨#[102, 105, 108, 101]⟩, xb] : List ByteArray).length = 2 from rfl]
  have hX1 := hxb.all hb1
  have hZ1 := hzb.all hb1
  have hbw1 := hbb.trans (hb1.mono hbb.size)
  have Hs1 := Lib.hid (show w.heap.size + 2 ≤ w1.heap.size by rw [← Hs.out]; exact hb1.size)
  obtain ⟨⟨x0, x1, x2, x3, x4, x5, x6, x7, x8, x9, x10⟩, fx⟩ := BoxN.st11 hX1
  obtain ⟨⟨z0, z1, z2, z3, z4, z5, z6, z7, z8, z9, z10⟩, f0, f1, f2, f3, f4, f5, f6, f7, f8, f9, f10⟩ := BoxN.st11 hZ1
  have CA : Hid (Calls Tryz.prog 65 #[.agg #[.slice a1 m c1, .slice a2 n c2, .slice b1 k1 d1, .slice b2 k2 d2, .slice b3 k3 d3, .slice b4 k4 d4, .slice b5 k5 d5, .string ts, .int .i64 mn, .int .i64 ch, .bool up], .slice a2 n c2, .string xb] w1.drew fun e w' => RAddPost w1.heap.size a2 D.F (addR up n D.F xb.data.toList) e w' ∧ Below w1.heap.size w1 w') := Lib.hid ((RAdd_any up (drew_ints ((IF.out.1).below hbw1)) (by rw [Hn.out]; exact HD.out.lF) (by rw [Hn.out]; exact HD.out.n8) xb hxs).mono fun e w' ⟨h1, h2⟩ => ⟨h1, ((Below.refl w1.heap.size w1).drew).trans h2⟩)
  have HX1 := Lib.hid hX1
  have HZ1 := Lib.hid hZ1
  have Hbw1 := Lib.hid hbw1
  have hlw := block_lt l1
  have hlx := hX1.lt
  have HS := Lib.hid (fun V (hV : Below w1.heap.size w1 V) => (⟨(hV.cell (p := ⟨w.heap.size, 0, none⟩) hlx).trans x0, (hV.cell (p := ⟨w.heap.size, 1, none⟩) hlx).trans x1, (hV.cell (p := ⟨w.heap.size, 2, none⟩) hlx).trans x2, (hV.cell (p := ⟨w.heap.size, 3, none⟩) hlx).trans x3, (hV.cell (p := ⟨w.heap.size, 4, none⟩) hlx).trans x4, (hV.cell (p := ⟨w.heap.size, 5, none⟩) hlx).trans x5, (hV.cell (p := ⟨w.heap.size, 6, none⟩) hlx).trans x6, (hV.cell (p := ⟨w.heap.size, 7, none⟩) hlx).trans x7, (hV.cell (p := ⟨w.heap.size, 8, none⟩) hlx).trans x8, (hV.cell (p := ⟨w.heap.size, 9, none⟩) hlx).trans x9, (hV.cell (p := ⟨w.heap.size, 10, none⟩) hlx).trans x10, (hV.cell (p := ⟨gw, ow + 1, none⟩) hlw).trans l1⟩ : V.cell? ⟨w.heap.size, 0, none⟩ = some (.slice a1 m c1) ∧ V.cell? ⟨w.heap.size, 1, none⟩ = some (.slice a2 n c2) ∧ V.cell? ⟨w.heap.size, 2, none⟩ = some (.slice b1 k1 d1) ∧ V.cell? ⟨w.heap.size, 3, none⟩ = some (.slice b2 k2 d2) ∧ V.cell? ⟨w.heap.size, 4, none⟩ = some (.slice b3 k3 d3) ∧ V.cell? ⟨w.heap.size, 5, none⟩ = some (.slice b4 k4 d4) ∧ V.cell? ⟨w.heap.size, 6, none⟩ = some (.slice b5 k5 d5) ∧ V.cell? ⟨w.heap.size, 7, none⟩ = some (.string ts) ∧ V.cell? ⟨w.heap.size, 8, none⟩ = some (.int .i64 mn) ∧ V.cell? ⟨w.heap.size, 9, none⟩ = some (.int .i64 ch) ∧ V.cell? ⟨w.heap.size, 10, none⟩ = some (.bool up) ∧ V.cell? ⟨gw, ow + 1, none⟩ = some (.string xb)))
  have hpd : Below w1.heap.size w1 w1.drew := (Below.refl _ _).drew
  clear hown hls hcw hxb hzb hbb hb1 hX1 hZ1 hbw1 HCC hcc hlw hlx fx
  go_wp2_with fail
  go_region_held3 (fun V => V.cell? ⟨w.heap.size, 0, none⟩ = some (.slice a1 m c1) ∧ V.cell? ⟨w.heap.size, 1, none⟩ = some (.slice a2 n c2) ∧ V.cell? ⟨w.heap.size, 2, none⟩ = some (.slice b1 k1 d1) ∧ V.cell? ⟨w.heap.size, 3, none⟩ = some (.slice b2 k2 d2) ∧ V.cell? ⟨w.heap.size, 4, none⟩ = some (.slice b3 k3 d3) ∧ V.cell? ⟨w.heap.size, 5, none⟩ = some (.slice b4 k4 d4) ∧ V.cell? ⟨w.heap.size, 6, none⟩ = some (.slice b5 k5 d5) ∧ V.cell? ⟨w.heap.size, 7, none⟩ = some (.string ts) ∧ V.cell? ⟨w.heap.size, 8, none⟩ = some (.int .i64 mn) ∧ V.cell? ⟨w.heap.size, 9, none⟩ = some (.int .i64 ch) ∧ V.cell? ⟨w.heap.size, 10, none⟩ = some (.bool up) ∧ V.cell? ⟨gw, ow + 1, none⟩ = some (.string xb))
    ((first | with_reducible exact HS.out _ hpd | with_reducible exact HS.out _ hb3))
    ((first
      | (go_at_call 65; with_reducible refine CA.out.mono ?_; intro e w3 hpq; obtain ⟨hq, hb3⟩ := hpq; unfold RAddPost at hq; obtain ⟨A', n', c', he, hi, hl, hpl⟩ := hq; subst he)
      | fail))
  have hX3 := HX1.out.all hb3
  have hZ3 := HZ1.out.all hb3
  have hbw3 := Hbw1.out.trans (hb3.mono (by have := Hs1.out; omega))
  clear x0 x1 x2 x3 x4 x5 x6 x7 x8 x9 x10 f0 f1 f2 f3 f4 f5 f6 f7 f8 f9 f10 z0 z1 z2 z3 z4 z5 z6 z7 z8 z9 z10 l0 l1
  obtain ⟨⟨x0, x1, x2, x3, x4, x5, x6, x7, x8, x9, x10⟩, fx0, fx1, fx2, fx3, fx4, fx5, fx6, fx7, fx8, fx9, fx10⟩ := BoxN.st11 hX3
  obtain ⟨⟨z0, z1, z2, z3, z4, z5, z6, z7, z8, z9, z10⟩, f0, f1, f2, f3, f4, f5, f6, f7, f8, f9, f10⟩ := BoxN.st11 hZ3
  have hs1 := Hs1.out
  have hi2 : IntsIn (fun g => (ok g ∧ g < w.heap.size) ∨ w1.heap.size ≤ g) w3 A' (addR up n D.F xb.data.toList).1 := ⟨hi, fun b off e hne => by
    rcases hpl with ⟨ha, hL⟩ | hp
    · rw [ha] at e
      rw [hL] at hne
      exact .inl ⟨IF.out.2 b off e hne, IF.out.1.has e hne⟩
    · exact .inr (hp b off e)⟩
  have HI2 := Lib.hid hi2
  have Hl := Lib.hid hl
  have HZ4 := Lib.hid (hZ3.other (a := ⟨w.heap.size, 1, none⟩) (by show w.heap.size + 1 ≠ w.heap.size; omega) (.slice A' n' c'))
  have Hkp := Lib.hid (fun (x : Nat) (hx : (ok x ∧ x < w.heap.size) ∨ w1.heap.size ≤ x) (y0 y1 y2 y3 y4 y5 y6 y7 y8 y9 y10 : Value) => (heap_put11 (V := w3.setCell ⟨w.heap.size, 1, none⟩ (.slice A' n' c')) (g := w.heap.size + 1) (b := x) y0 y1 y2 y3 y4 y5 y6 y7 y8 y9 y10 (by rcases hx with ⟨_, hx⟩ | hx <;> omega)).trans (Below.heap_setCell w3 ⟨w.heap.size, 1, none⟩ (.slice A' n' c') x (by show x ≠ w.heap.size; rcases hx with ⟨_, hx⟩ | hx <;> omega)))
  have Hbf := Lib.hid (fun y0 y1 y2 y3 y4 y5 y6 y7 y8 y9 y10 => below_put11 (hbw3.setCell (p := ⟨w.heap.size, 1, none⟩) (Nat.le_refl _) (.slice A' n' c')) (g := w.heap.size + 1) (by omega) y0 y1 y2 y3 y4 y5 y6 y7 y8 y9 y10)
  have Hbw3 := Lib.hid hbw3
  clear hX3 hZ3 hbw3 hi hi2 hl hpl CA hb3 HS hpd
  go_wp2_with fail
  refine bodyPost_ret (results_row_tmpD rfl _ _ (w.heap.size + 1) 103 #[.slice a1 m c1, .slice A' n' c', .slice b1 k1 d1, .slice b2 k2 d2, .slice b3 k3 d3, .slice b4 k4 d4, .slice b5 k5 d5, .string ts, .int .i64 mn, .int .i64 ch, .bool up] (0, 0) _ rfl (HZ4.out.put11 _ _ _ _ _ _ _ _ _ _ _) Tryz.underlying103 rfl (by kernel_rfl)) rfl ?_
  rw [addF_eq, ← Hup.out, ← Hn.out]
  have hbf := Hbf.out (.slice a1 m c1) (.slice A' n' c') (.slice b1 k1 d1) (.slice b2 k2 d2) (.slice b3 k3 d3) (.slice b4 k4 d4) (.slice b5 k5 d5) (.string ts) (.int .i64 mn) (.int .i64 ch) (.bool up)
  have hkp := fun x hx => Hkp.out x hx (.slice a1 m c1) (.slice A' n' c') (.slice b1 k1 d1) (.slice b2 k2 d2) (.slice b3 k3 d3) (.slice b4 k4 d4) (.slice b5 k5 d5) (.string ts) (.int .i64 mn) (.int .i64 ch) (.bool up)
  refine ⟨⟨_, rfl, ⟨a1, A', c1, c', b1, b2, b3, b4, b5, k1, d1, k2, d2, k3, d3, k4, d4, k5, d5, ts, mn, ch, ?_, ?_, ?_, fun T2 h2 => ?_⟩⟩, hbf⟩
  · show Value.agg _ = Value.agg _
    rw [show ({ D with F := (addR up n D.F xb.data.toList).1 } : DS).n = n' by show (addR up n D.F xb.data.toList).1.length / 2 = n'; have := Hl.out; omega, Hm.out, Hup.out]
    rfl
  · show IntsIn ok _ a1 D.U
    exact IU.out.below hbf
  · show IntsIn ok _ A' (addR up n D.F xb.data.toList).1
    exact HI2.out.to (ok' := ok) (fun x hx _ => hkp x hx) (fun g _ ho => by rcases ho with ⟨h, _⟩ | h; exact h; exact hok g (by omega))
  · have h3 : D.T = some T2 := h2
    have h4 : up = true := by rw [Hup.out, h3]; rfl
    have h5 : (addR up n D.F xb.data.toList).1 = D.F := by rw [h4]; exact addR_up _ _ _
    show RT ok _ _ D.U (addR up n D.F xb.data.toList).1 T2
    rw [h5]
    exact (Hrt.out T2 h3).below hbf
end
end Go.Proofs.YtanlmfnhlldkeaaGreatDoor
