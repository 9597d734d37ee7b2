/-
  Contract: quietwingref5.act, where the monitor is asked.
-/
import Derived.Test.YtanlmfnhlldkeaaGreatDoorRDsD
import Derived.Deep.CutRange
namespace Go.Proofs.YtanlmfnhlldkeaaGreatDoor
open Go.RowKit
set_option maxRecDepth 100000
set_option linter.unusedVariables false

section
variable {w V : World} {b g : Nat} {t : TypeId}
/-- A trail laid into the box of a session. -/
theorem BoxN.put8k {x0 x1 x2 x3 x4 x5 x6 x7 x8 x9 x10 : Value} (h : BoxN w b t #[x0, x1, x2, x3, x4, x5, x6, x7, x8, x9, x10]) (y0 y1 y2 y3 y4 y5 y6 y7 : Value) : BoxN ((((((((w.setCell ⟨b, 2, none⟩ y0).setCell ⟨b, 3, none⟩ y1).setCell ⟨b, 4, none⟩ y2).setCell ⟨b, 5, none⟩ y3).setCell ⟨b, 6, none⟩ y4).setCell ⟨b, 7, none⟩ y5).setCell ⟨b, 8, none⟩ y6).setCell ⟨b, 9, none⟩ y7) b t #[x0, x1, y0, y1, y2, y3, y4, y5, y6, y7, x10] := by
  have := (((((((h.set 2 y0).set 3 y1).set 4 y2).set 5 y3).set 6 y4).set 7 y5).set 8 y6).set 9 y7
  simp only [List.setIfInBounds_toArray, List.set_cons_succ, List.set_cons_zero] at this
  exact this
theorem heap_put8k (y0 y1 y2 y3 y4 y5 y6 y7 : Value) (ha : b ≠ g) : ((((((((V.setCell ⟨g, 2, none⟩ y0).setCell ⟨g, 3, none⟩ y1).setCell ⟨g, 4, none⟩ y2).setCell ⟨g, 5, none⟩ y3).setCell ⟨g, 6, none⟩ y4).setCell ⟨g, 7, none⟩ y5).setCell ⟨g, 8, none⟩ y6).setCell ⟨g, 9, none⟩ y7).heap[b]? = V.heap[b]? := by
  rw [Below.heap_setCell _ _ _ _ ha, Below.heap_setCell _ _ _ _ ha, Below.heap_setCell _ _ _ _ ha, Below.heap_setCell _ _ _ _ ha, Below.heap_setCell _ _ _ _ ha, Below.heap_setCell _ _ _ _ ha, Below.heap_setCell _ _ _ _ ha, Below.heap_setCell _ _ _ _ ha]
theorem below_put8k {B : Nat} {w' : World} (h : Below B w w') (hg : B ≤ g) (y0 y1 y2 y3 y4 y5 y6 y7 : Value) : Below B w ((((((((w'.setCell ⟨g, 2, none⟩ y0).setCell ⟨g, 3, none⟩ y1).setCell ⟨g, 4, none⟩ y2).setCell ⟨g, 5, none⟩ y3).setCell ⟨g, 6, none⟩ y4).setCell ⟨g, 7, none⟩ y5).setCell ⟨g, 8, none⟩ y6).setCell ⟨g, 9, none⟩ y7) :=
  ((((((((h.setCell (p := ⟨g, 2, none⟩) hg _).setCell (p := ⟨g, 3, none⟩) hg _).setCell (p := ⟨g, 4, none⟩) hg _).setCell (p := ⟨g, 5, none⟩) hg _).setCell (p := ⟨g, 6, none⟩) hg _).setCell (p := ⟨g, 7, none⟩) hg _).setCell (p := ⟨g, 8, none⟩) hg _).setCell (p := ⟨g, 9, none⟩) hg _)
theorem DOk.tlen {D : DS} {T : TS} (h : DOk D) (hT : D.T = some T) : TLen D.m D.n D.U D.F T := by
  obtain ⟨K, n, rfl⟩ := h.tr T hT
  exact (TLen.start h.m8 h.n8).runD n
theorem nameW {w : World} {b : Nat} {t : TypeId} {vs : Array Value} (h : BoxN w b t vs) : ∃ V : World, V = w := ⟨w, rfl⟩
theorem RT.shape {ok : Nat → Prop} {v : Value} {U F : List Int} {T : TS} (h : RT ok w v U F T) : ∃ s1 s2 s3 s4 s5 q1 e1 q2 e2 q3 e3 q4 e4 q5 e5 us mu cu, v = .agg #[.slice s1 q1 e1, .slice s2 q2 e2, .slice s3 q3 e3, .slice s4 q4 e4, .slice s5 q5 e5, .string us, .int .i64 mu, .int .i64 cu] := by
  obtain ⟨x1, x2, x3, x4, x5, z1, z2, z3, z4, z5, e, -⟩ := h.is
  exact ⟨x1, x2, x3, x4, x5, _, z1, _, z2, _, z3, _, z4, _, z5, _, _, _, e⟩
end
section
variable {ok : Nat → Prop} {W0 w : World} {D : DS} {T : TS} {a1 a2 : Option Addr} {c1 c2 m n : Nat} {b1 b2 b3 b4 b5 : Option Addr} {k1 d1 k2 d2 k3 d3 k4 d4 k5 d5 : Nat} {ts : ByteArray} {mn ch : Int}
set_option maxHeartbeats 16000000 in
theorem actRead_ask (hok : ∀ g, W0.heap.size ≤ g → ok g) (hD : DOk D) (hR : RDAt ok W0 (.agg #[.slice a1 m c1, .slice a2 n c2, .slice b1 k1 d1, .slice b2 k2 d2, .slice b3 k3 d3, .slice b4 k4 d4, .slice b5 k5 d5, .string ts, .int .i64 mn, .int .i64 ch, .bool true]) D) (hT : D.T = some T) (hbW : Below W0.heap.size W0 w) (s : ByteArray) {A : Option Addr} {c l0 l1 : Nat} (hown : OwnI w W0.heap.size (.slice A 2 c) (castL [l0, l1])) :
    Calls Tryz.prog 66 #[.agg #[.slice a1 m c1, .slice a2 n c2, .slice b1 k1 d1, .slice b2 k2 d2, .slice b3 k3 d3, .slice b4 k4 d4, .slice b5 k5 d5, .string ts, .int .i64 mn, .int .i64 ch, .bool true], .string s, .string ⟨#[114, 101, 97, 100]⟩, .slice A 2 c] w fun e w' => RDPost ok W0 (dAsk D T 0 [l0, l1]) e w' := by
  obtain ⟨⟨hm, hn, -⟩, iU, iF, hrt⟩ := hR.opened
  have Hm := Lib.hid hm
  have Hn := Lib.hid hn
  have IU := Lib.hid iU
  have IF := Lib.hid iF
  clear hm hn iU iF
  have hl := hD.tlen hT
  have hrT := hrt T hT
  obtain ⟨W, hW⟩ : ∃ W, (w.alloc (.cells #[.slice a1 m c1, .slice a2 n c2, .slice b1 k1 d1, .slice b2 k2 d2, .slice b3 k3 d3, .slice b4 k4 d4, .slice b5 k5 d5, .string ts, .int .i64 mn, .int .i64 ch, .bool true] 103)).alloc (.cells #[.slice none 0 0, .slice none 0 0, .slice none 0 0, .slice none 0 0, .slice none 0 0, .slice none 0 0, .slice none 0 0, .string ⟨#[]⟩, .int .i64 0, .int .i64 0, .bool false] 103) = W := ⟨_, rfl⟩
  have hxb : BoxN W w.heap.size 103 #[.slice a1 m c1, .slice a2 n c2, .slice b1 k1 d1, .slice b2 k2 d2, .slice b3 k3 d3, .slice b4 k4 d4, .slice b5 k5 d5, .string ts, .int .i64 mn, .int .i64 ch, .bool true] := by rw [← hW]; exact (BoxN.new _ _ _).alloc _
  have hzb : BoxN W (w.heap.size + 1) 103 #[.slice none 0 0, .slice none 0 0, .slice none 0 0, .slice none 0 0, .slice none 0 0, .slice none 0 0, .slice none 0 0, .string ⟨#[]⟩, .int .i64 0, .int .i64 0, .bool false] := by rw [← hW]; exact BoxN.new' _ _ _ _ (by simp)
  have hbb : Below W0.heap.size W0 W := by rw [← hW]; exact act_boxes hbW _ _ _
  have hwW : Below w.heap.size w W := by rw [← hW]; exact ((Below.refl _ _).alloc (Nat.le_refl _) _).alloc (by simp) _
  have hownW := hown.next hwW
  have Hlt := Lib.hid (show ∀ g, (Value.slice A 2 c).ownBlock = some g → g < w.heap.size from fun g e => ((show w.ownsRow W0.heap.size 3 1 (.slice A 2 c) (castL [l0, l1]).length ((castL [l0, l1]).map (.int .i64)) from hown).lt g e).2)
  have HO := Lib.hid hownW
  have x10 := hxb.cell (k := 10) rfl
  have hs0 : W0.heap.size ≤ w.heap.size := hbW.size
  have HX := Lib.hid hxb
  have HZ := Lib.hid hzb
  have HB := Lib.hid hbb
  have Hs := Lib.hid (show w.heap.size + 1 < W.heap.size from hzb.lt)
  have Hs0 := Lib.hid hbW.size
  have hs1 : W0.heap.size ≤ W.heap.size := hbb.size
  have hl40 : (castL [l0, l1]).length < 2 ^ 40 := by rw [length_castL]; simp
  have hlen7 : (castL [l0, l1] ++ [0]).length = 3 := rfl
  clear hxb hzb hbb hwW hownW hbW hown hR hrt
  go_enter Tryz.func66, Tryz.ntmps66
  go_wp2_with (at_builtin; refine wpList_push_int rfl _ _ rfl rfl (HO.out.next ((Below.refl _ _).alloc (Nat.le_refl _) _)) _ (0 : Int) rfl (cell_of_row _ _ 0 _ _ _ (heap_alloc_new _ _)) hl40 (by simp; omega) ?_; intro u1 w7 hown7 hgr7 hblk7 hbl7; obtain ⟨A7, k7, rfl, hi7⟩ := hown7.form; rw [hlen7])
  clear hW HO x10
  have hL3 : castL [l0, l1] ++ [0] = [(l0 : Int), (l1 : Int), 0] := rfl
  rw [hL3] at hi7
  obtain ⟨g7, o7, rfl, hc7⟩ := hi7 (by simp)
  have e0 := hc7 0 _ rfl
  have e1 := hc7 1 _ rfl
  have e2 := hc7 2 _ rfl
  rw [Nat.add_zero] at e0
  have hXa := HX.out.alloc (.cells #[.int .i64 0] 3)
  have hZa := HZ.out.alloc (.cells #[.int .i64 0] 3)
  have hX7 : BoxN w7 w.heap.size 103 #[.slice a1 m c1, .slice a2 n c2, .slice b1 k1 d1, .slice b2 k2 d2, .slice b3 k3 d3, .slice b4 k4 d4, .slice b5 k5 d5, .string ts, .int .i64 mn, .int .i64 ch, .bool true] := (hgr7.block _ hXa.lt (fun e => by have := Hlt.out _ e.symm; omega)).trans hXa
  have hZ7 : BoxN w7 (w.heap.size + 1) 103 #[.slice none 0 0, .slice none 0 0, .slice none 0 0, .slice none 0 0, .slice none 0 0, .slice none 0 0, .slice none 0 0, .string ⟨#[]⟩, .int .i64 0, .int .i64 0, .bool false] := (hgr7.block _ hZa.lt (fun e => by have := Hlt.out _ e.symm; omega)).trans hZa
  have hb7 := hbl7 W0 (HB.out.alloc hs1 _)
  have hr7 : RT (fun g => ok g ∧ g < W0.heap.size) w7 (.agg #[.slice b1 k1 d1, .slice b2 k2 d2, .slice b3 k3 d3, .slice b4 k4 d4, .slice b5 k5 d5, .string ts, .int .i64 mn, .int .i64 ch]) D.U D.F T := (hrT.to (w' := W0) (ok' := fun g => ok g ∧ g < W0.heap.size) (fun _ _ _ => rfl) (fun g hg ho => ⟨ho, hg⟩)).below hb7
  have hs7 : W.heap.size < w7.heap.size := by have := hgr7.size; simp at this; omega
  obtain ⟨⟨x0, x1, x2, x3, x4, x5, x6, x7, x8, x9, x10⟩, -⟩ := BoxN.st11 hX7
  have HR7 := Lib.hid hr7
  have HX7 := Lib.hid hX7
  have HZ7 := Lib.hid hZ7
  have Hb7 := Lib.hid hb7
  have Hs7 := Lib.hid hs7
  have CQ := Lib.hid (fun V (hV : Below w7.heap.size w7 V) => (RTAsk_any (ok := fun g => (ok g ∧ g < W0.heap.size) ∨ V.heap.size ≤ g) ((HR7.out.below hV).to (w' := V) (fun _ _ _ => rfl) (fun g _ hg => .inl hg)) hl.inv (fun i hi => hD.oU i (by have := hl.re; omega)) (fun i hi => hD.oF i (by have := hl.ho; omega)) (by rw [hl.re]; exact hD.lU) (by rw [hl.ho]; exact hD.lF) (fun g hg => .inr hg) 0 (l0 : Int) (l1 : Int) 0).mono fun e w' ⟨he, hb⟩ => (⟨he, hV.trans (hb.mono hV.size), hb⟩ : _ ∧ Below w7.heap.size w7 w' ∧ Below V.heap.size V w'))
  have HDA := Lib.hid (show dAsk D T 0 [l0, l1] = ({ D with T := some (tAsk D.U D.F T 0 (l0 : Int) (l1 : Int) 0).1 }, toldE (tAsk D.U D.F T 0 (l0 : Int) (l1 : Int) 0).2) from rfl)
  obtain ⟨r, hr⟩ : ∃ r, tAsk D.U D.F T 0 (l0 : Int) (l1 : Int) 0 = r := ⟨_, rfl⟩
  rw [hr] at CQ HDA
  obtain ⟨T1, code⟩ := r
  have hgl := block_lt e0
  have hbA : Below w7.heap.size w7 w7.drew := (Below.refl _ _).drew
  have hbB : Below w7.heap.size w7 ((w7.alloc (.cells #[.slice none 0 0, .slice none 0 0, .slice none 0 0, .slice none 0 0, .slice none 0 0, .string ⟨#[]⟩, .int .i64 0, .int .i64 0] 101)).drew) := ((Below.refl _ _).alloc (Nat.le_refl _) _).drew
  have hZn : BoxN ((w7.alloc (.cells #[.slice none 0 0, .slice none 0 0, .slice none 0 0, .slice none 0 0, .slice none 0 0, .string ⟨#[]⟩, .int .i64 0, .int .i64 0] 101)).drew) w7.heap.size 101 #[.slice none 0 0, .slice none 0 0, .slice none 0 0, .slice none 0 0, .slice none 0 0, .string ⟨#[]⟩, .int .i64 0, .int .i64 0] := (BoxN.new w7 _ _).drew
  have hXl := hX7.lt
  have hKeep := Lib.hid (fun V (hV : Below w7.heap.size w7 V) => (⟨(hV.cell (p := ⟨w.heap.size, 2, none⟩) hXl).trans x2, (hV.cell (p := ⟨w.heap.size, 3, none⟩) hXl).trans x3, (hV.cell (p := ⟨w.heap.size, 4, none⟩) hXl).trans x4, (hV.cell (p := ⟨w.heap.size, 5, none⟩) hXl).trans x5, (hV.cell (p := ⟨w.heap.size, 6, none⟩) hXl).trans x6, (hV.cell (p := ⟨w.heap.size, 7, none⟩) hXl).trans x7, (hV.cell (p := ⟨w.heap.size, 8, none⟩) hXl).trans x8, (hV.cell (p := ⟨w.heap.size, 9, none⟩) hXl).trans x9, (hV.cell (p := ⟨g7, o7, none⟩) hgl).trans e0, (hV.cell (p := ⟨g7, o7 + 1, none⟩) hgl).trans e1, (hV.cell (p := ⟨g7, o7 + 2, none⟩) hgl).trans e2⟩ : V.cell? ⟨w.heap.size, 2, none⟩ = some (.slice b1 k1 d1) ∧ V.cell? ⟨w.heap.size, 3, none⟩ = some (.slice b2 k2 d2) ∧ V.cell? ⟨w.heap.size, 4, none⟩ = some (.slice b3 k3 d3) ∧ V.cell? ⟨w.heap.size, 5, none⟩ = some (.slice b4 k4 d4) ∧ V.cell? ⟨w.heap.size, 6, none⟩ = some (.slice b5 k5 d5) ∧ V.cell? ⟨w.heap.size, 7, none⟩ = some (.string ts) ∧ V.cell? ⟨w.heap.size, 8, none⟩ = some (.int .i64 mn) ∧ V.cell? ⟨w.heap.size, 9, none⟩ = some (.int .i64 ch) ∧ V.cell? ⟨g7, o7, none⟩ = some (.int .i64 (l0 : Int)) ∧ V.cell? ⟨g7, o7 + 1, none⟩ = some (.int .i64 (l1 : Int)) ∧ V.cell? ⟨g7, o7 + 2, none⟩ = some (.int .i64 0)))
  clear hr7 hX7 hZ7 hb7 hs7 hXa hZa hgr7 hbl7 hblk7 hown7 hi7 hc7 hr hL3 hlen7 hrT
  go_cut [16, 17] from 18 (fun x16 x17 wx => ∃ (xc : Nat) (vs : Array Value), x16 = .pointer (some ⟨xc, 0, none⟩) ∧ x17 = .int .i64 code ∧ BoxN wx xc 101 vs ∧ RT (fun g => (ok g ∧ g < W0.heap.size) ∨ w7.heap.size ≤ g) wx (.agg vs) D.U D.F T1 ∧ Below w7.heap.size w7 wx)
  case first =>
    go_region_held3 (fun V => V.cell? ⟨w.heap.size, 2, none⟩ = some (.slice b1 k1 d1) ∧ V.cell? ⟨w.heap.size, 3, none⟩ = some (.slice b2 k2 d2) ∧ V.cell? ⟨w.heap.size, 4, none⟩ = some (.slice b3 k3 d3) ∧ V.cell? ⟨w.heap.size, 5, none⟩ = some (.slice b4 k4 d4) ∧ V.cell? ⟨w.heap.size, 6, none⟩ = some (.slice b5 k5 d5) ∧ V.cell? ⟨w.heap.size, 7, none⟩ = some (.string ts) ∧ V.cell? ⟨w.heap.size, 8, none⟩ = some (.int .i64 mn) ∧ V.cell? ⟨w.heap.size, 9, none⟩ = some (.int .i64 ch) ∧ V.cell? ⟨g7, o7, none⟩ = some (.int .i64 (l0 : Int)) ∧ V.cell? ⟨g7, o7 + 1, none⟩ = some (.int .i64 (l1 : Int)) ∧ V.cell? ⟨g7, o7 + 2, none⟩ = some (.int .i64 0))
      ((refine hKeep.out _ ?_; repeat (first | with_reducible assumption | with_reducible exact hbA | with_reducible exact hbB | with_reducible refine Below.setCell ?_ (by simp) _ | with_reducible refine Below.alloc ?_ (by first | exact Nat.le_refl _ | exact Below.size (by assumption)) _ | with_reducible refine Below.drew ?_)))
      ((go_at_call 98; with_reducible refine (CQ.out _ (by first | with_reducible exact hbA | with_reducible exact hbB)).mono ?_; rintro e w6 ⟨⟨v', rfl, hR6⟩, hb6, hbv⟩; obtain ⟨s1, s2, s3, s4, s5, q1, e1, q2, e2, q3, e3, q4, e4, q5, e5, us, mu, cu, hv6⟩ := hR6.shape; subst hv6; try (have hz6 := BoxN.all hZn hbv; obtain ⟨⟨z0, z1, z2, z3, z4, z5, z6, z7⟩, fz0, fz1, fz2, fz3, fz4, fz5, fz6, fz7⟩ := BoxN.st8 hz6)))
    all_goals (go_wp2_with fail; go_meet)
    · exact ⟨w6.heap.size, _, rfl, rfl, BoxN.new _ _ _, (hR6.to (w' := w6) (fun _ _ _ => rfl) (fun g _ ho => by rcases ho with h | h; exact .inl h; exact .inr (by simp at h; omega))).below ((Below.refl _ _).alloc (Nat.le_refl _) _), hb6.alloc hb6.size _⟩
    · exact ⟨w7.heap.size, _, rfl, rfl, hz6.put8 _ _ _ _ _ _ _ _, hR6.to (fun g hg _ => put8_block (by have h2 := Hs.out; have h3 := Hs7.out; have h4 := Hs0.out; rcases hg with ⟨_, h⟩ | h; omega; (simp at h; omega)) _ _ _ _ _ _ _ _) (fun g _ ho => by rcases ho with h | h; exact .inl h; exact .inr (by simp at h; omega)), below_put8 hb6 (Nat.le_refl _) _ _ _ _ _ _ _ _⟩
  case rest =>
    obtain ⟨xc, vs, rfl, rfl, hC, hR6, hb6⟩ := hcut
    obtain ⟨wx, rfl⟩ := nameW hC
    clear CQ hbA hbB hZn hKeep x0 x1 x2 x3 x4 x5 x6 x7 x8 x9 x10 e0 e1 e2 hXl hgl
    obtain ⟨s1, s2, s3, s4, s5, q1, e1, q2, e2, q3, e3, q4, e4, q5, e5, us, mu, cu, hv6⟩ := hR6.shape
    injection hv6 with hv6
    subst hv6
    have hX6 := HX7.out.all hb6
    have hZ6 := HZ7.out.all hb6
    have hB6 := Hb7.out.trans (hb6.mono Hb7.out.size)
    obtain ⟨⟨y0, y1, y2, y3, y4, y5, y6, y7⟩, -⟩ := BoxN.st8 hC
    obtain ⟨⟨x0, x1, x2, x3, x4, x5, x6, x7, x8, x9, x10⟩, f0, f1, f2, f3, f4, f5, f6, f7, f8, f9, f10⟩ := BoxN.st11 hX6
    have hwW2 : w.heap.size < W.heap.size := by have := Hs.out; omega
    have hws : W0.heap.size ≤ w.heap.size := Hs0.out
    have HR8 := Lib.hid (hR6.to (ok' := fun g => (ok g ∧ g < W0.heap.size) ∨ w7.heap.size ≤ g) (w' := ((((((((wx.setCell ⟨w.heap.size, 2, none⟩ (.slice s1 q1 e1)).setCell ⟨w.heap.size, 3, none⟩ (.slice s2 q2 e2)).setCell ⟨w.heap.size, 4, none⟩ (.slice s3 q3 e3)).setCell ⟨w.heap.size, 5, none⟩ (.slice s4 q4 e4)).setCell ⟨w.heap.size, 6, none⟩ (.slice s5 q5 e5)).setCell ⟨w.heap.size, 7, none⟩ (.string us)).setCell ⟨w.heap.size, 8, none⟩ (.int .i64 mu)).setCell ⟨w.heap.size, 9, none⟩ (.int .i64 cu))) (fun x hx _ => heap_put8k (V := wx) (g := w.heap.size) (b := x) (.slice s1 q1 e1) (.slice s2 q2 e2) (.slice s3 q3 e3) (.slice s4 q4 e4) (.slice s5 q5 e5) (.string us) (.int .i64 mu) (.int .i64 cu) (by have h7 := Hs7.out; have h9 : (ok x ∧ x < W0.heap.size) ∨ w7.heap.size ≤ x := hx; have h10 := Hs0.out; rcases h9 with ⟨_, h9⟩ | h9 <;> omega)) (fun g _ ho => ho))
    have HX8 := Lib.hid (hX6.put8k (.slice s1 q1 e1) (.slice s2 q2 e2) (.slice s3 q3 e3) (.slice s4 q4 e4) (.slice s5 q5 e5) (.string us) (.int .i64 mu) (.int .i64 cu))
    have HZ8 := Lib.hid (show BoxN ((((((((wx.setCell ⟨w.heap.size, 2, none⟩ (.slice s1 q1 e1)).setCell ⟨w.heap.size, 3, none⟩ (.slice s2 q2 e2)).setCell ⟨w.heap.size, 4, none⟩ (.slice s3 q3 e3)).setCell ⟨w.heap.size, 5, none⟩ (.slice s4 q4 e4)).setCell ⟨w.heap.size, 6, none⟩ (.slice s5 q5 e5)).setCell ⟨w.heap.size, 7, none⟩ (.string us)).setCell ⟨w.heap.size, 8, none⟩ (.int .i64 mu)).setCell ⟨w.heap.size, 9, none⟩ (.int .i64 cu)) (w.heap.size + 1) 103 #[.slice none 0 0, .slice none 0 0, .slice none 0 0, .slice none 0 0, .slice none 0 0, .slice none 0 0, .slice none 0 0, .string ⟨#[]⟩, .int .i64 0, .int .i64 0, .bool false] from (heap_put8k (V := wx) (g := w.heap.size) (b := w.heap.size + 1) (.slice s1 q1 e1) (.slice s2 q2 e2) (.slice s3 q3 e3) (.slice s4 q4 e4) (.slice s5 q5 e5) (.string us) (.int .i64 mu) (.int .i64 cu) (by omega)).trans hZ6)
    have HB8 := Lib.hid (below_put8k hB6 hws (.slice s1 q1 e1) (.slice s2 q2 e2) (.slice s3 q3 e3) (.slice s4 q4 e4) (.slice s5 q5 e5) (.string us) (.int .i64 mu) (.int .i64 cu))
    clear hX6 hZ6 hB6 hR6 hC hb6
    go_wp2_with fail
    obtain ⟨w9, hw9⟩ : ∃ w9, ((((((((wx.setCell ⟨w.heap.size, 2, none⟩ (.slice s1 q1 e1)).setCell ⟨w.heap.size, 3, none⟩ (.slice s2 q2 e2)).setCell ⟨w.heap.size, 4, none⟩ (.slice s3 q3 e3)).setCell ⟨w.heap.size, 5, none⟩ (.slice s4 q4 e4)).setCell ⟨w.heap.size, 6, none⟩ (.slice s5 q5 e5)).setCell ⟨w.heap.size, 7, none⟩ (.string us)).setCell ⟨w.heap.size, 8, none⟩ (.int .i64 mu)).setCell ⟨w.heap.size, 9, none⟩ (.int .i64 cu)) = w9 := ⟨_, rfl⟩
    rw [hw9] at HR8 HX8 HZ8 HB8
    try rw [hw9]
    clear hw9 x0 x1 x2 x3 x4 x5 x6 x7 x8 x9 x10 f0 f1 f2 f3 f4 f5 f6 f7 f8 f9 f10 y0 y1 y2 y3 y4 y5 y6 y7
    obtain ⟨⟨x0, x1, x2, x3, x4, x5, x6, x7, x8, x9, x10⟩, -⟩ := BoxN.st11 HX8.out
    obtain ⟨⟨z0, z1, z2, z3, z4, z5, z6, z7, z8, z9, z10⟩, f0, f1, f2, f3, f4, f5, f6, f7, f8, f9, f10⟩ := BoxN.st11 HZ8.out
    have HC := Lib.hid (RCalled_any code w9.drew)
    have HSt := Lib.hid (fun (y0 y1 y2 y3 y4 y5 y6 y7 y8 y9 y10 : Value) => And.intro (cell_put11 (V := w9) (g := w.heap.size + 1) y0 y1 y2 y3 y4 y5 y6 y7 y8 y9 y10 (by show w.heap.size ≠ _; omega) x0) (And.intro (cell_put11 (V := w9) (g := w.heap.size + 1) y0 y1 y2 y3 y4 y5 y6 y7 y8 y9 y10 (by show w.heap.size ≠ _; omega) x1) (And.intro (cell_put11 (V := w9) (g := w.heap.size + 1) y0 y1 y2 y3 y4 y5 y6 y7 y8 y9 y10 (by show w.heap.size ≠ _; omega) x2) (And.intro (cell_put11 (V := w9) (g := w.heap.size + 1) y0 y1 y2 y3 y4 y5 y6 y7 y8 y9 y10 (by show w.heap.size ≠ _; omega) x3) (And.intro (cell_put11 (V := w9) (g := w.heap.size + 1) y0 y1 y2 y3 y4 y5 y6 y7 y8 y9 y10 (by show w.heap.size ≠ _; omega) x4) (And.intro (cell_put11 (V := w9) (g := w.heap.size + 1) y0 y1 y2 y3 y4 y5 y6 y7 y8 y9 y10 (by show w.heap.size ≠ _; omega) x5) (And.intro (cell_put11 (V := w9) (g := w.heap.size + 1) y0 y1 y2 y3 y4 y5 y6 y7 y8 y9 y10 (by show w.heap.size ≠ _; omega) x6) (And.intro (cell_put11 (V := w9) (g := w.heap.size + 1) y0 y1 y2 y3 y4 y5 y6 y7 y8 y9 y10 (by show w.heap.size ≠ _; omega) x7) (And.intro (cell_put11 (V := w9) (g := w.heap.size + 1) y0 y1 y2 y3 y4 y5 y6 y7 y8 y9 y10 (by show w.heap.size ≠ _; omega) x8) (And.intro (cell_put11 (V := w9) (g := w.heap.size + 1) y0 y1 y2 y3 y4 y5 y6 y7 y8 y9 y10 (by show w.heap.size ≠ _; omega) x9) (cell_put11 (V := w9) (g := w.heap.size + 1) y0 y1 y2 y3 y4 y5 y6 y7 y8 y9 y10 (by show w.heap.size ≠ _; omega) x10)))))))))))
    have HSd := Lib.hid (show w9.drew.cell? ⟨w.heap.size, 0, none⟩ = some (.slice a1 m c1) ∧ w9.drew.cell? ⟨w.heap.size, 1, none⟩ = some (.slice a2 n c2) ∧ w9.drew.cell? ⟨w.heap.size, 2, none⟩ = some (.slice s1 q1 e1) ∧ w9.drew.cell? ⟨w.heap.size, 3, none⟩ = some (.slice s2 q2 e2) ∧ w9.drew.cell? ⟨w.heap.size, 4, none⟩ = some (.slice s3 q3 e3) ∧ w9.drew.cell? ⟨w.heap.size, 5, none⟩ = some (.slice s4 q4 e4) ∧ w9.drew.cell? ⟨w.heap.size, 6, none⟩ = some (.slice s5 q5 e5) ∧ w9.drew.cell? ⟨w.heap.size, 7, none⟩ = some (.string us) ∧ w9.drew.cell? ⟨w.heap.size, 8, none⟩ = some (.int .i64 mu) ∧ w9.drew.cell? ⟨w.heap.size, 9, none⟩ = some (.int .i64 cu) ∧ w9.drew.cell? ⟨w.heap.size, 10, none⟩ = some (.bool true) from ⟨x0, x1, x2, x3, x4, x5, x6, x7, x8, x9, x10⟩)
    have Hbf := Lib.hid (fun y0 y1 y2 y3 y4 y5 y6 y7 y8 y9 y10 => drew_belowD (below_put11 HB8.out (g := w.heap.size + 1) (by omega) y0 y1 y2 y3 y4 y5 y6 y7 y8 y9 y10))
    have HRf := Lib.hid (fun y0 y1 y2 y3 y4 y5 y6 y7 y8 y9 y10 => HR8.out.to (ok' := ok) (w' := (((((((((((w9.setCell ⟨w.heap.size + 1, 0, none⟩ y0).setCell ⟨w.heap.size + 1, 1, none⟩ y1).setCell ⟨w.heap.size + 1, 2, none⟩ y2).setCell ⟨w.heap.size + 1, 3, none⟩ y3).setCell ⟨w.heap.size + 1, 4, none⟩ y4).setCell ⟨w.heap.size + 1, 5, none⟩ y5).setCell ⟨w.heap.size + 1, 6, none⟩ y6).setCell ⟨w.heap.size + 1, 7, none⟩ y7).setCell ⟨w.heap.size + 1, 8, none⟩ y8).setCell ⟨w.heap.size + 1, 9, none⟩ y9).setCell ⟨w.heap.size + 1, 10, none⟩ y10).drew) (fun x hx _ => (congrArg (fun (h : Array Obj) => h[x]?) (drew_heapD _)).trans (heap_put11 (V := w9) (g := w.heap.size + 1) (b := x) y0 y1 y2 y3 y4 y5 y6 y7 y8 y9 y10 (by have h7 := Hs7.out; have h8 := Hs.out; have h9 : (ok x ∧ x < W0.heap.size) ∨ w7.heap.size ≤ x := hx; have h10 := Hs0.out; rcases h9 with ⟨_, h9⟩ | h9 <;> omega))) (fun g _ ho => by have h7 := Hs7.out; have h10 := Hs.out; rcases ho with ⟨h, _⟩ | h; exact h; exact hok g (by omega)))
    go_region_held3 (fun V => V.cell? ⟨w.heap.size, 0, none⟩ = some (.slice a1 m c1) ∧ V.cell? ⟨w.heap.size, 1, none⟩ = some (.slice a2 n c2) ∧ V.cell? ⟨w.heap.size, 2, none⟩ = some (.slice s1 q1 e1) ∧ V.cell? ⟨w.heap.size, 3, none⟩ = some (.slice s2 q2 e2) ∧ V.cell? ⟨w.heap.size, 4, none⟩ = some (.slice s3 q3 e3) ∧ V.cell? ⟨w.heap.size, 5, none⟩ = some (.slice s4 q4 e4) ∧ V.cell? ⟨w.heap.size, 6, none⟩ = some (.slice s5 q5 e5) ∧ V.cell? ⟨w.heap.size, 7, none⟩ = some (.string us) ∧ V.cell? ⟨w.heap.size, 8, none⟩ = some (.int .i64 mu) ∧ V.cell? ⟨w.heap.size, 9, none⟩ = some (.int .i64 cu) ∧ V.cell? ⟨w.heap.size, 10, none⟩ = some (.bool true))
      ((first | with_reducible exact HSd.out | exact HSt.out _ _ _ _ _ _ _ _ _ _ _))
      ((first
        | (go_at_call 64; with_reducible refine HC.out.mono ?_; rintro e w' ⟨rfl, rfl⟩)
        | fail))
    go_wp2_with fail
    refine bodyPost_ret (results_row_tmpD rfl _ _ (w.heap.size + 1) 103 #[.slice a1 m c1, .slice a2 n c2, .slice s1 q1 e1, .slice s2 q2 e2, .slice s3 q3 e3, .slice s4 q4 e4, .slice s5 q5 e5, .string us, .int .i64 mu, .int .i64 cu, .bool true] (0, 0) _ rfl (drew_boxD (HZ8.out.put11 _ _ _ _ _ _ _ _ _ _ _)) Tryz.underlying103 rfl (by kernel_rfl)) rfl ?_
    rw [HDA.out]
    exact ⟨⟨_, rfl, ⟨a1, a2, c1, c2, s1, s2, s3, s4, s5, q1, e1, q2, e2, q3, e3, q4, e4, q5, e5, us, mu, cu, by rw [Hm.out, Hn.out]; rfl, IU.out.below (Hbf.out _ _ _ _ _ _ _ _ _ _ _), IF.out.below (Hbf.out _ _ _ _ _ _ _ _ _ _ _), fun T2 h2 => by injection h2 with h2; subst h2; exact HRf.out _ _ _ _ _ _ _ _ _ _ _⟩⟩, Hbf.out _ _ _ _ _ _ _ _ _ _ _⟩
set_option maxHeartbeats 16000000 in
theorem actWrite_ask (hok : ∀ g, W0.heap.size ≤ g → ok g) (hD : DOk D) (hR : RDAt ok W0 (.agg #[.slice a1 m c1, .slice a2 n c2, .slice b1 k1 d1, .slice b2 k2 d2, .slice b3 k3 d3, .slice b4 k4 d4, .slice b5 k5 d5, .string ts, .int .i64 mn, .int .i64 ch, .bool true]) D) (hT : D.T = some T) (hbW : Below W0.heap.size W0 w) (s : ByteArray) {A : Option Addr} {c l0 l1 : Nat} (hown : OwnI w W0.heap.size (.slice A 2 c) (castL [l0, l1])) :
    Calls Tryz.prog 66 #[.agg #[.slice a1 m c1, .slice a2 n c2, .slice b1 k1 d1, .slice b2 k2 d2, .slice b3 k3 d3, .slice b4 k4 d4, .slice b5 k5 d5, .string ts, .int .i64 mn, .int .i64 ch, .bool true], .string s, .string ⟨#[119, 114, 105, 116, 101]⟩, .slice A 2 c] w fun e w' => RDPost ok W0 (dAsk D T 1 [l0, l1]) e w' := by
  obtain ⟨⟨hm, hn, -⟩, iU, iF, hrt⟩ := hR.opened
  have Hm := Lib.hid hm
  have Hn := Lib.hid hn
  have IU := Lib.hid iU
  have IF := Lib.hid iF
  clear hm hn iU iF
  have hl := hD.tlen hT
  have hrT := hrt T hT
  obtain ⟨W, hW⟩ : ∃ W, (w.alloc (.cells #[.slice a1 m c1, .slice a2 n c2, .slice b1 k1 d1, .slice b2 k2 d2, .slice b3 k3 d3, .slice b4 k4 d4, .slice b5 k5 d5, .string ts, .int .i64 mn, .int .i64 ch, .bool true] 103)).alloc (.cells #[.slice none 0 0, .slice none 0 0, .slice none 0 0, .slice none 0 0, .slice none 0 0, .slice none 0 0, .slice none 0 0, .string ⟨#[]⟩, .int .i64 0, .int .i64 0, .bool false] 103) = W := ⟨_, rfl⟩
  have hxb : BoxN W w.heap.size 103 #[.slice a1 m c1, .slice a2 n c2, .slice b1 k1 d1, .slice b2 k2 d2, .slice b3 k3 d3, .slice b4 k4 d4, .slice b5 k5 d5, .string ts, .int .i64 mn, .int .i64 ch, .bool true] := by rw [← hW]; exact (BoxN.new _ _ _).alloc _
  have hzb : BoxN W (w.heap.size + 1) 103 #[.slice none 0 0, .slice none 0 0, .slice none 0 0, .slice none 0 0, .slice none 0 0, .slice none 0 0, .slice none 0 0, .string ⟨#[]⟩, .int .i64 0, .int .i64 0, .bool false] := by rw [← hW]; exact BoxN.new' _ _ _ _ (by simp)
  have hbb : Below W0.heap.size W0 W := by rw [← hW]; exact act_boxes hbW _ _ _
  have hwW : Below w.heap.size w W := by rw [← hW]; exact ((Below.refl _ _).alloc (Nat.le_refl _) _).alloc (by simp) _
  have hownW := hown.next hwW
  have Hlt := Lib.hid (show ∀ g, (Value.slice A 2 c).ownBlock = some g → g < w.heap.size from fun g e => ((show w.ownsRow W0.heap.size 3 1 (.slice A 2 c) (castL [l0, l1]).length ((castL [l0, l1]).map (.int .i64)) from hown).lt g e).2)
  have HO := Lib.hid hownW
  have x10 := hxb.cell (k := 10) rfl
  have hs0 : W0.heap.size ≤ w.heap.size := hbW.size
  have HX := Lib.hid hxb
  have HZ := Lib.hid hzb
  have HB := Lib.hid hbb
  have Hs := Lib.hid (show w.heap.size + 1 < W.heap.size from hzb.lt)
  have Hs0 := Lib.hid hbW.size
  have hs1 : W0.heap.size ≤ W.heap.size := hbb.size
  have hl40 : (castL [l0, l1]).length < 2 ^ 40 := by rw [length_castL]; simp
  have hlen7 : (castL [l0, l1] ++ [0]).length = 3 := rfl
  clear hxb hzb hbb hwW hownW hbW hown hR hrt
  go_enter Tryz.func66, Tryz.ntmps66
  go_wp2_with (at_builtin; refine wpList_push_int rfl _ _ rfl rfl (HO.out.next ((Below.refl _ _).alloc (Nat.le_refl _) _)) _ (0 : Int) rfl (cell_of_row _ _ 0 _ _ _ (heap_alloc_new _ _)) hl40 (by simp; omega) ?_; intro u1 w7 hown7 hgr7 hblk7 hbl7; obtain ⟨A7, k7, rfl, hi7⟩ := hown7.form; rw [hlen7])
  clear hW HO x10
  have hL3 : castL [l0, l1] ++ [0] = [(l0 : Int), (l1 : Int), 0] := rfl
  rw [hL3] at hi7
  obtain ⟨g7, o7, rfl, hc7⟩ := hi7 (by simp)
  have e0 := hc7 0 _ rfl
  have e1 := hc7 1 _ rfl
  have e2 := hc7 2 _ rfl
  rw [Nat.add_zero] at e0
  have hXa := HX.out.alloc (.cells #[.int .i64 0] 3)
  have hZa := HZ.out.alloc (.cells #[.int .i64 0] 3)
  have hX7 : BoxN w7 w.heap.size 103 #[.slice a1 m c1, .slice a2 n c2, .slice b1 k1 d1, .slice b2 k2 d2, .slice b3 k3 d3, .slice b4 k4 d4, .slice b5 k5 d5, .string ts, .int .i64 mn, .int .i64 ch, .bool true] := (hgr7.block _ hXa.lt (fun e => by have := Hlt.out _ e.symm; omega)).trans hXa
  have hZ7 : BoxN w7 (w.heap.size + 1) 103 #[.slice none 0 0, .slice none 0 0, .slice none 0 0, .slice none 0 0, .slice none 0 0, .slice none 0 0, .slice none 0 0, .string ⟨#[]⟩, .int .i64 0, .int .i64 0, .bool false] := (hgr7.block _ hZa.lt (fun e => by have := Hlt.out _ e.symm; omega)).trans hZa
  have hb7 := hbl7 W0 (HB.out.alloc hs1 _)
  have hr7 : RT (fun g => ok g ∧ g < W0.heap.size) w7 (.agg #[.slice b1 k1 d1, .slice b2 k2 d2, .slice b3 k3 d3, .slice b4 k4 d4, .slice b5 k5 d5, .string ts, .int .i64 mn, .int .i64 ch]) D.U D.F T := (hrT.to (w' := W0) (ok' := fun g => ok g ∧ g < W0.heap.size) (fun _ _ _ => rfl) (fun g hg ho => ⟨ho, hg⟩)).below hb7
  have hs7 : W.heap.size < w7.heap.size := by have := hgr7.size; simp at this; omega
  obtain ⟨⟨x0, x1, x2, x3, x4, x5, x6, x7, x8, x9, x10⟩, -⟩ := BoxN.st11 hX7
  have HR7 := Lib.hid hr7
  have HX7 := Lib.hid hX7
  have HZ7 := Lib.hid hZ7
  have Hb7 := Lib.hid hb7
  have Hs7 := Lib.hid hs7
  have CQ := Lib.hid (fun V (hV : Below w7.heap.size w7 V) => (RTAsk_any (ok := fun g => (ok g ∧ g < W0.heap.size) ∨ V.heap.size ≤ g) ((HR7.out.below hV).to (w' := V) (fun _ _ _ => rfl) (fun g _ hg => .inl hg)) hl.inv (fun i hi => hD.oU i (by have := hl.re; omega)) (fun i hi => hD.oF i (by have := hl.ho; omega)) (by rw [hl.re]; exact hD.lU) (by rw [hl.ho]; exact hD.lF) (fun g hg => .inr hg) 1 (l0 : Int) (l1 : Int) 0).mono fun e w' ⟨he, hb⟩ => (⟨he, hV.trans (hb.mono hV.size), hb⟩ : _ ∧ Below w7.heap.size w7 w' ∧ Below V.heap.size V w'))
  have HDA := Lib.hid (show dAsk D T 1 [l0, l1] = ({ D with T := some (tAsk D.U D.F T 1 (l0 : Int) (l1 : Int) 0).1 }, toldE (tAsk D.U D.F T 1 (l0 : Int) (l1 : Int) 0).2) from rfl)
  obtain ⟨r, hr⟩ : ∃ r, tAsk D.U D.F T 1 (l0 : Int) (l1 : Int) 0 = r := ⟨_, rfl⟩
  rw [hr] at CQ HDA
  obtain ⟨T1, code⟩ := r
  have hgl := block_lt e0
  have hbA : Below w7.heap.size w7 w7.drew := (Below.refl _ _).drew
  have hbB : Below w7.heap.size w7 ((w7.alloc (.cells #[.slice none 0 0, .slice none 0 0, .slice none 0 0, .slice none 0 0, .slice none 0 0, .string ⟨#[]⟩, .int .i64 0, .int .i64 0] 101)).drew) := ((Below.refl _ _).alloc (Nat.le_refl _) _).drew
  have hZn : BoxN ((w7.alloc (.cells #[.slice none 0 0, .slice none 0 0, .slice none 0 0, .slice none 0 0, .slice none 0 0, .string ⟨#[]⟩, .int .i64 0, .int .i64 0] 101)).drew) w7.heap.size 101 #[.slice none 0 0, .slice none 0 0, .slice none 0 0, .slice none 0 0, .slice none 0 0, .string ⟨#[]⟩, .int .i64 0, .int .i64 0] := (BoxN.new w7 _ _).drew
  have hXl := hX7.lt
  have hKeep := Lib.hid (fun V (hV : Below w7.heap.size w7 V) => (⟨(hV.cell (p := ⟨w.heap.size, 2, none⟩) hXl).trans x2, (hV.cell (p := ⟨w.heap.size, 3, none⟩) hXl).trans x3, (hV.cell (p := ⟨w.heap.size, 4, none⟩) hXl).trans x4, (hV.cell (p := ⟨w.heap.size, 5, none⟩) hXl).trans x5, (hV.cell (p := ⟨w.heap.size, 6, none⟩) hXl).trans x6, (hV.cell (p := ⟨w.heap.size, 7, none⟩) hXl).trans x7, (hV.cell (p := ⟨w.heap.size, 8, none⟩) hXl).trans x8, (hV.cell (p := ⟨w.heap.size, 9, none⟩) hXl).trans x9, (hV.cell (p := ⟨g7, o7, none⟩) hgl).trans e0, (hV.cell (p := ⟨g7, o7 + 1, none⟩) hgl).trans e1, (hV.cell (p := ⟨g7, o7 + 2, none⟩) hgl).trans e2⟩ : V.cell? ⟨w.heap.size, 2, none⟩ = some (.slice b1 k1 d1) ∧ V.cell? ⟨w.heap.size, 3, none⟩ = some (.slice b2 k2 d2) ∧ V.cell? ⟨w.heap.size, 4, none⟩ = some (.slice b3 k3 d3) ∧ V.cell? ⟨w.heap.size, 5, none⟩ = some (.slice b4 k4 d4) ∧ V.cell? ⟨w.heap.size, 6, none⟩ = some (.slice b5 k5 d5) ∧ V.cell? ⟨w.heap.size, 7, none⟩ = some (.string ts) ∧ V.cell? ⟨w.heap.size, 8, none⟩ = some (.int .i64 mn) ∧ V.cell? ⟨w.heap.size, 9, none⟩ = some (.int .i64 ch) ∧ V.cell? ⟨g7, o7, none⟩ = some (.int .i64 (l0 : Int)) ∧ V.cell? ⟨g7, o7 + 1, none⟩ = some (.int .i64 (l1 : Int)) ∧ V.cell? ⟨g7, o7 + 2, none⟩ = some (.int .i64 0)))
  clear hr7 hX7 hZ7 hb7 hs7 hXa hZa hgr7 hbl7 hblk7 hown7 hi7 hc7 hr hL3 hlen7 hrT
  go_cut [16, 17] from 18 (fun x16 x17 wx => ∃ (xc : Nat) (vs : Array Value), x16 = .pointer (some ⟨xc, 0, none⟩) ∧ x17 = .int .i64 code ∧ BoxN wx xc 101 vs ∧ RT (fun g => (ok g ∧ g < W0.heap.size) ∨ w7.heap.size ≤ g) wx (.agg vs) D.U D.F T1 ∧ Below w7.heap.size w7 wx)
  case first =>
    go_region_held3 (fun V => V.cell? ⟨w.heap.size, 2, none⟩ = some (.slice b1 k1 d1) ∧ V.cell? ⟨w.heap.size, 3, none⟩ = some (.slice b2 k2 d2) ∧ V.cell? ⟨w.heap.size, 4, none⟩ = some (.slice b3 k3 d3) ∧ V.cell? ⟨w.heap.size, 5, none⟩ = some (.slice b4 k4 d4) ∧ V.cell? ⟨w.heap.size, 6, none⟩ = some (.slice b5 k5 d5) ∧ V.cell? ⟨w.heap.size, 7, none⟩ = some (.string ts) ∧ V.cell? ⟨w.heap.size, 8, none⟩ = some (.int .i64 mn) ∧ V.cell? ⟨w.heap.size, 9, none⟩ = some (.int .i64 ch) ∧ V.cell? ⟨g7, o7, none⟩ = some (.int .i64 (l0 : Int)) ∧ V.cell? ⟨g7, o7 + 1, none⟩ = some (.int .i64 (l1 : Int)) ∧ V.cell? ⟨g7, o7 + 2, none⟩ = some (.int .i64 0))
      ((refine hKeep.out _ ?_; repeat (first | with_reducible assumption | with_reducible exact hbA | with_reducible exact hbB | with_reducible refine Below.setCell ?_ (by simp) _ | with_reducible refine Below.alloc ?_ (by first | exact Nat.le_refl _ | exact Below.size (by assumption)) _ | with_reducible refine Below.drew ?_)))
      ((go_at_call 98; with_reducible refine (CQ.out _ (by first | with_reducible exact hbA | with_reducible exact hbB)).mono ?_; rintro e w6 ⟨⟨v', rfl, hR6⟩, hb6, hbv⟩; obtain ⟨s1, s2, s3, s4, s5, q1, e1, q2, e2, q3, e3, q4, e4, q5, e5, us, mu, cu, hv6⟩ := hR6.shape; subst hv6; try (have hz6 := BoxN.all hZn hbv; obtain ⟨⟨z0, z1, z2, z3, z4, z5, z6, z7⟩, fz0, fz1, fz2, fz3, fz4, fz5, fz6, fz7⟩ := BoxN.st8 hz6)))
    all_goals (go_wp2_with fail; go_meet)
    · exact ⟨w6.heap.size, _, rfl, rfl, BoxN.new _ _ _, (hR6.to (w' := w6) (fun _ _ _ => rfl) (fun g _ ho => by rcases ho with h | h; exact .inl h; exact .inr (by simp at h; omega))).below ((Below.refl _ _).alloc (Nat.le_refl _) _), hb6.alloc hb6.size _⟩
    · exact ⟨w7.heap.size, _, rfl, rfl, hz6.put8 _ _ _ _ _ _ _ _, hR6.to (fun g hg _ => put8_block (by have h2 := Hs.out; have h3 := Hs7.out; have h4 := Hs0.out; rcases hg with ⟨_, h⟩ | h; omega; (simp at h; omega)) _ _ _ _ _ _ _ _) (fun g _ ho => by rcases ho with h | h; exact .inl h; exact .inr (by simp at h; omega)), below_put8 hb6 (Nat.le_refl _) _ _ _ _ _ _ _ _⟩
  case rest =>
    obtain ⟨xc, vs, rfl, rfl, hC, hR6, hb6⟩ := hcut
    obtain ⟨wx, rfl⟩ := nameW hC
    clear CQ hbA hbB hZn hKeep x0 x1 x2 x3 x4 x5 x6 x7 x8 x9 x10 e0 e1 e2 hXl hgl
    obtain ⟨s1, s2, s3, s4, s5, q1, e1, q2, e2, q3, e3, q4, e4, q5, e5, us, mu, cu, hv6⟩ := hR6.shape
    injection hv6 with hv6
    subst hv6
    have hX6 := HX7.out.all hb6
    have hZ6 := HZ7.out.all hb6
    have hB6 := Hb7.out.trans (hb6.mono Hb7.out.size)
    obtain ⟨⟨y0, y1, y2, y3, y4, y5, y6, y7⟩, -⟩ := BoxN.st8 hC
    obtain ⟨⟨x0, x1, x2, x3, x4, x5, x6, x7, x8, x9, x10⟩, f0, f1, f2, f3, f4, f5, f6, f7, f8, f9, f10⟩ := BoxN.st11 hX6
    have hwW2 : w.heap.size < W.heap.size := by have := Hs.out; omega
    have hws : W0.heap.size ≤ w.heap.size := Hs0.out
    have HR8 := Lib.hid (hR6.to (ok' := fun g => (ok g ∧ g < W0.heap.size) ∨ w7.heap.size ≤ g) (w' := ((((((((wx.setCell ⟨w.heap.size, 2, none⟩ (.slice s1 q1 e1)).setCell ⟨w.heap.size, 3, none⟩ (.slice s2 q2 e2)).setCell ⟨w.heap.size, 4, none⟩ (.slice s3 q3 e3)).setCell ⟨w.heap.size, 5, none⟩ (.slice s4 q4 e4)).setCell ⟨w.heap.size, 6, none⟩ (.slice s5 q5 e5)).setCell ⟨w.heap.size, 7, none⟩ (.string us)).setCell ⟨w.heap.size, 8, none⟩ (.int .i64 mu)).setCell ⟨w.heap.size, 9, none⟩ (.int .i64 cu))) (fun x hx _ => heap_put8k (V := wx) (g := w.heap.size) (b := x) (.slice s1 q1 e1) (.slice s2 q2 e2) (.slice s3 q3 e3) (.slice s4 q4 e4) (.slice s5 q5 e5) (.string us) (.int .i64 mu) (.int .i64 cu) (by have h7 := Hs7.out; have h9 : (ok x ∧ x < W0.heap.size) ∨ w7.heap.size ≤ x := hx; have h10 := Hs0.out; rcases h9 with ⟨_, h9⟩ | h9 <;> omega)) (fun g _ ho => ho))
    have HX8 := Lib.hid (hX6.put8k (.slice s1 q1 e1) (.slice s2 q2 e2) (.slice s3 q3 e3) (.slice s4 q4 e4) (.slice s5 q5 e5) (.string us) (.int .i64 mu) (.int .i64 cu))
    have HZ8 := Lib.hid (show BoxN ((((((((wx.setCell ⟨w.heap.size, 2, none⟩ (.slice s1 q1 e1)).setCell ⟨w.heap.size, 3, none⟩ (.slice s2 q2 e2)).setCell ⟨w.heap.size, 4, none⟩ (.slice s3 q3 e3)).setCell ⟨w.heap.size, 5, none⟩ (.slice s4 q4 e4)).setCell ⟨w.heap.size, 6, none⟩ (.slice s5 q5 e5)).setCell ⟨w.heap.size, 7, none⟩ (.string us)).setCell ⟨w.heap.size, 8, none⟩ (.int .i64 mu)).setCell ⟨w.heap.size, 9, none⟩ (.int .i64 cu)) (w.heap.size + 1) 103 #[.slice none 0 0, .slice none 0 0, .slice none 0 0, .slice none 0 0, .slice none 0 0, .slice none 0 0, .slice none 0 0, .string ⟨#[]⟩, .int .i64 0, .int .i64 0, .bool false] from (heap_put8k (V := wx) (g := w.heap.size) (b := w.heap.size + 1) (.slice s1 q1 e1) (.slice s2 q2 e2) (.slice s3 q3 e3) (.slice s4 q4 e4) (.slice s5 q5 e5) (.string us) (.int .i64 mu) (.int .i64 cu) (by omega)).trans hZ6)
    have HB8 := Lib.hid (below_put8k hB6 hws (.slice s1 q1 e1) (.slice s2 q2 e2) (.slice s3 q3 e3) (.slice s4 q4 e4) (.slice s5 q5 e5) (.string us) (.int .i64 mu) (.int .i64 cu))
    clear hX6 hZ6 hB6 hR6 hC hb6
    go_wp2_with fail
    obtain ⟨w9, hw9⟩ : ∃ w9, ((((((((wx.setCell ⟨w.heap.size, 2, none⟩ (.slice s1 q1 e1)).setCell ⟨w.heap.size, 3, none⟩ (.slice s2 q2 e2)).setCell ⟨w.heap.size, 4, none⟩ (.slice s3 q3 e3)).setCell ⟨w.heap.size, 5, none⟩ (.slice s4 q4 e4)).setCell ⟨w.heap.size, 6, none⟩ (.slice s5 q5 e5)).setCell ⟨w.heap.size, 7, none⟩ (.string us)).setCell ⟨w.heap.size, 8, none⟩ (.int .i64 mu)).setCell ⟨w.heap.size, 9, none⟩ (.int .i64 cu)) = w9 := ⟨_, rfl⟩
    rw [hw9] at HR8 HX8 HZ8 HB8
    try rw [hw9]
    clear hw9 x0 x1 x2 x3 x4 x5 x6 x7 x8 x9 x10 f0 f1 f2 f3 f4 f5 f6 f7 f8 f9 f10 y0 y1 y2 y3 y4 y5 y6 y7
    obtain ⟨⟨x0, x1, x2, x3, x4, x5, x6, x7, x8, x9, x10⟩, -⟩ := BoxN.st11 HX8.out
    obtain ⟨⟨z0, z1, z2, z3, z4, z5, z6, z7, z8, z9, z10⟩, f0, f1, f2, f3, f4, f5, f6, f7, f8, f9, f10⟩ := BoxN.st11 HZ8.out
    have HC := Lib.hid (RCalled_any code w9.drew)
    have HSt := Lib.hid (fun (y0 y1 y2 y3 y4 y5 y6 y7 y8 y9 y10 : Value) => And.intro (cell_put11 (V := w9) (g := w.heap.size + 1) y0 y1 y2 y3 y4 y5 y6 y7 y8 y9 y10 (by show w.heap.size ≠ _; omega) x0) (And.intro (cell_put11 (V := w9) (g := w.heap.size + 1) y0 y1 y2 y3 y4 y5 y6 y7 y8 y9 y10 (by show w.heap.size ≠ _; omega) x1) (And.intro (cell_put11 (V := w9) (g := w.heap.size + 1) y0 y1 y2 y3 y4 y5 y6 y7 y8 y9 y10 (by show w.heap.size ≠ _; omega) x2) (And.intro (cell_put11 (V := w9) (g := w.heap.size + 1) y0 y1 y2 y3 y4 y5 y6 y7 y8 y9 y10 (by show w.heap.size ≠ _; omega) x3) (And.intro (cell_put11 (V := w9) (g := w.heap.size + 1) y0 y1 y2 y3 y4 y5 y6 y7 y8 y9 y10 (by show w.heap.size ≠ _; omega) x4) (And.intro (cell_put11 (V := w9) (g := w.heap.size + 1) y0 y1 y2 y3 y4 y5 y6 y7 y8 y9 y10 (by show w.heap.size ≠ _; omega) x5) (And.intro (cell_put11 (V := w9) (g := w.heap.size + 1) y0 y1 y2 y3 y4 y5 y6 y7 y8 y9 y10 (by show w.heap.size ≠ _; omega) x6) (And.intro (cell_put11 (V := w9) (g := w.heap.size + 1) y0 y1 y2 y3 y4 y5 y6 y7 y8 y9 y10 (by show w.heap.size ≠ _; omega) x7) (And.intro (cell_put11 (V := w9) (g := w.heap.size + 1) y0 y1 y2 y3 y4 y5 y6 y7 y8 y9 y10 (by show w.heap.size ≠ _; omega) x8) (And.intro (cell_put11 (V := w9) (g := w.heap.size + 1) y0 y1 y2 y3 y4 y5 y6 y7 y8 y9 y10 (by show w.heap.size ≠ _; omega) x9) (cell_put11 (V := w9) (g := w.heap.size + 1) y0 y1 y2 y3 y4 y5 y6 y7 y8 y9 y10 (by show w.heap.size ≠ _; omega) x10)))))))))))
    have HSd := Lib.hid (show w9.drew.cell? ⟨w.heap.size, 0, none⟩ = some (.slice a1 m c1) ∧ w9.drew.cell? ⟨w.heap.size, 1, none⟩ = some (.slice a2 n c2) ∧ w9.drew.cell? ⟨w.heap.size, 2, none⟩ = some (.slice s1 q1 e1) ∧ w9.drew.cell? ⟨w.heap.size, 3, none⟩ = some (.slice s2 q2 e2) ∧ w9.drew.cell? ⟨w.heap.size, 4, none⟩ = some (.slice s3 q3 e3) ∧ w9.drew.cell? ⟨w.heap.size, 5, none⟩ = some (.slice s4 q4 e4) ∧ w9.drew.cell? ⟨w.heap.size, 6, none⟩ = some (.slice s5 q5 e5) ∧ w9.drew.cell? ⟨w.heap.size, 7, none⟩ = some (.string us) ∧ w9.drew.cell? ⟨w.heap.size, 8, none⟩ = some (.int .i64 mu) ∧ w9.drew.cell? ⟨w.heap.size, 9, none⟩ = some (.int .i64 cu) ∧ w9.drew.cell? ⟨w.heap.size, 10, none⟩ = some (.bool true) from ⟨x0, x1, x2, x3, x4, x5, x6, x7, x8, x9, x10⟩)
    have Hbf := Lib.hid (fun y0 y1 y2 y3 y4 y5 y6 y7 y8 y9 y10 => drew_belowD (below_put11 HB8.out (g := w.heap.size + 1) (by omega) y0 y1 y2 y3 y4 y5 y6 y7 y8 y9 y10))
    have HRf := Lib.hid (fun y0 y1 y2 y3 y4 y5 y6 y7 y8 y9 y10 => HR8.out.to (ok' := ok) (w' := (((((((((((w9.setCell ⟨w.heap.size + 1, 0, none⟩ y0).setCell ⟨w.heap.size + 1, 1, none⟩ y1).setCell ⟨w.heap.size + 1, 2, none⟩ y2).setCell ⟨w.heap.size + 1, 3, none⟩ y3).setCell ⟨w.heap.size + 1, 4, none⟩ y4).setCell ⟨w.heap.size + 1, 5, none⟩ y5).setCell ⟨w.heap.size + 1, 6, none⟩ y6).setCell ⟨w.heap.size + 1, 7, none⟩ y7).setCell ⟨w.heap.size + 1, 8, none⟩ y8).setCell ⟨w.heap.size + 1, 9, none⟩ y9).setCell ⟨w.heap.size + 1, 10, none⟩ y10).drew) (fun x hx _ => (congrArg (fun (h : Array Obj) => h[x]?) (drew_heapD _)).trans (heap_put11 (V := w9) (g := w.heap.size + 1) (b := x) y0 y1 y2 y3 y4 y5 y6 y7 y8 y9 y10 (by have h7 := Hs7.out; have h8 := Hs.out; have h9 : (ok x ∧ x < W0.heap.size) ∨ w7.heap.size ≤ x := hx; have h10 := Hs0.out; rcases h9 with ⟨_, h9⟩ | h9 <;> omega))) (fun g _ ho => by have h7 := Hs7.out; have h10 := Hs.out; rcases ho with ⟨h, _⟩ | h; exact h; exact hok g (by omega)))
    go_region_held3 (fun V => V.cell? ⟨w.heap.size, 0, none⟩ = some (.slice a1 m c1) ∧ V.cell? ⟨w.heap.size, 1, none⟩ = some (.slice a2 n c2) ∧ V.cell? ⟨w.heap.size, 2, none⟩ = some (.slice s1 q1 e1) ∧ V.cell? ⟨w.heap.size, 3, none⟩ = some (.slice s2 q2 e2) ∧ V.cell? ⟨w.heap.size, 4, none⟩ = some (.slice s3 q3 e3) ∧ V.cell? ⟨w.heap.size, 5, none⟩ = some (.slice s4 q4 e4) ∧ V.cell? ⟨w.heap.size, 6, none⟩ = some (.slice s5 q5 e5) ∧ V.cell? ⟨w.heap.size, 7, none⟩ = some (.string us) ∧ V.cell? ⟨w.heap.size, 8, none⟩ = some (.int .i64 mu) ∧ V.cell? ⟨w.heap.size, 9, none⟩ = some (.int .i64 cu) ∧ V.cell? ⟨w.heap.size, 10, none⟩ = some (.bool true))
      ((first | with_reducible exact HSd.out | exact HSt.out _ _ _ _ _ _ _ _ _ _ _))
      ((first
        | (go_at_call 64; with_reducible refine HC.out.mono ?_; rintro e w' ⟨rfl, rfl⟩)
        | fail))
    go_wp2_with fail
    refine bodyPost_ret (results_row_tmpD rfl _ _ (w.heap.size + 1) 103 #[.slice a1 m c1, .slice a2 n c2, .slice s1 q1 e1, .slice s2 q2 e2, .slice s3 q3 e3, .slice s4 q4 e4, .slice s5 q5 e5, .string us, .int .i64 mu, .int .i64 cu, .bool true] (0, 0) _ rfl (drew_boxD (HZ8.out.put11 _ _ _ _ _ _ _ _ _ _ _)) Tryz.underlying103 rfl (by kernel_rfl)) rfl ?_
    rw [HDA.out]
    exact ⟨⟨_, rfl, ⟨a1, a2, c1, c2, s1, s2, s3, s4, s5, q1, e1, q2, e2, q3, e3, q4, e4, q5, e5, us, mu, cu, by rw [Hm.out, Hn.out]; rfl, IU.out.below (Hbf.out _ _ _ _ _ _ _ _ _ _ _), IF.out.below (Hbf.out _ _ _ _ _ _ _ _ _ _ _), fun T2 h2 => by injection h2 with h2; subst h2; exact HRf.out _ _ _ _ _ _ _ _ _ _ _⟩⟩, Hbf.out _ _ _ _ _ _ _ _ _ _ _⟩
set_option maxHeartbeats 16000000 in
theorem actDrop_ask (hok : ∀ g, W0.heap.size ≤ g → ok g) (hD : DOk D) (hR : RDAt ok W0 (.agg #[.slice a1 m c1, .slice a2 n c2, .slice b1 k1 d1, .slice b2 k2 d2, .slice b3 k3 d3, .slice b4 k4 d4, .slice b5 k5 d5, .string ts, .int .i64 mn, .int .i64 ch, .bool true]) D) (hT : D.T = some T) (hbW : Below W0.heap.size W0 w) (s : ByteArray) {A : Option Addr} {c l0 l1 : Nat} (hown : OwnI w W0.heap.size (.slice A 2 c) (castL [l0, l1])) :
    Calls Tryz.prog 66 #[.agg #[.slice a1 m c1, .slice a2 n c2, .slice b1 k1 d1, .slice b2 k2 d2, .slice b3 k3 d3, .slice b4 k4 d4, .slice b5 k5 d5, .string ts, .int .i64 mn, .int .i64 ch, .bool true], .string s, .string ⟨#[100, 114, 111, 112]⟩, .slice A 2 c] w fun e w' => RDPost ok W0 (dAsk D T 2 [l0, l1]) e w' := by
  obtain ⟨⟨hm, hn, -⟩, iU, iF, hrt⟩ := hR.opened
  have Hm := Lib.hid hm
  have Hn := Lib.hid hn
  have IU := Lib.hid iU
  have IF := Lib.hid iF
  clear hm hn iU iF
  have hl := hD.tlen hT
  have hrT := hrt T hT
  obtain ⟨W, hW⟩ : ∃ W, (w.alloc (.cells #[.slice a1 m c1, .slice a2 n c2, .slice b1 k1 d1, .slice b2 k2 d2, .slice b3 k3 d3, .slice b4 k4 d4, .slice b5 k5 d5, .string ts, .int .i64 mn, .int .i64 ch, .bool true] 103)).alloc (.cells #[.slice none 0 0, .slice none 0 0, .slice none 0 0, .slice none 0 0, .slice none 0 0, .slice none 0 0, .slice none 0 0, .string ⟨#[]⟩, .int .i64 0, .int .i64 0, .bool false] 103) = W := ⟨_, rfl⟩
  have hxb : BoxN W w.heap.size 103 #[.slice a1 m c1, .slice a2 n c2, .slice b1 k1 d1, .slice b2 k2 d2, .slice b3 k3 d3, .slice b4 k4 d4, .slice b5 k5 d5, .string ts, .int .i64 mn, .int .i64 ch, .bool true] := by rw [← hW]; exact (BoxN.new _ _ _).alloc _
  have hzb : BoxN W (w.heap.size + 1) 103 #[.slice none 0 0, .slice none 0 0, .slice none 0 0, .slice none 0 0, .slice none 0 0, .slice none 0 0, .slice none 0 0, .string ⟨#[]⟩, .int .i64 0, .int .i64 0, .bool false] := by rw [← hW]; exact BoxN.new' _ _ _ _ (by simp)
  have hbb : Below W0.heap.size W0 W := by rw [← hW]; exact act_boxes hbW _ _ _
  have hwW : Below w.heap.size w W := by rw [← hW]; exact ((Below.refl _ _).alloc (Nat.le_refl _) _).alloc (by simp) _
  have hownW := hown.next hwW
  have Hlt := Lib.hid (show ∀ g, (Value.slice A 2 c).ownBlock = some g → g < w.heap.size from fun g e => ((show w.ownsRow W0.heap.size 3 1 (.slice A 2 c) (castL [l0, l1]).length ((castL [l0, l1]).map (.int .i64)) from hown).lt g e).2)
  have HO := Lib.hid hownW
  have x10 := hxb.cell (k := 10) rfl
  have hs0 : W0.heap.size ≤ w.heap.size := hbW.size
  have HX := Lib.hid hxb
  have HZ := Lib.hid hzb
  have HB := Lib.hid hbb
  have Hs := Lib.hid (show w.heap.size + 1 < W.heap.size from hzb.lt)
  have Hs0 := Lib.hid hbW.size
  have hs1 : W0.heap.size ≤ W.heap.size := hbb.size
  have hl40 : (castL [l0, l1]).length < 2 ^ 40 := by rw [length_castL]; simp
  have hlen7 : (castL [l0, l1] ++ [0]).length = 3 := rfl
  clear hxb hzb hbb hwW hownW hbW hown hR hrt
  go_enter Tryz.func66, Tryz.ntmps66
  go_wp2_with (at_builtin; refine wpList_push_int rfl _ _ rfl rfl (HO.out.next ((Below.refl _ _).alloc (Nat.le_refl _) _)) _ (0 : Int) rfl (cell_of_row _ _ 0 _ _ _ (heap_alloc_new _ _)) hl40 (by simp; omega) ?_; intro u1 w7 hown7 hgr7 hblk7 hbl7; obtain ⟨A7, k7, rfl, hi7⟩ := hown7.form; rw [hlen7])
  clear hW HO x10
  have hL3 : castL [l0, l1] ++ [0] = [(l0 : Int), (l1 : Int), 0] := rfl
  rw [hL3] at hi7
  obtain ⟨g7, o7, rfl, hc7⟩ := hi7 (by simp)
  have e0 := hc7 0 _ rfl
  have e1 := hc7 1 _ rfl
  have e2 := hc7 2 _ rfl
  rw [Nat.add_zero] at e0
  have hXa := HX.out.alloc (.cells #[.int .i64 0] 3)
  have hZa := HZ.out.alloc (.cells #[.int .i64 0] 3)
  have hX7 : BoxN w7 w.heap.size 103 #[.slice a1 m c1, .slice a2 n c2, .slice b1 k1 d1, .slice b2 k2 d2, .slice b3 k3 d3, .slice b4 k4 d4, .slice b5 k5 d5, .string ts, .int .i64 mn, .int .i64 ch, .bool true] := (hgr7.block _ hXa.lt (fun e => by have := Hlt.out _ e.symm; omega)).trans hXa
  have hZ7 : BoxN w7 (w.heap.size + 1) 103 #[.slice none 0 0, .slice none 0 0, .slice none 0 0, .slice none 0 0, .slice none 0 0, .slice none 0 0, .slice none 0 0, .string ⟨#[]⟩, .int .i64 0, .int .i64 0, .bool false] := (hgr7.block _ hZa.lt (fun e => by have := Hlt.out _ e.symm; omega)).trans hZa
  have hb7 := hbl7 W0 (HB.out.alloc hs1 _)
  have hr7 : RT (fun g => ok g ∧ g < W0.heap.size) w7 (.agg #[.slice b1 k1 d1, .slice b2 k2 d2, .slice b3 k3 d3, .slice b4 k4 d4, .slice b5 k5 d5, .string ts, .int .i64 mn, .int .i64 ch]) D.U D.F T := (hrT.to (w' := W0) (ok' := fun g => ok g ∧ g < W0.heap.size) (fun _ _ _ => rfl) (fun g hg ho => ⟨ho, hg⟩)).below hb7
  have hs7 : W.heap.size < w7.heap.size := by have := hgr7.size; simp at this; omega
  obtain ⟨⟨x0, x1, x2, x3, x4, x5, x6, x7, x8, x9, x10⟩, -⟩ := BoxN.st11 hX7
  have HR7 := Lib.hid hr7
  have HX7 := Lib.hid hX7
  have HZ7 := Lib.hid hZ7
  have Hb7 := Lib.hid hb7
  have Hs7 := Lib.hid hs7
  have CQ := Lib.hid (fun V (hV : Below w7.heap.size w7 V) => (RTAsk_any (ok := fun g => (ok g ∧ g < W0.heap.size) ∨ V.heap.size ≤ g) ((HR7.out.below hV).to (w' := V) (fun _ _ _ => rfl) (fun g _ hg => .inl hg)) hl.inv (fun i hi => hD.oU i (by have := hl.re; omega)) (fun i hi => hD.oF i (by have := hl.ho; omega)) (by rw [hl.re]; exact hD.lU) (by rw [hl.ho]; exact hD.lF) (fun g hg => .inr hg) 2 (l0 : Int) (l1 : Int) 0).mono fun e w' ⟨he, hb⟩ => (⟨he, hV.trans (hb.mono hV.size), hb⟩ : _ ∧ Below w7.heap.size w7 w' ∧ Below V.heap.size V w'))
  have HDA := Lib.hid (show dAsk D T 2 [l0, l1] = ({ D with T := some (tAsk D.U D.F T 2 (l0 : Int) (l1 : Int) 0).1 }, toldE (tAsk D.U D.F T 2 (l0 : Int) (l1 : Int) 0).2) from rfl)
  obtain ⟨r, hr⟩ : ∃ r, tAsk D.U D.F T 2 (l0 : Int) (l1 : Int) 0 = r := ⟨_, rfl⟩
  rw [hr] at CQ HDA
  obtain ⟨T1, code⟩ := r
  have hgl := block_lt e0
  have hbA : Below w7.heap.size w7 w7.drew := (Below.refl _ _).drew
  have hbB : Below w7.heap.size w7 ((w7.alloc (.cells #[.slice none 0 0, .slice none 0 0, .slice none 0 0, .slice none 0 0, .slice none 0 0, .string ⟨#[]⟩, .int .i64 0, .int .i64 0] 101)).drew) := ((Below.refl _ _).alloc (Nat.le_refl _) _).drew
  have hZn : BoxN ((w7.alloc (.cells #[.slice none 0 0, .slice none 0 0, .slice none 0 0, .slice none 0 0, .slice none 0 0, .string ⟨#[]⟩, .int .i64 0, .int .i64 0] 101)).drew) w7.heap.size 101 #[.slice none 0 0, .slice none 0 0, .slice none 0 0, .slice none 0 0, .slice none 0 0, .string ⟨#[]⟩, .int .i64 0, .int .i64 0] := (BoxN.new w7 _ _).drew
  have hXl := hX7.lt
  have hKeep := Lib.hid (fun V (hV : Below w7.heap.size w7 V) => (⟨(hV.cell (p := ⟨w.heap.size, 2, none⟩) hXl).trans x2, (hV.cell (p := ⟨w.heap.size, 3, none⟩) hXl).trans x3, (hV.cell (p := ⟨w.heap.size, 4, none⟩) hXl).trans x4, (hV.cell (p := ⟨w.heap.size, 5, none⟩) hXl).trans x5, (hV.cell (p := ⟨w.heap.size, 6, none⟩) hXl).trans x6, (hV.cell (p := ⟨w.heap.size, 7, none⟩) hXl).trans x7, (hV.cell (p := ⟨w.heap.size, 8, none⟩) hXl).trans x8, (hV.cell (p := ⟨w.heap.size, 9, none⟩) hXl).trans x9, (hV.cell (p := ⟨g7, o7, none⟩) hgl).trans e0, (hV.cell (p := ⟨g7, o7 + 1, none⟩) hgl).trans e1, (hV.cell (p := ⟨g7, o7 + 2, none⟩) hgl).trans e2⟩ : V.cell? ⟨w.heap.size, 2, none⟩ = some (.slice b1 k1 d1) ∧ V.cell? ⟨w.heap.size, 3, none⟩ = some (.slice b2 k2 d2) ∧ V.cell? ⟨w.heap.size, 4, none⟩ = some (.slice b3 k3 d3) ∧ V.cell? ⟨w.heap.size, 5, none⟩ = some (.slice b4 k4 d4) ∧ V.cell? ⟨w.heap.size, 6, none⟩ = some (.slice b5 k5 d5) ∧ V.cell? ⟨w.heap.size, 7, none⟩ = some (.string ts) ∧ V.cell? ⟨w.heap.size, 8, none⟩ = some (.int .i64 mn) ∧ V.cell? ⟨w.heap.size, 9, none⟩ = some (.int .i64 ch) ∧ V.cell? ⟨g7, o7, none⟩ = some (.int .i64 (l0 : Int)) ∧ V.cell? ⟨g7, o7 + 1, none⟩ = some (.int .i64 (l1 : Int)) ∧ V.cell? ⟨g7, o7 + 2, none⟩ = some (.int .i64 0)))
  clear hr7 hX7 hZ7 hb7 hs7 hXa hZa hgr7 hbl7 hblk7 hown7 hi7 hc7 hr hL3 hlen7 hrT
  go_cut [16, 17] from 18 (fun x16 x17 wx => ∃ (xc : Nat) (vs : Array Value), x16 = .pointer (some ⟨xc, 0, none⟩) ∧ x17 = .int .i64 code ∧ BoxN wx xc 101 vs ∧ RT (fun g => (ok g ∧ g < W0.heap.size) ∨ w7.heap.size ≤ g) wx (.agg vs) D.U D.F T1 ∧ Below w7.heap.size w7 wx)
  case first =>
    go_region_held3 (fun V => V.cell? ⟨w.heap.size, 2, none⟩ = some (.slice b1 k1 d1) ∧ V.cell? ⟨w.heap.size, 3, none⟩ = some (.slice b2 k2 d2) ∧ V.cell? ⟨w.heap.size, 4, none⟩ = some (.slice b3 k3 d3) ∧ V.cell? ⟨w.heap.size, 5, none⟩ = some (.slice b4 k4 d4) ∧ V.cell? ⟨w.heap.size, 6, none⟩ = some (.slice b5 k5 d5) ∧ V.cell? ⟨w.heap.size, 7, none⟩ = some (.string ts) ∧ V.cell? ⟨w.heap.size, 8, none⟩ = some (.int .i64 mn) ∧ V.cell? ⟨w.heap.size, 9, none⟩ = some (.int .i64 ch) ∧ V.cell? ⟨g7, o7, none⟩ = some (.int .i64 (l0 : Int)) ∧ V.cell? ⟨g7, o7 + 1, none⟩ = some (.int .i64 (l1 : Int)) ∧ V.cell? ⟨g7, o7 + 2, none⟩ = some (.int .i64 0))
      ((refine hKeep.out _ ?_; repeat (first | with_reducible assumption | with_reducible exact hbA | with_reducible exact hbB | with_reducible refine Below.setCell ?_ (by simp) _ | with_reducible refine Below.alloc ?_ (by first | exact Nat.le_refl _ | exact Below.size (by assumption)) _ | with_reducible refine Below.drew ?_)))
      ((go_at_call 98; with_reducible refine (CQ.out _ (by first | with_reducible exact hbA | with_reducible exact hbB)).mono ?_; rintro e w6 ⟨⟨v', rfl, hR6⟩, hb6, hbv⟩; obtain ⟨s1, s2, s3, s4, s5, q1, e1, q2, e2, q3, e3, q4, e4, q5, e5, us, mu, cu, hv6⟩ := hR6.shape; subst hv6; try (have hz6 := BoxN.all hZn hbv; obtain ⟨⟨z0, z1, z2, z3, z4, z5, z6, z7⟩, fz0, fz1, fz2, fz3, fz4, fz5, fz6, fz7⟩ := BoxN.st8 hz6)))
    all_goals (go_wp2_with fail; go_meet)
    · exact ⟨w6.heap.size, _, rfl, rfl, BoxN.new _ _ _, (hR6.to (w' := w6) (fun _ _ _ => rfl) (fun g _ ho => by rcases ho with h | h; exact .inl h; exact .inr (by simp at h; omega))).below ((Below.refl _ _).alloc (Nat.le_refl _) _), hb6.alloc hb6.size _⟩
    · exact ⟨w7.heap.size, _, rfl, rfl, hz6.put8 _ _ _ _ _ _ _ _, hR6.to (fun g hg _ => put8_block (by have h2 := Hs.out; have h3 := Hs7.out; have h4 := Hs0.out; rcases hg with ⟨_, h⟩ | h; omega; (simp at h; omega)) _ _ _ _ _ _ _ _) (fun g _ ho => by rcases ho with h | h; exact .inl h; exact .inr (by simp at h; omega)), below_put8 hb6 (Nat.le_refl _) _ _ _ _ _ _ _ _⟩
  case rest =>
    obtain ⟨xc, vs, rfl, rfl, hC, hR6, hb6⟩ := hcut
    obtain ⟨wx, rfl⟩ := nameW hC
    clear CQ hbA hbB hZn hKeep x0 x1 x2 x3 x4 x5 x6 x7 x8 x9 x10 e0 e1 e2 hXl hgl
    obtain ⟨s1, s2, s3, s4, s5, q1, e1, q2, e2, q3, e3, q4, e4, q5, e5, us, mu, cu, hv6⟩ := hR6.shape
    injection hv6 with hv6
    subst hv6
    have hX6 := HX7.out.all hb6
    have hZ6 := HZ7.out.all hb6
    have hB6 := Hb7.out.trans (hb6.mono Hb7.out.size)
    obtain ⟨⟨y0, y1, y2, y3, y4, y5, y6, y7⟩, -⟩ := BoxN.st8 hC
    obtain ⟨⟨x0, x1, x2, x3, x4, x5, x6, x7, x8, x9, x10⟩, f0, f1, f2, f3, f4, f5, f6, f7, f8, f9, f10⟩ := BoxN.st11 hX6
    have hwW2 : w.heap.size < W.heap.size := by have := Hs.out; omega
    have hws : W0.heap.size ≤ w.heap.size := Hs0.out
    have HR8 := Lib.hid (hR6.to (ok' := fun g => (ok g ∧ g < W0.heap.size) ∨ w7.heap.size ≤ g) (w' := ((((((((wx.setCell ⟨w.heap.size, 2, none⟩ (.slice s1 q1 e1)).setCell ⟨w.heap.size, 3, none⟩ (.slice s2 q2 e2)).setCell ⟨w.heap.size, 4, none⟩ (.slice s3 q3 e3)).setCell ⟨w.heap.size, 5, none⟩ (.slice s4 q4 e4)).setCell ⟨w.heap.size, 6, none⟩ (.slice s5 q5 e5)).setCell ⟨w.heap.size, 7, none⟩ (.string us)).setCell ⟨w.heap.size, 8, none⟩ (.int .i64 mu)).setCell ⟨w.heap.size, 9, none⟩ (.int .i64 cu))) (fun x hx _ => heap_put8k (V := wx) (g := w.heap.size) (b := x) (.slice s1 q1 e1) (.slice s2 q2 e2) (.slice s3 q3 e3) (.slice s4 q4 e4) (.slice s5 q5 e5) (.string us) (.int .i64 mu) (.int .i64 cu) (by have h7 := Hs7.out; have h9 : (ok x ∧ x < W0.heap.size) ∨ w7.heap.size ≤ x := hx; have h10 := Hs0.out; rcases h9 with ⟨_, h9⟩ | h9 <;> omega)) (fun g _ ho => ho))
    have HX8 := Lib.hid (hX6.put8k (.slice s1 q1 e1) (.slice s2 q2 e2) (.slice s3 q3 e3) (.slice s4 q4 e4) (.slice s5 q5 e5) (.string us) (.int .i64 mu) (.int .i64 cu))
    have HZ8 := Lib.hid (show BoxN ((((((((wx.setCell ⟨w.heap.size, 2, none⟩ (.slice s1 q1 e1)).setCell ⟨w.heap.size, 3, none⟩ (.slice s2 q2 e2)).setCell ⟨w.heap.size, 4, none⟩ (.slice s3 q3 e3)).setCell ⟨w.heap.size, 5, none⟩ (.slice s4 q4 e4)).setCell ⟨w.heap.size, 6, none⟩ (.slice s5 q5 e5)).setCell ⟨w.heap.size, 7, none⟩ (.string us)).setCell ⟨w.heap.size, 8, none⟩ (.int .i64 mu)).setCell ⟨w.heap.size, 9, none⟩ (.int .i64 cu)) (w.heap.size + 1) 103 #[.slice none 0 0, .slice none 0 0, .slice none 0 0, .slice none 0 0, .slice none 0 0, .slice none 0 0, .slice none 0 0, .string ⟨#[]⟩, .int .i64 0, .int .i64 0, .bool false] from (heap_put8k (V := wx) (g := w.heap.size) (b := w.heap.size + 1) (.slice s1 q1 e1) (.slice s2 q2 e2) (.slice s3 q3 e3) (.slice s4 q4 e4) (.slice s5 q5 e5) (.string us) (.int .i64 mu) (.int .i64 cu) (by omega)).trans hZ6)
    have HB8 := Lib.hid (below_put8k hB6 hws (.slice s1 q1 e1) (.slice s2 q2 e2) (.slice s3 q3 e3) (.slice s4 q4 e4) (.slice s5 q5 e5) (.string us) (.int .i64 mu) (.int .i64 cu))
    clear hX6 hZ6 hB6 hR6 hC hb6
    go_wp2_with fail
    obtain ⟨w9, hw9⟩ : ∃ w9, ((((((((wx.setCell ⟨w.heap.size, 2, none⟩ (.slice s1 q1 e1)).setCell ⟨w.heap.size, 3, none⟩ (.slice s2 q2 e2)).setCell ⟨w.heap.size, 4, none⟩ (.slice s3 q3 e3)).setCell ⟨w.heap.size, 5, none⟩ (.slice s4 q4 e4)).setCell ⟨w.heap.size, 6, none⟩ (.slice s5 q5 e5)).setCell ⟨w.heap.size, 7, none⟩ (.string us)).setCell ⟨w.heap.size, 8, none⟩ (.int .i64 mu)).setCell ⟨w.heap.size, 9, none⟩ (.int .i64 cu)) = w9 := ⟨_, rfl⟩
    rw [hw9] at HR8 HX8 HZ8 HB8
    try rw [hw9]
    clear hw9 x0 x1 x2 x3 x4 x5 x6 x7 x8 x9 x10 f0 f1 f2 f3 f4 f5 f6 f7 f8 f9 f10 y0 y1 y2 y3 y4 y5 y6 y7
    obtain ⟨⟨x0, x1, x2, x3, x4, x5, x6, x7, x8, x9, x10⟩, -⟩ := BoxN.st11 HX8.out
    obtain ⟨⟨z0, z1, z2, z3, z4, z5, z6, z7, z8, z9, z10⟩, f0, f1, f2, f3, f4, f5, f6, f7, f8, f9, f10⟩ := BoxN.st11 HZ8.out
    have HC := Lib.hid (RCalled_any code w9.drew)
    have HSt := Lib.hid (fun (y0 y1 y2 y3 y4 y5 y6 y7 y8 y9 y10 : Value) => And.intro (cell_put11 (V := w9) (g := w.heap.size + 1) y0 y1 y2 y3 y4 y5 y6 y7 y8 y9 y10 (by show w.heap.size ≠ _; omega) x0) (And.intro (cell_put11 (V := w9) (g := w.heap.size + 1) y0 y1 y2 y3 y4 y5 y6 y7 y8 y9 y10 (by show w.heap.size ≠ _; omega) x1) (And.intro (cell_put11 (V := w9) (g := w.heap.size + 1) y0 y1 y2 y3 y4 y5 y6 y7 y8 y9 y10 (by show w.heap.size ≠ _; omega) x2) (And.intro (cell_put11 (V := w9) (g := w.heap.size + 1) y0 y1 y2 y3 y4 y5 y6 y7 y8 y9 y10 (by show w.heap.size ≠ _; omega) x3) (And.intro (cell_put11 (V := w9) (g := w.heap.size + 1) y0 y1 y2 y3 y4 y5 y6 y7 y8 y9 y10 (by show w.heap.size ≠ _; omega) x4) (And.intro (cell_put11 (V := w9) (g := w.heap.size + 1) y0 y1 y2 y3 y4 y5 y6 y7 y8 y9 y10 (by show w.heap.size ≠ _; omega) x5) (And.intro (cell_put11 (V := w9) (g := w.heap.size + 1) y0 y1 y2 y3 y4 y5 y6 y7 y8 y9 y10 (by show w.heap.size ≠ _; omega) x6) (And.intro (cell_put11 (V := w9) (g := w.heap.size + 1) y0 y1 y2 y3 y4 y5 y6 y7 y8 y9 y10 (by show w.heap.size ≠ _; omega) x7) (And.intro (cell_put11 (V := w9) (g := w.heap.size + 1) y0 y1 y2 y3 y4 y5 y6 y7 y8 y9 y10 (by show w.heap.size ≠ _; omega) x8) (And.intro (cell_put11 (V := w9) (g := w.heap.size + 1) y0 y1 y2 y3 y4 y5 y6 y7 y8 y9 y10 (by show w.heap.size ≠ _; omega) x9) (cell_put11 (V := w9) (g := w.heap.size + 1) y0 y1 y2 y3 y4 y5 y6 y7 y8 y9 y10 (by show w.heap.size ≠ _; omega) x10)))))))))))
    have HSd := Lib.hid (show w9.drew.cell? ⟨w.heap.size, 0, none⟩ = some (.slice a1 m c1) ∧ w9.drew.cell? ⟨w.heap.size, 1, none⟩ = some (.slice a2 n c2) ∧ w9.drew.cell? ⟨w.heap.size, 2, none⟩ = some (.slice s1 q1 e1) ∧ w9.drew.cell? ⟨w.heap.size, 3, none⟩ = some (.slice s2 q2 e2) ∧ w9.drew.cell? ⟨w.heap.size, 4, none⟩ = some (.slice s3 q3 e3) ∧ w9.drew.cell? ⟨w.heap.size, 5, none⟩ = some (.slice s4 q4 e4) ∧ w9.drew.cell? ⟨w.heap.size, 6, none⟩ = some (.slice s5 q5 e5) ∧ w9.drew.cell? ⟨w.heap.size, 7, none⟩ = some (.string us) ∧ w9.drew.cell? ⟨w.heap.size, 8, none⟩ = some (.int .i64 mu) ∧ w9.drew.cell? ⟨w.heap.size, 9, none⟩ = some (.int .i64 cu) ∧ w9.drew.cell? ⟨w.heap.size, 10, none⟩ = some (.bool true) from ⟨x0, x1, x2, x3, x4, x5, x6, x7, x8, x9, x10⟩)
    have Hbf := Lib.hid (fun y0 y1 y2 y3 y4 y5 y6 y7 y8 y9 y10 => drew_belowD (below_put11 HB8.out (g := w.heap.size + 1) (by omega) y0 y1 y2 y3 y4 y5 y6 y7 y8 y9 y10))
    have HRf := Lib.hid (fun y0 y1 y2 y3 y4 y5 y6 y7 y8 y9 y10 => HR8.out.to (ok' := ok) (w' := (((((((((((w9.setCell ⟨w.heap.size + 1, 0, none⟩ y0).setCell ⟨w.heap.size + 1, 1, none⟩ y1).setCell ⟨w.heap.size + 1, 2, none⟩ y2).setCell ⟨w.heap.size + 1, 3, none⟩ y3).setCell ⟨w.heap.size + 1, 4, none⟩ y4).setCell ⟨w.heap.size + 1, 5, none⟩ y5).setCell ⟨w.heap.size + 1, 6, none⟩ y6).setCell ⟨w.heap.size + 1, 7, none⟩ y7).setCell ⟨w.heap.size + 1, 8, none⟩ y8).setCell ⟨w.heap.size + 1, 9, none⟩ y9).setCell ⟨w.heap.size + 1, 10, none⟩ y10).drew) (fun x hx _ => (congrArg (fun (h : Array Obj) => h[x]?) (drew_heapD _)).trans (heap_put11 (V := w9) (g := w.heap.size + 1) (b := x) y0 y1 y2 y3 y4 y5 y6 y7 y8 y9 y10 (by have h7 := Hs7.out; have h8 := Hs.out; have h9 : (ok x ∧ x < W0.heap.size) ∨ w7.heap.size ≤ x := hx; have h10 := Hs0.out; rcases h9 with ⟨_, h9⟩ | h9 <;> omega))) (fun g _ ho => by have h7 := Hs7.out; have h10 := Hs.out; rcases ho with ⟨h, _⟩ | h; exact h; exact hok g (by omega)))
    go_region_held3 (fun V => V.cell? ⟨w.heap.size, 0, none⟩ = some (.slice a1 m c1) ∧ V.cell? ⟨w.heap.size, 1, none⟩ = some (.slice a2 n c2) ∧ V.cell? ⟨w.heap.size, 2, none⟩ = some (.slice s1 q1 e1) ∧ V.cell? ⟨w.heap.size, 3, none⟩ = some (.slice s2 q2 e2) ∧ V.cell? ⟨w.heap.size, 4, none⟩ = some (.slice s3 q3 e3) ∧ V.cell? ⟨w.heap.size, 5, none⟩ = some (.slice s4 q4 e4) ∧ V.cell? ⟨w.heap.size, 6, none⟩ = some (.slice s5 q5 e5) ∧ V.cell? ⟨w.heap.size, 7, none⟩ = some (.string us) ∧ V.cell? ⟨w.heap.size, 8, none⟩ = some (.int .i64 mu) ∧ V.cell? ⟨w.heap.size, 9, none⟩ = some (.int .i64 cu) ∧ V.cell? ⟨w.heap.size, 10, none⟩ = some (.bool true))
      ((first | with_reducible exact HSd.out | exact HSt.out _ _ _ _ _ _ _ _ _ _ _))
      ((first
        | (go_at_call 64; with_reducible refine HC.out.mono ?_; rintro e w' ⟨rfl, rfl⟩)
        | fail))
    go_wp2_with fail
    refine bodyPost_ret (results_row_tmpD rfl _ _ (w.heap.size + 1) 103 #[.slice a1 m c1, .slice a2 n c2, .slice s1 q1 e1, .slice s2 q2 e2, .slice s3 q3 e3, .slice s4 q4 e4, .slice s5 q5 e5, .string us, .int .i64 mu, .int .i64 cu, .bool true] (0, 0) _ rfl (drew_boxD (HZ8.out.put11 _ _ _ _ _ _ _ _ _ _ _)) Tryz.underlying103 rfl (by kernel_rfl)) rfl ?_
    rw [HDA.out]
    exact ⟨⟨_, rfl, ⟨a1, a2, c1, c2, s1, s2, s3, s4, s5, q1, e1, q2, e2, q3, e3, q4, e4, q5, e5, us, mu, cu, by rw [Hm.out, Hn.out]; rfl, IU.out.below (Hbf.out _ _ _ _ _ _ _ _ _ _ _), IF.out.below (Hbf.out _ _ _ _ _ _ _ _ _ _ _), fun T2 h2 => by injection h2 with h2; subst h2; exact HRf.out _ _ _ _ _ _ _ _ _ _ _⟩⟩, Hbf.out _ _ _ _ _ _ _ _ _ _ _⟩
set_option maxHeartbeats 16000000 in
theorem actCopy_ask (hok : ∀ g, W0.heap.size ≤ g → ok g) (hD : DOk D) (hR : RDAt ok W0 (.agg #[.slice a1 m c1, .slice a2 n c2, .slice b1 k1 d1, .slice b2 k2 d2, .slice b3 k3 d3, .slice b4 k4 d4, .slice b5 k5 d5, .string ts, .int .i64 mn, .int .i64 ch, .bool true]) D) (hT : D.T = some T) (hbW : Below W0.heap.size W0 w) (s : ByteArray) {A : Option Addr} {c l0 l1 l2 : Nat} (hown : OwnI w W0.heap.size (.slice A 3 c) (castL [l0, l1, l2])) :
    Calls Tryz.prog 66 #[.agg #[.slice a1 m c1, .slice a2 n c2, .slice b1 k1 d1, .slice b2 k2 d2, .slice b3 k3 d3, .slice b4 k4 d4, .slice b5 k5 d5, .string ts, .int .i64 mn, .int .i64 ch, .bool true], .string s, .string ⟨#[99, 111, 112, 121]⟩, .slice A 3 c] w fun e w' => RDPost ok W0 (dAsk D T 3 [l0, l1, l2]) e w' := by
  obtain ⟨⟨hm, hn, -⟩, iU, iF, hrt⟩ := hR.opened
  have Hm := Lib.hid hm
  have Hn := Lib.hid hn
  have IU := Lib.hid iU
  have IF := Lib.hid iF
  clear hm hn iU iF
  have hl := hD.tlen hT
  have hrT := hrt T hT
  obtain ⟨W, hW⟩ : ∃ W, (w.alloc (.cells #[.slice a1 m c1, .slice a2 n c2, .slice b1 k1 d1, .slice b2 k2 d2, .slice b3 k3 d3, .slice b4 k4 d4, .slice b5 k5 d5, .string ts, .int .i64 mn, .int .i64 ch, .bool true] 103)).alloc (.cells #[.slice none 0 0, .slice none 0 0, .slice none 0 0, .slice none 0 0, .slice none 0 0, .slice none 0 0, .slice none 0 0, .string ⟨#[]⟩, .int .i64 0, .int .i64 0, .bool false] 103) = W := ⟨_, rfl⟩
  have hxb : BoxN W w.heap.size 103 #[.slice a1 m c1, .slice a2 n c2, .slice b1 k1 d1, .slice b2 k2 d2, .slice b3 k3 d3, .slice b4 k4 d4, .slice b5 k5 d5, .string ts, .int .i64 mn, .int .i64 ch, .bool true] := by rw [← hW]; exact (BoxN.new _ _ _).alloc _
  have hzb : BoxN W (w.heap.size + 1) 103 #[.slice none 0 0, .slice none 0 0, .slice none 0 0, .slice none 0 0, .slice none 0 0, .slice none 0 0, .slice none 0 0, .string ⟨#[]⟩, .int .i64 0, .int .i64 0, .bool false] := by rw [← hW]; exact BoxN.new' _ _ _ _ (by simp)
  have hbb : Below W0.heap.size W0 W := by rw [← hW]; exact act_boxes hbW _ _ _
  have hwW : Below w.heap.size w W := by rw [← hW]; exact ((Below.refl _ _).alloc (Nat.le_refl _) _).alloc (by simp) _
  have hownW := hown.next hwW
  have Hlt := Lib.hid (show ∀ g, (Value.slice A 3 c).ownBlock = some g → g < w.heap.size from fun g e => ((show w.ownsRow W0.heap.size 3 1 (.slice A 3 c) (castL [l0, l1, l2]).length ((castL [l0, l1, l2]).map (.int .i64)) from hown).lt g e).2)
  have HO := Lib.hid hownW
  have x10 := hxb.cell (k := 10) rfl
  have hs0 : W0.heap.size ≤ w.heap.size := hbW.size
  have HX := Lib.hid hxb
  have HZ := Lib.hid hzb
  have HB := Lib.hid hbb
  have Hs := Lib.hid (show w.heap.size + 1 < W.heap.size from hzb.lt)
  have Hs0 := Lib.hid hbW.size
  have hs1 : W0.heap.size ≤ W.heap.size := hbb.size
  have hl40 : (castL [l0, l1, l2]).length < 2 ^ 40 := by rw [length_castL]; simp
  have hlen7 : (castL [l0, l1, l2] ++ [0]).length = 4 := rfl
  clear hxb hzb hbb hwW hownW hbW hown hR hrt
  go_enter Tryz.func66, Tryz.ntmps66
  go_wp2_with (at_builtin; refine wpList_push_int rfl _ _ rfl rfl (HO.out.next ((Below.refl _ _).alloc (Nat.le_refl _) _)) _ (0 : Int) rfl (cell_of_row _ _ 0 _ _ _ (heap_alloc_new _ _)) hl40 (by simp; omega) ?_; intro u1 w7 hown7 hgr7 hblk7 hbl7; obtain ⟨A7, k7, rfl, hi7⟩ := hown7.form; rw [hlen7])
  clear hW HO x10
  have hL3 : castL [l0, l1, l2] ++ [0] = [(l0 : Int), (l1 : Int), (l2 : Int), 0] := rfl
  rw [hL3] at hi7
  obtain ⟨g7, o7, rfl, hc7⟩ := hi7 (by simp)
  have e0 := hc7 0 _ rfl
  have e1 := hc7 1 _ rfl
  have e2 := hc7 2 _ rfl
  rw [Nat.add_zero] at e0
  have hXa := HX.out.alloc (.cells #[.int .i64 0] 3)
  have hZa := HZ.out.alloc (.cells #[.int .i64 0] 3)
  have hX7 : BoxN w7 w.heap.size 103 #[.slice a1 m c1, .slice a2 n c2, .slice b1 k1 d1, .slice b2 k2 d2, .slice b3 k3 d3, .slice b4 k4 d4, .slice b5 k5 d5, .string ts, .int .i64 mn, .int .i64 ch, .bool true] := (hgr7.block _ hXa.lt (fun e => by have := Hlt.out _ e.symm; omega)).trans hXa
  have hZ7 : BoxN w7 (w.heap.size + 1) 103 #[.slice none 0 0, .slice none 0 0, .slice none 0 0, .slice none 0 0, .slice none 0 0, .slice none 0 0, .slice none 0 0, .string ⟨#[]⟩, .int .i64 0, .int .i64 0, .bool false] := (hgr7.block _ hZa.lt (fun e => by have := Hlt.out _ e.symm; omega)).trans hZa
  have hb7 := hbl7 W0 (HB.out.alloc hs1 _)
  have hr7 : RT (fun g => ok g ∧ g < W0.heap.size) w7 (.agg #[.slice b1 k1 d1, .slice b2 k2 d2, .slice b3 k3 d3, .slice b4 k4 d4, .slice b5 k5 d5, .string ts, .int .i64 mn, .int .i64 ch]) D.U D.F T := (hrT.to (w' := W0) (ok' := fun g => ok g ∧ g < W0.heap.size) (fun _ _ _ => rfl) (fun g hg ho => ⟨ho, hg⟩)).below hb7
  have hs7 : W.heap.size < w7.heap.size := by have := hgr7.size; simp at this; omega
  obtain ⟨⟨x0, x1, x2, x3, x4, x5, x6, x7, x8, x9, x10⟩, -⟩ := BoxN.st11 hX7
  have HR7 := Lib.hid hr7
  have HX7 := Lib.hid hX7
  have HZ7 := Lib.hid hZ7
  have Hb7 := Lib.hid hb7
  have Hs7 := Lib.hid hs7
  have CQ := Lib.hid (fun V (hV : Below w7.heap.size w7 V) => (RTAsk_any (ok := fun g => (ok g ∧ g < W0.heap.size) ∨ V.heap.size ≤ g) ((HR7.out.below hV).to (w' := V) (fun _ _ _ => rfl) (fun g _ hg => .inl hg)) hl.inv (fun i hi => hD.oU i (by have := hl.re; omega)) (fun i hi => hD.oF i (by have := hl.ho; omega)) (by rw [hl.re]; exact hD.lU) (by rw [hl.ho]; exact hD.lF) (fun g hg => .inr hg) 3 (l0 : Int) (l1 : Int) (l2 : Int)).mono fun e w' ⟨he, hb⟩ => (⟨he, hV.trans (hb.mono hV.size), hb⟩ : _ ∧ Below w7.heap.size w7 w' ∧ Below V.heap.size V w'))
  have HDA := Lib.hid (show dAsk D T 3 [l0, l1, l2] = ({ D with T := some (tAsk D.U D.F T 3 (l0 : Int) (l1 : Int) (l2 : Int)).1 }, toldE (tAsk D.U D.F T 3 (l0 : Int) (l1 : Int) (l2 : Int)).2) from rfl)
  obtain ⟨r, hr⟩ : ∃ r, tAsk D.U D.F T 3 (l0 : Int) (l1 : Int) (l2 : Int) = r := ⟨_, rfl⟩
  rw [hr] at CQ HDA
  obtain ⟨T1, code⟩ := r
  have hgl := block_lt e0
  have hbA : Below w7.heap.size w7 w7.drew := (Below.refl _ _).drew
  have hbB : Below w7.heap.size w7 ((w7.alloc (.cells #[.slice none 0 0, .slice none 0 0, .slice none 0 0, .slice none 0 0, .slice none 0 0, .string ⟨#[]⟩, .int .i64 0, .int .i64 0] 101)).drew) := ((Below.refl _ _).alloc (Nat.le_refl _) _).drew
  have hZn : BoxN ((w7.alloc (.cells #[.slice none 0 0, .slice none 0 0, .slice none 0 0, .slice none 0 0, .slice none 0 0, .string ⟨#[]⟩, .int .i64 0, .int .i64 0] 101)).drew) w7.heap.size 101 #[.slice none 0 0, .slice none 0 0, .slice none 0 0, .slice none 0 0, .slice none 0 0, .string ⟨#[]⟩, .int .i64 0, .int .i64 0] := (BoxN.new w7 _ _).drew
  have hXl := hX7.lt
  have hKeep := Lib.hid (fun V (hV : Below w7.heap.size w7 V) => (⟨(hV.cell (p := ⟨w.heap.size, 2, none⟩) hXl).trans x2, (hV.cell (p := ⟨w.heap.size, 3, none⟩) hXl).trans x3, (hV.cell (p := ⟨w.heap.size, 4, none⟩) hXl).trans x4, (hV.cell (p := ⟨w.heap.size, 5, none⟩) hXl).trans x5, (hV.cell (p := ⟨w.heap.size, 6, none⟩) hXl).trans x6, (hV.cell (p := ⟨w.heap.size, 7, none⟩) hXl).trans x7, (hV.cell (p := ⟨w.heap.size, 8, none⟩) hXl).trans x8, (hV.cell (p := ⟨w.heap.size, 9, none⟩) hXl).trans x9, (hV.cell (p := ⟨g7, o7, none⟩) hgl).trans e0, (hV.cell (p := ⟨g7, o7 + 1, none⟩) hgl).trans e1, (hV.cell (p := ⟨g7, o7 + 2, none⟩) hgl).trans e2⟩ : V.cell? ⟨w.heap.size, 2, none⟩ = some (.slice b1 k1 d1) ∧ V.cell? ⟨w.heap.size, 3, none⟩ = some (.slice b2 k2 d2) ∧ V.cell? ⟨w.heap.size, 4, none⟩ = some (.slice b3 k3 d3) ∧ V.cell? ⟨w.heap.size, 5, none⟩ = some (.slice b4 k4 d4) ∧ V.cell? ⟨w.heap.size, 6, none⟩ = some (.slice b5 k5 d5) ∧ V.cell? ⟨w.heap.size, 7, none⟩ = some (.string ts) ∧ V.cell? ⟨w.heap.size, 8, none⟩ = some (.int .i64 mn) ∧ V.cell? ⟨w.heap.size, 9, none⟩ = some (.int .i64 ch) ∧ V.cell? ⟨g7, o7, none⟩ = some (.int .i64 (l0 : Int)) ∧ V.cell? ⟨g7, o7 + 1, none⟩ = some (.int .i64 (l1 : Int)) ∧ V.cell? ⟨g7, o7 + 2, none⟩ = some (.int .i64 (l2 : Int))))
  clear hr7 hX7 hZ7 hb7 hs7 hXa hZa hgr7 hbl7 hblk7 hown7 hi7 hc7 hr hL3 hlen7 hrT
  go_cut [16, 17] from 18 (fun x16 x17 wx => ∃ (xc : Nat) (vs : Array Value), x16 = .pointer (some ⟨xc, 0, none⟩) ∧ x17 = .int .i64 code ∧ BoxN wx xc 101 vs ∧ RT (fun g => (ok g ∧ g < W0.heap.size) ∨ w7.heap.size ≤ g) wx (.agg vs) D.U D.F T1 ∧ Below w7.heap.size w7 wx)
  case first =>
    go_region_held3 (fun V => V.cell? ⟨w.heap.size, 2, none⟩ = some (.slice b1 k1 d1) ∧ V.cell? ⟨w.heap.size, 3, none⟩ = some (.slice b2 k2 d2) ∧ V.cell? ⟨w.heap.size, 4, none⟩ = some (.slice b3 k3 d3) ∧ V.cell? ⟨w.heap.size, 5, none⟩ = some (.slice b4 k4 d4) ∧ V.cell? ⟨w.heap.size, 6, none⟩ = some (.slice b5 k5 d5) ∧ V.cell? ⟨w.heap.size, 7, none⟩ = some (.string ts) ∧ V.cell? ⟨w.heap.size, 8, none⟩ = some (.int .i64 mn) ∧ V.cell? ⟨w.heap.size, 9, none⟩ = some (.int .i64 ch) ∧ V.cell? ⟨g7, o7, none⟩ = some (.int .i64 (l0 : Int)) ∧ V.cell? ⟨g7, o7 + 1, none⟩ = some (.int .i64 (l1 : Int)) ∧ V.cell? ⟨g7, o7 + 2, none⟩ = some (.int .i64 (l2 : Int)))
      ((refine hKeep.out _ ?_; repeat (first | with_reducible assumption | with_reducible exact hbA | with_reducible exact hbB | with_reducible refine Below.setCell ?_ (by simp) _ | with_reducible refine Below.alloc ?_ (by first | exact Nat.le_refl _ | exact Below.size (by assumption)) _ | with_reducible refine Below.drew ?_)))
      ((go_at_call 98; with_reducible refine (CQ.out _ (by first | with_reducible exact hbA | with_reducible exact hbB)).mono ?_; rintro e w6 ⟨⟨v', rfl, hR6⟩, hb6, hbv⟩; obtain ⟨s1, s2, s3, s4, s5, q1, e1, q2, e2, q3, e3, q4, e4, q5, e5, us, mu, cu, hv6⟩ := hR6.shape; subst hv6; try (have hz6 := BoxN.all hZn hbv; obtain ⟨⟨z0, z1, z2, z3, z4, z5, z6, z7⟩, fz0, fz1, fz2, fz3, fz4, fz5, fz6, fz7⟩ := BoxN.st8 hz6)))
    all_goals (go_wp2_with fail; go_meet)
    · exact ⟨w6.heap.size, _, rfl, rfl, BoxN.new _ _ _, (hR6.to (w' := w6) (fun _ _ _ => rfl) (fun g _ ho => by rcases ho with h | h; exact .inl h; exact .inr (by simp at h; omega))).below ((Below.refl _ _).alloc (Nat.le_refl _) _), hb6.alloc hb6.size _⟩
    · exact ⟨w7.heap.size, _, rfl, rfl, hz6.put8 _ _ _ _ _ _ _ _, hR6.to (fun g hg _ => put8_block (by have h2 := Hs.out; have h3 := Hs7.out; have h4 := Hs0.out; rcases hg with ⟨_, h⟩ | h; omega; (simp at h; omega)) _ _ _ _ _ _ _ _) (fun g _ ho => by rcases ho with h | h; exact .inl h; exact .inr (by simp at h; omega)), below_put8 hb6 (Nat.le_refl _) _ _ _ _ _ _ _ _⟩
  case rest =>
    obtain ⟨xc, vs, rfl, rfl, hC, hR6, hb6⟩ := hcut
    obtain ⟨wx, rfl⟩ := nameW hC
    clear CQ hbA hbB hZn hKeep x0 x1 x2 x3 x4 x5 x6 x7 x8 x9 x10 e0 e1 e2 hXl hgl
    obtain ⟨s1, s2, s3, s4, s5, q1, e1, q2, e2, q3, e3, q4, e4, q5, e5, us, mu, cu, hv6⟩ := hR6.shape
    injection hv6 with hv6
    subst hv6
    have hX6 := HX7.out.all hb6
    have hZ6 := HZ7.out.all hb6
    have hB6 := Hb7.out.trans (hb6.mono Hb7.out.size)
    obtain ⟨⟨y0, y1, y2, y3, y4, y5, y6, y7⟩, -⟩ := BoxN.st8 hC
    obtain ⟨⟨x0, x1, x2, x3, x4, x5, x6, x7, x8, x9, x10⟩, f0, f1, f2, f3, f4, f5, f6, f7, f8, f9, f10⟩ := BoxN.st11 hX6
    have hwW2 : w.heap.size < W.heap.size := by have := Hs.out; omega
    have hws : W0.heap.size ≤ w.heap.size := Hs0.out
    have HR8 := Lib.hid (hR6.to (ok' := fun g => (ok g ∧ g < W0.heap.size) ∨ w7.heap.size ≤ g) (w' := ((((((((wx.setCell ⟨w.heap.size, 2, none⟩ (.slice s1 q1 e1)).setCell ⟨w.heap.size, 3, none⟩ (.slice s2 q2 e2)).setCell ⟨w.heap.size, 4, none⟩ (.slice s3 q3 e3)).setCell ⟨w.heap.size, 5, none⟩ (.slice s4 q4 e4)).setCell ⟨w.heap.size, 6, none⟩ (.slice s5 q5 e5)).setCell ⟨w.heap.size, 7, none⟩ (.string us)).setCell ⟨w.heap.size, 8, none⟩ (.int .i64 mu)).setCell ⟨w.heap.size, 9, none⟩ (.int .i64 cu))) (fun x hx _ => heap_put8k (V := wx) (g := w.heap.size) (b := x) (.slice s1 q1 e1) (.slice s2 q2 e2) (.slice s3 q3 e3) (.slice s4 q4 e4) (.slice s5 q5 e5) (.string us) (.int .i64 mu) (.int .i64 cu) (by have h7 := Hs7.out; have h9 : (ok x ∧ x < W0.heap.size) ∨ w7.heap.size ≤ x := hx; have h10 := Hs0.out; rcases h9 with ⟨_, h9⟩ | h9 <;> omega)) (fun g _ ho => ho))
    have HX8 := Lib.hid (hX6.put8k (.slice s1 q1 e1) (.slice s2 q2 e2) (.slice s3 q3 e3) (.slice s4 q4 e4) (.slice s5 q5 e5) (.string us) (.int .i64 mu) (.int .i64 cu))
    have HZ8 := Lib.hid (show BoxN ((((((((wx.setCell ⟨w.heap.size, 2, none⟩ (.slice s1 q1 e1)).setCell ⟨w.heap.size, 3, none⟩ (.slice s2 q2 e2)).setCell ⟨w.heap.size, 4, none⟩ (.slice s3 q3 e3)).setCell ⟨w.heap.size, 5, none⟩ (.slice s4 q4 e4)).setCell ⟨w.heap.size, 6, none⟩ (.slice s5 q5 e5)).setCell ⟨w.heap.size, 7, none⟩ (.string us)).setCell ⟨w.heap.size, 8, none⟩ (.int .i64 mu)).setCell ⟨w.heap.size, 9, none⟩ (.int .i64 cu)) (w.heap.size + 1) 103 #[.slice none 0 0, .slice none 0 0, .slice none 0 0, .slice none 0 0, .slice none 0 0, .slice none 0 0, .slice none 0 0, .string ⟨#[]⟩, .int .i64 0, .int .i64 0, .bool false] from (heap_put8k (V := wx) (g := w.heap.size) (b := w.heap.size + 1) (.slice s1 q1 e1) (.slice s2 q2 e2) (.slice s3 q3 e3) (.slice s4 q4 e4) (.slice s5 q5 e5) (.string us) (.int .i64 mu) (.int .i64 cu) (by omega)).trans hZ6)
    have HB8 := Lib.hid (below_put8k hB6 hws (.slice s1 q1 e1) (.slice s2 q2 e2) (.slice s3 q3 e3) (.slice s4 q4 e4) (.slice s5 q5 e5) (.string us) (.int .i64 mu) (.int .i64 cu))
    clear hX6 hZ6 hB6 hR6 hC hb6
    go_wp2_with fail
    obtain ⟨w9, hw9⟩ : ∃ w9, ((((((((wx.setCell ⟨w.heap.size, 2, none⟩ (.slice s1 q1 e1)).setCell ⟨w.heap.size, 3, none⟩ (.slice s2 q2 e2)).setCell ⟨w.heap.size, 4, none⟩ (.slice s3 q3 e3)).setCell ⟨w.heap.size, 5, none⟩ (.slice s4 q4 e4)).setCell ⟨w.heap.size, 6, none⟩ (.slice s5 q5 e5)).setCell ⟨w.heap.size, 7, none⟩ (.string us)).setCell ⟨w.heap.size, 8, none⟩ (.int .i64 mu)).setCell ⟨w.heap.size, 9, none⟩ (.int .i64 cu)) = w9 := ⟨_, rfl⟩
    rw [hw9] at HR8 HX8 HZ8 HB8
    try rw [hw9]
    clear hw9 x0 x1 x2 x3 x4 x5 x6 x7 x8 x9 x10 f0 f1 f2 f3 f4 f5 f6 f7 f8 f9 f10 y0 y1 y2 y3 y4 y5 y6 y7
    obtain ⟨⟨x0, x1, x2, x3, x4, x5, x6, x7, x8, x9, x10⟩, -⟩ := BoxN.st11 HX8.out
    obtain ⟨⟨z0, z1, z2, z3, z4, z5, z6, z7, z8, z9, z10⟩, f0, f1, f2, f3, f4, f5, f6, f7, f8, f9, f10⟩ := BoxN.st11 HZ8.out
    have HC := Lib.hid (RCalled_any code w9.drew)
    have HSt := Lib.hid (fun (y0 y1 y2 y3 y4 y5 y6 y7 y8 y9 y10 : Value) => And.intro (cell_put11 (V := w9) (g := w.heap.size + 1) y0 y1 y2 y3 y4 y5 y6 y7 y8 y9 y10 (by show w.heap.size ≠ _; omega) x0) (And.intro (cell_put11 (V := w9) (g := w.heap.size + 1) y0 y1 y2 y3 y4 y5 y6 y7 y8 y9 y10 (by show w.heap.size ≠ _; omega) x1) (And.intro (cell_put11 (V := w9) (g := w.heap.size + 1) y0 y1 y2 y3 y4 y5 y6 y7 y8 y9 y10 (by show w.heap.size ≠ _; omega) x2) (And.intro (cell_put11 (V := w9) (g := w.heap.size + 1) y0 y1 y2 y3 y4 y5 y6 y7 y8 y9 y10 (by show w.heap.size ≠ _; omega) x3) (And.intro (cell_put11 (V := w9) (g := w.heap.size + 1) y0 y1 y2 y3 y4 y5 y6 y7 y8 y9 y10 (by show w.heap.size ≠ _; omega) x4) (And.intro (cell_put11 (V := w9) (g := w.heap.size + 1) y0 y1 y2 y3 y4 y5 y6 y7 y8 y9 y10 (by show w.heap.size ≠ _; omega) x5) (And.intro (cell_put11 (V := w9) (g := w.heap.size + 1) y0 y1 y2 y3 y4 y5 y6 y7 y8 y9 y10 (by show w.heap.size ≠ _; omega) x6) (And.intro (cell_put11 (V := w9) (g := w.heap.size + 1) y0 y1 y2 y3 y4 y5 y6 y7 y8 y9 y10 (by show w.heap.size ≠ _; omega) x7) (And.intro (cell_put11 (V := w9) (g := w.heap.size + 1) y0 y1 y2 y3 y4 y5 y6 y7 y8 y9 y10 (by show w.heap.size ≠ _; omega) x8) (And.intro (cell_put11 (V := w9) (g := w.heap.size + 1) y0 y1 y2 y3 y4 y5 y6 y7 y8 y9 y10 (by show w.heap.size ≠ _; omega) x9) (cell_put11 (V := w9) (g := w.heap.size + 1) y0 y1 y2 y3 y4 y5 y6 y7 y8 y9 y10 (by show w.heap.size ≠ _; omega) x10)))))))))))
    have HSd := Lib.hid (show w9.drew.cell? ⟨w.heap.size, 0, none⟩ = some (.slice a1 m c1) ∧ w9.drew.cell? ⟨w.heap.size, 1, none⟩ = some (.slice a2 n c2) ∧ w9.drew.cell? ⟨w.heap.size, 2, none⟩ = some (.slice s1 q1 e1) ∧ w9.drew.cell? ⟨w.heap.size, 3, none⟩ = some (.slice s2 q2 e2) ∧ w9.drew.cell? ⟨w.heap.size, 4, none⟩ = some (.slice s3 q3 e3) ∧ w9.drew.cell? ⟨w.heap.size, 5, none⟩ = some (.slice s4 q4 e4) ∧ w9.drew.cell? ⟨w.heap.size, 6, none⟩ = some (.slice s5 q5 e5) ∧ w9.drew.cell? ⟨w.heap.size, 7, none⟩ = some (.string us) ∧ w9.drew.cell? ⟨w.heap.size, 8, none⟩ = some (.int .i64 mu) ∧ w9.drew.cell? ⟨w.heap.size, 9, none⟩ = some (.int .i64 cu) ∧ w9.drew.cell? ⟨w.heap.size, 10, none⟩ = some (.bool true) from ⟨x0, x1, x2, x3, x4, x5, x6, x7, x8, x9, x10⟩)
    have Hbf := Lib.hid (fun y0 y1 y2 y3 y4 y5 y6 y7 y8 y9 y10 => drew_belowD (below_put11 HB8.out (g := w.heap.size + 1) (by omega) y0 y1 y2 y3 y4 y5 y6 y7 y8 y9 y10))
    have HRf := Lib.hid (fun y0 y1 y2 y3 y4 y5 y6 y7 y8 y9 y10 => HR8.out.to (ok' := ok) (w' := (((((((((((w9.setCell ⟨w.heap.size + 1, 0, none⟩ y0).setCell ⟨w.heap.size + 1, 1, none⟩ y1).setCell ⟨w.heap.size + 1, 2, none⟩ y2).setCell ⟨w.heap.size + 1, 3, none⟩ y3).setCell ⟨w.heap.size + 1, 4, none⟩ y4).setCell ⟨w.heap.size + 1, 5, none⟩ y5).setCell ⟨w.heap.size + 1, 6, none⟩ y6).setCell ⟨w.heap.size + 1, 7, none⟩ y7).setCell ⟨w.heap.size + 1, 8, none⟩ y8).setCell ⟨w.heap.size + 1, 9, none⟩ y9).setCell ⟨w.heap.size + 1, 10, none⟩ y10).drew) (fun x hx _ => (congrArg (fun (h : Array Obj) => h[x]?) (drew_heapD _)).trans (heap_put11 (V := w9) (g := w.heap.size + 1) (b := x) y0 y1 y2 y3 y4 y5 y6 y7 y8 y9 y10 (by have h7 := Hs7.out; have h8 := Hs.out; have h9 : (ok x ∧ x < W0.heap.size) ∨ w7.heap.size ≤ x := hx; have h10 := Hs0.out; rcases h9 with ⟨_, h9⟩ | h9 <;> omega))) (fun g _ ho => by have h7 := Hs7.out; have h10 := Hs.out; rcases ho with ⟨h, _⟩ | h; exact h; exact hok g (by omega)))
    go_region_held3 (fun V => V.cell? ⟨w.heap.size, 0, none⟩ = some (.slice a1 m c1) ∧ V.cell? ⟨w.heap.size, 1, none⟩ = some (.slice a2 n c2) ∧ V.cell? ⟨w.heap.size, 2, none⟩ = some (.slice s1 q1 e1) ∧ V.cell? ⟨w.heap.size, 3, none⟩ = some (.slice s2 q2 e2) ∧ V.cell? ⟨w.heap.size, 4, none⟩ = some (.slice s3 q3 e3) ∧ V.cell? ⟨w.heap.size, 5, none⟩ = some (.slice s4 q4 e4) ∧ V.cell? ⟨w.heap.size, 6, none⟩ = some (.slice s5 q5 e5) ∧ V.cell? ⟨w.heap.size, 7, none⟩ = some (.string us) ∧ V.cell? ⟨w.heap.size, 8, none⟩ = some (.int .i64 mu) ∧ V.cell? ⟨w.heap.size, 9, none⟩ = some (.int .i64 cu) ∧ V.cell? ⟨w.heap.size, 10, none⟩ = some (.bool true))
      ((first | with_reducible exact HSd.out | exact HSt.out _ _ _ _ _ _ _ _ _ _ _))
      ((first
        | (go_at_call 64; with_reducible refine HC.out.mono ?_; rintro e w' ⟨rfl, rfl⟩)
        | fail))
    go_wp2_with fail
    refine bodyPost_ret (results_row_tmpD rfl _ _ (w.heap.size + 1) 103 #[.slice a1 m c1, .slice a2 n c2, .slice s1 q1 e1, .slice s2 q2 e2, .slice s3 q3 e3, .slice s4 q4 e4, .slice s5 q5 e5, .string us, .int .i64 mu, .int .i64 cu, .bool true] (0, 0) _ rfl (drew_boxD (HZ8.out.put11 _ _ _ _ _ _ _ _ _ _ _)) Tryz.underlying103 rfl (by kernel_rfl)) rfl ?_
    rw [HDA.out]
    exact ⟨⟨_, rfl, ⟨a1, a2, c1, c2, s1, s2, s3, s4, s5, q1, e1, q2, e2, q3, e3, q4, e4, q5, e5, us, mu, cu, by rw [Hm.out, Hn.out]; rfl, IU.out.below (Hbf.out _ _ _ _ _ _ _ _ _ _ _), IF.out.below (Hbf.out _ _ _ _ _ _ _ _ _ _ _), fun T2 h2 => by injection h2 with h2; subst h2; exact HRf.out _ _ _ _ _ _ _ _ _ _ _⟩⟩, Hbf.out _ _ _ _ _ _ _ _ _ _ _⟩
end
end Go.Proofs.YtanlmfnhlldkeaaGreatDoor
