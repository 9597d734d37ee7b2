/-
  Contract: quietwingref5.act, where the power goes.
-/
import Derived.Test.YtanlmfnhlldkeaaGreatDoorRDsE
import Derived.Test.YtanlmfnhlldkeaaGreatDoorROpenB
namespace Go.Proofs.YtanlmfnhlldkeaaGreatDoor
open Go.RowKit
set_option maxRecDepth 100000
set_option linter.unusedVariables false

theorem IntsAt.has {w : World} {A : Option Addr} {l : List Int} {b off : Nat} (h : IntsAt w A l) (e : A = some ⟨b, off, none⟩) (hl : l ≠ []) : b < w.heap.size := by
  obtain ⟨b', off', e', hc⟩ := h hl
  rw [e] at e'
  injection e' with e'
  injection e' with e1 e2
  subst e1
  cases l with
  | nil => exact absurd rfl hl
  | cons x r => exact block_lt (hc 0 x rfl)
section
variable {ok : Nat → Prop} {W0 w : World} {D : DS} {T : TS} {a1 a2 : Option Addr} {c1 c2 m n : Nat} {b1 b2 b3 b4 b5 : Option Addr} {k1 d1 k2 d2 k3 d3 k4 d4 k5 d5 : Nat} {ts : ByteArray} {mn ch : Int}
set_option maxHeartbeats 16000000 in
theorem actCrash_far (hok : ∀ g, W0.heap.size ≤ g → ok g) (hD : DOk D) (hR : RDAt ok W0 (.agg #[.slice a1 m c1, .slice a2 n c2, .slice b1 k1 d1, .slice b2 k2 d2, .slice b3 k3 d3, .slice b4 k4 d4, .slice b5 k5 d5, .string ts, .int .i64 mn, .int .i64 ch, .bool true]) D) (hT : D.T = some T) (hbW : Below W0.heap.size W0 w) (s : ByteArray) {g o c k : Nat} (hx : w.cell? ⟨g, o, none⟩ = some (.int .i64 (k : Int))) (hk : T.log.length < k) :
    Calls Tryz.prog 66 #[.agg #[.slice a1 m c1, .slice a2 n c2, .slice b1 k1 d1, .slice b2 k2 d2, .slice b3 k3 d3, .slice b4 k4 d4, .slice b5 k5 d5, .string ts, .int .i64 mn, .int .i64 ch, .bool true], .string s, .string ⟨#[99, 114, 97, 115, 104]⟩, .slice (some ⟨g, o, none⟩) 1 c] w fun e w' => RDPost ok W0 (dCrash D T k) e w' := by
  obtain ⟨⟨hm, hn, -⟩, iU, iF, hrt⟩ := hR.opened
  have hl := hD.tlen hT
  obtain ⟨⟨-, -, -, -, -, h6, -, -⟩, -, -, -⟩ := (hrt T hT).vals
  obtain ⟨T1, cnt, he, hrc, hfull, hcl⟩ := (hD.tr T hT).torn hD.m8 hD.n8 k
  have hlog : T.log.length ≤ 100000 := by have := hl.inv.log; have := hl.inv.many; omega
  have hsz : ts.size = T.log.length := by rw [h6, ba_size]
  have HDC := Lib.hid (show dCrash D T k = ({ D with T := some T1 }, foundL ++ Lib.itoa (cnt : Int)) by
    unfold dCrash
    rw [he]
    rfl)
  have hex : ts.data.toList = T.log.take k := by
    rw [h6, List.take_of_length_le (Nat.le_of_lt hk)]
  have hesz : ts.size ≤ 2000000 := by
    rw [ba_size, hex]
    have := List.length_take_le k T.log
    have := List.length_take (i := k) (l := T.log)
    omega
  have dk : decide ((k : Int) > (ts.size : Int)) = true := by rw [hsz]; simp; omega
  have dk2 : decide (ts.size < k) = true := by rw [hsz]; simp; omega
  have hkn : ((ts.size : Nat) : Int) ≤ (ts.size : Int) := by omega
  have hkn2 : ts.size ≤ ts.size := by omega
  obtain ⟨W, hW⟩ : ∃ W, (w.alloc (.cells #[.slice a1 m c1, .slice a2 n c2, .slice b1 k1 d1, .slice b2 k2 d2, .slice b3 k3 d3, .slice b4 k4 d4, .slice b5 k5 d5, .string ts, .int .i64 mn, .int .i64 ch, .bool true] 103)).alloc (.cells #[.slice none 0 0, .slice none 0 0, .slice none 0 0, .slice none 0 0, .slice none 0 0, .slice none 0 0, .slice none 0 0, .string ⟨#[]⟩, .int .i64 0, .int .i64 0, .bool false] 103) = W := ⟨_, rfl⟩
  have hxb : BoxN W w.heap.size 103 #[.slice a1 m c1, .slice a2 n c2, .slice b1 k1 d1, .slice b2 k2 d2, .slice b3 k3 d3, .slice b4 k4 d4, .slice b5 k5 d5, .string ts, .int .i64 mn, .int .i64 ch, .bool true] := by rw [← hW]; exact (BoxN.new _ _ _).alloc _
  have hzb : BoxN W (w.heap.size + 1) 103 #[.slice none 0 0, .slice none 0 0, .slice none 0 0, .slice none 0 0, .slice none 0 0, .slice none 0 0, .slice none 0 0, .string ⟨#[]⟩, .int .i64 0, .int .i64 0, .bool false] := by rw [← hW]; exact BoxN.new' _ _ _ _ (by simp)
  have hbb : Below W0.heap.size W0 W := by rw [← hW]; exact act_boxes hbW _ _ _
  have hwW : Below w.heap.size w W := by rw [← hW]; exact ((Below.refl _ _).alloc (Nat.le_refl _) _).alloc (by simp) _
  have hx' := (hwW.cell (p := ⟨g, o, none⟩) (block_lt hx)).trans hx
  have hmU : D.U.length = m * 2 := by rw [hm]; exact hD.lU
  have hnF : D.F.length = n * 2 := by rw [hn]; exact hD.lF
  have hs0 : W0.heap.size ≤ w.heap.size := hbW.size
  have Hs := Lib.hid (show w.heap.size + 1 < W.heap.size from hzb.lt)
  have CO : Hid (∀ V, Below W.heap.size W V → Calls Tryz.prog 63 #[.slice a1 m c1, .slice a2 n c2, .string ts] V fun e w' => (∃ v', e = .returned (.tuple #[v', .int .i64 (cnt : Int), .int .i64 0]) ∧ RT (fun g => (ok g ∧ g < W0.heap.size) ∨ V.heap.size ≤ g) w' v' D.U D.F T1) ∧ Below W.heap.size W w' ∧ Below V.heap.size V w') := Lib.hid (fun V hV => by
    refine (ROpen_in (ok0 := fun g => (ok g ∧ g < W0.heap.size) ∨ V.heap.size ≤ g) D.U D.F m n hmU hnF a1 a2 c1 c2 ts hesz V ((iU.1.below hbb).below hV) ((iF.1.below hbb).below hV) (by rw [hm]; exact hD.labs.1) (by rw [hn]; exact hD.labs.2) (fun b off e hne => .inl ⟨iU.2 b off e hne, iU.1.has e hne⟩) (fun b off e hne => .inl ⟨iF.2 b off e hne, iF.1.has e hne⟩) (fun b hb => .inr hb)).mono ?_
    rintro e w' ⟨⟨v', h1, h2, -⟩, hb⟩
    rw [hex, hm, hn, he] at h1 h2
    exact ⟨⟨v', h1, h2 rfl⟩, hV.trans (hb.mono hV.size), hb⟩)
  obtain ⟨⟨x0, x1, x2, x3, x4, x5, x6, x7, x8, x9, x10⟩, -⟩ := BoxN.st11 hxb
  have HX := Lib.hid hxb
  have HZ := Lib.hid hzb
  have HB := Lib.hid hbb
  have Hm := Lib.hid hm
  have Hn := Lib.hid hn
  have IU := Lib.hid iU
  have IF := Lib.hid iF
  have hXl := hxb.lt
  have hcnt : cnt ≤ 100000 := by omega
  have hbA : Below W.heap.size W W.drew := (Below.refl _ _).drew
  have hbB : Below W.heap.size W ((W.alloc (.cells #[.slice none 0 0, .slice none 0 0, .slice none 0 0, .slice none 0 0, .slice none 0 0, .string ⟨#[]⟩, .int .i64 0, .int .i64 0] 101)).drew) := ((Below.refl _ _).alloc (Nat.le_refl _) _).drew
  have hZn : BoxN ((W.alloc (.cells #[.slice none 0 0, .slice none 0 0, .slice none 0 0, .slice none 0 0, .slice none 0 0, .string ⟨#[]⟩, .int .i64 0, .int .i64 0] 101)).drew) W.heap.size 101 #[.slice none 0 0, .slice none 0 0, .slice none 0 0, .slice none 0 0, .slice none 0 0, .string ⟨#[]⟩, .int .i64 0, .int .i64 0] := (BoxN.new W _ _).drew
  have hKeep := Lib.hid (fun V (hV : Below W.heap.size W V) => (⟨(hV.cell (p := ⟨w.heap.size, 0, none⟩) hXl).trans x0, (hV.cell (p := ⟨w.heap.size, 1, none⟩) hXl).trans x1, (hV.cell (p := ⟨w.heap.size, 7, none⟩) hXl).trans x7⟩ : V.cell? ⟨w.heap.size, 0, none⟩ = some (.slice a1 m c1) ∧ V.cell? ⟨w.heap.size, 1, none⟩ = some (.slice a2 n c2) ∧ V.cell? ⟨w.heap.size, 7, none⟩ = some (.string ts)))
  clear hxb hzb hbb hwW hbW hR hrt hm hn iU iF hl h6 he hrc hfull hcl hlog hsz hex hesz hmU hnF hT hx hk
  go_enter Tryz.func66, Tryz.ntmps66
  go_wp2_with fail
  try rw [hW]
  clear hW
  go_cut [13, 14, 15] from 18 (fun x13 x14 x15 wx => ∃ (xc : Nat) (vs : Array Value), x13 = .pointer (some ⟨xc, 0, none⟩) ∧ x14 = .int .i64 (cnt : Int) ∧ x15 = .int .i64 0 ∧ BoxN wx xc 101 vs ∧ RT (fun g => (ok g ∧ g < W0.heap.size) ∨ W.heap.size ≤ g) wx (.agg vs) D.U D.F T1 ∧ Below W.heap.size W wx)
  case first =>
    go_region_held3 (fun V => V.cell? ⟨w.heap.size, 0, none⟩ = some (.slice a1 m c1) ∧ V.cell? ⟨w.heap.size, 1, none⟩ = some (.slice a2 n c2) ∧ V.cell? ⟨w.heap.size, 7, none⟩ = some (.string ts))
      ((refine hKeep.out _ ?_; repeat (first | with_reducible assumption | with_reducible exact hbA | with_reducible exact hbB | with_reducible refine Below.setCell ?_ (by simp) _ | with_reducible refine Below.alloc ?_ (by first | exact Nat.le_refl _ | exact Below.size (by assumption)) _ | with_reducible refine Below.drew ?_)))
      ((go_at_call 63; with_reducible refine (CO.out _ (by first | with_reducible exact hbA | with_reducible exact hbB)).mono ?_; rintro e w6 ⟨⟨v', rfl, hR6⟩, hb6, hbv⟩; obtain ⟨s1, s2, s3, s4, s5, q1, e1, q2, e2, q3, e3, q4, e4, q5, e5, us, mu, cu, hv6⟩ := hR6.shape; subst hv6; try (have hz6 := BoxN.all hZn hbv; obtain ⟨⟨z0, z1, z2, z3, z4, z5, z6, z7⟩, fz0, fz1, fz2, fz3, fz4, fz5, fz6, fz7⟩ := BoxN.st8 hz6)))
    all_goals (go_wp2_with fail; go_meet)
    · exact ⟨w6.heap.size, _, rfl, rfl, rfl, BoxN.new _ _ _, (hR6.to (w' := w6) (fun _ _ _ => rfl) (fun g _ ho => by rcases ho with h | h; exact .inl h; exact .inr (by simp at h; omega))).below ((Below.refl _ _).alloc (Nat.le_refl _) _), hb6.alloc hb6.size _⟩
    · exact ⟨W.heap.size, _, rfl, rfl, rfl, hz6.put8 _ _ _ _ _ _ _ _, hR6.to (fun g hg _ => put8_block (by have h2 := Hs.out; rcases hg with ⟨_, h⟩ | h; omega; (simp at h; omega)) _ _ _ _ _ _ _ _) (fun g _ ho => by rcases ho with h | h; exact .inl h; exact .inr (by simp at h; omega)), below_put8 hb6 (Nat.le_refl _) _ _ _ _ _ _ _ _⟩
  case rest =>
    obtain ⟨xc, vs, rfl, rfl, rfl, hC, hR6, hb6⟩ := hcut
    obtain ⟨wx, rfl⟩ := nameW hC
    clear CO hbA hbB hZn hKeep x0 x1 x2 x3 x4 x5 x6 x7 x8 x9 x10 hXl
    obtain ⟨s1, s2, s3, s4, s5, q1, e1, q2, e2, q3, e3, q4, e4, q5, e5, us, mu, cu, hv6⟩ := hR6.shape
    injection hv6 with hv6
    subst hv6
    have hX6 := HX.out.all hb6
    have hZ6 := HZ.out.all hb6
    have hB6 := HB.out.trans (hb6.mono HB.out.size)
    obtain ⟨⟨y0, y1, y2, y3, y4, y5, y6, y7⟩, -⟩ := BoxN.st8 hC
    obtain ⟨⟨x0, x1, x2, x3, x4, x5, x6, x7, x8, x9, x10⟩, f0, f1, f2, f3, f4, f5, f6, f7, f8, f9, f10⟩ := BoxN.st11 hX6
    have hwW2 : w.heap.size < W.heap.size := by have := Hs.out; omega
    have hws : W0.heap.size ≤ w.heap.size := hs0
    have HR8 := Lib.hid (hR6.to (ok' := fun g => (ok g ∧ g < W0.heap.size) ∨ W.heap.size ≤ g) (w' := ((((((((wx.setCell ⟨w.heap.size, 2, none⟩ (.slice s1 q1 e1)).setCell ⟨w.heap.size, 3, none⟩ (.slice s2 q2 e2)).setCell ⟨w.heap.size, 4, none⟩ (.slice s3 q3 e3)).setCell ⟨w.heap.size, 5, none⟩ (.slice s4 q4 e4)).setCell ⟨w.heap.size, 6, none⟩ (.slice s5 q5 e5)).setCell ⟨w.heap.size, 7, none⟩ (.string us)).setCell ⟨w.heap.size, 8, none⟩ (.int .i64 mu)).setCell ⟨w.heap.size, 9, none⟩ (.int .i64 cu))) (fun x hx _ => heap_put8k (V := wx) (g := w.heap.size) (b := x) (.slice s1 q1 e1) (.slice s2 q2 e2) (.slice s3 q3 e3) (.slice s4 q4 e4) (.slice s5 q5 e5) (.string us) (.int .i64 mu) (.int .i64 cu) (by have h9 : (ok x ∧ x < W0.heap.size) ∨ W.heap.size ≤ x := hx; rcases h9 with ⟨_, h9⟩ | h9 <;> omega)) (fun g _ ho => ho))
    have HX8 := Lib.hid (hX6.put8k (.slice s1 q1 e1) (.slice s2 q2 e2) (.slice s3 q3 e3) (.slice s4 q4 e4) (.slice s5 q5 e5) (.string us) (.int .i64 mu) (.int .i64 cu))
    have HZ8 := Lib.hid (show BoxN ((((((((wx.setCell ⟨w.heap.size, 2, none⟩ (.slice s1 q1 e1)).setCell ⟨w.heap.size, 3, none⟩ (.slice s2 q2 e2)).setCell ⟨w.heap.size, 4, none⟩ (.slice s3 q3 e3)).setCell ⟨w.heap.size, 5, none⟩ (.slice s4 q4 e4)).setCell ⟨w.heap.size, 6, none⟩ (.slice s5 q5 e5)).setCell ⟨w.heap.size, 7, none⟩ (.string us)).setCell ⟨w.heap.size, 8, none⟩ (.int .i64 mu)).setCell ⟨w.heap.size, 9, none⟩ (.int .i64 cu)) (w.heap.size + 1) 103 #[.slice none 0 0, .slice none 0 0, .slice none 0 0, .slice none 0 0, .slice none 0 0, .slice none 0 0, .slice none 0 0, .string ⟨#[]⟩, .int .i64 0, .int .i64 0, .bool false] from (heap_put8k (V := wx) (g := w.heap.size) (b := w.heap.size + 1) (.slice s1 q1 e1) (.slice s2 q2 e2) (.slice s3 q3 e3) (.slice s4 q4 e4) (.slice s5 q5 e5) (.string us) (.int .i64 mu) (.int .i64 cu) (by omega)).trans hZ6)
    have HB8 := Lib.hid (below_put8k hB6 hws (.slice s1 q1 e1) (.slice s2 q2 e2) (.slice s3 q3 e3) (.slice s4 q4 e4) (.slice s5 q5 e5) (.string us) (.int .i64 mu) (.int .i64 cu))
    clear hX6 hZ6 hB6 hR6 hC hb6
    go_wp2_with fail
    obtain ⟨w9, hw9⟩ : ∃ w9, ((((((((wx.setCell ⟨w.heap.size, 2, none⟩ (.slice s1 q1 e1)).setCell ⟨w.heap.size, 3, none⟩ (.slice s2 q2 e2)).setCell ⟨w.heap.size, 4, none⟩ (.slice s3 q3 e3)).setCell ⟨w.heap.size, 5, none⟩ (.slice s4 q4 e4)).setCell ⟨w.heap.size, 6, none⟩ (.slice s5 q5 e5)).setCell ⟨w.heap.size, 7, none⟩ (.string us)).setCell ⟨w.heap.size, 8, none⟩ (.int .i64 mu)).setCell ⟨w.heap.size, 9, none⟩ (.int .i64 cu)) = w9 := ⟨_, rfl⟩
    rw [hw9] at HR8 HX8 HZ8 HB8
    try rw [hw9]
    clear hw9 x0 x1 x2 x3 x4 x5 x6 x7 x8 x9 x10 f0 f1 f2 f3 f4 f5 f6 f7 f8 f9 f10 y0 y1 y2 y3 y4 y5 y6 y7
    obtain ⟨⟨x0, x1, x2, x3, x4, x5, x6, x7, x8, x9, x10⟩, -⟩ := BoxN.st11 HX8.out
    obtain ⟨⟨z0, z1, z2, z3, z4, z5, z6, z7, z8, z9, z10⟩, f0, f1, f2, f3, f4, f5, f6, f7, f8, f9, f10⟩ := BoxN.st11 HZ8.out
    have HC := Lib.hid (Digits_any w9.drew cnt (by omega))
    have hi := Lib.itoa_length_le (cnt : Int) (by omega) (by omega)
    have Hfin := Lib.hid (show (⟨#[102, 111, 117, 110, 100, 32]⟩ : ByteArray) ++ ⟨(Lib.itoa (cnt : Int)).toArray⟩ = ⟨(foundL ++ Lib.itoa (cnt : Int)).toArray⟩ from ba_app foundL _)
    generalize Lib.itoa (cnt : Int) = it at *
    have hlen : ¬ 9223372036854775807 < 6 + it.length := by omega
    have HSt := Lib.hid (fun (y0 y1 y2 y3 y4 y5 y6 y7 y8 y9 y10 : Value) => And.intro (cell_put11 (V := w9) (g := w.heap.size + 1) y0 y1 y2 y3 y4 y5 y6 y7 y8 y9 y10 (by show w.heap.size ≠ _; omega) x0) (And.intro (cell_put11 (V := w9) (g := w.heap.size + 1) y0 y1 y2 y3 y4 y5 y6 y7 y8 y9 y10 (by show w.heap.size ≠ _; omega) x1) (And.intro (cell_put11 (V := w9) (g := w.heap.size + 1) y0 y1 y2 y3 y4 y5 y6 y7 y8 y9 y10 (by show w.heap.size ≠ _; omega) x2) (And.intro (cell_put11 (V := w9) (g := w.heap.size + 1) y0 y1 y2 y3 y4 y5 y6 y7 y8 y9 y10 (by show w.heap.size ≠ _; omega) x3) (And.intro (cell_put11 (V := w9) (g := w.heap.size + 1) y0 y1 y2 y3 y4 y5 y6 y7 y8 y9 y10 (by show w.heap.size ≠ _; omega) x4) (And.intro (cell_put11 (V := w9) (g := w.heap.size + 1) y0 y1 y2 y3 y4 y5 y6 y7 y8 y9 y10 (by show w.heap.size ≠ _; omega) x5) (And.intro (cell_put11 (V := w9) (g := w.heap.size + 1) y0 y1 y2 y3 y4 y5 y6 y7 y8 y9 y10 (by show w.heap.size ≠ _; omega) x6) (And.intro (cell_put11 (V := w9) (g := w.heap.size + 1) y0 y1 y2 y3 y4 y5 y6 y7 y8 y9 y10 (by show w.heap.size ≠ _; omega) x7) (And.intro (cell_put11 (V := w9) (g := w.heap.size + 1) y0 y1 y2 y3 y4 y5 y6 y7 y8 y9 y10 (by show w.heap.size ≠ _; omega) x8) (And.intro (cell_put11 (V := w9) (g := w.heap.size + 1) y0 y1 y2 y3 y4 y5 y6 y7 y8 y9 y10 (by show w.heap.size ≠ _; omega) x9) (cell_put11 (V := w9) (g := w.heap.size + 1) y0 y1 y2 y3 y4 y5 y6 y7 y8 y9 y10 (by show w.heap.size ≠ _; omega) x10)))))))))))
    have HSd := Lib.hid (show w9.drew.cell? ⟨w.heap.size, 0, none⟩ = some (.slice a1 m c1) ∧ w9.drew.cell? ⟨w.heap.size, 1, none⟩ = some (.slice a2 n c2) ∧ w9.drew.cell? ⟨w.heap.size, 2, none⟩ = some (.slice s1 q1 e1) ∧ w9.drew.cell? ⟨w.heap.size, 3, none⟩ = some (.slice s2 q2 e2) ∧ w9.drew.cell? ⟨w.heap.size, 4, none⟩ = some (.slice s3 q3 e3) ∧ w9.drew.cell? ⟨w.heap.size, 5, none⟩ = some (.slice s4 q4 e4) ∧ w9.drew.cell? ⟨w.heap.size, 6, none⟩ = some (.slice s5 q5 e5) ∧ w9.drew.cell? ⟨w.heap.size, 7, none⟩ = some (.string us) ∧ w9.drew.cell? ⟨w.heap.size, 8, none⟩ = some (.int .i64 mu) ∧ w9.drew.cell? ⟨w.heap.size, 9, none⟩ = some (.int .i64 cu) ∧ w9.drew.cell? ⟨w.heap.size, 10, none⟩ = some (.bool true) from ⟨x0, x1, x2, x3, x4, x5, x6, x7, x8, x9, x10⟩)
    have Hbf := Lib.hid (fun y0 y1 y2 y3 y4 y5 y6 y7 y8 y9 y10 => drew_belowD (below_put11 HB8.out (g := w.heap.size + 1) (by omega) y0 y1 y2 y3 y4 y5 y6 y7 y8 y9 y10))
    have HRf := Lib.hid (fun y0 y1 y2 y3 y4 y5 y6 y7 y8 y9 y10 => HR8.out.to (ok' := ok) (w' := (((((((((((w9.setCell ⟨w.heap.size + 1, 0, none⟩ y0).setCell ⟨w.heap.size + 1, 1, none⟩ y1).setCell ⟨w.heap.size + 1, 2, none⟩ y2).setCell ⟨w.heap.size + 1, 3, none⟩ y3).setCell ⟨w.heap.size + 1, 4, none⟩ y4).setCell ⟨w.heap.size + 1, 5, none⟩ y5).setCell ⟨w.heap.size + 1, 6, none⟩ y6).setCell ⟨w.heap.size + 1, 7, none⟩ y7).setCell ⟨w.heap.size + 1, 8, none⟩ y8).setCell ⟨w.heap.size + 1, 9, none⟩ y9).setCell ⟨w.heap.size + 1, 10, none⟩ y10).drew) (fun x hx _ => (congrArg (fun (h : Array Obj) => h[x]?) (drew_heapD _)).trans (heap_put11 (V := w9) (g := w.heap.size + 1) (b := x) y0 y1 y2 y3 y4 y5 y6 y7 y8 y9 y10 (by have h8 := Hs.out; have h9 : (ok x ∧ x < W0.heap.size) ∨ W.heap.size ≤ x := hx; rcases h9 with ⟨_, h9⟩ | h9 <;> omega))) (fun g _ ho => by rcases ho with ⟨h, _⟩ | h; exact h; exact hok g (by omega)))
    go_region_held3 (fun V => V.cell? ⟨w.heap.size, 0, none⟩ = some (.slice a1 m c1) ∧ V.cell? ⟨w.heap.size, 1, none⟩ = some (.slice a2 n c2) ∧ V.cell? ⟨w.heap.size, 2, none⟩ = some (.slice s1 q1 e1) ∧ V.cell? ⟨w.heap.size, 3, none⟩ = some (.slice s2 q2 e2) ∧ V.cell? ⟨w.heap.size, 4, none⟩ = some (.slice s3 q3 e3) ∧ V.cell? ⟨w.heap.size, 5, none⟩ = some (.slice s4 q4 e4) ∧ V.cell? ⟨w.heap.size, 6, none⟩ = some (.slice s5 q5 e5) ∧ V.cell? ⟨w.heap.size, 7, none⟩ = some (.string us) ∧ V.cell? ⟨w.heap.size, 8, none⟩ = some (.int .i64 mu) ∧ V.cell? ⟨w.heap.size, 9, none⟩ = some (.int .i64 cu) ∧ V.cell? ⟨w.heap.size, 10, none⟩ = some (.bool true))
      ((first | with_reducible exact HSd.out | exact HSt.out _ _ _ _ _ _ _ _ _ _ _))
      ((first
        | (go_at_call 36; with_reducible refine HC.out.mono ?_; rintro e w' ⟨rfl, rfl⟩)
        | fail))
    go_wp2_with fail
    refine bodyPost_ret (results_row_tmpD rfl _ _ (w.heap.size + 1) 103 #[.slice a1 m c1, .slice a2 n c2, .slice s1 q1 e1, .slice s2 q2 e2, .slice s3 q3 e3, .slice s4 q4 e4, .slice s5 q5 e5, .string us, .int .i64 mu, .int .i64 cu, .bool true] (0, 0) _ rfl (drew_boxD (HZ8.out.put11 _ _ _ _ _ _ _ _ _ _ _)) Tryz.underlying103 rfl (by kernel_rfl)) rfl ?_
    rw [HDC.out]
    exact ⟨⟨_, by first | rfl | (rw [← Hfin.out]; rfl), ⟨a1, a2, c1, c2, s1, s2, s3, s4, s5, q1, e1, q2, e2, q3, e3, q4, e4, q5, e5, us, mu, cu, by rw [Hm.out, Hn.out]; rfl, IU.out.below (Hbf.out _ _ _ _ _ _ _ _ _ _ _), IF.out.below (Hbf.out _ _ _ _ _ _ _ _ _ _ _), fun T2 h2 => by injection h2 with h2; subst h2; exact HRf.out _ _ _ _ _ _ _ _ _ _ _⟩⟩, Hbf.out _ _ _ _ _ _ _ _ _ _ _⟩
set_option maxHeartbeats 16000000 in
theorem actCrash_near (hok : ∀ g, W0.heap.size ≤ g → ok g) (hD : DOk D) (hR : RDAt ok W0 (.agg #[.slice a1 m c1, .slice a2 n c2, .slice b1 k1 d1, .slice b2 k2 d2, .slice b3 k3 d3, .slice b4 k4 d4, .slice b5 k5 d5, .string ts, .int .i64 mn, .int .i64 ch, .bool true]) D) (hT : D.T = some T) (hbW : Below W0.heap.size W0 w) (s : ByteArray) {g o c k : Nat} (hx : w.cell? ⟨g, o, none⟩ = some (.int .i64 (k : Int))) (hk : k ≤ T.log.length) :
    Calls Tryz.prog 66 #[.agg #[.slice a1 m c1, .slice a2 n c2, .slice b1 k1 d1, .slice b2 k2 d2, .slice b3 k3 d3, .slice b4 k4 d4, .slice b5 k5 d5, .string ts, .int .i64 mn, .int .i64 ch, .bool true], .string s, .string ⟨#[99, 114, 97, 115, 104]⟩, .slice (some ⟨g, o, none⟩) 1 c] w fun e w' => RDPost ok W0 (dCrash D T k) e w' := by
  obtain ⟨⟨hm, hn, -⟩, iU, iF, hrt⟩ := hR.opened
  have hl := hD.tlen hT
  obtain ⟨⟨-, -, -, -, -, h6, -, -⟩, -, -, -⟩ := (hrt T hT).vals
  obtain ⟨T1, cnt, he, hrc, hfull, hcl⟩ := (hD.tr T hT).torn hD.m8 hD.n8 k
  have hlog : T.log.length ≤ 100000 := by have := hl.inv.log; have := hl.inv.many; omega
  have hsz : ts.size = T.log.length := by rw [h6, ba_size]
  have HDC := Lib.hid (show dCrash D T k = ({ D with T := some T1 }, foundL ++ Lib.itoa (cnt : Int)) by
    unfold dCrash
    rw [he]
    rfl)
  have hex : (ts.extract 0 k).data.toList = T.log.take k := by
    rw [Lib.extract_data, List.drop_zero, Nat.sub_zero, h6]
  have hesz : (ts.extract 0 k).size ≤ 2000000 := by
    rw [ba_size, hex]
    have := List.length_take_le k T.log
    have := List.length_take (i := k) (l := T.log)
    omega
  have dk : decide ((k : Int) > (ts.size : Int)) = false := by rw [hsz]; simp; omega
  have dk2 : decide (ts.size < k) = false := by rw [hsz]; simp; omega
  have hkn : ((k : Nat) : Int) ≤ (ts.size : Int) := by omega
  have hkn2 : k ≤ ts.size := by omega
  obtain ⟨W, hW⟩ : ∃ W, (w.alloc (.cells #[.slice a1 m c1, .slice a2 n c2, .slice b1 k1 d1, .slice b2 k2 d2, .slice b3 k3 d3, .slice b4 k4 d4, .slice b5 k5 d5, .string ts, .int .i64 mn, .int .i64 ch, .bool true] 103)).alloc (.cells #[.slice none 0 0, .slice none 0 0, .slice none 0 0, .slice none 0 0, .slice none 0 0, .slice none 0 0, .slice none 0 0, .string ⟨#[]⟩, .int .i64 0, .int .i64 0, .bool false] 103) = W := ⟨_, rfl⟩
  have hxb : BoxN W w.heap.size 103 #[.slice a1 m c1, .slice a2 n c2, .slice b1 k1 d1, .slice b2 k2 d2, .slice b3 k3 d3, .slice b4 k4 d4, .slice b5 k5 d5, .string ts, .int .i64 mn, .int .i64 ch, .bool true] := by rw [← hW]; exact (BoxN.new _ _ _).alloc _
  have hzb : BoxN W (w.heap.size + 1) 103 #[.slice none 0 0, .slice none 0 0, .slice none 0 0, .slice none 0 0, .slice none 0 0, .slice none 0 0, .slice none 0 0, .string ⟨#[]⟩, .int .i64 0, .int .i64 0, .bool false] := by rw [← hW]; exact BoxN.new' _ _ _ _ (by simp)
  have hbb : Below W0.heap.size W0 W := by rw [← hW]; exact act_boxes hbW _ _ _
  have hwW : Below w.heap.size w W := by rw [← hW]; exact ((Below.refl _ _).alloc (Nat.le_refl _) _).alloc (by simp) _
  have hx' := (hwW.cell (p := ⟨g, o, none⟩) (block_lt hx)).trans hx
  have hmU : D.U.length = m * 2 := by rw [hm]; exact hD.lU
  have hnF : D.F.length = n * 2 := by rw [hn]; exact hD.lF
  have hs0 : W0.heap.size ≤ w.heap.size := hbW.size
  have Hs := Lib.hid (show w.heap.size + 1 < W.heap.size from hzb.lt)
  have CO : Hid (∀ V, Below W.heap.size W V → Calls Tryz.prog 63 #[.slice a1 m c1, .slice a2 n c2, .string (ts.extract 0 k)] V fun e w' => (∃ v', e = .returned (.tuple #[v', .int .i64 (cnt : Int), .int .i64 0]) ∧ RT (fun g => (ok g ∧ g < W0.heap.size) ∨ V.heap.size ≤ g) w' v' D.U D.F T1) ∧ Below W.heap.size W w' ∧ Below V.heap.size V w') := Lib.hid (fun V hV => by
    refine (ROpen_in (ok0 := fun g => (ok g ∧ g < W0.heap.size) ∨ V.heap.size ≤ g) D.U D.F m n hmU hnF a1 a2 c1 c2 (ts.extract 0 k) hesz V ((iU.1.below hbb).below hV) ((iF.1.below hbb).below hV) (by rw [hm]; exact hD.labs.1) (by rw [hn]; exact hD.labs.2) (fun b off e hne => .inl ⟨iU.2 b off e hne, iU.1.has e hne⟩) (fun b off e hne => .inl ⟨iF.2 b off e hne, iF.1.has e hne⟩) (fun b hb => .inr hb)).mono ?_
    rintro e w' ⟨⟨v', h1, h2, -⟩, hb⟩
    rw [hex, hm, hn, he] at h1 h2
    exact ⟨⟨v', h1, h2 rfl⟩, hV.trans (hb.mono hV.size), hb⟩)
  obtain ⟨⟨x0, x1, x2, x3, x4, x5, x6, x7, x8, x9, x10⟩, -⟩ := BoxN.st11 hxb
  have HX := Lib.hid hxb
  have HZ := Lib.hid hzb
  have HB := Lib.hid hbb
  have Hm := Lib.hid hm
  have Hn := Lib.hid hn
  have IU := Lib.hid iU
  have IF := Lib.hid iF
  have hXl := hxb.lt
  have hcnt : cnt ≤ 100000 := by omega
  have hbA : Below W.heap.size W W.drew := (Below.refl _ _).drew
  have hbB : Below W.heap.size W ((W.alloc (.cells #[.slice none 0 0, .slice none 0 0, .slice none 0 0, .slice none 0 0, .slice none 0 0, .string ⟨#[]⟩, .int .i64 0, .int .i64 0] 101)).drew) := ((Below.refl _ _).alloc (Nat.le_refl _) _).drew
  have hZn : BoxN ((W.alloc (.cells #[.slice none 0 0, .slice none 0 0, .slice none 0 0, .slice none 0 0, .slice none 0 0, .string ⟨#[]⟩, .int .i64 0, .int .i64 0] 101)).drew) W.heap.size 101 #[.slice none 0 0, .slice none 0 0, .slice none 0 0, .slice none 0 0, .slice none 0 0, .string ⟨#[]⟩, .int .i64 0, .int .i64 0] := (BoxN.new W _ _).drew
  have hKeep := Lib.hid (fun V (hV : Below W.heap.size W V) => (⟨(hV.cell (p := ⟨w.heap.size, 0, none⟩) hXl).trans x0, (hV.cell (p := ⟨w.heap.size, 1, none⟩) hXl).trans x1, (hV.cell (p := ⟨w.heap.size, 7, none⟩) hXl).trans x7⟩ : V.cell? ⟨w.heap.size, 0, none⟩ = some (.slice a1 m c1) ∧ V.cell? ⟨w.heap.size, 1, none⟩ = some (.slice a2 n c2) ∧ V.cell? ⟨w.heap.size, 7, none⟩ = some (.string ts)))
  clear hxb hzb hbb hwW hbW hR hrt hm hn iU iF hl h6 he hrc hfull hcl hlog hsz hex hesz hmU hnF hT hx hk
  go_enter Tryz.func66, Tryz.ntmps66
  go_wp2_with fail
  try rw [hW]
  clear hW
  go_cut [13, 14, 15] from 18 (fun x13 x14 x15 wx => ∃ (xc : Nat) (vs : Array Value), x13 = .pointer (some ⟨xc, 0, none⟩) ∧ x14 = .int .i64 (cnt : Int) ∧ x15 = .int .i64 0 ∧ BoxN wx xc 101 vs ∧ RT (fun g => (ok g ∧ g < W0.heap.size) ∨ W.heap.size ≤ g) wx (.agg vs) D.U D.F T1 ∧ Below W.heap.size W wx)
  case first =>
    go_region_held3 (fun V => V.cell? ⟨w.heap.size, 0, none⟩ = some (.slice a1 m c1) ∧ V.cell? ⟨w.heap.size, 1, none⟩ = some (.slice a2 n c2) ∧ V.cell? ⟨w.heap.size, 7, none⟩ = some (.string ts))
      ((refine hKeep.out _ ?_; repeat (first | with_reducible assumption | with_reducible exact hbA | with_reducible exact hbB | with_reducible refine Below.setCell ?_ (by simp) _ | with_reducible refine Below.alloc ?_ (by first | exact Nat.le_refl _ | exact Below.size (by assumption)) _ | with_reducible refine Below.drew ?_)))
      ((go_at_call 63; with_reducible refine (CO.out _ (by first | with_reducible exact hbA | with_reducible exact hbB)).mono ?_; rintro e w6 ⟨⟨v', rfl, hR6⟩, hb6, hbv⟩; obtain ⟨s1, s2, s3, s4, s5, q1, e1, q2, e2, q3, e3, q4, e4, q5, e5, us, mu, cu, hv6⟩ := hR6.shape; subst hv6; try (have hz6 := BoxN.all hZn hbv; obtain ⟨⟨z0, z1, z2, z3, z4, z5, z6, z7⟩, fz0, fz1, fz2, fz3, fz4, fz5, fz6, fz7⟩ := BoxN.st8 hz6)))
    all_goals (go_wp2_with fail; go_meet)
    · exact ⟨w6.heap.size, _, rfl, rfl, rfl, BoxN.new _ _ _, (hR6.to (w' := w6) (fun _ _ _ => rfl) (fun g _ ho => by rcases ho with h | h; exact .inl h; exact .inr (by simp at h; omega))).below ((Below.refl _ _).alloc (Nat.le_refl _) _), hb6.alloc hb6.size _⟩
    · exact ⟨W.heap.size, _, rfl, rfl, rfl, hz6.put8 _ _ _ _ _ _ _ _, hR6.to (fun g hg _ => put8_block (by have h2 := Hs.out; rcases hg with ⟨_, h⟩ | h; omega; (simp at h; omega)) _ _ _ _ _ _ _ _) (fun g _ ho => by rcases ho with h | h; exact .inl h; exact .inr (by simp at h; omega)), below_put8 hb6 (Nat.le_refl _) _ _ _ _ _ _ _ _⟩
  case rest =>
    obtain ⟨xc, vs, rfl, rfl, rfl, hC, hR6, hb6⟩ := hcut
    obtain ⟨wx, rfl⟩ := nameW hC
    clear CO hbA hbB hZn hKeep x0 x1 x2 x3 x4 x5 x6 x7 x8 x9 x10 hXl
    obtain ⟨s1, s2, s3, s4, s5, q1, e1, q2, e2, q3, e3, q4, e4, q5, e5, us, mu, cu, hv6⟩ := hR6.shape
    injection hv6 with hv6
    subst hv6
    have hX6 := HX.out.all hb6
    have hZ6 := HZ.out.all hb6
    have hB6 := HB.out.trans (hb6.mono HB.out.size)
    obtain ⟨⟨y0, y1, y2, y3, y4, y5, y6, y7⟩, -⟩ := BoxN.st8 hC
    obtain ⟨⟨x0, x1, x2, x3, x4, x5, x6, x7, x8, x9, x10⟩, f0, f1, f2, f3, f4, f5, f6, f7, f8, f9, f10⟩ := BoxN.st11 hX6
    have hwW2 : w.heap.size < W.heap.size := by have := Hs.out; omega
    have hws : W0.heap.size ≤ w.heap.size := hs0
    have HR8 := Lib.hid (hR6.to (ok' := fun g => (ok g ∧ g < W0.heap.size) ∨ W.heap.size ≤ g) (w' := ((((((((wx.setCell ⟨w.heap.size, 2, none⟩ (.slice s1 q1 e1)).setCell ⟨w.heap.size, 3, none⟩ (.slice s2 q2 e2)).setCell ⟨w.heap.size, 4, none⟩ (.slice s3 q3 e3)).setCell ⟨w.heap.size, 5, none⟩ (.slice s4 q4 e4)).setCell ⟨w.heap.size, 6, none⟩ (.slice s5 q5 e5)).setCell ⟨w.heap.size, 7, none⟩ (.string us)).setCell ⟨w.heap.size, 8, none⟩ (.int .i64 mu)).setCell ⟨w.heap.size, 9, none⟩ (.int .i64 cu))) (fun x hx _ => heap_put8k (V := wx) (g := w.heap.size) (b := x) (.slice s1 q1 e1) (.slice s2 q2 e2) (.slice s3 q3 e3) (.slice s4 q4 e4) (.slice s5 q5 e5) (.string us) (.int .i64 mu) (.int .i64 cu) (by have h9 : (ok x ∧ x < W0.heap.size) ∨ W.heap.size ≤ x := hx; rcases h9 with ⟨_, h9⟩ | h9 <;> omega)) (fun g _ ho => ho))
    have HX8 := Lib.hid (hX6.put8k (.slice s1 q1 e1) (.slice s2 q2 e2) (.slice s3 q3 e3) (.slice s4 q4 e4) (.slice s5 q5 e5) (.string us) (.int .i64 mu) (.int .i64 cu))
    have HZ8 := Lib.hid (show BoxN ((((((((wx.setCell ⟨w.heap.size, 2, none⟩ (.slice s1 q1 e1)).setCell ⟨w.heap.size, 3, none⟩ (.slice s2 q2 e2)).setCell ⟨w.heap.size, 4, none⟩ (.slice s3 q3 e3)).setCell ⟨w.heap.size, 5, none⟩ (.slice s4 q4 e4)).setCell ⟨w.heap.size, 6, none⟩ (.slice s5 q5 e5)).setCell ⟨w.heap.size, 7, none⟩ (.string us)).setCell ⟨w.heap.size, 8, none⟩ (.int .i64 mu)).setCell ⟨w.heap.size, 9, none⟩ (.int .i64 cu)) (w.heap.size + 1) 103 #[.slice none 0 0, .slice none 0 0, .slice none 0 0, .slice none 0 0, .slice none 0 0, .slice none 0 0, .slice none 0 0, .string ⟨#[]⟩, .int .i64 0, .int .i64 0, .bool false] from (heap_put8k (V := wx) (g := w.heap.size) (b := w.heap.size + 1) (.slice s1 q1 e1) (.slice s2 q2 e2) (.slice s3 q3 e3) (.slice s4 q4 e4) (.slice s5 q5 e5) (.string us) (.int .i64 mu) (.int .i64 cu) (by omega)).trans hZ6)
    have HB8 := Lib.hid (below_put8k hB6 hws (.slice s1 q1 e1) (.slice s2 q2 e2) (.slice s3 q3 e3) (.slice s4 q4 e4) (.slice s5 q5 e5) (.string us) (.int .i64 mu) (.int .i64 cu))
    clear hX6 hZ6 hB6 hR6 hC hb6
    go_wp2_with fail
    obtain ⟨w9, hw9⟩ : ∃ w9, ((((((((wx.setCell ⟨w.heap.size, 2, none⟩ (.slice s1 q1 e1)).setCell ⟨w.heap.size, 3, none⟩ (.slice s2 q2 e2)).setCell ⟨w.heap.size, 4, none⟩ (.slice s3 q3 e3)).setCell ⟨w.heap.size, 5, none⟩ (.slice s4 q4 e4)).setCell ⟨w.heap.size, 6, none⟩ (.slice s5 q5 e5)).setCell ⟨w.heap.size, 7, none⟩ (.string us)).setCell ⟨w.heap.size, 8, none⟩ (.int .i64 mu)).setCell ⟨w.heap.size, 9, none⟩ (.int .i64 cu)) = w9 := ⟨_, rfl⟩
    rw [hw9] at HR8 HX8 HZ8 HB8
    try rw [hw9]
    clear hw9 x0 x1 x2 x3 x4 x5 x6 x7 x8 x9 x10 f0 f1 f2 f3 f4 f5 f6 f7 f8 f9 f10 y0 y1 y2 y3 y4 y5 y6 y7
    obtain ⟨⟨x0, x1, x2, x3, x4, x5, x6, x7, x8, x9, x10⟩, -⟩ := BoxN.st11 HX8.out
    obtain ⟨⟨z0, z1, z2, z3, z4, z5, z6, z7, z8, z9, z10⟩, f0, f1, f2, f3, f4, f5, f6, f7, f8, f9, f10⟩ := BoxN.st11 HZ8.out
    have HC := Lib.hid (Digits_any w9.drew cnt (by omega))
    have hi := Lib.itoa_length_le (cnt : Int) (by omega) (by omega)
    have Hfin := Lib.hid (show (⟨#[102, 111, 117, 110, 100, 32]⟩ : ByteArray) ++ ⟨(Lib.itoa (cnt : Int)).toArray⟩ = ⟨(foundL ++ Lib.itoa (cnt : Int)).toArray⟩ from ba_app foundL _)
    generalize Lib.itoa (cnt : Int) = it at *
    have hlen : ¬ 9223372036854775807 < 6 + it.length := by omega
    have HSt := Lib.hid (fun (y0 y1 y2 y3 y4 y5 y6 y7 y8 y9 y10 : Value) => And.intro (cell_put11 (V := w9) (g := w.heap.size + 1) y0 y1 y2 y3 y4 y5 y6 y7 y8 y9 y10 (by show w.heap.size ≠ _; omega) x0) (And.intro (cell_put11 (V := w9) (g := w.heap.size + 1) y0 y1 y2 y3 y4 y5 y6 y7 y8 y9 y10 (by show w.heap.size ≠ _; omega) x1) (And.intro (cell_put11 (V := w9) (g := w.heap.size + 1) y0 y1 y2 y3 y4 y5 y6 y7 y8 y9 y10 (by show w.heap.size ≠ _; omega) x2) (And.intro (cell_put11 (V := w9) (g := w.heap.size + 1) y0 y1 y2 y3 y4 y5 y6 y7 y8 y9 y10 (by show w.heap.size ≠ _; omega) x3) (And.intro (cell_put11 (V := w9) (g := w.heap.size + 1) y0 y1 y2 y3 y4 y5 y6 y7 y8 y9 y10 (by show w.heap.size ≠ _; omega) x4) (And.intro (cell_put11 (V := w9) (g := w.heap.size + 1) y0 y1 y2 y3 y4 y5 y6 y7 y8 y9 y10 (by show w.heap.size ≠ _; omega) x5) (And.intro (cell_put11 (V := w9) (g := w.heap.size + 1) y0 y1 y2 y3 y4 y5 y6 y7 y8 y9 y10 (by show w.heap.size ≠ _; omega) x6) (And.intro (cell_put11 (V := w9) (g := w.heap.size + 1) y0 y1 y2 y3 y4 y5 y6 y7 y8 y9 y10 (by show w.heap.size ≠ _; omega) x7) (And.intro (cell_put11 (V := w9) (g := w.heap.size + 1) y0 y1 y2 y3 y4 y5 y6 y7 y8 y9 y10 (by show w.heap.size ≠ _; omega) x8) (And.intro (cell_put11 (V := w9) (g := w.heap.size + 1) y0 y1 y2 y3 y4 y5 y6 y7 y8 y9 y10 (by show w.heap.size ≠ _; omega) x9) (cell_put11 (V := w9) (g := w.heap.size + 1) y0 y1 y2 y3 y4 y5 y6 y7 y8 y9 y10 (by show w.heap.size ≠ _; omega) x10)))))))))))
    have HSd := Lib.hid (show w9.drew.cell? ⟨w.heap.size, 0, none⟩ = some (.slice a1 m c1) ∧ w9.drew.cell? ⟨w.heap.size, 1, none⟩ = some (.slice a2 n c2) ∧ w9.drew.cell? ⟨w.heap.size, 2, none⟩ = some (.slice s1 q1 e1) ∧ w9.drew.cell? ⟨w.heap.size, 3, none⟩ = some (.slice s2 q2 e2) ∧ w9.drew.cell? ⟨w.heap.size, 4, none⟩ = some (.slice s3 q3 e3) ∧ w9.drew.cell? ⟨w.heap.size, 5, none⟩ = some (.slice s4 q4 e4) ∧ w9.drew.cell? ⟨w.heap.size, 6, none⟩ = some (.slice s5 q5 e5) ∧ w9.drew.cell? ⟨w.heap.size, 7, none⟩ = some (.string us) ∧ w9.drew.cell? ⟨w.heap.size, 8, none⟩ = some (.int .i64 mu) ∧ w9.drew.cell? ⟨w.heap.size, 9, none⟩ = some (.int .i64 cu) ∧ w9.drew.cell? ⟨w.heap.size, 10, none⟩ = some (.bool true) from ⟨x0, x1, x2, x3, x4, x5, x6, x7, x8, x9, x10⟩)
    have Hbf := Lib.hid (fun y0 y1 y2 y3 y4 y5 y6 y7 y8 y9 y10 => drew_belowD (below_put11 HB8.out (g := w.heap.size + 1) (by omega) y0 y1 y2 y3 y4 y5 y6 y7 y8 y9 y10))
    have HRf := Lib.hid (fun y0 y1 y2 y3 y4 y5 y6 y7 y8 y9 y10 => HR8.out.to (ok' := ok) (w' := (((((((((((w9.setCell ⟨w.heap.size + 1, 0, none⟩ y0).setCell ⟨w.heap.size + 1, 1, none⟩ y1).setCell ⟨w.heap.size + 1, 2, none⟩ y2).setCell ⟨w.heap.size + 1, 3, none⟩ y3).setCell ⟨w.heap.size + 1, 4, none⟩ y4).setCell ⟨w.heap.size + 1, 5, none⟩ y5).setCell ⟨w.heap.size + 1, 6, none⟩ y6).setCell ⟨w.heap.size + 1, 7, none⟩ y7).setCell ⟨w.heap.size + 1, 8, none⟩ y8).setCell ⟨w.heap.size + 1, 9, none⟩ y9).setCell ⟨w.heap.size + 1, 10, none⟩ y10).drew) (fun x hx _ => (congrArg (fun (h : Array Obj) => h[x]?) (drew_heapD _)).trans (heap_put11 (V := w9) (g := w.heap.size + 1) (b := x) y0 y1 y2 y3 y4 y5 y6 y7 y8 y9 y10 (by have h8 := Hs.out; have h9 : (ok x ∧ x < W0.heap.size) ∨ W.heap.size ≤ x := hx; rcases h9 with ⟨_, h9⟩ | h9 <;> omega))) (fun g _ ho => by rcases ho with ⟨h, _⟩ | h; exact h; exact hok g (by omega)))
    go_region_held3 (fun V => V.cell? ⟨w.heap.size, 0, none⟩ = some (.slice a1 m c1) ∧ V.cell? ⟨w.heap.size, 1, none⟩ = some (.slice a2 n c2) ∧ V.cell? ⟨w.heap.size, 2, none⟩ = some (.slice s1 q1 e1) ∧ V.cell? ⟨w.heap.size, 3, none⟩ = some (.slice s2 q2 e2) ∧ V.cell? ⟨w.heap.size, 4, none⟩ = some (.slice s3 q3 e3) ∧ V.cell? ⟨w.heap.size, 5, none⟩ = some (.slice s4 q4 e4) ∧ V.cell? ⟨w.heap.size, 6, none⟩ = some (.slice s5 q5 e5) ∧ V.cell? ⟨w.heap.size, 7, none⟩ = some (.string us) ∧ V.cell? ⟨w.heap.size, 8, none⟩ = some (.int .i64 mu) ∧ V.cell? ⟨w.heap.size, 9, none⟩ = some (.int .i64 cu) ∧ V.cell? ⟨w.heap.size, 10, none⟩ = some (.bool true))
      ((first | with_reducible exact HSd.out | exact HSt.out _ _ _ _ _ _ _ _ _ _ _))
      ((first
        | (go_at_call 36; with_reducible refine HC.out.mono ?_; rintro e w' ⟨rfl, rfl⟩)
        | fail))
    go_wp2_with fail
    refine bodyPost_ret (results_row_tmpD rfl _ _ (w.heap.size + 1) 103 #[.slice a1 m c1, .slice a2 n c2, .slice s1 q1 e1, .slice s2 q2 e2, .slice s3 q3 e3, .slice s4 q4 e4, .slice s5 q5 e5, .string us, .int .i64 mu, .int .i64 cu, .bool true] (0, 0) _ rfl (drew_boxD (HZ8.out.put11 _ _ _ _ _ _ _ _ _ _ _)) Tryz.underlying103 rfl (by kernel_rfl)) rfl ?_
    rw [HDC.out]
    exact ⟨⟨_, by first | rfl | (rw [← Hfin.out]; rfl), ⟨a1, a2, c1, c2, s1, s2, s3, s4, s5, q1, e1, q2, e2, q3, e3, q4, e4, q5, e5, us, mu, cu, by rw [Hm.out, Hn.out]; rfl, IU.out.below (Hbf.out _ _ _ _ _ _ _ _ _ _ _), IF.out.below (Hbf.out _ _ _ _ _ _ _ _ _ _ _), fun T2 h2 => by injection h2 with h2; subst h2; exact HRf.out _ _ _ _ _ _ _ _ _ _ _⟩⟩, Hbf.out _ _ _ _ _ _ _ _ _ _ _⟩
end
end Go.Proofs.YtanlmfnhlldkeaaGreatDoor
